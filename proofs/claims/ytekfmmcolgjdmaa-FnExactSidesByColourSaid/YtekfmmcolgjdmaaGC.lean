/- Typed forms of functions of the program, and their links. Printed by program. No claim is stated here. -/
import Derived.Test.YtekfmmcolgjdmaaGTab
set_option linter.unusedVariables false
namespace Go.Proofs.Ytekfmmcolgjdmaa.Cl
open Go
/-! ### loop.example/g01354/impl.SidesByColour -/
def impl_SidesByColour_M : Nat → List Nat := fun i => bif i == 2 then [4, 18, 19, 20, 24, 25] else bif i == 0 then [4, 18, 19, 20] else []
def impl_SidesByColour_ks6 (S : SatT) (K : AVal → H → Prop) : Kont := kSeq (cwp S tab impl_SidesByColour_M [] (sub [1, 1, 1, 1] (bodyOf Try.f23)) (kFun tab (Try.f23).results.toList K)) (kFun tab (Try.f23).results.toList K)
def impl_SidesByColour_e0 (s4_ : Sl) (s18_ : Sl) (i19_ : Int) (i20_ : Int) : Frame := [.undef, .undef, .undef, .undef, .sl s4_, .undef, .undef, .undef, .undef, .undef, .undef, .undef, .undef, .undef, .undef, .undef, .undef, .undef, .sl s18_, .int .i64 i19_, .int .i64 i20_, .undef, .undef, .undef, .undef, .undef, .undef, .undef, .undef, .undef, .undef, .undef, .undef, .undef, .undef, .undef, .undef]
def impl_SidesByColour_w0 (S : SatT) (K : AVal → H → Prop) : (Frame → H → Prop) → Frame → H → Prop := fun X fr h => cwp S tab impl_SidesByColour_M (impl_SidesByColour_M 0) (sub [1, 1, 1, 0, 1, 0, 0] (bodyOf Try.f23)) (kSeq (fun fr h => X (mask (impl_SidesByColour_M 0) fr) h) (kBlk 0 (impl_SidesByColour_ks6 S K))) fr h
def impl_SidesByColour_L0 (S : SatT) (K : AVal → H → Prop) (s4_ : Sl) (s18_ : Sl) (i19_ : Int) (i20_ : Int) (h : H) : Prop := loopK (impl_SidesByColour_w0 S K) (impl_SidesByColour_e0 s4_ s18_ i19_ i20_) h
def impl_SidesByColour_ks10 (S : SatT) (K : AVal → H → Prop) (X0 : Frame → H → Prop) : Kont := kSeq (cwp S tab impl_SidesByColour_M (impl_SidesByColour_M 0) (sub [1, 1, 1, 0, 1, 0, 0, 1, 1, 1] (bodyOf Try.f23)) (kSeq (fun fr h => X0 (mask (impl_SidesByColour_M 0) fr) h) (kBlk 0 (impl_SidesByColour_ks6 S K)))) (kSeq (fun fr h => X0 (mask (impl_SidesByColour_M 0) fr) h) (kBlk 0 (impl_SidesByColour_ks6 S K)))
def impl_SidesByColour_e2 (s4_ : Sl) (s18_ : Sl) (i19_ : Int) (i20_ : Int) (a24_ : List AVal) (i25_ : Int) : Frame := [.undef, .undef, .undef, .undef, .sl s4_, .undef, .undef, .undef, .undef, .undef, .undef, .undef, .undef, .undef, .undef, .undef, .undef, .undef, .sl s18_, .int .i64 i19_, .int .i64 i20_, .undef, .undef, .undef, .agg a24_, .int .i64 i25_, .undef, .undef, .undef, .undef, .undef, .undef, .undef, .undef, .undef, .undef, .undef]
def impl_SidesByColour_w2 (S : SatT) (K : AVal → H → Prop) (X0 : Frame → H → Prop) : (Frame → H → Prop) → Frame → H → Prop := fun X fr h => cwp S tab impl_SidesByColour_M (impl_SidesByColour_M 2) (sub [1, 1, 1, 0, 1, 0, 0, 1, 1, 0, 0, 1, 1, 0, 0] (bodyOf Try.f23)) (kSeq (fun fr h => X (mask (impl_SidesByColour_M 2) fr) h) (kBlk 2 (kBlk 1 (impl_SidesByColour_ks10 S K X0)))) fr h
def impl_SidesByColour_L2 (S : SatT) (K : AVal → H → Prop) (X0 : Frame → H → Prop) (s4_ : Sl) (s18_ : Sl) (i19_ : Int) (i20_ : Int) (a24_ : List AVal) (i25_ : Int) (h : H) : Prop := loopK (impl_SidesByColour_w2 S K X0) (impl_SidesByColour_e2 s4_ s18_ i19_ i20_ a24_ i25_) h
def impl_SidesByColour_C1 (S : SatT) (K : AVal → H → Prop) (X0 : Frame → H → Prop) (s4_ : Sl) (s18_ : Sl) (i19_ : Int) (i20_ : Int) (h : H) : Prop :=
 X0 (impl_SidesByColour_e0 s4_ s18_ i19_ (w64 (i20_ + (1)))) h
def impl_SidesByColour_C2 (S : SatT) (K : AVal → H → Prop) (X0 : Frame → H → Prop) (s4_ : Sl) (s18_ : Sl) (i19_ : Int) (i20_ : Int) (h : H) : Prop :=
 impl_SidesByColour_C1 S K X0 s4_ s18_ i19_ i20_ h
def impl_SidesByColour_b2 (S : SatT) (K : AVal → H → Prop) (X0 : Frame → H → Prop) (X2 : Frame → H → Prop) (s4_ : Sl) (s18_ : Sl) (i19_ : Int) (i20_ : Int) (a24_ : List AVal) (i25_ : Int) (h : H) : Prop :=
 bif (decide (i25_ < (4))) then
 lenA a24_ 4 (
 partI .i64 a24_ i25_ fun n0 =>
 ixS s4_ 1 n0 fun p1 =>
 ldI .i64 p1 h fun n2 =>
 ixS s4_ 1 n0 fun p3 =>
 st1 p3 (.int .i64 (w64 (n2 + (1)))) h fun h4 =>
 X2 (impl_SidesByColour_e2 s4_ s18_ i19_ i20_ a24_ (w64 (i25_ + (1)))) h4)
 else
 impl_SidesByColour_C2 S K X0 s4_ s18_ i19_ i20_ h
theorem impl_SidesByColour_link2 (S : SatT) (K : AVal → H → Prop) (X0 : Frame → H → Prop) (X2 : Frame → H → Prop) (s4_ : Sl) (s18_ : Sl) (i19_ : Int) (i20_ : Int) (a24_ : List AVal) (i25_ : Int) (h : H) : impl_SidesByColour_w2 S K X0 X2 (impl_SidesByColour_e2 s4_ s18_ i19_ i20_ a24_ i25_) h = impl_SidesByColour_b2 S K X0 X2 s4_ s18_ i19_ i20_ a24_ i25_ h := by kernel_rfl
theorem impl_SidesByColour_rule2 (S : SatT) (K : AVal → H → Prop) (X0 : Frame → H → Prop) (s4_ : Sl) (s18_ : Sl) (i19_ : Int) (i20_ : Int) (a24_ : List AVal) (I_ : Int → H → Prop) (m_ : Int → H → Nat)
    (hs : ∀ (X2 : Frame → H → Prop) (i25_ : Int) (h : H), I_ i25_ h → (∀ (i25_' : Int) (h' : H), I_ i25_' h' → m_ i25_' h' < m_ i25_ h → X2 (impl_SidesByColour_e2 s4_ s18_ i19_ i20_ a24_ i25_') h') → impl_SidesByColour_b2 S K X0 X2 s4_ s18_ i19_ i20_ a24_ i25_ h) (i25_ : Int) {h : H} (h0 : I_ i25_ h) : impl_SidesByColour_L2 S K X0 s4_ s18_ i19_ i20_ a24_ i25_ h :=
  loop_rule (σ := (Int)) (fun s_ => impl_SidesByColour_e2 s4_ s18_ i19_ i20_ a24_ (s_)) (fun s_ h => I_ (s_) h) (fun s_ h => m_ (s_) h)
    (fun X s_ h hi hx => (impl_SidesByColour_link2 S K X0 X s4_ s18_ i19_ i20_ a24_ (s_) h).mpr (hs X (s_) h hi fun i25_' h' hi' hm' => hx (i25_') h' hi' hm')) (i25_) h0
theorem impl_SidesByColour_unroll2 (S : SatT) (K : AVal → H → Prop) (X0 : Frame → H → Prop) (s4_ : Sl) (s18_ : Sl) (i19_ : Int) (i20_ : Int) (a24_ : List AVal) (i25_ : Int) (h : H) (hb : impl_SidesByColour_b2 S K X0 (fun fr h => loopK (impl_SidesByColour_w2 S K X0) fr h) s4_ s18_ i19_ i20_ a24_ i25_ h) : impl_SidesByColour_L2 S K X0 s4_ s18_ i19_ i20_ a24_ i25_ h := loop_unroll ((impl_SidesByColour_link2 S K X0 _ s4_ s18_ i19_ i20_ a24_ i25_ h).mpr hb)
def impl_SidesByColour_C0 (S : SatT) (K : AVal → H → Prop) (s4_ : Sl) (h : H) : Prop :=
 K (.tuple [.sl s4_, .int .i64 (0)]) h
def impl_SidesByColour_b0 (S : SatT) (K : AVal → H → Prop) (X0 : Frame → H → Prop) (s4_ : Sl) (s18_ : Sl) (i19_ : Int) (i20_ : Int) (h : H) : Prop :=
 bif (decide (i20_ < i19_)) then
 ixS s18_ 4 i20_ fun p0 =>
 ldA p0 4 h fun cs1 =>
 newO [.int .i64 (0), .int .i64 (0), .int .i64 (0), .int .i64 (0)] h fun p2 h3 =>
 stN p2 4 cs1 h3 fun h4 =>
 ldA p2 4 h4 fun cs5 =>
 impl_SidesByColour_L2 S K X0 s4_ s18_ i19_ i20_ cs5 (0) h4
 else
 impl_SidesByColour_C0 S K s4_ h
theorem impl_SidesByColour_link0 (S : SatT) (K : AVal → H → Prop) (X0 : Frame → H → Prop) (s4_ : Sl) (s18_ : Sl) (i19_ : Int) (i20_ : Int) (h : H) : impl_SidesByColour_w0 S K X0 (impl_SidesByColour_e0 s4_ s18_ i19_ i20_) h = impl_SidesByColour_b0 S K X0 s4_ s18_ i19_ i20_ h := by kernel_rfl
theorem impl_SidesByColour_rule0 (S : SatT) (K : AVal → H → Prop) (s4_ : Sl) (s18_ : Sl) (i19_ : Int) (I_ : Int → H → Prop) (m_ : Int → H → Nat)
    (hs : ∀ (X0 : Frame → H → Prop) (i20_ : Int) (h : H), I_ i20_ h → (∀ (i20_' : Int) (h' : H), I_ i20_' h' → m_ i20_' h' < m_ i20_ h → X0 (impl_SidesByColour_e0 s4_ s18_ i19_ i20_') h') → impl_SidesByColour_b0 S K X0 s4_ s18_ i19_ i20_ h) (i20_ : Int) {h : H} (h0 : I_ i20_ h) : impl_SidesByColour_L0 S K s4_ s18_ i19_ i20_ h :=
  loop_rule (σ := (Int)) (fun s_ => impl_SidesByColour_e0 s4_ s18_ i19_ (s_)) (fun s_ h => I_ (s_) h) (fun s_ h => m_ (s_) h)
    (fun X s_ h hi hx => (impl_SidesByColour_link0 S K X s4_ s18_ i19_ (s_) h).mpr (hs X (s_) h hi fun i20_' h' hi' hm' => hx (i20_') h' hi' hm')) (i20_) h0
theorem impl_SidesByColour_unroll0 (S : SatT) (K : AVal → H → Prop) (s4_ : Sl) (s18_ : Sl) (i19_ : Int) (i20_ : Int) (h : H) (hb : impl_SidesByColour_b0 S K (fun fr h => loopK (impl_SidesByColour_w0 S K) fr h) s4_ s18_ i19_ i20_ h) : impl_SidesByColour_L0 S K s4_ s18_ i19_ i20_ h := loop_unroll ((impl_SidesByColour_link0 S K _ s4_ s18_ i19_ i20_ h).mpr hb)
def impl_SidesByColour_main (S : SatT) (K : AVal → H → Prop) (x0 : Sl) (h : H) : Prop :=
 bif (decide ((x0.len : Int) > (70))) then
 K (.tuple [.sl Sl.nil, .int .i64 (2)]) h
 else
 callB S i_impl_areTiles [.sl x0] h fun b1 h0 =>
 bif (!b1) then
 K (.tuple [.sl Sl.nil, .int .i64 (2)]) h0
 else
 mkS (6) [.int .i64 (0)] h0 fun s2 h3 =>
 impl_SidesByColour_L0 S K s2 x0 (x0.len : Int) (0) h3
theorem impl_SidesByColour_main_link (S : SatT) (K : AVal → H → Prop) (x0 : Sl) (h : H) : cwp S tab impl_SidesByColour_M [] (bodyOf Try.f23) (kFun tab Try.f23.results.toList K) (fr0 Try.f23 [.sl x0]) h = impl_SidesByColour_main S K x0 h := by kernel_rfl
theorem impl_SidesByColour_call (x0 : Sl) (h : H) (K : AVal → H → Prop) (hm : impl_SidesByColour_main (Sat Try.prog) (fun v h' => K v h') x0 h) : callV (Sat Try.prog) i_impl_SidesByColour [.sl x0] h K := by
  have := Sat.ex tok mixed impl_SidesByColour_M Try.func23 (c := bodyOf Try.f23) (by kernel_rfl) (calls_of Try.func23 (c := bodyOf Try.f23) (by kernel_rfl) (by decide)) ((impl_SidesByColour_main_link _ _ x0 h).mpr hm)
  exact this

/-! ### loop.example/g01354/spec.SidesByColour -/
def spec_SidesByColour_M : Nat → List Nat := fun i => bif i == 2 then [0, 4, 5, 6] else bif i == 0 then [0, 4, 5] else []
def spec_SidesByColour_ks6 (S : SatT) (K : AVal → H → Prop) : Kont := kSeq (cwp S tab spec_SidesByColour_M [] (sub [1, 1, 1, 1] (bodyOf Try.f21)) (kFun tab (Try.f21).results.toList K)) (kFun tab (Try.f21).results.toList K)
def spec_SidesByColour_e0 (s0_ : Sl) (s4_ : Sl) (i5_ : Int) : Frame := [.sl s0_, .undef, .undef, .undef, .sl s4_, .int .i64 i5_, .undef, .undef, .undef, .undef, .undef, .undef, .undef, .undef, .undef, .undef, .undef, .undef, .undef, .undef, .undef, .undef, .undef, .undef, .undef, .undef, .undef, .undef, .undef, .undef, .undef, .undef, .undef, .undef, .undef, .undef, .undef, .undef]
def spec_SidesByColour_w0 (S : SatT) (K : AVal → H → Prop) : (Frame → H → Prop) → Frame → H → Prop := fun X fr h => cwp S tab spec_SidesByColour_M (spec_SidesByColour_M 0) (sub [1, 1, 1, 0, 1, 0, 0] (bodyOf Try.f21)) (kSeq (fun fr h => X (mask (spec_SidesByColour_M 0) fr) h) (kBlk 0 (spec_SidesByColour_ks6 S K))) fr h
def spec_SidesByColour_L0 (S : SatT) (K : AVal → H → Prop) (s0_ : Sl) (s4_ : Sl) (i5_ : Int) (h : H) : Prop := loopK (spec_SidesByColour_w0 S K) (spec_SidesByColour_e0 s0_ s4_ i5_) h
def spec_SidesByColour_ks10 (S : SatT) (K : AVal → H → Prop) (X0 : Frame → H → Prop) : Kont := kSeq (cwp S tab spec_SidesByColour_M (spec_SidesByColour_M 0) (sub [1, 1, 1, 0, 1, 0, 0, 1, 1] (bodyOf Try.f21)) (kSeq (fun fr h => X0 (mask (spec_SidesByColour_M 0) fr) h) (kBlk 0 (spec_SidesByColour_ks6 S K)))) (kSeq (fun fr h => X0 (mask (spec_SidesByColour_M 0) fr) h) (kBlk 0 (spec_SidesByColour_ks6 S K)))
def spec_SidesByColour_e2 (s0_ : Sl) (s4_ : Sl) (i5_ : Int) (i6_ : Int) : Frame := [.sl s0_, .undef, .undef, .undef, .sl s4_, .int .i64 i5_, .int .i64 i6_, .undef, .undef, .undef, .undef, .undef, .undef, .undef, .undef, .undef, .undef, .undef, .undef, .undef, .undef, .undef, .undef, .undef, .undef, .undef, .undef, .undef, .undef, .undef, .undef, .undef, .undef, .undef, .undef, .undef, .undef, .undef]
def spec_SidesByColour_w2 (S : SatT) (K : AVal → H → Prop) (X0 : Frame → H → Prop) : (Frame → H → Prop) → Frame → H → Prop := fun X fr h => cwp S tab spec_SidesByColour_M (spec_SidesByColour_M 2) (sub [1, 1, 1, 0, 1, 0, 0, 1, 0, 0, 1, 0, 0] (bodyOf Try.f21)) (kSeq (fun fr h => X (mask (spec_SidesByColour_M 2) fr) h) (kBlk 2 (kBlk 1 (spec_SidesByColour_ks10 S K X0)))) fr h
def spec_SidesByColour_L2 (S : SatT) (K : AVal → H → Prop) (X0 : Frame → H → Prop) (s0_ : Sl) (s4_ : Sl) (i5_ : Int) (i6_ : Int) (h : H) : Prop := loopK (spec_SidesByColour_w2 S K X0) (spec_SidesByColour_e2 s0_ s4_ i5_ i6_) h
def spec_SidesByColour_C1 (S : SatT) (K : AVal → H → Prop) (X0 : Frame → H → Prop) (s0_ : Sl) (s4_ : Sl) (i5_ : Int) (h : H) : Prop :=
 X0 (spec_SidesByColour_e0 s0_ s4_ (w64 (i5_ + (1)))) h
def spec_SidesByColour_C2 (S : SatT) (K : AVal → H → Prop) (X0 : Frame → H → Prop) (s0_ : Sl) (s4_ : Sl) (i5_ : Int) (h : H) : Prop :=
 spec_SidesByColour_C1 S K X0 s0_ s4_ i5_ h
def spec_SidesByColour_b2 (S : SatT) (K : AVal → H → Prop) (X0 : Frame → H → Prop) (X2 : Frame → H → Prop) (s0_ : Sl) (s4_ : Sl) (i5_ : Int) (i6_ : Int) (h : H) : Prop :=
 bif (decide (i6_ < (4))) then
 ixS s0_ 4 i5_ fun p0 =>
 ixA p0 4 1 i6_ fun p1 =>
 ldI .i64 p1 h fun n2 =>
 ixS s4_ 1 n2 fun p3 =>
 ldI .i64 p3 h fun n4 =>
 ixS s4_ 1 n2 fun p5 =>
 st1 p5 (.int .i64 (w64 (n4 + (1)))) h fun h6 =>
 X2 (spec_SidesByColour_e2 s0_ s4_ i5_ (w64 (i6_ + (1)))) h6
 else
 spec_SidesByColour_C2 S K X0 s0_ s4_ i5_ h
theorem spec_SidesByColour_link2 (S : SatT) (K : AVal → H → Prop) (X0 : Frame → H → Prop) (X2 : Frame → H → Prop) (s0_ : Sl) (s4_ : Sl) (i5_ : Int) (i6_ : Int) (h : H) : spec_SidesByColour_w2 S K X0 X2 (spec_SidesByColour_e2 s0_ s4_ i5_ i6_) h = spec_SidesByColour_b2 S K X0 X2 s0_ s4_ i5_ i6_ h := by kernel_rfl
theorem spec_SidesByColour_rule2 (S : SatT) (K : AVal → H → Prop) (X0 : Frame → H → Prop) (s0_ : Sl) (s4_ : Sl) (i5_ : Int) (I_ : Int → H → Prop) (m_ : Int → H → Nat)
    (hs : ∀ (X2 : Frame → H → Prop) (i6_ : Int) (h : H), I_ i6_ h → (∀ (i6_' : Int) (h' : H), I_ i6_' h' → m_ i6_' h' < m_ i6_ h → X2 (spec_SidesByColour_e2 s0_ s4_ i5_ i6_') h') → spec_SidesByColour_b2 S K X0 X2 s0_ s4_ i5_ i6_ h) (i6_ : Int) {h : H} (h0 : I_ i6_ h) : spec_SidesByColour_L2 S K X0 s0_ s4_ i5_ i6_ h :=
  loop_rule (σ := (Int)) (fun s_ => spec_SidesByColour_e2 s0_ s4_ i5_ (s_)) (fun s_ h => I_ (s_) h) (fun s_ h => m_ (s_) h)
    (fun X s_ h hi hx => (spec_SidesByColour_link2 S K X0 X s0_ s4_ i5_ (s_) h).mpr (hs X (s_) h hi fun i6_' h' hi' hm' => hx (i6_') h' hi' hm')) (i6_) h0
theorem spec_SidesByColour_unroll2 (S : SatT) (K : AVal → H → Prop) (X0 : Frame → H → Prop) (s0_ : Sl) (s4_ : Sl) (i5_ : Int) (i6_ : Int) (h : H) (hb : spec_SidesByColour_b2 S K X0 (fun fr h => loopK (spec_SidesByColour_w2 S K X0) fr h) s0_ s4_ i5_ i6_ h) : spec_SidesByColour_L2 S K X0 s0_ s4_ i5_ i6_ h := loop_unroll ((spec_SidesByColour_link2 S K X0 _ s0_ s4_ i5_ i6_ h).mpr hb)
def spec_SidesByColour_C0 (S : SatT) (K : AVal → H → Prop) (s4_ : Sl) (h : H) : Prop :=
 K (.tuple [.sl s4_, .int .i64 (0)]) h
def spec_SidesByColour_b0 (S : SatT) (K : AVal → H → Prop) (X0 : Frame → H → Prop) (s0_ : Sl) (s4_ : Sl) (i5_ : Int) (h : H) : Prop :=
 bif (decide (i5_ < (s0_.len : Int))) then
 spec_SidesByColour_L2 S K X0 s0_ s4_ i5_ (0) h
 else
 spec_SidesByColour_C0 S K s4_ h
theorem spec_SidesByColour_link0 (S : SatT) (K : AVal → H → Prop) (X0 : Frame → H → Prop) (s0_ : Sl) (s4_ : Sl) (i5_ : Int) (h : H) : spec_SidesByColour_w0 S K X0 (spec_SidesByColour_e0 s0_ s4_ i5_) h = spec_SidesByColour_b0 S K X0 s0_ s4_ i5_ h := by kernel_rfl
theorem spec_SidesByColour_rule0 (S : SatT) (K : AVal → H → Prop) (s0_ : Sl) (s4_ : Sl) (I_ : Int → H → Prop) (m_ : Int → H → Nat)
    (hs : ∀ (X0 : Frame → H → Prop) (i5_ : Int) (h : H), I_ i5_ h → (∀ (i5_' : Int) (h' : H), I_ i5_' h' → m_ i5_' h' < m_ i5_ h → X0 (spec_SidesByColour_e0 s0_ s4_ i5_') h') → spec_SidesByColour_b0 S K X0 s0_ s4_ i5_ h) (i5_ : Int) {h : H} (h0 : I_ i5_ h) : spec_SidesByColour_L0 S K s0_ s4_ i5_ h :=
  loop_rule (σ := (Int)) (fun s_ => spec_SidesByColour_e0 s0_ s4_ (s_)) (fun s_ h => I_ (s_) h) (fun s_ h => m_ (s_) h)
    (fun X s_ h hi hx => (spec_SidesByColour_link0 S K X s0_ s4_ (s_) h).mpr (hs X (s_) h hi fun i5_' h' hi' hm' => hx (i5_') h' hi' hm')) (i5_) h0
theorem spec_SidesByColour_unroll0 (S : SatT) (K : AVal → H → Prop) (s0_ : Sl) (s4_ : Sl) (i5_ : Int) (h : H) (hb : spec_SidesByColour_b0 S K (fun fr h => loopK (spec_SidesByColour_w0 S K) fr h) s0_ s4_ i5_ h) : spec_SidesByColour_L0 S K s0_ s4_ i5_ h := loop_unroll ((spec_SidesByColour_link0 S K _ s0_ s4_ i5_ h).mpr hb)
def spec_SidesByColour_main (S : SatT) (K : AVal → H → Prop) (x0 : Sl) (h : H) : Prop :=
 bif (decide ((x0.len : Int) > (70))) then
 K (.tuple [.sl Sl.nil, .int .i64 (2)]) h
 else
 callI S .i64 i_spec_l07Tiles [.sl x0] h fun n1 h0 =>
 bif (n1 != (0)) then
 K (.tuple [.sl Sl.nil, .int .i64 (2)]) h0
 else
 mkS (6) [.int .i64 (0)] h0 fun s2 h3 =>
 spec_SidesByColour_L0 S K x0 s2 (0) h3
theorem spec_SidesByColour_main_link (S : SatT) (K : AVal → H → Prop) (x0 : Sl) (h : H) : cwp S tab spec_SidesByColour_M [] (bodyOf Try.f21) (kFun tab Try.f21.results.toList K) (fr0 Try.f21 [.sl x0]) h = spec_SidesByColour_main S K x0 h := by kernel_rfl
theorem spec_SidesByColour_call (x0 : Sl) (h : H) (K : AVal → H → Prop) (hm : spec_SidesByColour_main (Sat Try.prog) (fun v h' => K v h') x0 h) : callV (Sat Try.prog) i_spec_SidesByColour [.sl x0] h K := by
  have := Sat.ex tok mixed spec_SidesByColour_M Try.func21 (c := bodyOf Try.f21) (by kernel_rfl) (calls_of Try.func21 (c := bodyOf Try.f21) (by kernel_rfl) (by decide)) ((spec_SidesByColour_main_link _ _ x0 h).mpr hm)
  exact this

/-! ### loop.example/g01354/laws.FnExactSidesByColour -/
def laws_FnExactSidesByColour_M : Nat → List Nat := fun i => []
def laws_FnExactSidesByColour_main (S : SatT) (K : AVal → H → Prop) (x0 : Sl) (h : H) : Prop :=
 callI S .i64 i_laws_szTileS [.sl x0, .int .i64 (1048576)] h fun n1 h0 =>
 bif (decide (n1 < (0))) then
 K (.bool true) h0
 else
 callS S i_laws_toTileS [.sl x0] h0 fun s3 h2 =>
 callV S i_spec_SidesByColour [.sl s3] h2 fun v5 h4 =>
 viaT v5 fun vs6 =>
 exS vs6 0 fun s7 =>
 viaT v5 fun vs8 =>
 exI .i64 vs8 1 fun n9 =>
 callS S i_laws_toTileS [.sl x0] h4 fun s11 h10 =>
 callV S i_impl_SidesByColour [.sl s11] h10 fun v13 h12 =>
 viaT v13 fun vs14 =>
 exS vs14 0 fun s15 =>
 viaT v13 fun vs16 =>
 exI .i64 vs16 1 fun n17 =>
 callB S i_laws_eqInt64S [.sl s15, .sl s7] h12 fun b19 h18 =>
 bif (!b19) then
 K (.bool false) h18
 else
 bif (n17 != n9) then
 K (.bool false) h18
 else
 callS S i_laws_toTileS [.sl x0] h18 fun s21 h20 =>
 callB S i_laws_eqTileS [.sl s11, .sl s21] h20 fun b23 h22 =>
 bif (!b23) then
 K (.bool false) h22
 else
 callI S .i64 i_laws_markTileS [.sl s11, .int .i64 (1)] h22 fun n25 h24 =>
 bif (decide (n25 < (0))) then
 K (.bool false) h24
 else
 callB S i_laws_eqInt64S [.sl s15, .sl s7] h24 fun b27 h26 =>
 bif (!b27) then
 K (.bool false) h26
 else
 bif (n17 != n9) then
 K (.bool false) h26
 else
 callI S .i64 i_laws_markInt64S [.sl s15, .int .i64 (1)] h26 fun n29 h28 =>
 callI S .i64 i_laws_heldInt64S [.sl s15, .int .i64 (1)] h28 fun n31 h30 =>
 bif (decide (n31 < (0))) then
 K (.bool false) h30
 else
 bif (n31 != n29) then
 K (.bool false) h30
 else
 callS S i_laws_toTileS [.sl x0] h30 fun s33 h32 =>
 callV S i_impl_SidesByColour [.sl s33] h32 fun v35 h34 =>
 viaT v35 fun vs36 =>
 exS vs36 0 fun s37 =>
 viaT v35 fun vs38 =>
 exI .i64 vs38 1 fun n39 =>
 callB S i_laws_eqInt64S [.sl s37, .sl s7] h34 fun b41 h40 =>
 bif (!b41) then
 K (.bool false) h40
 else
 bif (n39 != n9) then
 K (.bool false) h40
 else
 callI S .i64 i_laws_heldInt64S [.sl s15, .int .i64 (1)] h40 fun n43 h42 =>
 bif (decide (n43 < (0))) then
 K (.bool false) h42
 else
 bif (n43 != n29) then
 K (.bool false) h42
 else
 K (.bool true) h42
theorem laws_FnExactSidesByColour_main_link (S : SatT) (K : AVal → H → Prop) (x0 : Sl) (h : H) : cwp S tab laws_FnExactSidesByColour_M [] (bodyOf Try.f5) (kFun tab Try.f5.results.toList K) (fr0 Try.f5 [.sl x0]) h = laws_FnExactSidesByColour_main S K x0 h := by kernel_rfl
theorem laws_FnExactSidesByColour_call (x0 : Sl) (h : H) (K : Bool → H → Prop) (hm : laws_FnExactSidesByColour_main (Sat Try.prog) (fun v h' => ∃ r, v = .bool r ∧ K r h') x0 h) : callB (Sat Try.prog) i_laws_FnExactSidesByColour [.sl x0] h K := by
  have := Sat.ex tok mixed laws_FnExactSidesByColour_M Try.func5 (c := bodyOf Try.f5) (by kernel_rfl) (calls_of Try.func5 (c := bodyOf Try.f5) (by kernel_rfl) (by decide)) ((laws_FnExactSidesByColour_main_link _ _ x0 h).mpr hm)
  obtain ⟨v, h2, h3, r, rfl, h4⟩ := this; exact ⟨r, h2, h3, h4⟩

end Go.Proofs.Ytekfmmcolgjdmaa.Cl
