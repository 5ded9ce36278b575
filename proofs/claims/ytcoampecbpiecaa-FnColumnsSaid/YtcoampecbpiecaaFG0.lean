/- Typed forms of functions, and their links. No claim is stated here. -/
import Derived.Test.YtcoampecbpiecaaFT
/- Typed forms of functions of the program, and their links. Printed by program. No claim is stated here. -/
set_option linter.unusedVariables false
namespace Go.Proofs.Ytcoampecbpiecaa.Cl
open Go
/-! ### (*loop.example/g01354/impl.strip).sequence -/
def impl_strip_sequence_M : Nat → List Nat := fun i => bif i == 4 then [0, 1, 2, 7, 8, 51, 52, 53] else bif i == 2 then [0, 1, 2, 6, 7, 8, 27, 28, 29] else bif i == 0 then [0, 1, 2, 6] else []
def impl_strip_sequence_e0 (p0_ : Pt) (f1_ : AVal) (f2_ : AVal) (s6_ : Sl) : Frame := [.ptr p0_, f1_, f2_, U, U, U, .sl s6_, U, U, U, U, U, U, U, U, U, U, U, U, U, U, U, U, U, U, U, U, U, U, U, U, U, U, U, U, U, U, U, U, U, U, U, U, U, U, U, U, U, U, U, U, U, U, U, U, U, U, U, U, U, U, U, U, U, U, U, U, U]
def impl_strip_sequence_w0 (S : SatT) (K : AVal → H → Prop) : (Frame → H → Prop) → Frame → H → Prop := fun X fr h => cwp S tab impl_strip_sequence_M (impl_strip_sequence_M 0) (sub [1, 0, 0] (bodyOf Try.f40)) (kSeq (fun fr h => X (mask (impl_strip_sequence_M 0) fr) h) (kBlk 0 (kFun tab (Try.f40).results.toList K))) fr h
def impl_strip_sequence_L0 (S : SatT) (K : AVal → H → Prop) (p0_ : Pt) (f1_ : AVal) (f2_ : AVal) (s6_ : Sl) (h : H) : Prop := loopK (impl_strip_sequence_w0 S K) (impl_strip_sequence_e0 p0_ f1_ f2_ s6_) h
def impl_strip_sequence_ks2 (S : SatT) (K : AVal → H → Prop) (X0 : Frame → H → Prop) : Kont := kSeq (cwp S tab impl_strip_sequence_M (impl_strip_sequence_M 1) (sub [1, 0, 0, 0, 1, 1] (bodyOf Try.f40)) (kBlk 1 (kSeq (fun fr h => X0 (mask (impl_strip_sequence_M 0) fr) h) (kBlk 0 (kFun tab (Try.f40).results.toList K))))) (kBlk 1 (kSeq (fun fr h => X0 (mask (impl_strip_sequence_M 0) fr) h) (kBlk 0 (kFun tab (Try.f40).results.toList K))))
def impl_strip_sequence_e2 (p0_ : Pt) (f1_ : AVal) (f2_ : AVal) (s6_ : Sl) (s7_ : Sl) (i8_ : Int) (s27_ : Sl) (i28_ : Int) (i29_ : Int) : Frame := [.ptr p0_, f1_, f2_, U, U, U, .sl s6_, .sl s7_, .int .i64 i8_, U, U, U, U, U, U, U, U, U, U, U, U, U, U, U, U, U, U, .sl s27_, .int .i64 i28_, .int .i64 i29_, U, U, U, U, U, U, U, U, U, U, U, U, U, U, U, U, U, U, U, U, U, U, U, U, U, U, U, U, U, U, U, U, U, U, U, U, U, U]
def impl_strip_sequence_w2 (S : SatT) (K : AVal → H → Prop) (X0 : Frame → H → Prop) : (Frame → H → Prop) → Frame → H → Prop := fun X fr h => cwp S tab impl_strip_sequence_M (impl_strip_sequence_M 2) (sub [1, 0, 0, 0, 1, 0, 1, 0, 0] (bodyOf Try.f40)) (kSeq (fun fr h => X (mask (impl_strip_sequence_M 2) fr) h) (kBlk 2 (impl_strip_sequence_ks2 S K X0))) fr h
def impl_strip_sequence_L2 (S : SatT) (K : AVal → H → Prop) (X0 : Frame → H → Prop) (p0_ : Pt) (f1_ : AVal) (f2_ : AVal) (s6_ : Sl) (s7_ : Sl) (i8_ : Int) (s27_ : Sl) (i28_ : Int) (i29_ : Int) (h : H) : Prop := loopK (impl_strip_sequence_w2 S K X0) (impl_strip_sequence_e2 p0_ f1_ f2_ s6_ s7_ i8_ s27_ i28_ i29_) h
def impl_strip_sequence_ks8 (S : SatT) (K : AVal → H → Prop) (X0 : Frame → H → Prop) : Kont := kSeq (cwp S tab impl_strip_sequence_M (impl_strip_sequence_M 1) (sub [1, 0, 0, 0, 1, 1, 1] (bodyOf Try.f40)) (kBlk 1 (kSeq (fun fr h => X0 (mask (impl_strip_sequence_M 0) fr) h) (kBlk 0 (kFun tab (Try.f40).results.toList K))))) (kBlk 1 (kSeq (fun fr h => X0 (mask (impl_strip_sequence_M 0) fr) h) (kBlk 0 (kFun tab (Try.f40).results.toList K))))
def impl_strip_sequence_e4 (p0_ : Pt) (f1_ : AVal) (f2_ : AVal) (s7_ : Sl) (i8_ : Int) (s51_ : Sl) (i52_ : Int) (i53_ : Int) : Frame := [.ptr p0_, f1_, f2_, U, U, U, U, .sl s7_, .int .i64 i8_, U, U, U, U, U, U, U, U, U, U, U, U, U, U, U, U, U, U, U, U, U, U, U, U, U, U, U, U, U, U, U, U, U, U, U, U, U, U, U, U, U, U, .sl s51_, .int .i64 i52_, .int .i64 i53_, U, U, U, U, U, U, U, U, U, U, U, U, U, U]
def impl_strip_sequence_w4 (S : SatT) (K : AVal → H → Prop) (X0 : Frame → H → Prop) : (Frame → H → Prop) → Frame → H → Prop := fun X fr h => cwp S tab impl_strip_sequence_M (impl_strip_sequence_M 4) (sub [1, 0, 0, 0, 1, 1, 0, 1, 0, 0] (bodyOf Try.f40)) (kSeq (fun fr h => X (mask (impl_strip_sequence_M 4) fr) h) (kBlk 4 (impl_strip_sequence_ks8 S K X0))) fr h
def impl_strip_sequence_L4 (S : SatT) (K : AVal → H → Prop) (X0 : Frame → H → Prop) (p0_ : Pt) (f1_ : AVal) (f2_ : AVal) (s7_ : Sl) (i8_ : Int) (s51_ : Sl) (i52_ : Int) (i53_ : Int) (h : H) : Prop := loopK (impl_strip_sequence_w4 S K X0) (impl_strip_sequence_e4 p0_ f1_ f2_ s7_ i8_ s51_ i52_ i53_) h
def impl_strip_sequence_C4 (S : SatT) (K : AVal → H → Prop) (X0 : Frame → H → Prop) (p0_ : Pt) (f1_ : AVal) (f2_ : AVal) (s7_ : Sl) (i8_ : Int) (h : H) : Prop :=
 viaF f2_ [.int .i64 i8_] fun g0 ys1 =>
 callB S g0 ys1 h fun b3 h2 =>
 bif (!b3) then
 K (.tuple []) h2
 else
 X0 (impl_strip_sequence_e0 p0_ f1_ f2_ s7_) h2
def impl_strip_sequence_b4 (S : SatT) (K : AVal → H → Prop) (X0 : Frame → H → Prop) (X4 : Frame → H → Prop) (p0_ : Pt) (f1_ : AVal) (f2_ : AVal) (s7_ : Sl) (i8_ : Int) (s51_ : Sl) (i52_ : Int) (i53_ : Int) (h : H) : Prop :=
 bif (decide (i53_ < i52_)) then
 ixS s51_ 1 i53_ fun p0 =>
 ldI .i64 p0 h fun n1 =>
 viaF f1_ [.int .i64 (w64 (i8_ + n1))] fun g2 ys3 =>
 callI S .i64 g2 ys3 h fun n5 h4 =>
 X4 (impl_strip_sequence_e4 p0_ f1_ f2_ s7_ n5 s51_ i52_ (w64 (i53_ + (1)))) h4
 else
 impl_strip_sequence_C4 S K X0 p0_ f1_ f2_ s7_ i8_ h
theorem impl_strip_sequence_link4 (S : SatT) (K : AVal → H → Prop) (X0 : Frame → H → Prop) (X4 : Frame → H → Prop) (p0_ : Pt) (f1_ : AVal) (f2_ : AVal) (s7_ : Sl) (i8_ : Int) (s51_ : Sl) (i52_ : Int) (i53_ : Int) (h : H) : impl_strip_sequence_w4 S K X0 X4 (impl_strip_sequence_e4 p0_ f1_ f2_ s7_ i8_ s51_ i52_ i53_) h = impl_strip_sequence_b4 S K X0 X4 p0_ f1_ f2_ s7_ i8_ s51_ i52_ i53_ h := by kernel_rfl
theorem impl_strip_sequence_rule4 (S : SatT) (K : AVal → H → Prop) (X0 : Frame → H → Prop) (p0_ : Pt) (f1_ : AVal) (f2_ : AVal) (s7_ : Sl) (s51_ : Sl) (i52_ : Int) (I_ : Int → Int → H → Prop) (m_ : Int → Int → H → Nat)
    (hs : ∀ (X4 : Frame → H → Prop) (i8_ : Int) (i53_ : Int) (h : H), I_ i8_ i53_ h → (∀ (i8_' : Int) (i53_' : Int) (h' : H), I_ i8_' i53_' h' → m_ i8_' i53_' h' < m_ i8_ i53_ h → X4 (impl_strip_sequence_e4 p0_ f1_ f2_ s7_ i8_' s51_ i52_ i53_') h') → impl_strip_sequence_b4 S K X0 X4 p0_ f1_ f2_ s7_ i8_ s51_ i52_ i53_ h) (i8_ : Int) (i53_ : Int) {h : H} (h0 : I_ i8_ i53_ h) : impl_strip_sequence_L4 S K X0 p0_ f1_ f2_ s7_ i8_ s51_ i52_ i53_ h :=
  loop_rule (σ := (Int) × (Int)) (fun s_ => impl_strip_sequence_e4 p0_ f1_ f2_ s7_ (s_.1) s51_ i52_ (s_.2)) (fun s_ h => I_ (s_.1) (s_.2) h) (fun s_ h => m_ (s_.1) (s_.2) h)
    (fun X s_ h hi hx => (impl_strip_sequence_link4 S K X0 X p0_ f1_ f2_ s7_ (s_.1) s51_ i52_ (s_.2) h).mpr (hs X (s_.1) (s_.2) h hi fun i8_' i53_' h' hi' hm' => hx (i8_', i53_') h' hi' hm')) (i8_, i53_) h0
def impl_strip_sequence_C2 (S : SatT) (K : AVal → H → Prop) (X0 : Frame → H → Prop) (p0_ : Pt) (f1_ : AVal) (f2_ : AVal) (s7_ : Sl) (i8_ : Int) (h : H) : Prop :=
 impl_strip_sequence_L4 S K X0 p0_ f1_ f2_ s7_ i8_ s7_ (s7_.len : Int) (0) h
def impl_strip_sequence_b2 (S : SatT) (K : AVal → H → Prop) (X0 : Frame → H → Prop) (X2 : Frame → H → Prop) (p0_ : Pt) (f1_ : AVal) (f2_ : AVal) (s6_ : Sl) (s7_ : Sl) (i8_ : Int) (s27_ : Sl) (i28_ : Int) (i29_ : Int) (h : H) : Prop :=
 bif (decide (i29_ < i28_)) then
 ixS s27_ 3 i29_ fun p0 =>
 ldA p0 3 h fun cs1 =>
 newO [.int .i64 (0), .int .i64 (0), .int .i64 (0)] h fun p2 h3 =>
 stN p2 3 cs1 h3 fun h4 =>
 ixA p2 3 1 (1) fun p5 =>
 ldI .i64 p5 h4 fun n6 =>
 ixA p2 3 1 (1) fun p7 =>
 ldI .i64 p7 h4 fun n8 =>
 ixS s7_ 1 n8 fun p9 =>
 ldI .i64 p9 h4 fun n10 =>
 ixA p2 3 1 (0) fun p11 =>
 ldI .i64 p11 h4 fun n12 =>
 ixS s6_ 1 n12 fun p13 =>
 ldI .i64 p13 h4 fun n14 =>
 viaF f1_ [.int .i64 (w64 (n10 + n14))] fun g15 ys16 =>
 callI S .i64 g15 ys16 h4 fun n18 h17 =>
(cell h17 p5 = cell h4 p5) ∧ (
 ixS s7_ 1 n6 fun p19 =>
 st1 p19 (.int .i64 n18) h17 fun h20 =>
 X2 (impl_strip_sequence_e2 p0_ f1_ f2_ s6_ s7_ i8_ s27_ i28_ (w64 (i29_ + (1)))) h20)
 else
 impl_strip_sequence_C2 S K X0 p0_ f1_ f2_ s7_ i8_ h
theorem impl_strip_sequence_link2 (S : SatT) (K : AVal → H → Prop) (X0 : Frame → H → Prop) (X2 : Frame → H → Prop) (p0_ : Pt) (f1_ : AVal) (f2_ : AVal) (s6_ : Sl) (s7_ : Sl) (i8_ : Int) (s27_ : Sl) (i28_ : Int) (i29_ : Int) (h : H) : impl_strip_sequence_w2 S K X0 X2 (impl_strip_sequence_e2 p0_ f1_ f2_ s6_ s7_ i8_ s27_ i28_ i29_) h = impl_strip_sequence_b2 S K X0 X2 p0_ f1_ f2_ s6_ s7_ i8_ s27_ i28_ i29_ h := by kernel_rfl
theorem impl_strip_sequence_rule2 (S : SatT) (K : AVal → H → Prop) (X0 : Frame → H → Prop) (p0_ : Pt) (f1_ : AVal) (f2_ : AVal) (s6_ : Sl) (s7_ : Sl) (i8_ : Int) (s27_ : Sl) (i28_ : Int) (I_ : Int → H → Prop) (m_ : Int → H → Nat)
    (hs : ∀ (X2 : Frame → H → Prop) (i29_ : Int) (h : H), I_ i29_ h → (∀ (i29_' : Int) (h' : H), I_ i29_' h' → m_ i29_' h' < m_ i29_ h → X2 (impl_strip_sequence_e2 p0_ f1_ f2_ s6_ s7_ i8_ s27_ i28_ i29_') h') → impl_strip_sequence_b2 S K X0 X2 p0_ f1_ f2_ s6_ s7_ i8_ s27_ i28_ i29_ h) (i29_ : Int) {h : H} (h0 : I_ i29_ h) : impl_strip_sequence_L2 S K X0 p0_ f1_ f2_ s6_ s7_ i8_ s27_ i28_ i29_ h :=
  loop_rule (σ := (Int)) (fun s_ => impl_strip_sequence_e2 p0_ f1_ f2_ s6_ s7_ i8_ s27_ i28_ (s_)) (fun s_ h => I_ (s_) h) (fun s_ h => m_ (s_) h)
    (fun X s_ h hi hx => (impl_strip_sequence_link2 S K X0 X p0_ f1_ f2_ s6_ s7_ i8_ s27_ i28_ (s_) h).mpr (hs X (s_) h hi fun i29_' h' hi' hm' => hx (i29_') h' hi' hm')) (i29_) h0
def impl_strip_sequence_b0 (S : SatT) (K : AVal → H → Prop) (X0 : Frame → H → Prop) (p0_ : Pt) (f1_ : AVal) (f2_ : AVal) (s6_ : Sl) (h : H) : Prop :=
 nilC (.ptr p0_) (
 isPt p0_ (
 ldI .i64 (Pt.add p0_ 3) h fun n0 =>
 mkS n0 [.int .i64 (0)] h fun s1 h2 =>
 nilC (.ptr p0_) (
 isPt p0_ (
 ldS (Pt.add p0_ 4) h2 fun s3 =>
 impl_strip_sequence_L2 S K X0 p0_ f1_ f2_ s6_ s1 (0) s3 (s3.len : Int) (0) h2))))
theorem impl_strip_sequence_link0 (S : SatT) (K : AVal → H → Prop) (X0 : Frame → H → Prop) (p0_ : Pt) (f1_ : AVal) (f2_ : AVal) (s6_ : Sl) (h : H) : impl_strip_sequence_w0 S K X0 (impl_strip_sequence_e0 p0_ f1_ f2_ s6_) h = impl_strip_sequence_b0 S K X0 p0_ f1_ f2_ s6_ h := by kernel_rfl
theorem impl_strip_sequence_unroll0 (S : SatT) (K : AVal → H → Prop) (p0_ : Pt) (f1_ : AVal) (f2_ : AVal) (s6_ : Sl) (h : H) (hb : impl_strip_sequence_b0 S K (fun fr h => loopK (impl_strip_sequence_w0 S K) fr h) p0_ f1_ f2_ s6_ h) : impl_strip_sequence_L0 S K p0_ f1_ f2_ s6_ h := loop_unroll ((impl_strip_sequence_link0 S K _ p0_ f1_ f2_ s6_ h).mpr hb)
def impl_strip_sequence_main (S : SatT) (K : AVal → H → Prop) (x0 : Pt) (x1 : AVal) (x2 : AVal) (h : H) : Prop :=
 newS 1 1 [.int .i64 (1)] h fun s0 h1 =>
 nilC (.ptr x0) (
 isPt x0 (
 ldI .i64 (Pt.add x0 3) h1 fun n2 =>
 callS S i_slices_Repeat_s_int64_int64_ [.sl s0, .int .i64 n2] h1 fun s4 h3 =>
 impl_strip_sequence_L0 S K x0 x1 x2 s4 h3))
theorem impl_strip_sequence_main_link (S : SatT) (K : AVal → H → Prop) (x0 : Pt) (x1 : AVal) (x2 : AVal) (h : H) : cwp S tab impl_strip_sequence_M [] (bodyOf Try.f40) (kFun tab Try.f40.results.toList K) (fr0 Try.f40 [.ptr x0, x1, x2]) h = impl_strip_sequence_main S K x0 x1 x2 h := by kernel_rfl
theorem impl_strip_sequence_call (x0 : Pt) (x1 : AVal) (x2 : AVal) (h : H) (K : AVal → H → Prop) (hm : impl_strip_sequence_main (Sat Try.prog) (fun v h' => K v h') x0 x1 x2 h) : callV (Sat Try.prog) i_impl_strip_sequence [.ptr x0, x1, x2] h K := by
  have := Sat.ex tok mixed impl_strip_sequence_M Try.func40 (c := bodyOf Try.f40) (by kernel_rfl) (calls_of Try.func40 (c := bodyOf Try.f40) (by kernel_rfl) (by decide)) ((impl_strip_sequence_main_link _ _ x0 x1 x2 h).mpr hm)
  exact this

/-! ### (*loop.example/g01354/impl.strip).endless -/
def impl_strip_endless_M : Nat → List Nat := fun i => bif i == 2 then [0, 1, 2, 7, 8, 25, 26, 27] else bif i == 0 then [0, 1, 2, 7] else []
def impl_strip_endless_e0 (p0_ : Pt) (i1_ : Int) (i2_ : Int) (s7_ : Sl) : Frame := [.ptr p0_, .int .i64 i1_, .int .i64 i2_, U, U, U, U, .sl s7_, U, U, U, U, U, U, U, U, U, U, U, U, U, U, U, U, U, U, U, U, U, U, U, U, U, U, U, U, U, U, U, U, U, U, U, U, U, U, U, U, U, U, U, U, U, U, U, U]
def impl_strip_endless_w0 (S : SatT) (K : AVal → H → Prop) : (Frame → H → Prop) → Frame → H → Prop := fun X fr h => cwp S tab impl_strip_endless_M (impl_strip_endless_M 0) (sub [1, 1, 0, 0] (bodyOf Try.f85)) (kSeq (fun fr h => X (mask (impl_strip_endless_M 0) fr) h) (kBlk 0 (kFun tab (Try.f85).results.toList K))) fr h
def impl_strip_endless_L0 (S : SatT) (K : AVal → H → Prop) (p0_ : Pt) (i1_ : Int) (i2_ : Int) (s7_ : Sl) (h : H) : Prop := loopK (impl_strip_endless_w0 S K) (impl_strip_endless_e0 p0_ i1_ i2_ s7_) h
def impl_strip_endless_ks3 (S : SatT) (K : AVal → H → Prop) (X0 : Frame → H → Prop) : Kont := kSeq (cwp S tab impl_strip_endless_M (impl_strip_endless_M 1) (sub [1, 1, 0, 0, 0, 1, 1] (bodyOf Try.f85)) (kBlk 1 (kSeq (fun fr h => X0 (mask (impl_strip_endless_M 0) fr) h) (kBlk 0 (kFun tab (Try.f85).results.toList K))))) (kBlk 1 (kSeq (fun fr h => X0 (mask (impl_strip_endless_M 0) fr) h) (kBlk 0 (kFun tab (Try.f85).results.toList K))))
def impl_strip_endless_e2 (p0_ : Pt) (i1_ : Int) (i2_ : Int) (s7_ : Sl) (s8_ : Sl) (s25_ : Sl) (i26_ : Int) (i27_ : Int) : Frame := [.ptr p0_, .int .i64 i1_, .int .i64 i2_, U, U, U, U, .sl s7_, .sl s8_, U, U, U, U, U, U, U, U, U, U, U, U, U, U, U, U, .sl s25_, .int .i64 i26_, .int .i64 i27_, U, U, U, U, U, U, U, U, U, U, U, U, U, U, U, U, U, U, U, U, U, U, U, U, U, U, U, U]
def impl_strip_endless_w2 (S : SatT) (K : AVal → H → Prop) (X0 : Frame → H → Prop) : (Frame → H → Prop) → Frame → H → Prop := fun X fr h => cwp S tab impl_strip_endless_M (impl_strip_endless_M 2) (sub [1, 1, 0, 0, 0, 1, 0, 1, 0, 0] (bodyOf Try.f85)) (kSeq (fun fr h => X (mask (impl_strip_endless_M 2) fr) h) (kBlk 2 (impl_strip_endless_ks3 S K X0))) fr h
def impl_strip_endless_L2 (S : SatT) (K : AVal → H → Prop) (X0 : Frame → H → Prop) (p0_ : Pt) (i1_ : Int) (i2_ : Int) (s7_ : Sl) (s8_ : Sl) (s25_ : Sl) (i26_ : Int) (i27_ : Int) (h : H) : Prop := loopK (impl_strip_endless_w2 S K X0) (impl_strip_endless_e2 p0_ i1_ i2_ s7_ s8_ s25_ i26_ i27_) h
def impl_strip_endless_C2 (S : SatT) (K : AVal → H → Prop) (X0 : Frame → H → Prop) (p0_ : Pt) (i1_ : Int) (i2_ : Int) (s7_ : Sl) (s8_ : Sl) (h : H) : Prop :=
 callB S i_slices_Equal_s_bool_bool_ [.sl s8_, .sl s7_] h fun b1 h0 =>
 bif b1 then
 K (.sl s7_) h0
 else
 X0 (impl_strip_endless_e0 p0_ i1_ i2_ s8_) h0
def impl_strip_endless_b2 (S : SatT) (K : AVal → H → Prop) (X0 : Frame → H → Prop) (X2 : Frame → H → Prop) (p0_ : Pt) (i1_ : Int) (i2_ : Int) (s7_ : Sl) (s8_ : Sl) (s25_ : Sl) (i26_ : Int) (i27_ : Int) (h : H) : Prop :=
 bif (decide (i27_ < i26_)) then
 ixS s25_ 3 i27_ fun p0 =>
 ldA p0 3 h fun cs1 =>
 newO [.int .i64 (0), .int .i64 (0), .int .i64 (0)] h fun p2 h3 =>
 stN p2 3 cs1 h3 fun h4 =>
 ixA p2 3 1 i1_ fun p5 =>
 ldI .i64 p5 h4 fun n6 =>
 ixA p2 3 1 i1_ fun p7 =>
 ldI .i64 p7 h4 fun n8 =>
 ixS s8_ 1 n8 fun p9 =>
 ldB p9 h4 fun b10 =>
 bif b10 then
 ixS s8_ 1 n6 fun p11 =>
 st1 p11 (.bool true) h4 fun h12 =>
 X2 (impl_strip_endless_e2 p0_ i1_ i2_ s7_ s8_ s25_ i26_ (w64 (i27_ + (1)))) h12
 else
 ixA p2 3 1 i2_ fun p13 =>
 ldI .i64 p13 h4 fun n14 =>
 ixS s7_ 1 n14 fun p15 =>
 ldB p15 h4 fun b16 =>
 ixS s8_ 1 n6 fun p17 =>
 st1 p17 (.bool b16) h4 fun h18 =>
 X2 (impl_strip_endless_e2 p0_ i1_ i2_ s7_ s8_ s25_ i26_ (w64 (i27_ + (1)))) h18
 else
 impl_strip_endless_C2 S K X0 p0_ i1_ i2_ s7_ s8_ h
theorem impl_strip_endless_link2 (S : SatT) (K : AVal → H → Prop) (X0 : Frame → H → Prop) (X2 : Frame → H → Prop) (p0_ : Pt) (i1_ : Int) (i2_ : Int) (s7_ : Sl) (s8_ : Sl) (s25_ : Sl) (i26_ : Int) (i27_ : Int) (h : H) : impl_strip_endless_w2 S K X0 X2 (impl_strip_endless_e2 p0_ i1_ i2_ s7_ s8_ s25_ i26_ i27_) h = impl_strip_endless_b2 S K X0 X2 p0_ i1_ i2_ s7_ s8_ s25_ i26_ i27_ h := by kernel_rfl
theorem impl_strip_endless_rule2 (S : SatT) (K : AVal → H → Prop) (X0 : Frame → H → Prop) (p0_ : Pt) (i1_ : Int) (i2_ : Int) (s7_ : Sl) (s8_ : Sl) (s25_ : Sl) (i26_ : Int) (I_ : Int → H → Prop) (m_ : Int → H → Nat)
    (hs : ∀ (X2 : Frame → H → Prop) (i27_ : Int) (h : H), I_ i27_ h → (∀ (i27_' : Int) (h' : H), I_ i27_' h' → m_ i27_' h' < m_ i27_ h → X2 (impl_strip_endless_e2 p0_ i1_ i2_ s7_ s8_ s25_ i26_ i27_') h') → impl_strip_endless_b2 S K X0 X2 p0_ i1_ i2_ s7_ s8_ s25_ i26_ i27_ h) (i27_ : Int) {h : H} (h0 : I_ i27_ h) : impl_strip_endless_L2 S K X0 p0_ i1_ i2_ s7_ s8_ s25_ i26_ i27_ h :=
  loop_rule (σ := (Int)) (fun s_ => impl_strip_endless_e2 p0_ i1_ i2_ s7_ s8_ s25_ i26_ (s_)) (fun s_ h => I_ (s_) h) (fun s_ h => m_ (s_) h)
    (fun X s_ h hi hx => (impl_strip_endless_link2 S K X0 X p0_ i1_ i2_ s7_ s8_ s25_ i26_ (s_) h).mpr (hs X (s_) h hi fun i27_' h' hi' hm' => hx (i27_') h' hi' hm')) (i27_) h0
def impl_strip_endless_b0 (S : SatT) (K : AVal → H → Prop) (X0 : Frame → H → Prop) (p0_ : Pt) (i1_ : Int) (i2_ : Int) (s7_ : Sl) (h : H) : Prop :=
 nilC (.ptr p0_) (
 isPt p0_ (
 ldI .i64 (Pt.add p0_ 3) h fun n0 =>
 mkS n0 [.bool false] h fun s1 h2 =>
 nilC (.ptr p0_) (
 isPt p0_ (
 ldS (Pt.add p0_ 4) h2 fun s3 =>
 impl_strip_endless_L2 S K X0 p0_ i1_ i2_ s7_ s1 s3 (s3.len : Int) (0) h2))))
theorem impl_strip_endless_link0 (S : SatT) (K : AVal → H → Prop) (X0 : Frame → H → Prop) (p0_ : Pt) (i1_ : Int) (i2_ : Int) (s7_ : Sl) (h : H) : impl_strip_endless_w0 S K X0 (impl_strip_endless_e0 p0_ i1_ i2_ s7_) h = impl_strip_endless_b0 S K X0 p0_ i1_ i2_ s7_ h := by kernel_rfl
theorem impl_strip_endless_rule0 (S : SatT) (K : AVal → H → Prop) (p0_ : Pt) (i1_ : Int) (i2_ : Int) (I_ : Sl → H → Prop) (m_ : Sl → H → Nat)
    (hs : ∀ (X0 : Frame → H → Prop) (s7_ : Sl) (h : H), I_ s7_ h → (∀ (s7_' : Sl) (h' : H), I_ s7_' h' → m_ s7_' h' < m_ s7_ h → X0 (impl_strip_endless_e0 p0_ i1_ i2_ s7_') h') → impl_strip_endless_b0 S K X0 p0_ i1_ i2_ s7_ h) (s7_ : Sl) {h : H} (h0 : I_ s7_ h) : impl_strip_endless_L0 S K p0_ i1_ i2_ s7_ h :=
  loop_rule (σ := (Sl)) (fun s_ => impl_strip_endless_e0 p0_ i1_ i2_ (s_)) (fun s_ h => I_ (s_) h) (fun s_ h => m_ (s_) h)
    (fun X s_ h hi hx => (impl_strip_endless_link0 S K X p0_ i1_ i2_ (s_) h).mpr (hs X (s_) h hi fun s7_' h' hi' hm' => hx (s7_') h' hi' hm')) (s7_) h0
def impl_strip_endless_main (S : SatT) (K : AVal → H → Prop) (x0 : Pt) (x1 : Int) (x2 : Int) (h : H) : Prop :=
 newS 1 1 [.bool true] h fun s0 h1 =>
 nilC (.ptr x0) (
 isPt x0 (
 ldI .i64 (Pt.add x0 3) h1 fun n2 =>
 callS S i_slices_Repeat_s_bool_bool_ [.sl s0, .int .i64 n2] h1 fun s4 h3 =>
 impl_strip_endless_L0 S K x0 x1 x2 s4 h3))
theorem impl_strip_endless_main_link (S : SatT) (K : AVal → H → Prop) (x0 : Pt) (x1 : Int) (x2 : Int) (h : H) : cwp S tab impl_strip_endless_M [] (bodyOf Try.f85) (kFun tab Try.f85.results.toList K) (fr0 Try.f85 [.ptr x0, .int .i64 x1, .int .i64 x2]) h = impl_strip_endless_main S K x0 x1 x2 h := by kernel_rfl
theorem impl_strip_endless_call (x0 : Pt) (x1 : Int) (x2 : Int) (h : H) (K : Sl → H → Prop) (hm : impl_strip_endless_main (Sat Try.prog) (fun v h' => ∃ r, v = .sl r ∧ K r h') x0 x1 x2 h) : callS (Sat Try.prog) i_impl_strip_endless [.ptr x0, .int .i64 x1, .int .i64 x2] h K := by
  have := Sat.ex tok mixed impl_strip_endless_M Try.func85 (c := bodyOf Try.f85) (by kernel_rfl) (calls_of Try.func85 (c := bodyOf Try.f85) (by kernel_rfl) (by decide)) ((impl_strip_endless_main_link _ _ x0 x1 x2 h).mpr hm)
  obtain ⟨v, h2, h3, r, rfl, h4⟩ := this; exact ⟨r, h2, h3, h4⟩

/-! ### loop.example/g01354/spec.l01Read -/
def spec_l01Read_M : Nat → List Nat := fun i => bif i == 0 then [2, 5, 6, 7] else []
def spec_l01Read_ks6 (S : SatT) (K : AVal → H → Prop) : Kont := kSeq (cwp S tab spec_l01Read_M [] (sub [1, 1, 1, 1, 1] (bodyOf Try.f108)) (kFun tab (Try.f108).results.toList K)) (kFun tab (Try.f108).results.toList K)
def spec_l01Read_e0 (p2_ : Pt) (p5_ : Pt) (s6_ : Sl) (i7_ : Int) : Frame := [U, U, .ptr p2_, U, U, .ptr p5_, .sl s6_, .int .i64 i7_, U, U, U, U, U, U, U, U, U, U, U, U, U, U, U, U, U, U, U, U, U, U, U, U, U, U, U, U, U, U, U, U, U, U, U, U, U, U, U, U, U, U, U, U, U, U, U, U, U, U, U, U, U, U, U, U, U, U, U, U, U, U]
def spec_l01Read_w0 (S : SatT) (K : AVal → H → Prop) : (Frame → H → Prop) → Frame → H → Prop := fun X fr h => cwp S tab spec_l01Read_M (spec_l01Read_M 0) (sub [1, 1, 1, 1, 0, 1, 0, 1, 1, 0, 0] (bodyOf Try.f108)) (kSeq (fun fr h => X (mask (spec_l01Read_M 0) fr) h) (kBlk 0 (spec_l01Read_ks6 S K))) fr h
def spec_l01Read_L0 (S : SatT) (K : AVal → H → Prop) (p2_ : Pt) (p5_ : Pt) (s6_ : Sl) (i7_ : Int) (h : H) : Prop := loopK (spec_l01Read_w0 S K) (spec_l01Read_e0 p2_ p5_ s6_ i7_) h
def spec_l01Read_C0 (S : SatT) (K : AVal → H → Prop) (p2_ : Pt) (p5_ : Pt) (h : H) : Prop :=
 ldA p5_ 2 h fun cs0 =>
 callB S i_spec_l01Is [.agg cs0] h fun b2 h1 =>
 bif (!b2) then
 stN p2_ 2 [.int .i64 (0), .sl Sl.nil] h1 fun h3 =>
 ldA p2_ 2 h3 fun cs4 =>
 K (.tuple [.agg cs4, .bool false]) h3
 else
 ldA p5_ 2 h1 fun cs5 =>
 stN p2_ 2 cs5 h1 fun h6 =>
 ldA p2_ 2 h6 fun cs7 =>
 K (.tuple [.agg cs7, .bool true]) h6
def spec_l01Read_b0 (S : SatT) (K : AVal → H → Prop) (X0 : Frame → H → Prop) (p2_ : Pt) (p5_ : Pt) (s6_ : Sl) (i7_ : Int) (h : H) : Prop :=
 bif (decide (i7_ < (s6_.len : Int))) then
 ixS s6_ 1 i7_ fun p0 =>
 ldV p0 h fun v1 =>
 viaStr v1 fun t2 =>
 bif ((t2.size : Int) != (4)) then
 stN p2_ 2 [.int .i64 (0), .sl Sl.nil] h fun h3 =>
 ldA p2_ 2 h3 fun cs4 =>
 K (.tuple [.agg cs4, .bool false]) h3
 else
 isPt p5_ (
 ldS (Pt.add p5_ 1) h fun s5 =>
 viaStr v1 fun t6 =>
 ixStr t6 (0) fun n7 =>
 viaStr v1 fun t8 =>
 ixStr t8 (1) fun n9 =>
 viaStr v1 fun t10 =>
 ixStr t10 (2) fun n11 =>
 viaStr v1 fun t12 =>
 ixStr t12 (3) fun n13 =>
 lenA [.int .i64 (w64 ((w64 (n7)) - (48))), .int .i64 (w64 ((w64 (n9)) - (48))), .int .i64 (w64 ((w64 (n11)) - (48))), .int .i64 (w64 ((w64 (n13)) - (48)))] 4 (
 newS 1 4 (spl [.int .i64 (0), .int .i64 (0), .int .i64 (0), .int .i64 (0)] 0 4 [.int .i64 (w64 ((w64 (n7)) - (48))), .int .i64 (w64 ((w64 (n9)) - (48))), .int .i64 (w64 ((w64 (n11)) - (48))), .int .i64 (w64 ((w64 (n13)) - (48)))]) h fun s14 h15 =>
(cell h15 (Pt.add p5_ 1) = cell h (Pt.add p5_ 1)) ∧ (
 app s5 s14 4 h15 fun s16 h17 =>
 isPt p5_ (
 st1 (Pt.add p5_ 1) (.sl s16) h17 fun h18 =>
 X0 (spec_l01Read_e0 p2_ p5_ s6_ (w64 (i7_ + (1)))) h18))))
 else
 spec_l01Read_C0 S K p2_ p5_ h
theorem spec_l01Read_link0 (S : SatT) (K : AVal → H → Prop) (X0 : Frame → H → Prop) (p2_ : Pt) (p5_ : Pt) (s6_ : Sl) (i7_ : Int) (h : H) : spec_l01Read_w0 S K X0 (spec_l01Read_e0 p2_ p5_ s6_ i7_) h = spec_l01Read_b0 S K X0 p2_ p5_ s6_ i7_ h := by kernel_rfl
theorem spec_l01Read_rule0 (S : SatT) (K : AVal → H → Prop) (p2_ : Pt) (p5_ : Pt) (s6_ : Sl) (I_ : Int → H → Prop) (m_ : Int → H → Nat)
    (hs : ∀ (X0 : Frame → H → Prop) (i7_ : Int) (h : H), I_ i7_ h → (∀ (i7_' : Int) (h' : H), I_ i7_' h' → m_ i7_' h' < m_ i7_ h → X0 (spec_l01Read_e0 p2_ p5_ s6_ i7_') h') → spec_l01Read_b0 S K X0 p2_ p5_ s6_ i7_ h) (i7_ : Int) {h : H} (h0 : I_ i7_ h) : spec_l01Read_L0 S K p2_ p5_ s6_ i7_ h :=
  loop_rule (σ := (Int)) (fun s_ => spec_l01Read_e0 p2_ p5_ s6_ (s_)) (fun s_ h => I_ (s_) h) (fun s_ h => m_ (s_) h)
    (fun X s_ h hi hx => (spec_l01Read_link0 S K X p2_ p5_ s6_ (s_) h).mpr (hs X (s_) h hi fun i7_' h' hi' hm' => hx (i7_') h' hi' hm')) (i7_) h0
def spec_l01Read_main (S : SatT) (K : AVal → H → Prop) (x0 : AVal) (h : H) : Prop :=
 newO [.int .i64 (0), .sl Sl.nil] h fun p0 h1 =>
 callS S i_spec_l01Split [x0, .int .u8 (58)] h1 fun s3 h2 =>
 bif ((s3.len : Int) != (2)) then
 stN p0 2 [.int .i64 (0), .sl Sl.nil] h2 fun h4 =>
 ldA p0 2 h4 fun cs5 =>
 K (.tuple [.agg cs5, .bool false]) h4
 else
 ixS s3 1 (0) fun p6 =>
 ldV p6 h2 fun v7 =>
 callI S .i64 i_spec_l01Number [v7] h2 fun n9 h8 =>
 newS 0 4 [] h8 fun s10 h11 =>
 newO [.int .i64 (0), .sl Sl.nil] h11 fun p12 h13 =>
 stN p12 2 [.int .i64 n9, .sl s10] h13 fun h14 =>
 ixS s3 1 (1) fun p15 =>
 ldV p15 h14 fun v16 =>
 strEq v16 (.str ByteArray.empty) fun b17 =>
 bif (!b17) then
 ixS s3 1 (1) fun p18 =>
 ldV p18 h14 fun v19 =>
 callS S i_spec_l01Split [v19, .int .u8 (44)] h14 fun s21 h20 =>
 spec_l01Read_L0 S K p0 p12 s21 (0) h20
 else
 ldA p12 2 h14 fun cs22 =>
 callB S i_spec_l01Is [.agg cs22] h14 fun b24 h23 =>
 bif (!b24) then
 stN p0 2 [.int .i64 (0), .sl Sl.nil] h23 fun h25 =>
 ldA p0 2 h25 fun cs26 =>
 K (.tuple [.agg cs26, .bool false]) h25
 else
 ldA p12 2 h23 fun cs27 =>
 stN p0 2 cs27 h23 fun h28 =>
 ldA p0 2 h28 fun cs29 =>
 K (.tuple [.agg cs29, .bool true]) h28
theorem spec_l01Read_main_link (S : SatT) (K : AVal → H → Prop) (x0 : AVal) (h : H) : cwp S tab spec_l01Read_M [] (bodyOf Try.f108) (kFun tab Try.f108.results.toList K) (fr0 Try.f108 [x0]) h = spec_l01Read_main S K x0 h := by kernel_rfl
theorem spec_l01Read_call (x0 : AVal) (h : H) (K : AVal → H → Prop) (hm : spec_l01Read_main (Sat Try.prog) (fun v h' => K v h') x0 h) : callV (Sat Try.prog) i_spec_l01Read [x0] h K := by
  have := Sat.ex tok mixed spec_l01Read_M Try.func108 (c := bodyOf Try.f108) (by kernel_rfl) (calls_of Try.func108 (c := bodyOf Try.f108) (by kernel_rfl) (by decide)) ((spec_l01Read_main_link _ _ x0 h).mpr hm)
  exact this

/-! ### loop.example/g01354/spec.StripSequence -/
def spec_StripSequence_M : Nat → List Nat := fun i => bif i == 0 then [2, 8, 10, 11, 12] else []
def spec_StripSequence_ks8 (S : SatT) (K : AVal → H → Prop) : Kont := kSeq (cwp S tab spec_StripSequence_M [] (sub [1, 1, 1, 1, 1, 1] (bodyOf Try.f16)) (kFun tab (Try.f16).results.toList K)) (kFun tab (Try.f16).results.toList K)
def spec_StripSequence_e0 (i2_ : Int) (s8_ : Sl) (s10_ : Sl) (s11_ : Sl) (i12_ : Int) : Frame := [U, U, .int .i64 i2_, U, U, U, U, U, .sl s8_, U, .sl s10_, .sl s11_, .int .i64 i12_, U, U, U, U, U, U, U, U, U, U, U, U, U, U, U, U, U, U, U, U, U, U, U, U, U, U, U, U, U, U, U, U, U, U, U, U, U, U, U]
def spec_StripSequence_w0 (S : SatT) (K : AVal → H → Prop) : (Frame → H → Prop) → Frame → H → Prop := fun X fr h => cwp S tab spec_StripSequence_M (spec_StripSequence_M 0) (sub [1, 1, 1, 1, 1, 0, 1, 0, 0] (bodyOf Try.f16)) (kSeq (fun fr h => X (mask (spec_StripSequence_M 0) fr) h) (kBlk 0 (spec_StripSequence_ks8 S K))) fr h
def spec_StripSequence_L0 (S : SatT) (K : AVal → H → Prop) (i2_ : Int) (s8_ : Sl) (s10_ : Sl) (s11_ : Sl) (i12_ : Int) (h : H) : Prop := loopK (spec_StripSequence_w0 S K) (spec_StripSequence_e0 i2_ s8_ s10_ s11_ i12_) h
def spec_StripSequence_C0 (S : SatT) (K : AVal → H → Prop) (s11_ : Sl) (h : H) : Prop :=
 K (.tuple [.sl s11_, .int .i64 (0)]) h
def spec_StripSequence_b0 (S : SatT) (K : AVal → H → Prop) (X0 : Frame → H → Prop) (i2_ : Int) (s8_ : Sl) (s10_ : Sl) (s11_ : Sl) (i12_ : Int) (h : H) : Prop :=
 bif (decide (i12_ < i2_)) then
 callS S i_spec_l06Step [.sl s8_, .sl s10_] h fun s1 h0 =>
 callI S .i64 i_spec_l02Total [.sl s1] h0 fun n3 h2 =>
 bif (decide (n3 > (1000000000000000))) then
 K (.tuple [.sl Sl.nil, .int .i64 (3)]) h2
 else
 newS 1 1 [.int .i64 n3] h2 fun s4 h5 =>
 app s11_ s4 1 h5 fun s6 h7 =>
 X0 (spec_StripSequence_e0 i2_ s8_ s1 s6 (w64 (i12_ + (1)))) h7
 else
 spec_StripSequence_C0 S K s11_ h
theorem spec_StripSequence_link0 (S : SatT) (K : AVal → H → Prop) (X0 : Frame → H → Prop) (i2_ : Int) (s8_ : Sl) (s10_ : Sl) (s11_ : Sl) (i12_ : Int) (h : H) : spec_StripSequence_w0 S K X0 (spec_StripSequence_e0 i2_ s8_ s10_ s11_ i12_) h = spec_StripSequence_b0 S K X0 i2_ s8_ s10_ s11_ i12_ h := by kernel_rfl
theorem spec_StripSequence_rule0 (S : SatT) (K : AVal → H → Prop) (i2_ : Int) (s8_ : Sl) (I_ : Sl → Sl → Int → H → Prop) (m_ : Sl → Sl → Int → H → Nat)
    (hs : ∀ (X0 : Frame → H → Prop) (s10_ : Sl) (s11_ : Sl) (i12_ : Int) (h : H), I_ s10_ s11_ i12_ h → (∀ (s10_' : Sl) (s11_' : Sl) (i12_' : Int) (h' : H), I_ s10_' s11_' i12_' h' → m_ s10_' s11_' i12_' h' < m_ s10_ s11_ i12_ h → X0 (spec_StripSequence_e0 i2_ s8_ s10_' s11_' i12_') h') → spec_StripSequence_b0 S K X0 i2_ s8_ s10_ s11_ i12_ h) (s10_ : Sl) (s11_ : Sl) (i12_ : Int) {h : H} (h0 : I_ s10_ s11_ i12_ h) : spec_StripSequence_L0 S K i2_ s8_ s10_ s11_ i12_ h :=
  loop_rule (σ := (Sl) × (Sl) × (Int)) (fun s_ => spec_StripSequence_e0 i2_ s8_ (s_.1) (s_.2.1) (s_.2.2)) (fun s_ h => I_ (s_.1) (s_.2.1) (s_.2.2) h) (fun s_ h => m_ (s_.1) (s_.2.1) (s_.2.2) h)
    (fun X s_ h hi hx => (spec_StripSequence_link0 S K X i2_ s8_ (s_.1) (s_.2.1) (s_.2.2) h).mpr (hs X (s_.1) (s_.2.1) (s_.2.2) h hi fun s10_' s11_' i12_' h' hi' hm' => hx (s10_', s11_', i12_') h' hi' hm')) (s10_, s11_, i12_) h0
def spec_StripSequence_main (S : SatT) (K : AVal → H → Prop) (x0 : List AVal) (x1 : Int) (x2 : Int) (h : H) : Prop :=
 newK 2 x0 h fun p0 h1 =>
 ldA p0 2 h1 fun cs2 =>
 callV S i_spec_l06Code [.agg cs2, .int .i64 x1] h1 fun v4 h3 =>
 viaT v4 fun vs5 =>
 exS vs5 0 fun s6 =>
 viaT v4 fun vs7 =>
 exI .i64 vs7 1 fun n8 =>
 bif (n8 != (1)) then
 callB S i_spec_l01In [.int .i64 x2, .int .i64 (1), .int .i64 (30)] h3 fun b10 h9 =>
 bif (!b10) then
 bif ((2) != (0)) then
 K (.tuple [.sl Sl.nil, .int .i64 (2)]) h9
 else
 ldA p0 2 h9 fun cs11 =>
 callI S .i64 i_spec_l06Size [.agg cs11, .int .i64 x1] h9 fun n13 h12 =>
 callS S i_spec_l02Each [.int .i64 n13] h12 fun s15 h14 =>
 newS 0 1 [] h14 fun s16 h17 =>
 spec_StripSequence_L0 S K x2 s6 s15 s16 (0) h17
 else
 bif (n8 != (0)) then
 K (.tuple [.sl Sl.nil, .int .i64 n8]) h9
 else
 ldA p0 2 h9 fun cs18 =>
 callI S .i64 i_spec_l06Size [.agg cs18, .int .i64 x1] h9 fun n20 h19 =>
 callS S i_spec_l02Each [.int .i64 n20] h19 fun s22 h21 =>
 newS 0 1 [] h21 fun s23 h24 =>
 spec_StripSequence_L0 S K x2 s6 s22 s23 (0) h24
 else
 bif (n8 != (0)) then
 K (.tuple [.sl Sl.nil, .int .i64 n8]) h3
 else
 ldA p0 2 h3 fun cs25 =>
 callI S .i64 i_spec_l06Size [.agg cs25, .int .i64 x1] h3 fun n27 h26 =>
 callS S i_spec_l02Each [.int .i64 n27] h26 fun s29 h28 =>
 newS 0 1 [] h28 fun s30 h31 =>
 spec_StripSequence_L0 S K x2 s6 s29 s30 (0) h31
theorem spec_StripSequence_main_link (S : SatT) (K : AVal → H → Prop) (x0 : List AVal) (x1 : Int) (x2 : Int) (h : H) : cwp S tab spec_StripSequence_M [] (bodyOf Try.f16) (kFun tab Try.f16.results.toList K) (fr0 Try.f16 [.agg x0, .int .i64 x1, .int .i64 x2]) h = spec_StripSequence_main S K x0 x1 x2 h := by kernel_rfl
theorem spec_StripSequence_call (x0 : List AVal) (x1 : Int) (x2 : Int) (h : H) (K : AVal → H → Prop) (hm : spec_StripSequence_main (Sat Try.prog) (fun v h' => K v h') x0 x1 x2 h) : callV (Sat Try.prog) i_spec_StripSequence [.agg x0, .int .i64 x1, .int .i64 x2] h K := by
  have := Sat.ex tok mixed spec_StripSequence_M Try.func16 (c := bodyOf Try.f16) (by kernel_rfl) (calls_of Try.func16 (c := bodyOf Try.f16) (by kernel_rfl) (by decide)) ((spec_StripSequence_main_link _ _ x0 x1 x2 h).mpr hm)
  exact this

/-! ### slices.Compare[[]int64,int64] -/
def slices_Compare_s_int64_int64__M : Nat → List Nat := fun i => bif i == 0 then [0, 1, 9, 10, 11] else []
def slices_Compare_s_int64_int64__ks1 (S : SatT) (K : AVal → H → Prop) : Kont := kSeq (cwp S tab slices_Compare_s_int64_int64__M [] (sub [1, 1] (bodyOf Try.f103)) (kFun tab (Try.f103).results.toList K)) (kFun tab (Try.f103).results.toList K)
def slices_Compare_s_int64_int64__e0 (s0_ : Sl) (s1_ : Sl) (s9_ : Sl) (i10_ : Int) (i11_ : Int) : Frame := [.sl s0_, .sl s1_, U, U, U, U, U, U, U, .sl s9_, .int .i64 i10_, .int .i64 i11_, U, U, U, U, U, U, U, U, U, U, U, U, U, U, U, U, U, U, U, U, U, U, U, U]
def slices_Compare_s_int64_int64__w0 (S : SatT) (K : AVal → H → Prop) : (Frame → H → Prop) → Frame → H → Prop := fun X fr h => cwp S tab slices_Compare_s_int64_int64__M (slices_Compare_s_int64_int64__M 0) (sub [1, 0, 1, 0, 0] (bodyOf Try.f103)) (kSeq (fun fr h => X (mask (slices_Compare_s_int64_int64__M 0) fr) h) (kBlk 0 (slices_Compare_s_int64_int64__ks1 S K))) fr h
def slices_Compare_s_int64_int64__L0 (S : SatT) (K : AVal → H → Prop) (s0_ : Sl) (s1_ : Sl) (s9_ : Sl) (i10_ : Int) (i11_ : Int) (h : H) : Prop := loopK (slices_Compare_s_int64_int64__w0 S K) (slices_Compare_s_int64_int64__e0 s0_ s1_ s9_ i10_ i11_) h
def slices_Compare_s_int64_int64__C0 (S : SatT) (K : AVal → H → Prop) (s0_ : Sl) (s1_ : Sl) (h : H) : Prop :=
 bif (decide ((s0_.len : Int) < (s1_.len : Int))) then
 K (.int .i64 (-1)) h
 else
 K (.int .i64 (0)) h
def slices_Compare_s_int64_int64__b0 (S : SatT) (K : AVal → H → Prop) (X0 : Frame → H → Prop) (s0_ : Sl) (s1_ : Sl) (s9_ : Sl) (i10_ : Int) (i11_ : Int) (h : H) : Prop :=
 bif (decide (i11_ < i10_)) then
 ixS s9_ 1 i11_ fun p0 =>
 ldI .i64 p0 h fun n1 =>
 bif (decide (i11_ ≥ (s1_.len : Int))) then
 K (.int .i64 (1)) h
 else
 ixS s1_ 1 i11_ fun p2 =>
 ldI .i64 p2 h fun n3 =>
 callI S .i64 i_cmp_Compare_int64_ [.int .i64 n1, .int .i64 n3] h fun n5 h4 =>
 bif (n5 != (0)) then
 K (.int .i64 n5) h4
 else
 X0 (slices_Compare_s_int64_int64__e0 s0_ s1_ s9_ i10_ (w64 (i11_ + (1)))) h4
 else
 slices_Compare_s_int64_int64__C0 S K s0_ s1_ h
theorem slices_Compare_s_int64_int64__link0 (S : SatT) (K : AVal → H → Prop) (X0 : Frame → H → Prop) (s0_ : Sl) (s1_ : Sl) (s9_ : Sl) (i10_ : Int) (i11_ : Int) (h : H) : slices_Compare_s_int64_int64__w0 S K X0 (slices_Compare_s_int64_int64__e0 s0_ s1_ s9_ i10_ i11_) h = slices_Compare_s_int64_int64__b0 S K X0 s0_ s1_ s9_ i10_ i11_ h := by kernel_rfl
theorem slices_Compare_s_int64_int64__rule0 (S : SatT) (K : AVal → H → Prop) (s0_ : Sl) (s1_ : Sl) (s9_ : Sl) (i10_ : Int) (I_ : Int → H → Prop) (m_ : Int → H → Nat)
    (hs : ∀ (X0 : Frame → H → Prop) (i11_ : Int) (h : H), I_ i11_ h → (∀ (i11_' : Int) (h' : H), I_ i11_' h' → m_ i11_' h' < m_ i11_ h → X0 (slices_Compare_s_int64_int64__e0 s0_ s1_ s9_ i10_ i11_') h') → slices_Compare_s_int64_int64__b0 S K X0 s0_ s1_ s9_ i10_ i11_ h) (i11_ : Int) {h : H} (h0 : I_ i11_ h) : slices_Compare_s_int64_int64__L0 S K s0_ s1_ s9_ i10_ i11_ h :=
  loop_rule (σ := (Int)) (fun s_ => slices_Compare_s_int64_int64__e0 s0_ s1_ s9_ i10_ (s_)) (fun s_ h => I_ (s_) h) (fun s_ h => m_ (s_) h)
    (fun X s_ h hi hx => (slices_Compare_s_int64_int64__link0 S K X s0_ s1_ s9_ i10_ (s_) h).mpr (hs X (s_) h hi fun i11_' h' hi' hm' => hx (i11_') h' hi' hm')) (i11_) h0
def slices_Compare_s_int64_int64__main (S : SatT) (K : AVal → H → Prop) (x0 : Sl) (x1 : Sl) (h : H) : Prop :=
 slices_Compare_s_int64_int64__L0 S K x0 x1 x0 (x0.len : Int) (0) h
theorem slices_Compare_s_int64_int64__main_link (S : SatT) (K : AVal → H → Prop) (x0 : Sl) (x1 : Sl) (h : H) : cwp S tab slices_Compare_s_int64_int64__M [] (bodyOf Try.f103) (kFun tab Try.f103.results.toList K) (fr0 Try.f103 [.sl x0, .sl x1]) h = slices_Compare_s_int64_int64__main S K x0 x1 h := by kernel_rfl
theorem slices_Compare_s_int64_int64__call (x0 : Sl) (x1 : Sl) (h : H) (K : Int → H → Prop) (hm : slices_Compare_s_int64_int64__main (Sat Try.prog) (fun v h' => ∃ r, v = .int .i64 r ∧ K r h') x0 x1 h) : callI (Sat Try.prog) .i64 i_slices_Compare_s_int64_int64_ [.sl x0, .sl x1] h K := by
  have := Sat.ex tok mixed slices_Compare_s_int64_int64__M Try.func103 (c := bodyOf Try.f103) (by kernel_rfl) (calls_of Try.func103 (c := bodyOf Try.f103) (by kernel_rfl) (by decide)) ((slices_Compare_s_int64_int64__main_link _ _ x0 x1 h).mpr hm)
  obtain ⟨v, h2, h3, r, rfl, h4⟩ := this; exact ⟨r, h2, h3, h4⟩

/-! ### slices.Repeat[[]bool,bool] -/
def slices_Repeat_s_bool_bool__M : Nat → List Nat := fun i => bif i == 0 then [7, 8] else []
def slices_Repeat_s_bool_bool__ks8 (S : SatT) (K : AVal → H → Prop) : Kont := kSeq (cwp S tab slices_Repeat_s_bool_bool__M [] (sub [1, 1, 1, 1, 1, 1, 1] (bodyOf Try.f99)) (kFun tab (Try.f99).results.toList K)) (kFun tab (Try.f99).results.toList K)
def slices_Repeat_s_bool_bool__e0 (s7_ : Sl) (i8_ : Int) : Frame := [U, U, U, U, U, U, U, .sl s7_, .int .i64 i8_, U, U, U, U, U, U, U, U, U, U, U, U, U, U, U, U, U, U, U, U, U, U, U, U, U, U, U, U, U, U, U, U, U, U, U, U, U, U, U]
def slices_Repeat_s_bool_bool__w0 (S : SatT) (K : AVal → H → Prop) : (Frame → H → Prop) → Frame → H → Prop := fun X fr h => cwp S tab slices_Repeat_s_bool_bool__M (slices_Repeat_s_bool_bool__M 0) (sub [1, 1, 1, 1, 1, 1, 0, 0, 0] (bodyOf Try.f99)) (kSeq (fun fr h => X (mask (slices_Repeat_s_bool_bool__M 0) fr) h) (kBlk 0 (slices_Repeat_s_bool_bool__ks8 S K))) fr h
def slices_Repeat_s_bool_bool__L0 (S : SatT) (K : AVal → H → Prop) (s7_ : Sl) (i8_ : Int) (h : H) : Prop := loopK (slices_Repeat_s_bool_bool__w0 S K) (slices_Repeat_s_bool_bool__e0 s7_ i8_) h
def slices_Repeat_s_bool_bool__C0 (S : SatT) (K : AVal → H → Prop) (s7_ : Sl) (h : H) : Prop :=
 K (.sl s7_) h
def slices_Repeat_s_bool_bool__b0 (S : SatT) (K : AVal → H → Prop) (X0 : Frame → H → Prop) (s7_ : Sl) (i8_ : Int) (h : H) : Prop :=
 bif (decide (i8_ < (s7_.len : Int))) then
 cut s7_ 1 i8_ (s7_.len : Int) h fun s0 =>
 cut s7_ 1 (0) i8_ h fun s1 =>
 copyS s0 s1 1 h fun n2 h3 =>
 X0 (slices_Repeat_s_bool_bool__e0 s7_ (w64 (i8_ + n2))) h3
 else
 slices_Repeat_s_bool_bool__C0 S K s7_ h
theorem slices_Repeat_s_bool_bool__link0 (S : SatT) (K : AVal → H → Prop) (X0 : Frame → H → Prop) (s7_ : Sl) (i8_ : Int) (h : H) : slices_Repeat_s_bool_bool__w0 S K X0 (slices_Repeat_s_bool_bool__e0 s7_ i8_) h = slices_Repeat_s_bool_bool__b0 S K X0 s7_ i8_ h := by kernel_rfl
theorem slices_Repeat_s_bool_bool__rule0 (S : SatT) (K : AVal → H → Prop) (s7_ : Sl) (I_ : Int → H → Prop) (m_ : Int → H → Nat)
    (hs : ∀ (X0 : Frame → H → Prop) (i8_ : Int) (h : H), I_ i8_ h → (∀ (i8_' : Int) (h' : H), I_ i8_' h' → m_ i8_' h' < m_ i8_ h → X0 (slices_Repeat_s_bool_bool__e0 s7_ i8_') h') → slices_Repeat_s_bool_bool__b0 S K X0 s7_ i8_ h) (i8_ : Int) {h : H} (h0 : I_ i8_ h) : slices_Repeat_s_bool_bool__L0 S K s7_ i8_ h :=
  loop_rule (σ := (Int)) (fun s_ => slices_Repeat_s_bool_bool__e0 s7_ (s_)) (fun s_ h => I_ (s_) h) (fun s_ h => m_ (s_) h)
    (fun X s_ h hi hx => (slices_Repeat_s_bool_bool__link0 S K X s7_ (s_) h).mpr (hs X (s_) h hi fun i8_' h' hi' hm' => hx (i8_') h' hi' hm')) (i8_) h0
def slices_Repeat_s_bool_bool__main (S : SatT) (K : AVal → H → Prop) (x0 : Sl) (x1 : Int) (h : H) : Prop :=
 bif (decide (x1 < (0))) then
 False
 else
 callV S i_math_bits_Mul [.int .u64 (IntKind.wrap .u64 ((x0.len : Int))), .int .u64 (IntKind.wrap .u64 (x1))] h fun v1 h0 =>
 viaT v1 fun vs2 =>
 exI .u64 vs2 0 fun n3 =>
 viaT v1 fun vs4 =>
 exI .u64 vs4 1 fun n5 =>
 bif (decide (n3 > (0))) then
 False
 else
 bif (decide (n5 > (9223372036854775807))) then
 False
 else
 mkS (w64 (n5)) [.bool false] h0 fun s6 h7 =>
 copyS s6 x0 1 h7 fun n8 h9 =>
 slices_Repeat_s_bool_bool__L0 S K s6 n8 h9
theorem slices_Repeat_s_bool_bool__main_link (S : SatT) (K : AVal → H → Prop) (x0 : Sl) (x1 : Int) (h : H) : cwp S tab slices_Repeat_s_bool_bool__M [] (bodyOf Try.f99) (kFun tab Try.f99.results.toList K) (fr0 Try.f99 [.sl x0, .int .i64 x1]) h = slices_Repeat_s_bool_bool__main S K x0 x1 h := by kernel_rfl
theorem slices_Repeat_s_bool_bool__call (x0 : Sl) (x1 : Int) (h : H) (K : Sl → H → Prop) (hm : slices_Repeat_s_bool_bool__main (Sat Try.prog) (fun v h' => ∃ r, v = .sl r ∧ K r h') x0 x1 h) : callS (Sat Try.prog) i_slices_Repeat_s_bool_bool_ [.sl x0, .int .i64 x1] h K := by
  have := Sat.ex tok mixed slices_Repeat_s_bool_bool__M Try.func99 (c := bodyOf Try.f99) (by kernel_rfl) (calls_of Try.func99 (c := bodyOf Try.f99) (by kernel_rfl) (by decide)) ((slices_Repeat_s_bool_bool__main_link _ _ x0 x1 h).mpr hm)
  obtain ⟨v, h2, h3, r, rfl, h4⟩ := this; exact ⟨r, h2, h3, h4⟩

/-! ### loop.example/g01354/spec.l01Number -/
def spec_l01Number_M : Nat → List Nat := fun i => bif i == 0 then [0, 3, 4] else []
def spec_l01Number_ks7 (S : SatT) (K : AVal → H → Prop) : Kont := kSeq (cwp S tab spec_l01Number_M [] (sub [1, 1, 1, 1] (bodyOf Try.f113)) (kFun tab (Try.f113).results.toList K)) (kFun tab (Try.f113).results.toList K)
def spec_l01Number_e0 (f0_ : AVal) (i3_ : Int) (i4_ : Int) : Frame := [f0_, U, U, .int .i64 i3_, .int .i64 i4_, U, U, U, U, U, U, U, U, U, U, U, U, U, U, U, U, U, U, U, U, U, U, U, U, U, U, U, U, U, U, U, U, U, U, U, U, U, U, U, U, U, U, U]
def spec_l01Number_w0 (S : SatT) (K : AVal → H → Prop) : (Frame → H → Prop) → Frame → H → Prop := fun X fr h => cwp S tab spec_l01Number_M (spec_l01Number_M 0) (sub [1, 1, 1, 0, 1, 0, 0] (bodyOf Try.f113)) (kSeq (fun fr h => X (mask (spec_l01Number_M 0) fr) h) (kBlk 0 (spec_l01Number_ks7 S K))) fr h
def spec_l01Number_L0 (S : SatT) (K : AVal → H → Prop) (f0_ : AVal) (i3_ : Int) (i4_ : Int) (h : H) : Prop := loopK (spec_l01Number_w0 S K) (spec_l01Number_e0 f0_ i3_ i4_) h
def spec_l01Number_C0 (S : SatT) (K : AVal → H → Prop) (i3_ : Int) (h : H) : Prop :=
 K (.int .i64 i3_) h
def spec_l01Number_b0 (S : SatT) (K : AVal → H → Prop) (X0 : Frame → H → Prop) (f0_ : AVal) (i3_ : Int) (i4_ : Int) (h : H) : Prop :=
 viaStr f0_ fun t0 =>
 bif (decide (i4_ < (t0.size : Int))) then
 viaStr f0_ fun t1 =>
 ixStr t1 i4_ fun n2 =>
 bif (decide (n2 < (48))) then
 K (.int .i64 (-1)) h
 else
 viaStr f0_ fun t3 =>
 ixStr t3 i4_ fun n4 =>
 bif (decide (n4 > (57))) then
 K (.int .i64 (-1)) h
 else
 viaStr f0_ fun t5 =>
 ixStr t5 i4_ fun n6 =>
 X0 (spec_l01Number_e0 f0_ (w64 ((w64 (i3_ * (10))) + (w64 ((IntKind.wrap .u8 (n6 - (48))))))) (w64 (i4_ + (1)))) h
 else
 spec_l01Number_C0 S K i3_ h
theorem spec_l01Number_link0 (S : SatT) (K : AVal → H → Prop) (X0 : Frame → H → Prop) (f0_ : AVal) (i3_ : Int) (i4_ : Int) (h : H) : spec_l01Number_w0 S K X0 (spec_l01Number_e0 f0_ i3_ i4_) h = spec_l01Number_b0 S K X0 f0_ i3_ i4_ h := by kernel_rfl
theorem spec_l01Number_rule0 (S : SatT) (K : AVal → H → Prop) (f0_ : AVal) (I_ : Int → Int → H → Prop) (m_ : Int → Int → H → Nat)
    (hs : ∀ (X0 : Frame → H → Prop) (i3_ : Int) (i4_ : Int) (h : H), I_ i3_ i4_ h → (∀ (i3_' : Int) (i4_' : Int) (h' : H), I_ i3_' i4_' h' → m_ i3_' i4_' h' < m_ i3_ i4_ h → X0 (spec_l01Number_e0 f0_ i3_' i4_') h') → spec_l01Number_b0 S K X0 f0_ i3_ i4_ h) (i3_ : Int) (i4_ : Int) {h : H} (h0 : I_ i3_ i4_ h) : spec_l01Number_L0 S K f0_ i3_ i4_ h :=
  loop_rule (σ := (Int) × (Int)) (fun s_ => spec_l01Number_e0 f0_ (s_.1) (s_.2)) (fun s_ h => I_ (s_.1) (s_.2) h) (fun s_ h => m_ (s_.1) (s_.2) h)
    (fun X s_ h hi hx => (spec_l01Number_link0 S K X f0_ (s_.1) (s_.2) h).mpr (hs X (s_.1) (s_.2) h hi fun i3_' i4_' h' hi' hm' => hx (i3_', i4_') h' hi' hm')) (i3_, i4_) h0
def spec_l01Number_main (S : SatT) (K : AVal → H → Prop) (x0 : AVal) (h : H) : Prop :=
 viaStr x0 fun t0 =>
 bif ((t0.size : Int) == (0)) then
 K (.int .i64 (-1)) h
 else
 viaStr x0 fun t1 =>
 bif (decide ((t1.size : Int) > (9))) then
 K (.int .i64 (-1)) h
 else
 viaStr x0 fun t2 =>
 bif (decide ((t2.size : Int) > (1))) then
 viaStr x0 fun t3 =>
 ixStr t3 (0) fun n4 =>
 bif (n4 == (48)) then
 K (.int .i64 (-1)) h
 else
 spec_l01Number_L0 S K x0 (0) (0) h
 else
 spec_l01Number_L0 S K x0 (0) (0) h
theorem spec_l01Number_main_link (S : SatT) (K : AVal → H → Prop) (x0 : AVal) (h : H) : cwp S tab spec_l01Number_M [] (bodyOf Try.f113) (kFun tab Try.f113.results.toList K) (fr0 Try.f113 [x0]) h = spec_l01Number_main S K x0 h := by kernel_rfl
theorem spec_l01Number_call (x0 : AVal) (h : H) (K : Int → H → Prop) (hm : spec_l01Number_main (Sat Try.prog) (fun v h' => ∃ r, v = .int .i64 r ∧ K r h') x0 h) : callI (Sat Try.prog) .i64 i_spec_l01Number [x0] h K := by
  have := Sat.ex tok mixed spec_l01Number_M Try.func113 (c := bodyOf Try.f113) (by kernel_rfl) (calls_of Try.func113 (c := bodyOf Try.f113) (by kernel_rfl) (by decide)) ((spec_l01Number_main_link _ _ x0 h).mpr hm)
  obtain ⟨v, h2, h3, r, rfl, h4⟩ := this; exact ⟨r, h2, h3, h4⟩

/-! ### loop.example/g01354/spec.l01Is -/
def spec_l01Is_M : Nat → List Nat := fun i => bif i == 0 then [1, 3] else []
def spec_l01Is_ks5 (S : SatT) (K : AVal → H → Prop) : Kont := kSeq (cwp S tab spec_l01Is_M [] (sub [1, 1, 1] (bodyOf Try.f67)) (kFun tab (Try.f67).results.toList K)) (kFun tab (Try.f67).results.toList K)
def spec_l01Is_e0 (p1_ : Pt) (i3_ : Int) : Frame := [U, .ptr p1_, U, .int .i64 i3_, U, U, U, U, U, U, U, U, U, U, U, U, U, U, U, U, U, U, U, U, U, U, U, U, U, U, U, U, U, U, U, U, U, U, U, U, U, U, U, U, U, U, U, U, U]
def spec_l01Is_w0 (S : SatT) (K : AVal → H → Prop) : (Frame → H → Prop) → Frame → H → Prop := fun X fr h => cwp S tab spec_l01Is_M (spec_l01Is_M 0) (sub [1, 1, 0, 1, 0, 0] (bodyOf Try.f67)) (kSeq (fun fr h => X (mask (spec_l01Is_M 0) fr) h) (kBlk 0 (spec_l01Is_ks5 S K))) fr h
def spec_l01Is_L0 (S : SatT) (K : AVal → H → Prop) (p1_ : Pt) (i3_ : Int) (h : H) : Prop := loopK (spec_l01Is_w0 S K) (spec_l01Is_e0 p1_ i3_) h
def spec_l01Is_C0 (S : SatT) (K : AVal → H → Prop) (h : H) : Prop :=
 K (.bool true) h
def spec_l01Is_b0 (S : SatT) (K : AVal → H → Prop) (X0 : Frame → H → Prop) (p1_ : Pt) (i3_ : Int) (h : H) : Prop :=
 isPt p1_ (
 ldS (Pt.add p1_ 1) h fun s0 =>
 bif (decide (i3_ < (s0.len : Int))) then
 isPt p1_ (
 ldI .i64 (Pt.add p1_ 0) h fun n1 =>
 isPt p1_ (
 ldS (Pt.add p1_ 1) h fun s2 =>
 ixS s2 4 i3_ fun p3 =>
 ldA p3 4 h fun cs4 =>
 callB S i_spec_l01Tile [.int .i64 n1, .agg cs4] h fun b6 h5 =>
 bif (!b6) then
 K (.bool false) h5
 else
 bif (decide (i3_ > (0))) then
 isPt p1_ (
 ldS (Pt.add p1_ 1) h5 fun s7 =>
 ixS s7 4 (w64 (i3_ - (1))) fun p8 =>
 ldA p8 4 h5 fun cs9 =>
 isPt p1_ (
 ldS (Pt.add p1_ 1) h5 fun s10 =>
 ixS s10 4 i3_ fun p11 =>
 ldA p11 4 h5 fun cs12 =>
 callB S i_spec_l01Before [.agg cs9, .agg cs12] h5 fun b14 h13 =>
 bif (!b14) then
 K (.bool false) h13
 else
 X0 (spec_l01Is_e0 p1_ (w64 (i3_ + (1)))) h13))
 else
 X0 (spec_l01Is_e0 p1_ (w64 (i3_ + (1)))) h5))
 else
 spec_l01Is_C0 S K h)
theorem spec_l01Is_link0 (S : SatT) (K : AVal → H → Prop) (X0 : Frame → H → Prop) (p1_ : Pt) (i3_ : Int) (h : H) : spec_l01Is_w0 S K X0 (spec_l01Is_e0 p1_ i3_) h = spec_l01Is_b0 S K X0 p1_ i3_ h := by kernel_rfl
theorem spec_l01Is_rule0 (S : SatT) (K : AVal → H → Prop) (p1_ : Pt) (I_ : Int → H → Prop) (m_ : Int → H → Nat)
    (hs : ∀ (X0 : Frame → H → Prop) (i3_ : Int) (h : H), I_ i3_ h → (∀ (i3_' : Int) (h' : H), I_ i3_' h' → m_ i3_' h' < m_ i3_ h → X0 (spec_l01Is_e0 p1_ i3_') h') → spec_l01Is_b0 S K X0 p1_ i3_ h) (i3_ : Int) {h : H} (h0 : I_ i3_ h) : spec_l01Is_L0 S K p1_ i3_ h :=
  loop_rule (σ := (Int)) (fun s_ => spec_l01Is_e0 p1_ (s_)) (fun s_ h => I_ (s_) h) (fun s_ h => m_ (s_) h)
    (fun X s_ h hi hx => (spec_l01Is_link0 S K X p1_ (s_) h).mpr (hs X (s_) h hi fun i3_' h' hi' hm' => hx (i3_') h' hi' hm')) (i3_) h0
def spec_l01Is_main (S : SatT) (K : AVal → H → Prop) (x0 : List AVal) (h : H) : Prop :=
 newK 2 x0 h fun p0 h1 =>
 isPt p0 (
 ldI .i64 (Pt.add p0 0) h1 fun n2 =>
 callB S i_spec_l01In [.int .i64 n2, .int .i64 (1), .int .i64 (6)] h1 fun b4 h3 =>
 bif (!b4) then
 K (.bool false) h3
 else
 isPt p0 (
 ldS (Pt.add p0 1) h3 fun s5 =>
 bif (decide ((s5.len : Int) > (16))) then
 K (.bool false) h3
 else
 spec_l01Is_L0 S K p0 (0) h3))
theorem spec_l01Is_main_link (S : SatT) (K : AVal → H → Prop) (x0 : List AVal) (h : H) : cwp S tab spec_l01Is_M [] (bodyOf Try.f67) (kFun tab Try.f67.results.toList K) (fr0 Try.f67 [.agg x0]) h = spec_l01Is_main S K x0 h := by kernel_rfl
theorem spec_l01Is_call (x0 : List AVal) (h : H) (K : Bool → H → Prop) (hm : spec_l01Is_main (Sat Try.prog) (fun v h' => ∃ r, v = .bool r ∧ K r h') x0 h) : callB (Sat Try.prog) i_spec_l01Is [.agg x0] h K := by
  have := Sat.ex tok mixed spec_l01Is_M Try.func67 (c := bodyOf Try.f67) (by kernel_rfl) (calls_of Try.func67 (c := bodyOf Try.f67) (by kernel_rfl) (by decide)) ((spec_l01Is_main_link _ _ x0 h).mpr hm)
  obtain ⟨v, h2, h3, r, rfl, h4⟩ := this; exact ⟨r, h2, h3, h4⟩

/-! ### loop.example/g01354/spec.l06Step -/
def spec_l06Step_M : Nat → List Nat := fun i => bif i == 0 then [0, 1, 5, 6] else []
def spec_l06Step_ks2 (S : SatT) (K : AVal → H → Prop) : Kont := kSeq (cwp S tab spec_l06Step_M [] (sub [1, 1, 1] (bodyOf Try.f46)) (kFun tab (Try.f46).results.toList K)) (kFun tab (Try.f46).results.toList K)
def spec_l06Step_e0 (s0_ : Sl) (s1_ : Sl) (s5_ : Sl) (i6_ : Int) : Frame := [.sl s0_, .sl s1_, U, U, U, .sl s5_, .int .i64 i6_, U, U, U, U, U, U, U, U, U, U, U, U, U, U, U, U, U, U, U, U, U, U, U, U, U, U, U, U, U, U, U, U, U, U, U, U, U]
def spec_l06Step_w0 (S : SatT) (K : AVal → H → Prop) : (Frame → H → Prop) → Frame → H → Prop := fun X fr h => cwp S tab spec_l06Step_M (spec_l06Step_M 0) (sub [1, 1, 0, 1, 0, 0] (bodyOf Try.f46)) (kSeq (fun fr h => X (mask (spec_l06Step_M 0) fr) h) (kBlk 0 (spec_l06Step_ks2 S K))) fr h
def spec_l06Step_L0 (S : SatT) (K : AVal → H → Prop) (s0_ : Sl) (s1_ : Sl) (s5_ : Sl) (i6_ : Int) (h : H) : Prop := loopK (spec_l06Step_w0 S K) (spec_l06Step_e0 s0_ s1_ s5_ i6_) h
def spec_l06Step_C0 (S : SatT) (K : AVal → H → Prop) (s5_ : Sl) (h : H) : Prop :=
 K (.sl s5_) h
def spec_l06Step_b0 (S : SatT) (K : AVal → H → Prop) (X0 : Frame → H → Prop) (s0_ : Sl) (s1_ : Sl) (s5_ : Sl) (i6_ : Int) (h : H) : Prop :=
 bif (decide (i6_ < (s0_.len : Int))) then
 ixS s0_ 1 i6_ fun p0 =>
 ldS p0 h fun s1 =>
 ixS s1 1 (0) fun p2 =>
 ldI .i64 p2 h fun n3 =>
 ixS s0_ 1 i6_ fun p4 =>
 ldS p4 h fun s5 =>
 ixS s5 1 (1) fun p6 =>
 ldI .i64 p6 h fun n7 =>
 ixS s5_ 1 n7 fun p8 =>
 ldI .i64 p8 h fun n9 =>
 ixS s1_ 1 n3 fun p10 =>
 ldI .i64 p10 h fun n11 =>
 ixS s5_ 1 n7 fun p12 =>
 st1 p12 (.int .i64 (mnI (w64 (n9 + n11)) (1000000000000001))) h fun h13 =>
 X0 (spec_l06Step_e0 s0_ s1_ s5_ (w64 (i6_ + (1)))) h13
 else
 spec_l06Step_C0 S K s5_ h
theorem spec_l06Step_link0 (S : SatT) (K : AVal → H → Prop) (X0 : Frame → H → Prop) (s0_ : Sl) (s1_ : Sl) (s5_ : Sl) (i6_ : Int) (h : H) : spec_l06Step_w0 S K X0 (spec_l06Step_e0 s0_ s1_ s5_ i6_) h = spec_l06Step_b0 S K X0 s0_ s1_ s5_ i6_ h := by kernel_rfl
theorem spec_l06Step_rule0 (S : SatT) (K : AVal → H → Prop) (s0_ : Sl) (s1_ : Sl) (s5_ : Sl) (I_ : Int → H → Prop) (m_ : Int → H → Nat)
    (hs : ∀ (X0 : Frame → H → Prop) (i6_ : Int) (h : H), I_ i6_ h → (∀ (i6_' : Int) (h' : H), I_ i6_' h' → m_ i6_' h' < m_ i6_ h → X0 (spec_l06Step_e0 s0_ s1_ s5_ i6_') h') → spec_l06Step_b0 S K X0 s0_ s1_ s5_ i6_ h) (i6_ : Int) {h : H} (h0 : I_ i6_ h) : spec_l06Step_L0 S K s0_ s1_ s5_ i6_ h :=
  loop_rule (σ := (Int)) (fun s_ => spec_l06Step_e0 s0_ s1_ s5_ (s_)) (fun s_ h => I_ (s_) h) (fun s_ h => m_ (s_) h)
    (fun X s_ h hi hx => (spec_l06Step_link0 S K X s0_ s1_ s5_ (s_) h).mpr (hs X (s_) h hi fun i6_' h' hi' hm' => hx (i6_') h' hi' hm')) (i6_) h0
def spec_l06Step_main (S : SatT) (K : AVal → H → Prop) (x0 : Sl) (x1 : Sl) (h : H) : Prop :=
 mkS (x1.len : Int) [.int .i64 (0)] h fun s0 h1 =>
 spec_l06Step_L0 S K x0 x1 s0 (0) h1
theorem spec_l06Step_main_link (S : SatT) (K : AVal → H → Prop) (x0 : Sl) (x1 : Sl) (h : H) : cwp S tab spec_l06Step_M [] (bodyOf Try.f46) (kFun tab Try.f46.results.toList K) (fr0 Try.f46 [.sl x0, .sl x1]) h = spec_l06Step_main S K x0 x1 h := by kernel_rfl
theorem spec_l06Step_call (x0 : Sl) (x1 : Sl) (h : H) (K : Sl → H → Prop) (hm : spec_l06Step_main (Sat Try.prog) (fun v h' => ∃ r, v = .sl r ∧ K r h') x0 x1 h) : callS (Sat Try.prog) i_spec_l06Step [.sl x0, .sl x1] h K := by
  have := Sat.ex tok mixed spec_l06Step_M Try.func46 (c := bodyOf Try.f46) (by kernel_rfl) (calls_of Try.func46 (c := bodyOf Try.f46) (by kernel_rfl) (by decide)) ((spec_l06Step_main_link _ _ x0 x1 h).mpr hm)
  obtain ⟨v, h2, h3, r, rfl, h4⟩ := this; exact ⟨r, h2, h3, h4⟩

/-! ### loop.example/g01354/spec.l06Size -/
def spec_l06Size_M : Nat → List Nat := fun i => bif i == 0 then [1, 2, 5, 6] else []
def spec_l06Size_ks2 (S : SatT) (K : AVal → H → Prop) : Kont := kSeq (cwp S tab spec_l06Size_M [] (sub [1, 1, 1] (bodyOf Try.f45)) (kFun tab (Try.f45).results.toList K)) (kFun tab (Try.f45).results.toList K)
def spec_l06Size_e0 (i1_ : Int) (p2_ : Pt) (i5_ : Int) (i6_ : Int) : Frame := [U, .int .i64 i1_, .ptr p2_, U, U, .int .i64 i5_, .int .i64 i6_, U, U, U, U, U, U, U, U, U, U]
def spec_l06Size_w0 (S : SatT) (K : AVal → H → Prop) : (Frame → H → Prop) → Frame → H → Prop := fun X fr h => cwp S tab spec_l06Size_M (spec_l06Size_M 0) (sub [1, 1, 0, 1, 0, 0] (bodyOf Try.f45)) (kSeq (fun fr h => X (mask (spec_l06Size_M 0) fr) h) (kBlk 0 (spec_l06Size_ks2 S K))) fr h
def spec_l06Size_L0 (S : SatT) (K : AVal → H → Prop) (i1_ : Int) (p2_ : Pt) (i5_ : Int) (i6_ : Int) (h : H) : Prop := loopK (spec_l06Size_w0 S K) (spec_l06Size_e0 i1_ p2_ i5_ i6_) h
def spec_l06Size_C0 (S : SatT) (K : AVal → H → Prop) (i5_ : Int) (h : H) : Prop :=
 K (.int .i64 i5_) h
def spec_l06Size_b0 (S : SatT) (K : AVal → H → Prop) (X0 : Frame → H → Prop) (i1_ : Int) (p2_ : Pt) (i5_ : Int) (i6_ : Int) (h : H) : Prop :=
 bif (decide (i6_ < i1_)) then
 isPt p2_ (
 ldI .i64 (Pt.add p2_ 0) h fun n0 =>
 X0 (spec_l06Size_e0 i1_ p2_ (w64 (i5_ * n0)) (w64 (i6_ + (1)))) h)
 else
 spec_l06Size_C0 S K i5_ h
theorem spec_l06Size_link0 (S : SatT) (K : AVal → H → Prop) (X0 : Frame → H → Prop) (i1_ : Int) (p2_ : Pt) (i5_ : Int) (i6_ : Int) (h : H) : spec_l06Size_w0 S K X0 (spec_l06Size_e0 i1_ p2_ i5_ i6_) h = spec_l06Size_b0 S K X0 i1_ p2_ i5_ i6_ h := by kernel_rfl
theorem spec_l06Size_rule0 (S : SatT) (K : AVal → H → Prop) (i1_ : Int) (p2_ : Pt) (I_ : Int → Int → H → Prop) (m_ : Int → Int → H → Nat)
    (hs : ∀ (X0 : Frame → H → Prop) (i5_ : Int) (i6_ : Int) (h : H), I_ i5_ i6_ h → (∀ (i5_' : Int) (i6_' : Int) (h' : H), I_ i5_' i6_' h' → m_ i5_' i6_' h' < m_ i5_ i6_ h → X0 (spec_l06Size_e0 i1_ p2_ i5_' i6_') h') → spec_l06Size_b0 S K X0 i1_ p2_ i5_ i6_ h) (i5_ : Int) (i6_ : Int) {h : H} (h0 : I_ i5_ i6_ h) : spec_l06Size_L0 S K i1_ p2_ i5_ i6_ h :=
  loop_rule (σ := (Int) × (Int)) (fun s_ => spec_l06Size_e0 i1_ p2_ (s_.1) (s_.2)) (fun s_ h => I_ (s_.1) (s_.2) h) (fun s_ h => m_ (s_.1) (s_.2) h)
    (fun X s_ h hi hx => (spec_l06Size_link0 S K X i1_ p2_ (s_.1) (s_.2) h).mpr (hs X (s_.1) (s_.2) h hi fun i5_' i6_' h' hi' hm' => hx (i5_', i6_') h' hi' hm')) (i5_, i6_) h0
def spec_l06Size_main (S : SatT) (K : AVal → H → Prop) (x0 : List AVal) (x1 : Int) (h : H) : Prop :=
 newK 2 x0 h fun p0 h1 =>
 spec_l06Size_L0 S K x1 p0 (1) (0) h1
theorem spec_l06Size_main_link (S : SatT) (K : AVal → H → Prop) (x0 : List AVal) (x1 : Int) (h : H) : cwp S tab spec_l06Size_M [] (bodyOf Try.f45) (kFun tab Try.f45.results.toList K) (fr0 Try.f45 [.agg x0, .int .i64 x1]) h = spec_l06Size_main S K x0 x1 h := by kernel_rfl
theorem spec_l06Size_call (x0 : List AVal) (x1 : Int) (h : H) (K : Int → H → Prop) (hm : spec_l06Size_main (Sat Try.prog) (fun v h' => ∃ r, v = .int .i64 r ∧ K r h') x0 x1 h) : callI (Sat Try.prog) .i64 i_spec_l06Size [.agg x0, .int .i64 x1] h K := by
  have := Sat.ex tok mixed spec_l06Size_M Try.func45 (c := bodyOf Try.f45) (by kernel_rfl) (calls_of Try.func45 (c := bodyOf Try.f45) (by kernel_rfl) (by decide)) ((spec_l06Size_main_link _ _ x0 x1 h).mpr hm)
  obtain ⟨v, h2, h3, r, rfl, h4⟩ := this; exact ⟨r, h2, h3, h4⟩

/-! ### loop.example/g01354/spec.l01Bad -/
def spec_l01Bad_M : Nat → List Nat := fun i => []
def spec_l01Bad_main (S : SatT) (K : AVal → H → Prop) (x0 : Pt) (x1 : List AVal) (h : H) : Prop :=
 newK 2 x1 h fun p0 h1 =>
 newO [.int .i64 (0), .sl Sl.nil] h1 fun p2 h3 =>
 newS 0 4 [] h3 fun s4 h5 =>
 isPt p0 (
 ldS (Pt.add p0 1) h5 fun s6 =>
 app s4 s6 4 h5 fun s7 h8 =>
 callI S .i64 i_spec_l01Next [.ptr x0, .int .i64 (50)] h8 fun n10 h9 =>
 bif (n10 == (0)) then
 newS 3 1 [.int .i64 (0), .int .i64 (7), .int .i64 (-1)] h9 fun s11 h12 =>
 callI S .i64 i_spec_l01Pick [.ptr x0, .sl s11] h12 fun n14 h13 =>
 stN p2 2 [.int .i64 n14, .sl s7] h13 fun h15 =>
 ldA p2 2 h15 fun cs16 =>
 K (.agg cs16) h15
 else
 bif (n10 == (1)) then
 isPt p0 (
 ldI .i64 (Pt.add p0 0) h9 fun n17 =>
 newS 2 1 [.int .i64 (0), .int .i64 (-1)] h9 fun s18 h19 =>
(cell h19 (Pt.add p0 0) = cell h9 (Pt.add p0 0)) ∧ (
 callI S .i64 i_spec_l01Pick [.ptr x0, .sl s18] h19 fun n21 h20 =>
(cell h20 (Pt.add p0 0) = cell h9 (Pt.add p0 0)) ∧ (
 lenA [.int .i64 n17, .int .i64 (0), .int .i64 (0), .int .i64 n21] 4 (
 newS 1 4 (spl [.int .i64 (0), .int .i64 (0), .int .i64 (0), .int .i64 (0)] 0 4 [.int .i64 n17, .int .i64 (0), .int .i64 (0), .int .i64 n21]) h20 fun s22 h23 =>
 app s7 s22 4 h23 fun s24 h25 =>
 isPt p0 (
 ldI .i64 (Pt.add p0 0) h25 fun n26 =>
 stN p2 2 [.int .i64 n26, .sl s24] h25 fun h27 =>
 ldA p2 2 h27 fun cs28 =>
 K (.agg cs28) h27)))))
 else
 bif (n10 == (2)) then
 isPt p0 (
 ldI .i64 (Pt.add p0 0) h9 fun n29 =>
 callA S i_spec_l01DrawTile [.ptr x0, .int .i64 n29] h9 fun cs31 h30 =>
 lenA cs31 4 (
 newS 1 4 (spl [.int .i64 (0), .int .i64 (0), .int .i64 (0), .int .i64 (0)] 0 4 cs31) h30 fun s32 h33 =>
 app s7 s32 4 h33 fun s34 h35 =>
 isPt p0 (
 ldI .i64 (Pt.add p0 0) h35 fun n36 =>
 stN p2 2 [.int .i64 n36, .sl s34] h35 fun h37 =>
 ldA p2 2 h37 fun cs38 =>
 K (.agg cs38) h37)))
 else
 bif (n10 == (3)) then
 bif (decide ((s7.len : Int) > (1))) then
 ixS s7 4 (0) fun p39 =>
 ldA p39 4 h9 fun cs40 =>
 newO [.int .i64 (0), .int .i64 (0), .int .i64 (0), .int .i64 (0)] h9 fun p41 h42 =>
 stN p41 4 cs40 h42 fun h43 =>
 ixS s7 4 (1) fun p44 =>
 ldA p44 4 h43 fun cs45 =>
 ixS s7 4 (0) fun p46 =>
 stN p46 4 cs45 h43 fun h47 =>
 ldA p41 4 h47 fun cs48 =>
 ixS s7 4 (1) fun p49 =>
 stN p49 4 cs48 h47 fun h50 =>
 isPt p0 (
 ldI .i64 (Pt.add p0 0) h50 fun n51 =>
 stN p2 2 [.int .i64 n51, .sl s7] h50 fun h52 =>
 ldA p2 2 h52 fun cs53 =>
 K (.agg cs53) h52)
 else
 isPt p0 (
 ldI .i64 (Pt.add p0 0) h9 fun n54 =>
 stN p2 2 [.int .i64 n54, .sl s7] h9 fun h55 =>
 ldA p2 2 h55 fun cs56 =>
 K (.agg cs56) h55)
 else
 ldA p0 2 h9 fun cs57 =>
 stN p2 2 cs57 h9 fun h58 =>
 ldA p2 2 h58 fun cs59 =>
 K (.agg cs59) h58)
theorem spec_l01Bad_main_link (S : SatT) (K : AVal → H → Prop) (x0 : Pt) (x1 : List AVal) (h : H) : cwp S tab spec_l01Bad_M [] (bodyOf Try.f92) (kFun tab Try.f92.results.toList K) (fr0 Try.f92 [.ptr x0, .agg x1]) h = spec_l01Bad_main S K x0 x1 h := by kernel_rfl
theorem spec_l01Bad_call (x0 : Pt) (x1 : List AVal) (h : H) (K : List AVal → H → Prop) (hm : spec_l01Bad_main (Sat Try.prog) (fun v h' => ∃ r, v = .agg r ∧ K r h') x0 x1 h) : callA (Sat Try.prog) i_spec_l01Bad [.ptr x0, .agg x1] h K := by
  have := Sat.ex tok mixed spec_l01Bad_M Try.func92 (c := bodyOf Try.f92) (by kernel_rfl) (calls_of Try.func92 (c := bodyOf Try.f92) (by kernel_rfl) (by decide)) ((spec_l01Bad_main_link _ _ x0 x1 h).mpr hm)
  obtain ⟨v, h2, h3, r, rfl, h4⟩ := this; exact ⟨r, h2, h3, h4⟩

/-! ### loop.example/g01354/impl.StripSequence -/
def impl_StripSequence_M : Nat → List Nat := fun i => []
def impl_StripSequence_main (S : SatT) (K : AVal → H → Prop) (x0 : List AVal) (x1 : Int) (x2 : Int) (h : H) : Prop :=
 newK 2 x0 h fun p0 h1 =>
 newO [.int .i64 x1] h1 fun p2 h3 =>
 newO [.int .i64 x2] h3 fun p4 h5 =>
 ldA p0 2 h5 fun cs6 =>
 callI S .i64 i_impl_setCode [.agg cs6, .func 38 [.ptr p2, .ptr p4]] h5 fun n8 h7 =>
 bif (n8 != (0)) then
 K (.tuple [.sl Sl.nil, .int .i64 n8]) h7
 else
 ldA p0 2 h7 fun cs9 =>
 ldI .i64 p2 h7 fun n10 =>
 callV S i_impl_stripOf [.agg cs9, .int .i64 n10] h7 fun v12 h11 =>
 viaT v12 fun vs13 =>
 exP vs13 0 fun p14 =>
 viaT v12 fun vs15 =>
 exI .i64 vs15 1 fun n16 =>
 bif (n16 != (0)) then
 K (.tuple [.sl Sl.nil, .int .i64 n16]) h11
 else
 newS 0 1 [] h11 fun s17 h18 =>
 newO [.sl Sl.nil] h18 fun p19 h20 =>
 newO [.bool false] h20 fun p21 h22 =>
 st1 p19 (.sl s17) h22 fun h23 =>
 st1 p21 (.bool true) h23 fun h24 =>
 callV S i_impl_strip_sequence [.ptr p14, .func 41 [], .func 42 [.ptr p19, .ptr p21, .ptr p4]] h24 fun v26 h25 =>
 ldB p21 h25 fun b27 =>
 bif (!b27) then
 K (.tuple [.sl Sl.nil, .int .i64 (3)]) h25
 else
 ldS p19 h25 fun s28 =>
 K (.tuple [.sl s28, .int .i64 (0)]) h25
theorem impl_StripSequence_main_link (S : SatT) (K : AVal → H → Prop) (x0 : List AVal) (x1 : Int) (x2 : Int) (h : H) : cwp S tab impl_StripSequence_M [] (bodyOf Try.f15) (kFun tab Try.f15.results.toList K) (fr0 Try.f15 [.agg x0, .int .i64 x1, .int .i64 x2]) h = impl_StripSequence_main S K x0 x1 x2 h := by kernel_rfl
theorem impl_StripSequence_call (x0 : List AVal) (x1 : Int) (x2 : Int) (h : H) (K : AVal → H → Prop) (hm : impl_StripSequence_main (Sat Try.prog) (fun v h' => K v h') x0 x1 x2 h) : callV (Sat Try.prog) i_impl_StripSequence [.agg x0, .int .i64 x1, .int .i64 x2] h K := by
  have := Sat.ex tok mixed impl_StripSequence_M Try.func15 (c := bodyOf Try.f15) (by kernel_rfl) (calls_of Try.func15 (c := bodyOf Try.f15) (by kernel_rfl) (by decide)) ((impl_StripSequence_main_link _ _ x0 x1 x2 h).mpr hm)
  exact this

/-! ### loop.example/g01354/spec.l01Near -/
def spec_l01Near_M : Nat → List Nat := fun i => []
def spec_l01Near_main (S : SatT) (K : AVal → H → Prop) (x0 : Pt) (x1 : Int) (h : H) : Prop :=
 callI S .i64 i_spec_l01Next [.ptr x0, .int .i64 (14)] h fun n1 h0 =>
 bif (n1 == (0)) then
 newS 4 1 [.int .i64 (-1), .int .i64 (w64 (x1 + (1))), .int .i64 (1099511627776), .int .i64 (-4611686018427387904)] h0 fun s2 h3 =>
 callI S .i64 i_spec_l01Pick [.ptr x0, .sl s2] h3 fun n5 h4 =>
 K (.int .i64 n5) h4
 else
 callI S .i64 i_spec_l01Next [.ptr x0, .int .i64 (w64 (x1 + (1)))] h0 fun n7 h6 =>
 K (.int .i64 n7) h6
theorem spec_l01Near_main_link (S : SatT) (K : AVal → H → Prop) (x0 : Pt) (x1 : Int) (h : H) : cwp S tab spec_l01Near_M [] (bodyOf Try.f70) (kFun tab Try.f70.results.toList K) (fr0 Try.f70 [.ptr x0, .int .i64 x1]) h = spec_l01Near_main S K x0 x1 h := by kernel_rfl
theorem spec_l01Near_call (x0 : Pt) (x1 : Int) (h : H) (K : Int → H → Prop) (hm : spec_l01Near_main (Sat Try.prog) (fun v h' => ∃ r, v = .int .i64 r ∧ K r h') x0 x1 h) : callI (Sat Try.prog) .i64 i_spec_l01Near [.ptr x0, .int .i64 x1] h K := by
  have := Sat.ex tok mixed spec_l01Near_M Try.func70 (c := bodyOf Try.f70) (by kernel_rfl) (calls_of Try.func70 (c := bodyOf Try.f70) (by kernel_rfl) (by decide)) ((spec_l01Near_main_link _ _ x0 x1 h).mpr hm)
  obtain ⟨v, h2, h3, r, rfl, h4⟩ := this; exact ⟨r, h2, h3, h4⟩

/-! ### loop.example/g01354/spec.DrawCountColumns -/
def spec_DrawCountColumns_M : Nat → List Nat := fun i => []
def spec_DrawCountColumns_main (S : SatT) (K : AVal → H → Prop) (x0 : Sl) (h : H) : Prop :=
 newO [.int .i64 (0), .sl Sl.nil] h fun p0 h1 =>
 callP S i_spec_l01From [.sl x0] h1 fun p3 h2 =>
 callV S i_spec_l06Draw [.ptr p3] h2 fun v5 h4 =>
 viaT v5 fun vs6 =>
 exA vs6 0 fun cs7 =>
 viaT v5 fun vs8 =>
 exI .i64 vs8 1 fun n9 =>
 newO [.int .i64 (0), .sl Sl.nil] h4 fun p10 h11 =>
 stN p10 2 cs7 h11 fun h12 =>
 ldA p10 2 h12 fun cs13 =>
 stN p0 2 cs13 h12 fun h14 =>
 ldA p0 2 h14 fun cs15 =>
 K (.tuple [.agg cs15, .int .i64 n9]) h14
theorem spec_DrawCountColumns_main_link (S : SatT) (K : AVal → H → Prop) (x0 : Sl) (h : H) : cwp S tab spec_DrawCountColumns_M [] (bodyOf Try.f30) (kFun tab Try.f30.results.toList K) (fr0 Try.f30 [.sl x0]) h = spec_DrawCountColumns_main S K x0 h := by kernel_rfl
theorem spec_DrawCountColumns_call (x0 : Sl) (h : H) (K : AVal → H → Prop) (hm : spec_DrawCountColumns_main (Sat Try.prog) (fun v h' => K v h') x0 h) : callV (Sat Try.prog) i_spec_DrawCountColumns [.sl x0] h K := by
  have := Sat.ex tok mixed spec_DrawCountColumns_M Try.func30 (c := bodyOf Try.f30) (by kernel_rfl) (calls_of Try.func30 (c := bodyOf Try.f30) (by kernel_rfl) (by decide)) ((spec_DrawCountColumns_main_link _ _ x0 h).mpr hm)
  exact this

/-! ### loop.example/g01354/spec.ColumnTable -/
def spec_ColumnTable_M : Nat → List Nat := fun i => []
def spec_ColumnTable_main (S : SatT) (K : AVal → H → Prop) (x0 : List AVal) (x1 : Int) (h : H) : Prop :=
 newK 2 x0 h fun p0 h1 =>
 ldA p0 2 h1 fun cs2 =>
 callV S i_spec_l06Lasting [.agg cs2, .int .i64 x1] h1 fun v4 h3 =>
 viaT v4 fun vs5 =>
 exS vs5 0 fun s6 =>
 viaT v4 fun vs7 =>
 exS vs7 1 fun s8 =>
 viaT v4 fun vs9 =>
 exI .i64 vs9 2 fun n10 =>
 bif (n10 != (0)) then
 K (.tuple [.sl Sl.nil, .int .i64 n10]) h3
 else
 K (.tuple [.sl s8, .int .i64 (0)]) h3
theorem spec_ColumnTable_main_link (S : SatT) (K : AVal → H → Prop) (x0 : List AVal) (x1 : Int) (h : H) : cwp S tab spec_ColumnTable_M [] (bodyOf Try.f8) (kFun tab Try.f8.results.toList K) (fr0 Try.f8 [.agg x0, .int .i64 x1]) h = spec_ColumnTable_main S K x0 x1 h := by kernel_rfl
theorem spec_ColumnTable_call (x0 : List AVal) (x1 : Int) (h : H) (K : AVal → H → Prop) (hm : spec_ColumnTable_main (Sat Try.prog) (fun v h' => K v h') x0 x1 h) : callV (Sat Try.prog) i_spec_ColumnTable [.agg x0, .int .i64 x1] h K := by
  have := Sat.ex tok mixed spec_ColumnTable_M Try.func8 (c := bodyOf Try.f8) (by kernel_rfl) (calls_of Try.func8 (c := bodyOf Try.f8) (by kernel_rfl) (by decide)) ((spec_ColumnTable_main_link _ _ x0 x1 h).mpr hm)
  exact this

/-! ### loop.example/g01354/spec.l01Names -/
def spec_l01Names_M : Nat → List Nat := fun i => []
def spec_l01Names_main (S : SatT) (K : AVal → H → Prop) (h : H) : Prop :=
 newS 8 1 [.str (⟨#[112, 108, 97, 105, 110]⟩ : ByteArray), .str (⟨#[99, 104, 101, 115, 115]⟩ : ByteArray), .str (⟨#[119, 105, 114, 101, 115]⟩ : ByteArray), .str (⟨#[98, 101, 110, 100, 115]⟩ : ByteArray), .str (⟨#[115, 117, 109, 115]⟩ : ByteArray), .str (⟨#[99, 97, 114, 114, 121]⟩ : ByteArray), .str (⟨#[119, 97, 108, 108]⟩ : ByteArray), .str (⟨#[119, 104, 101, 101, 108]⟩ : ByteArray)] h fun s0 h1 =>
 K (.sl s0) h1
theorem spec_l01Names_main_link (S : SatT) (K : AVal → H → Prop) (h : H) : cwp S tab spec_l01Names_M [] (bodyOf Try.f94) (kFun tab Try.f94.results.toList K) (fr0 Try.f94 []) h = spec_l01Names_main S K h := by kernel_rfl
theorem spec_l01Names_call (h : H) (K : Sl → H → Prop) (hm : spec_l01Names_main (Sat Try.prog) (fun v h' => ∃ r, v = .sl r ∧ K r h') h) : callS (Sat Try.prog) i_spec_l01Names [] h K := by
  have := Sat.ex tok mixed spec_l01Names_M Try.func94 (c := bodyOf Try.f94) (by kernel_rfl) (calls_of Try.func94 (c := bodyOf Try.f94) (by kernel_rfl) (by decide)) ((spec_l01Names_main_link _ _ h).mpr hm)
  obtain ⟨v, h2, h3, r, rfl, h4⟩ := this; exact ⟨r, h2, h3, h4⟩

/-! ### loop.example/g01354/impl.isTile -/
def impl_isTile_M : Nat → List Nat := fun i => []
def impl_isTile_main (S : SatT) (K : AVal → H → Prop) (x0 : List AVal) (x1 : Int) (h : H) : Prop :=
 newK 4 x0 h fun p0 h1 =>
 newO [.int .i64 x1] h1 fun p2 h3 =>
 cutA p0 4 1 (0) ((4 : Nat) : Int) fun s4 =>
 callB S i_slices_ContainsFunc_s_int64_int64_ [.sl s4, .func 102 [.ptr p2]] h3 fun b6 h5 =>
 K (.bool (!b6)) h5
theorem impl_isTile_main_link (S : SatT) (K : AVal → H → Prop) (x0 : List AVal) (x1 : Int) (h : H) : cwp S tab impl_isTile_M [] (bodyOf Try.f89) (kFun tab Try.f89.results.toList K) (fr0 Try.f89 [.agg x0, .int .i64 x1]) h = impl_isTile_main S K x0 x1 h := by kernel_rfl
theorem impl_isTile_call (x0 : List AVal) (x1 : Int) (h : H) (K : Bool → H → Prop) (hm : impl_isTile_main (Sat Try.prog) (fun v h' => ∃ r, v = .bool r ∧ K r h') x0 x1 h) : callB (Sat Try.prog) i_impl_isTile [.agg x0, .int .i64 x1] h K := by
  have := Sat.ex tok mixed impl_isTile_M Try.func89 (c := bodyOf Try.f89) (by kernel_rfl) (calls_of Try.func89 (c := bodyOf Try.f89) (by kernel_rfl) (by decide)) ((impl_isTile_main_link _ _ x0 x1 h).mpr hm)
  obtain ⟨v, h2, h3, r, rfl, h4⟩ := this; exact ⟨r, h2, h3, h4⟩

/-! ### loop.example/g01354/spec.DrawColumnTable -/
def spec_DrawColumnTable_M : Nat → List Nat := fun i => []
def spec_DrawColumnTable_main (S : SatT) (K : AVal → H → Prop) (x0 : Sl) (h : H) : Prop :=
 newO [.int .i64 (0), .sl Sl.nil] h fun p0 h1 =>
 callV S i_spec_DrawCountColumns [.sl x0] h1 fun v3 h2 =>
 viaT v3 fun vs4 =>
 exA vs4 0 fun cs5 =>
 viaT v3 fun vs6 =>
 exI .i64 vs6 1 fun n7 =>
 stN p0 2 cs5 h2 fun h8 =>
 ldA p0 2 h8 fun cs9 =>
 K (.tuple [.agg cs9, .int .i64 n7]) h8
theorem spec_DrawColumnTable_main_link (S : SatT) (K : AVal → H → Prop) (x0 : Sl) (h : H) : cwp S tab spec_DrawColumnTable_M [] (bodyOf Try.f6) (kFun tab Try.f6.results.toList K) (fr0 Try.f6 [.sl x0]) h = spec_DrawColumnTable_main S K x0 h := by kernel_rfl
theorem spec_DrawColumnTable_call (x0 : Sl) (h : H) (K : AVal → H → Prop) (hm : spec_DrawColumnTable_main (Sat Try.prog) (fun v h' => K v h') x0 h) : callV (Sat Try.prog) i_spec_DrawColumnTable [.sl x0] h K := by
  have := Sat.ex tok mixed spec_DrawColumnTable_M Try.func6 (c := bodyOf Try.f6) (by kernel_rfl) (calls_of Try.func6 (c := bodyOf Try.f6) (by kernel_rfl) (by decide)) ((spec_DrawColumnTable_main_link _ _ x0 h).mpr hm)
  exact this

/-! ### loop.example/g01354/impl.within -/
def impl_within_M : Nat → List Nat := fun i => []
def impl_within_main (S : SatT) (K : AVal → H → Prop) (x0 : Int) (x1 : Int) (x2 : Int) (h : H) : Prop :=
 bif (decide (x0 ≥ x1)) then
 K (.bool (decide (x0 ≤ x2))) h
 else
 K (.bool false) h
theorem impl_within_main_link (S : SatT) (K : AVal → H → Prop) (x0 : Int) (x1 : Int) (x2 : Int) (h : H) : cwp S tab impl_within_M [] (bodyOf Try.f39) (kFun tab Try.f39.results.toList K) (fr0 Try.f39 [.int .i64 x0, .int .i64 x1, .int .i64 x2]) h = impl_within_main S K x0 x1 x2 h := by kernel_rfl
theorem impl_within_call (x0 : Int) (x1 : Int) (x2 : Int) (h : H) (K : Bool → H → Prop) (hm : impl_within_main (Sat Try.prog) (fun v h' => ∃ r, v = .bool r ∧ K r h') x0 x1 x2 h) : callB (Sat Try.prog) i_impl_within [.int .i64 x0, .int .i64 x1, .int .i64 x2] h K := by
  have := Sat.ex tok mixed impl_within_M Try.func39 (c := bodyOf Try.f39) (by kernel_rfl) (calls_of Try.func39 (c := bodyOf Try.f39) (by kernel_rfl) (by decide)) ((impl_within_main_link _ _ x0 x1 x2 h).mpr hm)
  obtain ⟨v, h2, h3, r, rfl, h4⟩ := this; exact ⟨r, h2, h3, h4⟩

/-! ### loop.example/g01354/impl.CountRows$1 -/
def impl_CountRows_1_M : Nat → List Nat := fun i => []
def impl_CountRows_1_main (S : SatT) (K : AVal → H → Prop) (x0 : Pt) (h : H) : Prop :=
 ldI .i64 x0 h fun n0 =>
 callB S i_impl_within [.int .i64 n0, .int .i64 (1), .int .i64 (40)] h fun b2 h1 =>
 K (.bool b2) h1
theorem impl_CountRows_1_main_link (S : SatT) (K : AVal → H → Prop) (x0 : Pt) (h : H) : cwp S tab impl_CountRows_1_M [] (bodyOf Try.f48) (kFun tab Try.f48.results.toList K) (fr0 Try.f48 [.ptr x0]) h = impl_CountRows_1_main S K x0 h := by kernel_rfl
theorem impl_CountRows_1_call (x0 : Pt) (h : H) (K : Bool → H → Prop) (hm : impl_CountRows_1_main (Sat Try.prog) (fun v h' => ∃ r, v = .bool r ∧ K r h') x0 h) : callB (Sat Try.prog) i_impl_CountRows_1 [.ptr x0] h K := by
  have := Sat.ex tok mixed impl_CountRows_1_M Try.func48 (c := bodyOf Try.f48) (by kernel_rfl) (calls_of Try.func48 (c := bodyOf Try.f48) (by kernel_rfl) (by decide)) ((impl_CountRows_1_main_link _ _ x0 h).mpr hm)
  obtain ⟨v, h2, h3, r, rfl, h4⟩ := this; exact ⟨r, h2, h3, h4⟩

/-! ### loop.example/g01354/impl.stripOf$1 -/
def impl_stripOf_1_M : Nat → List Nat := fun i => []
def impl_stripOf_1_main (S : SatT) (K : AVal → H → Prop) (x0 : Pt) (h : H) : Prop :=
 ldI .i64 x0 h fun n0 =>
 callB S i_impl_within [.int .i64 n0, .int .i64 (1), .int .i64 (4)] h fun b2 h1 =>
 K (.bool b2) h1
theorem impl_stripOf_1_main_link (S : SatT) (K : AVal → H → Prop) (x0 : Pt) (h : H) : cwp S tab impl_stripOf_1_M [] (bodyOf Try.f65) (kFun tab Try.f65.results.toList K) (fr0 Try.f65 [.ptr x0]) h = impl_stripOf_1_main S K x0 h := by kernel_rfl
theorem impl_stripOf_1_call (x0 : Pt) (h : H) (K : Bool → H → Prop) (hm : impl_stripOf_1_main (Sat Try.prog) (fun v h' => ∃ r, v = .bool r ∧ K r h') x0 h) : callB (Sat Try.prog) i_impl_stripOf_1 [.ptr x0] h K := by
  have := Sat.ex tok mixed impl_stripOf_1_M Try.func65 (c := bodyOf Try.f65) (by kernel_rfl) (calls_of Try.func65 (c := bodyOf Try.f65) (by kernel_rfl) (by decide)) ((impl_stripOf_1_main_link _ _ x0 h).mpr hm)
  obtain ⟨v, h2, h3, r, rfl, h4⟩ := this; exact ⟨r, h2, h3, h4⟩

/-! ### loop.example/g01354/spec.l01Own -/
def spec_l01Own_M : Nat → List Nat := fun i => []
def spec_l01Own_main (S : SatT) (K : AVal → H → Prop) (x0 : Sl) (h : H) : Prop :=
 newS 0 1 [] h fun s0 h1 =>
 app s0 x0 1 h1 fun s2 h3 =>
 K (.sl s2) h3
theorem spec_l01Own_main_link (S : SatT) (K : AVal → H → Prop) (x0 : Sl) (h : H) : cwp S tab spec_l01Own_M [] (bodyOf Try.f80) (kFun tab Try.f80.results.toList K) (fr0 Try.f80 [.sl x0]) h = spec_l01Own_main S K x0 h := by kernel_rfl
theorem spec_l01Own_call (x0 : Sl) (h : H) (K : Sl → H → Prop) (hm : spec_l01Own_main (Sat Try.prog) (fun v h' => ∃ r, v = .sl r ∧ K r h') x0 h) : callS (Sat Try.prog) i_spec_l01Own [.sl x0] h K := by
  have := Sat.ex tok mixed spec_l01Own_M Try.func80 (c := bodyOf Try.f80) (by kernel_rfl) (calls_of Try.func80 (c := bodyOf Try.f80) (by kernel_rfl) (by decide)) ((spec_l01Own_main_link _ _ x0 h).mpr hm)
  obtain ⟨v, h2, h3, r, rfl, h4⟩ := this; exact ⟨r, h2, h3, h4⟩

/-! ### (*loop.example/g01354/impl.strip).lasting -/
def impl_strip_lasting_M : Nat → List Nat := fun i => bif i == 4 then [4, 5, 6, 7, 9, 64, 65, 66] else bif i == 2 then [0, 4, 5, 6, 7, 9, 51, 52] else bif i == 0 then [0, 4, 5, 6, 7, 25, 26] else []
def impl_strip_lasting_ks3 (S : SatT) (K : AVal → H → Prop) : Kont := kSeq (cwp S tab impl_strip_lasting_M [] (sub [1, 1, 1, 1] (bodyOf Try.f62)) (kFun tab (Try.f62).results.toList K)) (kFun tab (Try.f62).results.toList K)
def impl_strip_lasting_e0 (p0_ : Pt) (s4_ : Sl) (s5_ : Sl) (s6_ : Sl) (s7_ : Sl) (i25_ : Int) (i26_ : Int) : Frame := [.ptr p0_, U, U, U, .sl s4_, .sl s5_, .sl s6_, .sl s7_, U, U, U, U, U, U, U, U, U, U, U, U, U, U, U, U, U, .int .i64 i25_, .int .i64 i26_, U, U, U, U, U, U, U, U, U, U, U, U, U, U, U, U, U, U, U, U, U, U, U, U, U, U, U, U, U, U, U, U, U, U, U, U, U, U, U, U, U, U, U, U, U, U, U, U, U, U, U, U, U, U, U, U, U, U, U, U, U, U, U, U, U, U, U, U, U, U, U, U, U, U, U]
def impl_strip_lasting_w0 (S : SatT) (K : AVal → H → Prop) : (Frame → H → Prop) → Frame → H → Prop := fun X fr h => cwp S tab impl_strip_lasting_M (impl_strip_lasting_M 0) (sub [1, 1, 1, 0, 1, 0, 0] (bodyOf Try.f62)) (kSeq (fun fr h => X (mask (impl_strip_lasting_M 0) fr) h) (kBlk 0 (impl_strip_lasting_ks3 S K))) fr h
def impl_strip_lasting_L0 (S : SatT) (K : AVal → H → Prop) (p0_ : Pt) (s4_ : Sl) (s5_ : Sl) (s6_ : Sl) (s7_ : Sl) (i25_ : Int) (i26_ : Int) (h : H) : Prop := loopK (impl_strip_lasting_w0 S K) (impl_strip_lasting_e0 p0_ s4_ s5_ s6_ s7_ i25_ i26_) h
def impl_strip_lasting_ks12 (S : SatT) (K : AVal → H → Prop) : Kont := kSeq (cwp S tab impl_strip_lasting_M [] (sub [1, 1, 1, 1, 1, 1] (bodyOf Try.f62)) (kFun tab (Try.f62).results.toList K)) (kFun tab (Try.f62).results.toList K)
def impl_strip_lasting_e2 (p0_ : Pt) (s4_ : Sl) (s5_ : Sl) (s6_ : Sl) (s7_ : Sl) (s9_ : Sl) (i51_ : Int) (i52_ : Int) : Frame := [.ptr p0_, U, U, U, .sl s4_, .sl s5_, .sl s6_, .sl s7_, U, .sl s9_, U, U, U, U, U, U, U, U, U, U, U, U, U, U, U, U, U, U, U, U, U, U, U, U, U, U, U, U, U, U, U, U, U, U, U, U, U, U, U, U, U, .int .i64 i51_, .int .i64 i52_, U, U, U, U, U, U, U, U, U, U, U, U, U, U, U, U, U, U, U, U, U, U, U, U, U, U, U, U, U, U, U, U, U, U, U, U, U, U, U, U, U, U, U, U, U, U, U, U, U]
def impl_strip_lasting_w2 (S : SatT) (K : AVal → H → Prop) : (Frame → H → Prop) → Frame → H → Prop := fun X fr h => cwp S tab impl_strip_lasting_M (impl_strip_lasting_M 2) (sub [1, 1, 1, 1, 1, 0, 1, 0, 0] (bodyOf Try.f62)) (kSeq (fun fr h => X (mask (impl_strip_lasting_M 2) fr) h) (kBlk 2 (impl_strip_lasting_ks12 S K))) fr h
def impl_strip_lasting_L2 (S : SatT) (K : AVal → H → Prop) (p0_ : Pt) (s4_ : Sl) (s5_ : Sl) (s6_ : Sl) (s7_ : Sl) (s9_ : Sl) (i51_ : Int) (i52_ : Int) (h : H) : Prop := loopK (impl_strip_lasting_w2 S K) (impl_strip_lasting_e2 p0_ s4_ s5_ s6_ s7_ s9_ i51_ i52_) h
def impl_strip_lasting_ks17 (S : SatT) (K : AVal → H → Prop) : Kont := kSeq (cwp S tab impl_strip_lasting_M [] (sub [1, 1, 1, 1, 1, 1, 1] (bodyOf Try.f62)) (kFun tab (Try.f62).results.toList K)) (kFun tab (Try.f62).results.toList K)
def impl_strip_lasting_e4 (s4_ : Sl) (s5_ : Sl) (s6_ : Sl) (s7_ : Sl) (s9_ : Sl) (s64_ : Sl) (i65_ : Int) (i66_ : Int) : Frame := [U, U, U, U, .sl s4_, .sl s5_, .sl s6_, .sl s7_, U, .sl s9_, U, U, U, U, U, U, U, U, U, U, U, U, U, U, U, U, U, U, U, U, U, U, U, U, U, U, U, U, U, U, U, U, U, U, U, U, U, U, U, U, U, U, U, U, U, U, U, U, U, U, U, U, U, U, .sl s64_, .int .i64 i65_, .int .i64 i66_, U, U, U, U, U, U, U, U, U, U, U, U, U, U, U, U, U, U, U, U, U, U, U, U, U, U, U, U, U, U, U, U, U, U, U]
def impl_strip_lasting_w4 (S : SatT) (K : AVal → H → Prop) : (Frame → H → Prop) → Frame → H → Prop := fun X fr h => cwp S tab impl_strip_lasting_M (impl_strip_lasting_M 4) (sub [1, 1, 1, 1, 1, 1, 0, 1, 0, 0] (bodyOf Try.f62)) (kSeq (fun fr h => X (mask (impl_strip_lasting_M 4) fr) h) (kBlk 4 (impl_strip_lasting_ks17 S K))) fr h
def impl_strip_lasting_L4 (S : SatT) (K : AVal → H → Prop) (s4_ : Sl) (s5_ : Sl) (s6_ : Sl) (s7_ : Sl) (s9_ : Sl) (s64_ : Sl) (i65_ : Int) (i66_ : Int) (h : H) : Prop := loopK (impl_strip_lasting_w4 S K) (impl_strip_lasting_e4 s4_ s5_ s6_ s7_ s9_ s64_ i65_ i66_) h
def impl_strip_lasting_C4 (S : SatT) (K : AVal → H → Prop) (s6_ : Sl) (s9_ : Sl) (h : H) : Prop :=
 K (.tuple [.sl s6_, .sl s9_]) h
def impl_strip_lasting_b4 (S : SatT) (K : AVal → H → Prop) (X4 : Frame → H → Prop) (s4_ : Sl) (s5_ : Sl) (s6_ : Sl) (s7_ : Sl) (s9_ : Sl) (s64_ : Sl) (i65_ : Int) (i66_ : Int) (h : H) : Prop :=
 bif (decide (i66_ < i65_)) then
 ixS s64_ 3 i66_ fun p0 =>
 ldA p0 3 h fun cs1 =>
 newO [.int .i64 (0), .int .i64 (0), .int .i64 (0)] h fun p2 h3 =>
 stN p2 3 cs1 h3 fun h4 =>
 ixA p2 3 1 (0) fun p5 =>
 ldI .i64 p5 h4 fun n6 =>
 ixS s4_ 1 n6 fun p7 =>
 ldB p7 h4 fun b8 =>
 bif b8 then
 ixA p2 3 1 (1) fun p9 =>
 ldI .i64 p9 h4 fun n10 =>
 ixS s5_ 1 n10 fun p11 =>
 ldB p11 h4 fun b12 =>
 bif b12 then
 ixA p2 3 1 (0) fun p13 =>
 ldI .i64 p13 h4 fun n14 =>
 ixS s7_ 1 n14 fun p15 =>
 ldI .i64 p15 h4 fun n16 =>
 ixS s9_ 1 n16 fun p17 =>
 ldS p17 h4 fun s18 =>
 ixA p2 3 1 (1) fun p19 =>
 ldI .i64 p19 h4 fun n20 =>
 ixS s7_ 1 n20 fun p21 =>
 ldI .i64 p21 h4 fun n22 =>
 ixS s18 1 n22 fun p23 =>
 ldI .i64 p23 h4 fun n24 =>
 ixS s18 1 n22 fun p25 =>
 st1 p25 (.int .i64 (w64 (n24 + (1)))) h4 fun h26 =>
 X4 (impl_strip_lasting_e4 s4_ s5_ s6_ s7_ s9_ s64_ i65_ (w64 (i66_ + (1)))) h26
 else
 X4 (impl_strip_lasting_e4 s4_ s5_ s6_ s7_ s9_ s64_ i65_ (w64 (i66_ + (1)))) h4
 else
 X4 (impl_strip_lasting_e4 s4_ s5_ s6_ s7_ s9_ s64_ i65_ (w64 (i66_ + (1)))) h4
 else
 impl_strip_lasting_C4 S K s6_ s9_ h
theorem impl_strip_lasting_link4 (S : SatT) (K : AVal → H → Prop) (X4 : Frame → H → Prop) (s4_ : Sl) (s5_ : Sl) (s6_ : Sl) (s7_ : Sl) (s9_ : Sl) (s64_ : Sl) (i65_ : Int) (i66_ : Int) (h : H) : impl_strip_lasting_w4 S K X4 (impl_strip_lasting_e4 s4_ s5_ s6_ s7_ s9_ s64_ i65_ i66_) h = impl_strip_lasting_b4 S K X4 s4_ s5_ s6_ s7_ s9_ s64_ i65_ i66_ h := by kernel_rfl
theorem impl_strip_lasting_rule4 (S : SatT) (K : AVal → H → Prop) (s4_ : Sl) (s5_ : Sl) (s6_ : Sl) (s7_ : Sl) (s9_ : Sl) (s64_ : Sl) (i65_ : Int) (I_ : Int → H → Prop) (m_ : Int → H → Nat)
    (hs : ∀ (X4 : Frame → H → Prop) (i66_ : Int) (h : H), I_ i66_ h → (∀ (i66_' : Int) (h' : H), I_ i66_' h' → m_ i66_' h' < m_ i66_ h → X4 (impl_strip_lasting_e4 s4_ s5_ s6_ s7_ s9_ s64_ i65_ i66_') h') → impl_strip_lasting_b4 S K X4 s4_ s5_ s6_ s7_ s9_ s64_ i65_ i66_ h) (i66_ : Int) {h : H} (h0 : I_ i66_ h) : impl_strip_lasting_L4 S K s4_ s5_ s6_ s7_ s9_ s64_ i65_ i66_ h :=
  loop_rule (σ := (Int)) (fun s_ => impl_strip_lasting_e4 s4_ s5_ s6_ s7_ s9_ s64_ i65_ (s_)) (fun s_ h => I_ (s_) h) (fun s_ h => m_ (s_) h)
    (fun X s_ h hi hx => (impl_strip_lasting_link4 S K X s4_ s5_ s6_ s7_ s9_ s64_ i65_ (s_) h).mpr (hs X (s_) h hi fun i66_' h' hi' hm' => hx (i66_') h' hi' hm')) (i66_) h0
def impl_strip_lasting_C2 (S : SatT) (K : AVal → H → Prop) (p0_ : Pt) (s4_ : Sl) (s5_ : Sl) (s6_ : Sl) (s7_ : Sl) (s9_ : Sl) (h : H) : Prop :=
 nilC (.ptr p0_) (
 isPt p0_ (
 ldS (Pt.add p0_ 4) h fun s0 =>
 impl_strip_lasting_L4 S K s4_ s5_ s6_ s7_ s9_ s0 (s0.len : Int) (0) h))
def impl_strip_lasting_b2 (S : SatT) (K : AVal → H → Prop) (X2 : Frame → H → Prop) (p0_ : Pt) (s4_ : Sl) (s5_ : Sl) (s6_ : Sl) (s7_ : Sl) (s9_ : Sl) (i51_ : Int) (i52_ : Int) (h : H) : Prop :=
 bif (decide (i52_ < i51_)) then
 mkS (s6_.len : Int) [.int .i64 (0)] h fun s0 h1 =>
 newS 1 1 [.sl s0] h1 fun s2 h3 =>
 app s9_ s2 1 h3 fun s4 h5 =>
 X2 (impl_strip_lasting_e2 p0_ s4_ s5_ s6_ s7_ s4 i51_ (w64 (i52_ + (1)))) h5
 else
 impl_strip_lasting_C2 S K p0_ s4_ s5_ s6_ s7_ s9_ h
theorem impl_strip_lasting_link2 (S : SatT) (K : AVal → H → Prop) (X2 : Frame → H → Prop) (p0_ : Pt) (s4_ : Sl) (s5_ : Sl) (s6_ : Sl) (s7_ : Sl) (s9_ : Sl) (i51_ : Int) (i52_ : Int) (h : H) : impl_strip_lasting_w2 S K X2 (impl_strip_lasting_e2 p0_ s4_ s5_ s6_ s7_ s9_ i51_ i52_) h = impl_strip_lasting_b2 S K X2 p0_ s4_ s5_ s6_ s7_ s9_ i51_ i52_ h := by kernel_rfl
theorem impl_strip_lasting_rule2 (S : SatT) (K : AVal → H → Prop) (p0_ : Pt) (s4_ : Sl) (s5_ : Sl) (s6_ : Sl) (s7_ : Sl) (i51_ : Int) (I_ : Sl → Int → H → Prop) (m_ : Sl → Int → H → Nat)
    (hs : ∀ (X2 : Frame → H → Prop) (s9_ : Sl) (i52_ : Int) (h : H), I_ s9_ i52_ h → (∀ (s9_' : Sl) (i52_' : Int) (h' : H), I_ s9_' i52_' h' → m_ s9_' i52_' h' < m_ s9_ i52_ h → X2 (impl_strip_lasting_e2 p0_ s4_ s5_ s6_ s7_ s9_' i51_ i52_') h') → impl_strip_lasting_b2 S K X2 p0_ s4_ s5_ s6_ s7_ s9_ i51_ i52_ h) (s9_ : Sl) (i52_ : Int) {h : H} (h0 : I_ s9_ i52_ h) : impl_strip_lasting_L2 S K p0_ s4_ s5_ s6_ s7_ s9_ i51_ i52_ h :=
  loop_rule (σ := (Sl) × (Int)) (fun s_ => impl_strip_lasting_e2 p0_ s4_ s5_ s6_ s7_ (s_.1) i51_ (s_.2)) (fun s_ h => I_ (s_.1) (s_.2) h) (fun s_ h => m_ (s_.1) (s_.2) h)
    (fun X s_ h hi hx => (impl_strip_lasting_link2 S K X p0_ s4_ s5_ s6_ s7_ (s_.1) i51_ (s_.2) h).mpr (hs X (s_.1) (s_.2) h hi fun s9_' i52_' h' hi' hm' => hx (s9_', i52_') h' hi' hm')) (s9_, i52_) h0
def impl_strip_lasting_C0 (S : SatT) (K : AVal → H → Prop) (p0_ : Pt) (s4_ : Sl) (s5_ : Sl) (s6_ : Sl) (s7_ : Sl) (h : H) : Prop :=
 newS 0 1 [] h fun s0 h1 =>
 impl_strip_lasting_L2 S K p0_ s4_ s5_ s6_ s7_ s0 (s6_.len : Int) (0) h1
def impl_strip_lasting_b0 (S : SatT) (K : AVal → H → Prop) (X0 : Frame → H → Prop) (p0_ : Pt) (s4_ : Sl) (s5_ : Sl) (s6_ : Sl) (s7_ : Sl) (i25_ : Int) (i26_ : Int) (h : H) : Prop :=
 bif (decide (i26_ < i25_)) then
 ixS s4_ 1 i26_ fun p0 =>
 ldB p0 h fun b1 =>
 bif b1 then
 ixS s5_ 1 i26_ fun p2 =>
 ldB p2 h fun b3 =>
 bif b3 then
 ixS s7_ 1 i26_ fun p4 =>
 st1 p4 (.int .i64 (s6_.len : Int)) h fun h5 =>
 newS 1 1 [.int .i64 i26_] h5 fun s6 h7 =>
 app s6_ s6 1 h7 fun s8 h9 =>
 X0 (impl_strip_lasting_e0 p0_ s4_ s5_ s8 s7_ i25_ (w64 (i26_ + (1)))) h9
 else
 X0 (impl_strip_lasting_e0 p0_ s4_ s5_ s6_ s7_ i25_ (w64 (i26_ + (1)))) h
 else
 X0 (impl_strip_lasting_e0 p0_ s4_ s5_ s6_ s7_ i25_ (w64 (i26_ + (1)))) h
 else
 impl_strip_lasting_C0 S K p0_ s4_ s5_ s6_ s7_ h
theorem impl_strip_lasting_link0 (S : SatT) (K : AVal → H → Prop) (X0 : Frame → H → Prop) (p0_ : Pt) (s4_ : Sl) (s5_ : Sl) (s6_ : Sl) (s7_ : Sl) (i25_ : Int) (i26_ : Int) (h : H) : impl_strip_lasting_w0 S K X0 (impl_strip_lasting_e0 p0_ s4_ s5_ s6_ s7_ i25_ i26_) h = impl_strip_lasting_b0 S K X0 p0_ s4_ s5_ s6_ s7_ i25_ i26_ h := by kernel_rfl
theorem impl_strip_lasting_rule0 (S : SatT) (K : AVal → H → Prop) (p0_ : Pt) (s4_ : Sl) (s5_ : Sl) (s7_ : Sl) (i25_ : Int) (I_ : Sl → Int → H → Prop) (m_ : Sl → Int → H → Nat)
    (hs : ∀ (X0 : Frame → H → Prop) (s6_ : Sl) (i26_ : Int) (h : H), I_ s6_ i26_ h → (∀ (s6_' : Sl) (i26_' : Int) (h' : H), I_ s6_' i26_' h' → m_ s6_' i26_' h' < m_ s6_ i26_ h → X0 (impl_strip_lasting_e0 p0_ s4_ s5_ s6_' s7_ i25_ i26_') h') → impl_strip_lasting_b0 S K X0 p0_ s4_ s5_ s6_ s7_ i25_ i26_ h) (s6_ : Sl) (i26_ : Int) {h : H} (h0 : I_ s6_ i26_ h) : impl_strip_lasting_L0 S K p0_ s4_ s5_ s6_ s7_ i25_ i26_ h :=
  loop_rule (σ := (Sl) × (Int)) (fun s_ => impl_strip_lasting_e0 p0_ s4_ s5_ (s_.1) s7_ i25_ (s_.2)) (fun s_ h => I_ (s_.1) (s_.2) h) (fun s_ h => m_ (s_.1) (s_.2) h)
    (fun X s_ h hi hx => (impl_strip_lasting_link0 S K X p0_ s4_ s5_ (s_.1) s7_ i25_ (s_.2) h).mpr (hs X (s_.1) (s_.2) h hi fun s6_' i26_' h' hi' hm' => hx (s6_', i26_') h' hi' hm')) (s6_, i26_) h0
def impl_strip_lasting_main (S : SatT) (K : AVal → H → Prop) (x0 : Pt) (h : H) : Prop :=
 callS S i_impl_strip_endless [.ptr x0, .int .i64 (1), .int .i64 (0)] h fun s1 h0 =>
 callS S i_impl_strip_endless [.ptr x0, .int .i64 (0), .int .i64 (1)] h0 fun s3 h2 =>
 slotK 8 h2 fun h4 =>
 nilC (.ptr x0) (
 isPt x0 (
 ldI .i64 (Pt.add x0 3) h4 fun n5 =>
 newSat 0 1 [] h4 (h2.length + 0) fun s6 h7 =>
(cell h7 (Pt.add x0 3) = cell h4 (Pt.add x0 3)) ∧ (
 mkSat n5 [.int .i64 (0)] h7 (h2.length + 5) fun s8 h9 =>
 nilC (.ptr x0) (
 isPt x0 (
 ldI .i64 (Pt.add x0 3) h9 fun n10 =>
 impl_strip_lasting_L0 S K x0 s1 s3 s6 s8 n10 (0) h9)))))
theorem impl_strip_lasting_main_link (S : SatT) (K : AVal → H → Prop) (x0 : Pt) (h : H) : cwp S tab impl_strip_lasting_M [] (bodyOf Try.f62) (kFun tab Try.f62.results.toList K) (fr0 Try.f62 [.ptr x0]) h = impl_strip_lasting_main S K x0 h := by kernel_rfl
theorem impl_strip_lasting_call (x0 : Pt) (h : H) (K : AVal → H → Prop) (hm : impl_strip_lasting_main (Sat Try.prog) (fun v h' => K v h') x0 h) : callV (Sat Try.prog) i_impl_strip_lasting [.ptr x0] h K := by
  have := Sat.ex tok mixed impl_strip_lasting_M Try.func62 (c := bodyOf Try.f62) (by kernel_rfl) (calls_of Try.func62 (c := bodyOf Try.f62) (by kernel_rfl) (by decide)) ((impl_strip_lasting_main_link _ _ x0 h).mpr hm)
  exact this

/-! ### loop.example/g01354/spec.l06Keep -/
def spec_l06Keep_M : Nat → List Nat := fun i => bif i == 4 then [0, 1, 5, 6, 7, 9] else bif i == 2 then [0, 1, 5, 6, 7, 8] else bif i == 0 then [0, 1] else []
def spec_l06Keep_e0 (s0_ : Sl) (i1_ : Int) : Frame := [.sl s0_, .int .i64 i1_, U, U, U, U, U, U, U, U, U, U, U, U, U, U, U, U, U, U, U, U, U, U, U, U, U, U, U, U, U, U, U, U, U, U, U, U, U, U, U, U, U, U, U, U, U, U, U, U, U, U, U, U, U, U, U, U, U, U, U, U, U, U, U, U, U, U, U, U, U, U, U, U, U, U, U]
def spec_l06Keep_w0 (S : SatT) (K : AVal → H → Prop) : (Frame → H → Prop) → Frame → H → Prop := fun X fr h => cwp S tab spec_l06Keep_M (spec_l06Keep_M 0) (sub [1, 0, 0] (bodyOf Try.f63)) (kSeq (fun fr h => X (mask (spec_l06Keep_M 0) fr) h) (kBlk 0 (kFun tab (Try.f63).results.toList K))) fr h
def spec_l06Keep_L0 (S : SatT) (K : AVal → H → Prop) (s0_ : Sl) (i1_ : Int) (h : H) : Prop := loopK (spec_l06Keep_w0 S K) (spec_l06Keep_e0 s0_ i1_) h
def spec_l06Keep_ks2 (S : SatT) (K : AVal → H → Prop) (X0 : Frame → H → Prop) : Kont := kSeq (cwp S tab spec_l06Keep_M (spec_l06Keep_M 1) (sub [1, 0, 0, 0, 1, 1] (bodyOf Try.f63)) (kBlk 1 (kSeq (fun fr h => X0 (mask (spec_l06Keep_M 0) fr) h) (kBlk 0 (kFun tab (Try.f63).results.toList K))))) (kBlk 1 (kSeq (fun fr h => X0 (mask (spec_l06Keep_M 0) fr) h) (kBlk 0 (kFun tab (Try.f63).results.toList K))))
def spec_l06Keep_e2 (s0_ : Sl) (i1_ : Int) (s5_ : Sl) (s6_ : Sl) (s7_ : Sl) (i8_ : Int) : Frame := [.sl s0_, .int .i64 i1_, U, U, U, .sl s5_, .sl s6_, .sl s7_, .int .i64 i8_, U, U, U, U, U, U, U, U, U, U, U, U, U, U, U, U, U, U, U, U, U, U, U, U, U, U, U, U, U, U, U, U, U, U, U, U, U, U, U, U, U, U, U, U, U, U, U, U, U, U, U, U, U, U, U, U, U, U, U, U, U, U, U, U, U, U, U, U]
def spec_l06Keep_w2 (S : SatT) (K : AVal → H → Prop) (X0 : Frame → H → Prop) : (Frame → H → Prop) → Frame → H → Prop := fun X fr h => cwp S tab spec_l06Keep_M (spec_l06Keep_M 2) (sub [1, 0, 0, 0, 1, 0, 1, 0, 0] (bodyOf Try.f63)) (kSeq (fun fr h => X (mask (spec_l06Keep_M 2) fr) h) (kBlk 2 (spec_l06Keep_ks2 S K X0))) fr h
def spec_l06Keep_L2 (S : SatT) (K : AVal → H → Prop) (X0 : Frame → H → Prop) (s0_ : Sl) (i1_ : Int) (s5_ : Sl) (s6_ : Sl) (s7_ : Sl) (i8_ : Int) (h : H) : Prop := loopK (spec_l06Keep_w2 S K X0) (spec_l06Keep_e2 s0_ i1_ s5_ s6_ s7_ i8_) h
def spec_l06Keep_ks8 (S : SatT) (K : AVal → H → Prop) (X0 : Frame → H → Prop) : Kont := kSeq (cwp S tab spec_l06Keep_M (spec_l06Keep_M 1) (sub [1, 0, 0, 0, 1, 1, 1] (bodyOf Try.f63)) (kBlk 1 (kSeq (fun fr h => X0 (mask (spec_l06Keep_M 0) fr) h) (kBlk 0 (kFun tab (Try.f63).results.toList K))))) (kBlk 1 (kSeq (fun fr h => X0 (mask (spec_l06Keep_M 0) fr) h) (kBlk 0 (kFun tab (Try.f63).results.toList K))))
def spec_l06Keep_e4 (s0_ : Sl) (i1_ : Int) (s5_ : Sl) (s6_ : Sl) (s7_ : Sl) (i9_ : Int) : Frame := [.sl s0_, .int .i64 i1_, U, U, U, .sl s5_, .sl s6_, .sl s7_, U, .int .i64 i9_, U, U, U, U, U, U, U, U, U, U, U, U, U, U, U, U, U, U, U, U, U, U, U, U, U, U, U, U, U, U, U, U, U, U, U, U, U, U, U, U, U, U, U, U, U, U, U, U, U, U, U, U, U, U, U, U, U, U, U, U, U, U, U, U, U, U, U]
def spec_l06Keep_w4 (S : SatT) (K : AVal → H → Prop) (X0 : Frame → H → Prop) : (Frame → H → Prop) → Frame → H → Prop := fun X fr h => cwp S tab spec_l06Keep_M (spec_l06Keep_M 4) (sub [1, 0, 0, 0, 1, 1, 0, 1, 0, 0] (bodyOf Try.f63)) (kSeq (fun fr h => X (mask (spec_l06Keep_M 4) fr) h) (kBlk 4 (spec_l06Keep_ks8 S K X0))) fr h
def spec_l06Keep_L4 (S : SatT) (K : AVal → H → Prop) (X0 : Frame → H → Prop) (s0_ : Sl) (i1_ : Int) (s5_ : Sl) (s6_ : Sl) (s7_ : Sl) (i9_ : Int) (h : H) : Prop := loopK (spec_l06Keep_w4 S K X0) (spec_l06Keep_e4 s0_ i1_ s5_ s6_ s7_ i9_) h
def spec_l06Keep_C4 (S : SatT) (K : AVal → H → Prop) (X0 : Frame → H → Prop) (s0_ : Sl) (i1_ : Int) (s7_ : Sl) (h : H) : Prop :=
 bif ((s7_.len : Int) == (s0_.len : Int)) then
 K (.sl s7_) h
 else
 X0 (spec_l06Keep_e0 s7_ i1_) h
def spec_l06Keep_b4 (S : SatT) (K : AVal → H → Prop) (X0 : Frame → H → Prop) (X4 : Frame → H → Prop) (s0_ : Sl) (i1_ : Int) (s5_ : Sl) (s6_ : Sl) (s7_ : Sl) (i9_ : Int) (h : H) : Prop :=
 bif (decide (i9_ < (s0_.len : Int))) then
 ixS s0_ 1 i9_ fun p0 =>
 ldS p0 h fun s1 =>
 ixS s1 1 (0) fun p2 =>
 ldI .i64 p2 h fun n3 =>
 ixS s6_ 1 n3 fun p4 =>
 ldB p4 h fun b5 =>
 bif b5 then
 ixS s0_ 1 i9_ fun p6 =>
 ldS p6 h fun s7 =>
 ixS s7 1 (1) fun p8 =>
 ldI .i64 p8 h fun n9 =>
 ixS s5_ 1 n9 fun p10 =>
 ldB p10 h fun b11 =>
 bif b11 then
 ixS s0_ 1 i9_ fun p12 =>
 ldS p12 h fun s13 =>
 newS 1 1 [.sl s13] h fun s14 h15 =>
 app s7_ s14 1 h15 fun s16 h17 =>
 X4 (spec_l06Keep_e4 s0_ i1_ s5_ s6_ s16 (w64 (i9_ + (1)))) h17
 else
 X4 (spec_l06Keep_e4 s0_ i1_ s5_ s6_ s7_ (w64 (i9_ + (1)))) h
 else
 X4 (spec_l06Keep_e4 s0_ i1_ s5_ s6_ s7_ (w64 (i9_ + (1)))) h
 else
 spec_l06Keep_C4 S K X0 s0_ i1_ s7_ h
theorem spec_l06Keep_link4 (S : SatT) (K : AVal → H → Prop) (X0 : Frame → H → Prop) (X4 : Frame → H → Prop) (s0_ : Sl) (i1_ : Int) (s5_ : Sl) (s6_ : Sl) (s7_ : Sl) (i9_ : Int) (h : H) : spec_l06Keep_w4 S K X0 X4 (spec_l06Keep_e4 s0_ i1_ s5_ s6_ s7_ i9_) h = spec_l06Keep_b4 S K X0 X4 s0_ i1_ s5_ s6_ s7_ i9_ h := by kernel_rfl
theorem spec_l06Keep_rule4 (S : SatT) (K : AVal → H → Prop) (X0 : Frame → H → Prop) (s0_ : Sl) (i1_ : Int) (s5_ : Sl) (s6_ : Sl) (I_ : Sl → Int → H → Prop) (m_ : Sl → Int → H → Nat)
    (hs : ∀ (X4 : Frame → H → Prop) (s7_ : Sl) (i9_ : Int) (h : H), I_ s7_ i9_ h → (∀ (s7_' : Sl) (i9_' : Int) (h' : H), I_ s7_' i9_' h' → m_ s7_' i9_' h' < m_ s7_ i9_ h → X4 (spec_l06Keep_e4 s0_ i1_ s5_ s6_ s7_' i9_') h') → spec_l06Keep_b4 S K X0 X4 s0_ i1_ s5_ s6_ s7_ i9_ h) (s7_ : Sl) (i9_ : Int) {h : H} (h0 : I_ s7_ i9_ h) : spec_l06Keep_L4 S K X0 s0_ i1_ s5_ s6_ s7_ i9_ h :=
  loop_rule (σ := (Sl) × (Int)) (fun s_ => spec_l06Keep_e4 s0_ i1_ s5_ s6_ (s_.1) (s_.2)) (fun s_ h => I_ (s_.1) (s_.2) h) (fun s_ h => m_ (s_.1) (s_.2) h)
    (fun X s_ h hi hx => (spec_l06Keep_link4 S K X0 X s0_ i1_ s5_ s6_ (s_.1) (s_.2) h).mpr (hs X (s_.1) (s_.2) h hi fun s7_' i9_' h' hi' hm' => hx (s7_', i9_') h' hi' hm')) (s7_, i9_) h0
def spec_l06Keep_C2 (S : SatT) (K : AVal → H → Prop) (X0 : Frame → H → Prop) (s0_ : Sl) (i1_ : Int) (s5_ : Sl) (s6_ : Sl) (s7_ : Sl) (h : H) : Prop :=
 spec_l06Keep_L4 S K X0 s0_ i1_ s5_ s6_ s7_ (0) h
def spec_l06Keep_b2 (S : SatT) (K : AVal → H → Prop) (X0 : Frame → H → Prop) (X2 : Frame → H → Prop) (s0_ : Sl) (i1_ : Int) (s5_ : Sl) (s6_ : Sl) (s7_ : Sl) (i8_ : Int) (h : H) : Prop :=
 bif (decide (i8_ < (s0_.len : Int))) then
 ixS s0_ 1 i8_ fun p0 =>
 ldS p0 h fun s1 =>
 ixS s1 1 (0) fun p2 =>
 ldI .i64 p2 h fun n3 =>
 ixS s5_ 1 n3 fun p4 =>
 st1 p4 (.bool true) h fun h5 =>
 ixS s0_ 1 i8_ fun p6 =>
 ldS p6 h5 fun s7 =>
 ixS s7 1 (1) fun p8 =>
 ldI .i64 p8 h5 fun n9 =>
 ixS s6_ 1 n9 fun p10 =>
 st1 p10 (.bool true) h5 fun h11 =>
 X2 (spec_l06Keep_e2 s0_ i1_ s5_ s6_ s7_ (w64 (i8_ + (1)))) h11
 else
 spec_l06Keep_C2 S K X0 s0_ i1_ s5_ s6_ s7_ h
theorem spec_l06Keep_link2 (S : SatT) (K : AVal → H → Prop) (X0 : Frame → H → Prop) (X2 : Frame → H → Prop) (s0_ : Sl) (i1_ : Int) (s5_ : Sl) (s6_ : Sl) (s7_ : Sl) (i8_ : Int) (h : H) : spec_l06Keep_w2 S K X0 X2 (spec_l06Keep_e2 s0_ i1_ s5_ s6_ s7_ i8_) h = spec_l06Keep_b2 S K X0 X2 s0_ i1_ s5_ s6_ s7_ i8_ h := by kernel_rfl
theorem spec_l06Keep_rule2 (S : SatT) (K : AVal → H → Prop) (X0 : Frame → H → Prop) (s0_ : Sl) (i1_ : Int) (s5_ : Sl) (s6_ : Sl) (s7_ : Sl) (I_ : Int → H → Prop) (m_ : Int → H → Nat)
    (hs : ∀ (X2 : Frame → H → Prop) (i8_ : Int) (h : H), I_ i8_ h → (∀ (i8_' : Int) (h' : H), I_ i8_' h' → m_ i8_' h' < m_ i8_ h → X2 (spec_l06Keep_e2 s0_ i1_ s5_ s6_ s7_ i8_') h') → spec_l06Keep_b2 S K X0 X2 s0_ i1_ s5_ s6_ s7_ i8_ h) (i8_ : Int) {h : H} (h0 : I_ i8_ h) : spec_l06Keep_L2 S K X0 s0_ i1_ s5_ s6_ s7_ i8_ h :=
  loop_rule (σ := (Int)) (fun s_ => spec_l06Keep_e2 s0_ i1_ s5_ s6_ s7_ (s_)) (fun s_ h => I_ (s_) h) (fun s_ h => m_ (s_) h)
    (fun X s_ h hi hx => (spec_l06Keep_link2 S K X0 X s0_ i1_ s5_ s6_ s7_ (s_) h).mpr (hs X (s_) h hi fun i8_' h' hi' hm' => hx (i8_') h' hi' hm')) (i8_) h0
def spec_l06Keep_b0 (S : SatT) (K : AVal → H → Prop) (X0 : Frame → H → Prop) (s0_ : Sl) (i1_ : Int) (h : H) : Prop :=
 slotK 8 h fun h0 =>
 mkSat i1_ [.bool false] h0 (h.length + 1) fun s1 h2 =>
 mkSat i1_ [.bool false] h2 (h.length + 3) fun s3 h4 =>
 newSat 0 1 [] h4 (h.length + 4) fun s5 h6 =>
 spec_l06Keep_L2 S K X0 s0_ i1_ s1 s3 s5 (0) h6
theorem spec_l06Keep_link0 (S : SatT) (K : AVal → H → Prop) (X0 : Frame → H → Prop) (s0_ : Sl) (i1_ : Int) (h : H) : spec_l06Keep_w0 S K X0 (spec_l06Keep_e0 s0_ i1_) h = spec_l06Keep_b0 S K X0 s0_ i1_ h := by kernel_rfl
theorem spec_l06Keep_rule0 (S : SatT) (K : AVal → H → Prop) (i1_ : Int) (I_ : Sl → H → Prop) (m_ : Sl → H → Nat)
    (hs : ∀ (X0 : Frame → H → Prop) (s0_ : Sl) (h : H), I_ s0_ h → (∀ (s0_' : Sl) (h' : H), I_ s0_' h' → m_ s0_' h' < m_ s0_ h → X0 (spec_l06Keep_e0 s0_' i1_) h') → spec_l06Keep_b0 S K X0 s0_ i1_ h) (s0_ : Sl) {h : H} (h0 : I_ s0_ h) : spec_l06Keep_L0 S K s0_ i1_ h :=
  loop_rule (σ := (Sl)) (fun s_ => spec_l06Keep_e0 (s_) i1_) (fun s_ h => I_ (s_) h) (fun s_ h => m_ (s_) h)
    (fun X s_ h hi hx => (spec_l06Keep_link0 S K X (s_) i1_ h).mpr (hs X (s_) h hi fun s0_' h' hi' hm' => hx (s0_') h' hi' hm')) (s0_) h0
def spec_l06Keep_main (S : SatT) (K : AVal → H → Prop) (x0 : Sl) (x1 : Int) (h : H) : Prop :=
 spec_l06Keep_L0 S K x0 x1 h
theorem spec_l06Keep_main_link (S : SatT) (K : AVal → H → Prop) (x0 : Sl) (x1 : Int) (h : H) : cwp S tab spec_l06Keep_M [] (bodyOf Try.f63) (kFun tab Try.f63.results.toList K) (fr0 Try.f63 [.sl x0, .int .i64 x1]) h = spec_l06Keep_main S K x0 x1 h := by kernel_rfl
theorem spec_l06Keep_call (x0 : Sl) (x1 : Int) (h : H) (K : Sl → H → Prop) (hm : spec_l06Keep_main (Sat Try.prog) (fun v h' => ∃ r, v = .sl r ∧ K r h') x0 x1 h) : callS (Sat Try.prog) i_spec_l06Keep [.sl x0, .int .i64 x1] h K := by
  have := Sat.ex tok mixed spec_l06Keep_M Try.func63 (c := bodyOf Try.f63) (by kernel_rfl) (calls_of Try.func63 (c := bodyOf Try.f63) (by kernel_rfl) (by decide)) ((spec_l06Keep_main_link _ _ x0 x1 h).mpr hm)
  obtain ⟨v, h2, h3, r, rfl, h4⟩ := this; exact ⟨r, h2, h3, h4⟩

/-! ### loop.example/g01354/spec.l04Sorted -/
def spec_l04Sorted_M : Nat → List Nat := fun i => bif i == 0 then [4, 5, 6, 7, 8] else []
def spec_l04Sorted_ks6 (S : SatT) (K : AVal → H → Prop) : Kont := kSeq (cwp S tab spec_l04Sorted_M [] (sub [1, 1, 1, 1, 1] (bodyOf Try.f58)) (kFun tab (Try.f58).results.toList K)) (kFun tab (Try.f58).results.toList K)
def spec_l04Sorted_e0 (s4_ : Sl) (s5_ : Sl) (s6_ : Sl) (i7_ : Int) (i8_ : Int) : Frame := [U, U, U, U, .sl s4_, .sl s5_, .sl s6_, .int .i64 i7_, .int .i64 i8_, U, U, U, U, U, U, U, U, U, U, U, U, U, U, U, U, U, U, U, U, U, U, U, U, U, U, U, U, U, U, U, U, U, U, U, U, U, U, U, U, U, U, U, U, U, U, U, U, U, U, U, U, U, U, U, U, U, U, U, U, U, U, U, U, U, U, U, U, U, U, U, U, U, U, U, U, U, U, U, U, U, U, U, U, U]
def spec_l04Sorted_w0 (S : SatT) (K : AVal → H → Prop) : (Frame → H → Prop) → Frame → H → Prop := fun X fr h => cwp S tab spec_l04Sorted_M (spec_l04Sorted_M 0) (sub [1, 1, 1, 1, 0, 1, 0, 0] (bodyOf Try.f58)) (kSeq (fun fr h => X (mask (spec_l04Sorted_M 0) fr) h) (kBlk 0 (spec_l04Sorted_ks6 S K))) fr h
def spec_l04Sorted_L0 (S : SatT) (K : AVal → H → Prop) (s4_ : Sl) (s5_ : Sl) (s6_ : Sl) (i7_ : Int) (i8_ : Int) (h : H) : Prop := loopK (spec_l04Sorted_w0 S K) (spec_l04Sorted_e0 s4_ s5_ s6_ i7_ i8_) h
def spec_l04Sorted_C0 (S : SatT) (K : AVal → H → Prop) (s6_ : Sl) (h : H) : Prop :=
 K (.sl s6_) h
def spec_l04Sorted_b0 (S : SatT) (K : AVal → H → Prop) (X0 : Frame → H → Prop) (s4_ : Sl) (s5_ : Sl) (s6_ : Sl) (i7_ : Int) (i8_ : Int) (h : H) : Prop :=
 bif (decide (i7_ < (s4_.len : Int))) then
 bif (i8_ == (s5_.len : Int)) then
 ixS s4_ 1 i7_ fun p0 =>
 ldI .i64 p0 h fun n1 =>
 newS 1 1 [.int .i64 n1] h fun s2 h3 =>
 app s6_ s2 1 h3 fun s4 h5 =>
 X0 (spec_l04Sorted_e0 s4_ s5_ s4 (w64 (i7_ + (1))) i8_) h5
 else
 bif (decide (i7_ < (s4_.len : Int))) then
 ixS s4_ 1 i7_ fun p6 =>
 ldI .i64 p6 h fun n7 =>
 ixS s5_ 1 i8_ fun p8 =>
 ldI .i64 p8 h fun n9 =>
 bif (decide (n7 < n9)) then
 ixS s4_ 1 i7_ fun p10 =>
 ldI .i64 p10 h fun n11 =>
 newS 1 1 [.int .i64 n11] h fun s12 h13 =>
 app s6_ s12 1 h13 fun s14 h15 =>
 X0 (spec_l04Sorted_e0 s4_ s5_ s14 (w64 (i7_ + (1))) i8_) h15
 else
 bif (i7_ == (s4_.len : Int)) then
 ixS s5_ 1 i8_ fun p16 =>
 ldI .i64 p16 h fun n17 =>
 newS 1 1 [.int .i64 n17] h fun s18 h19 =>
 app s6_ s18 1 h19 fun s20 h21 =>
 X0 (spec_l04Sorted_e0 s4_ s5_ s20 i7_ (w64 (i8_ + (1)))) h21
 else
 ixS s5_ 1 i8_ fun p22 =>
 ldI .i64 p22 h fun n23 =>
 ixS s4_ 1 i7_ fun p24 =>
 ldI .i64 p24 h fun n25 =>
 bif (decide (n23 < n25)) then
 ixS s5_ 1 i8_ fun p26 =>
 ldI .i64 p26 h fun n27 =>
 newS 1 1 [.int .i64 n27] h fun s28 h29 =>
 app s6_ s28 1 h29 fun s30 h31 =>
 X0 (spec_l04Sorted_e0 s4_ s5_ s30 i7_ (w64 (i8_ + (1)))) h31
 else
 X0 (spec_l04Sorted_e0 s4_ s5_ s6_ (w64 (i7_ + (1))) i8_) h
 else
 bif (i7_ == (s4_.len : Int)) then
 ixS s5_ 1 i8_ fun p32 =>
 ldI .i64 p32 h fun n33 =>
 newS 1 1 [.int .i64 n33] h fun s34 h35 =>
 app s6_ s34 1 h35 fun s36 h37 =>
 X0 (spec_l04Sorted_e0 s4_ s5_ s36 i7_ (w64 (i8_ + (1)))) h37
 else
 ixS s5_ 1 i8_ fun p38 =>
 ldI .i64 p38 h fun n39 =>
 ixS s4_ 1 i7_ fun p40 =>
 ldI .i64 p40 h fun n41 =>
 bif (decide (n39 < n41)) then
 ixS s5_ 1 i8_ fun p42 =>
 ldI .i64 p42 h fun n43 =>
 newS 1 1 [.int .i64 n43] h fun s44 h45 =>
 app s6_ s44 1 h45 fun s46 h47 =>
 X0 (spec_l04Sorted_e0 s4_ s5_ s46 i7_ (w64 (i8_ + (1)))) h47
 else
 X0 (spec_l04Sorted_e0 s4_ s5_ s6_ (w64 (i7_ + (1))) i8_) h
 else
 bif (decide (i8_ < (s5_.len : Int))) then
 bif (i8_ == (s5_.len : Int)) then
 ixS s4_ 1 i7_ fun p48 =>
 ldI .i64 p48 h fun n49 =>
 newS 1 1 [.int .i64 n49] h fun s50 h51 =>
 app s6_ s50 1 h51 fun s52 h53 =>
 X0 (spec_l04Sorted_e0 s4_ s5_ s52 (w64 (i7_ + (1))) i8_) h53
 else
 bif (decide (i7_ < (s4_.len : Int))) then
 ixS s4_ 1 i7_ fun p54 =>
 ldI .i64 p54 h fun n55 =>
 ixS s5_ 1 i8_ fun p56 =>
 ldI .i64 p56 h fun n57 =>
 bif (decide (n55 < n57)) then
 ixS s4_ 1 i7_ fun p58 =>
 ldI .i64 p58 h fun n59 =>
 newS 1 1 [.int .i64 n59] h fun s60 h61 =>
 app s6_ s60 1 h61 fun s62 h63 =>
 X0 (spec_l04Sorted_e0 s4_ s5_ s62 (w64 (i7_ + (1))) i8_) h63
 else
 bif (i7_ == (s4_.len : Int)) then
 ixS s5_ 1 i8_ fun p64 =>
 ldI .i64 p64 h fun n65 =>
 newS 1 1 [.int .i64 n65] h fun s66 h67 =>
 app s6_ s66 1 h67 fun s68 h69 =>
 X0 (spec_l04Sorted_e0 s4_ s5_ s68 i7_ (w64 (i8_ + (1)))) h69
 else
 ixS s5_ 1 i8_ fun p70 =>
 ldI .i64 p70 h fun n71 =>
 ixS s4_ 1 i7_ fun p72 =>
 ldI .i64 p72 h fun n73 =>
 bif (decide (n71 < n73)) then
 ixS s5_ 1 i8_ fun p74 =>
 ldI .i64 p74 h fun n75 =>
 newS 1 1 [.int .i64 n75] h fun s76 h77 =>
 app s6_ s76 1 h77 fun s78 h79 =>
 X0 (spec_l04Sorted_e0 s4_ s5_ s78 i7_ (w64 (i8_ + (1)))) h79
 else
 X0 (spec_l04Sorted_e0 s4_ s5_ s6_ (w64 (i7_ + (1))) i8_) h
 else
 bif (i7_ == (s4_.len : Int)) then
 ixS s5_ 1 i8_ fun p80 =>
 ldI .i64 p80 h fun n81 =>
 newS 1 1 [.int .i64 n81] h fun s82 h83 =>
 app s6_ s82 1 h83 fun s84 h85 =>
 X0 (spec_l04Sorted_e0 s4_ s5_ s84 i7_ (w64 (i8_ + (1)))) h85
 else
 ixS s5_ 1 i8_ fun p86 =>
 ldI .i64 p86 h fun n87 =>
 ixS s4_ 1 i7_ fun p88 =>
 ldI .i64 p88 h fun n89 =>
 bif (decide (n87 < n89)) then
 ixS s5_ 1 i8_ fun p90 =>
 ldI .i64 p90 h fun n91 =>
 newS 1 1 [.int .i64 n91] h fun s92 h93 =>
 app s6_ s92 1 h93 fun s94 h95 =>
 X0 (spec_l04Sorted_e0 s4_ s5_ s94 i7_ (w64 (i8_ + (1)))) h95
 else
 X0 (spec_l04Sorted_e0 s4_ s5_ s6_ (w64 (i7_ + (1))) i8_) h
 else
 spec_l04Sorted_C0 S K s6_ h
theorem spec_l04Sorted_link0 (S : SatT) (K : AVal → H → Prop) (X0 : Frame → H → Prop) (s4_ : Sl) (s5_ : Sl) (s6_ : Sl) (i7_ : Int) (i8_ : Int) (h : H) : spec_l04Sorted_w0 S K X0 (spec_l04Sorted_e0 s4_ s5_ s6_ i7_ i8_) h = spec_l04Sorted_b0 S K X0 s4_ s5_ s6_ i7_ i8_ h := by kernel_rfl
theorem spec_l04Sorted_rule0 (S : SatT) (K : AVal → H → Prop) (s4_ : Sl) (s5_ : Sl) (I_ : Sl → Int → Int → H → Prop) (m_ : Sl → Int → Int → H → Nat)
    (hs : ∀ (X0 : Frame → H → Prop) (s6_ : Sl) (i7_ : Int) (i8_ : Int) (h : H), I_ s6_ i7_ i8_ h → (∀ (s6_' : Sl) (i7_' : Int) (i8_' : Int) (h' : H), I_ s6_' i7_' i8_' h' → m_ s6_' i7_' i8_' h' < m_ s6_ i7_ i8_ h → X0 (spec_l04Sorted_e0 s4_ s5_ s6_' i7_' i8_') h') → spec_l04Sorted_b0 S K X0 s4_ s5_ s6_ i7_ i8_ h) (s6_ : Sl) (i7_ : Int) (i8_ : Int) {h : H} (h0 : I_ s6_ i7_ i8_ h) : spec_l04Sorted_L0 S K s4_ s5_ s6_ i7_ i8_ h :=
  loop_rule (σ := (Sl) × (Int) × (Int)) (fun s_ => spec_l04Sorted_e0 s4_ s5_ (s_.1) (s_.2.1) (s_.2.2)) (fun s_ h => I_ (s_.1) (s_.2.1) (s_.2.2) h) (fun s_ h => m_ (s_.1) (s_.2.1) (s_.2.2) h)
    (fun X s_ h hi hx => (spec_l04Sorted_link0 S K X s4_ s5_ (s_.1) (s_.2.1) (s_.2.2) h).mpr (hs X (s_.1) (s_.2.1) (s_.2.2) h hi fun s6_' i7_' i8_' h' hi' hm' => hx (s6_', i7_', i8_') h' hi' hm')) (s6_, i7_, i8_) h0
def spec_l04Sorted_main (S : SatT) (K : AVal → H → Prop) (x0 : Sl) (h : H) : Prop :=
 bif (decide ((x0.len : Int) < (2))) then
 K (.sl x0) h
 else
 nz (2) (
 slotK 12 h fun h0 =>
 cut x0 1 (0) (w64 (Int.tdiv (x0.len : Int) (2))) h0 fun s1 =>
 callS S i_spec_l04Sorted [.sl s1] h0 fun s3 h2 =>
 cut x0 1 (w64 (Int.tdiv (x0.len : Int) (2))) (x0.len : Int) h2 fun s4 =>
 okS h0 x0 ∧ (
 callS S i_spec_l04Sorted [.sl s4] h2 fun s6 h5 =>
 newSat 0 1 [] h5 (h.length + 8) fun s7 h8 =>
 okS h5 x0 ∧ (
 okS h5 x0 ∧ (
 okS h8 x0 ∧ (
 okS h8 x0 ∧ (
 spec_l04Sorted_L0 S K s3 s6 s7 (0) (0) h8))))))
theorem spec_l04Sorted_main_link (S : SatT) (K : AVal → H → Prop) (x0 : Sl) (h : H) : cwp S tab spec_l04Sorted_M [] (bodyOf Try.f58) (kFun tab Try.f58.results.toList K) (fr0 Try.f58 [.sl x0]) h = spec_l04Sorted_main S K x0 h := by kernel_rfl
theorem spec_l04Sorted_call (x0 : Sl) (h : H) (K : Sl → H → Prop) (hm : spec_l04Sorted_main (Sat Try.prog) (fun v h' => ∃ r, v = .sl r ∧ K r h') x0 h) : callS (Sat Try.prog) i_spec_l04Sorted [.sl x0] h K := by
  have := Sat.ex tok mixed spec_l04Sorted_M Try.func58 (c := bodyOf Try.f58) (by kernel_rfl) (calls_of Try.func58 (c := bodyOf Try.f58) (by kernel_rfl) (by decide)) ((spec_l04Sorted_main_link _ _ x0 h).mpr hm)
  obtain ⟨v, h2, h3, r, rfl, h4⟩ := this; exact ⟨r, h2, h3, h4⟩

/-! ### loop.example/g01354/spec.l01Renamed -/
def spec_l01Renamed_M : Nat → List Nat := fun i => bif i == 0 then [1, 2, 4, 5, 6] else []
def spec_l01Renamed_ks2 (S : SatT) (K : AVal → H → Prop) : Kont := kSeq (cwp S tab spec_l01Renamed_M [] (sub [1, 1, 1] (bodyOf Try.f96)) (kFun tab (Try.f96).results.toList K)) (kFun tab (Try.f96).results.toList K)
def spec_l01Renamed_e0 (s1_ : Sl) (p2_ : Pt) (p4_ : Pt) (s5_ : Sl) (i6_ : Int) : Frame := [U, .sl s1_, .ptr p2_, U, .ptr p4_, .sl s5_, .int .i64 i6_, U, U, U, U, U, U, U, U, U, U, U, U, U, U, U, U, U, U, U, U, U, U, U, U, U, U, U, U, U, U, U, U, U, U, U, U, U, U, U, U, U, U]
def spec_l01Renamed_w0 (S : SatT) (K : AVal → H → Prop) : (Frame → H → Prop) → Frame → H → Prop := fun X fr h => cwp S tab spec_l01Renamed_M (spec_l01Renamed_M 0) (sub [1, 1, 0, 1, 0, 0] (bodyOf Try.f96)) (kSeq (fun fr h => X (mask (spec_l01Renamed_M 0) fr) h) (kBlk 0 (spec_l01Renamed_ks2 S K))) fr h
def spec_l01Renamed_L0 (S : SatT) (K : AVal → H → Prop) (s1_ : Sl) (p2_ : Pt) (p4_ : Pt) (s5_ : Sl) (i6_ : Int) (h : H) : Prop := loopK (spec_l01Renamed_w0 S K) (spec_l01Renamed_e0 s1_ p2_ p4_ s5_ i6_) h
def spec_l01Renamed_C0 (S : SatT) (K : AVal → H → Prop) (p2_ : Pt) (p4_ : Pt) (s5_ : Sl) (h : H) : Prop :=
 isPt p2_ (
 ldI .i64 (Pt.add p2_ 0) h fun n0 =>
 callA S i_spec_l01Made [.int .i64 n0, .sl s5_] h fun cs2 h1 =>
 stN p4_ 2 cs2 h1 fun h3 =>
 ldA p4_ 2 h3 fun cs4 =>
 K (.agg cs4) h3)
def spec_l01Renamed_b0 (S : SatT) (K : AVal → H → Prop) (X0 : Frame → H → Prop) (s1_ : Sl) (p2_ : Pt) (p4_ : Pt) (s5_ : Sl) (i6_ : Int) (h : H) : Prop :=
 isPt p2_ (
 ldS (Pt.add p2_ 1) h fun s0 =>
 bif (decide (i6_ < (s0.len : Int))) then
 isPt p2_ (
 ldS (Pt.add p2_ 1) h fun s1 =>
 ixS s1 4 i6_ fun p2 =>
 ldA p2 4 h fun cs3 =>
 newO [.int .i64 (0), .int .i64 (0), .int .i64 (0), .int .i64 (0)] h fun p4 h5 =>
 stN p4 4 cs3 h5 fun h6 =>
 ixA p4 4 1 (0) fun p7 =>
 ldI .i64 p7 h6 fun n8 =>
 ixS s1_ 1 n8 fun p9 =>
 ldI .i64 p9 h6 fun n10 =>
 ixA p4 4 1 (1) fun p11 =>
 ldI .i64 p11 h6 fun n12 =>
 ixS s1_ 1 n12 fun p13 =>
 ldI .i64 p13 h6 fun n14 =>
 ixA p4 4 1 (2) fun p15 =>
 ldI .i64 p15 h6 fun n16 =>
 ixS s1_ 1 n16 fun p17 =>
 ldI .i64 p17 h6 fun n18 =>
 ixA p4 4 1 (3) fun p19 =>
 ldI .i64 p19 h6 fun n20 =>
 ixS s1_ 1 n20 fun p21 =>
 ldI .i64 p21 h6 fun n22 =>
 lenA [.int .i64 n10, .int .i64 n14, .int .i64 n18, .int .i64 n22] 4 (
 newS 1 4 (spl [.int .i64 (0), .int .i64 (0), .int .i64 (0), .int .i64 (0)] 0 4 [.int .i64 n10, .int .i64 n14, .int .i64 n18, .int .i64 n22]) h6 fun s23 h24 =>
 app s5_ s23 4 h24 fun s25 h26 =>
 X0 (spec_l01Renamed_e0 s1_ p2_ p4_ s25 (w64 (i6_ + (1)))) h26))
 else
 spec_l01Renamed_C0 S K p2_ p4_ s5_ h)
theorem spec_l01Renamed_link0 (S : SatT) (K : AVal → H → Prop) (X0 : Frame → H → Prop) (s1_ : Sl) (p2_ : Pt) (p4_ : Pt) (s5_ : Sl) (i6_ : Int) (h : H) : spec_l01Renamed_w0 S K X0 (spec_l01Renamed_e0 s1_ p2_ p4_ s5_ i6_) h = spec_l01Renamed_b0 S K X0 s1_ p2_ p4_ s5_ i6_ h := by kernel_rfl
theorem spec_l01Renamed_rule0 (S : SatT) (K : AVal → H → Prop) (s1_ : Sl) (p2_ : Pt) (p4_ : Pt) (I_ : Sl → Int → H → Prop) (m_ : Sl → Int → H → Nat)
    (hs : ∀ (X0 : Frame → H → Prop) (s5_ : Sl) (i6_ : Int) (h : H), I_ s5_ i6_ h → (∀ (s5_' : Sl) (i6_' : Int) (h' : H), I_ s5_' i6_' h' → m_ s5_' i6_' h' < m_ s5_ i6_ h → X0 (spec_l01Renamed_e0 s1_ p2_ p4_ s5_' i6_') h') → spec_l01Renamed_b0 S K X0 s1_ p2_ p4_ s5_ i6_ h) (s5_ : Sl) (i6_ : Int) {h : H} (h0 : I_ s5_ i6_ h) : spec_l01Renamed_L0 S K s1_ p2_ p4_ s5_ i6_ h :=
  loop_rule (σ := (Sl) × (Int)) (fun s_ => spec_l01Renamed_e0 s1_ p2_ p4_ (s_.1) (s_.2)) (fun s_ h => I_ (s_.1) (s_.2) h) (fun s_ h => m_ (s_.1) (s_.2) h)
    (fun X s_ h hi hx => (spec_l01Renamed_link0 S K X s1_ p2_ p4_ (s_.1) (s_.2) h).mpr (hs X (s_.1) (s_.2) h hi fun s5_' i6_' h' hi' hm' => hx (s5_', i6_') h' hi' hm')) (s5_, i6_) h0
def spec_l01Renamed_main (S : SatT) (K : AVal → H → Prop) (x0 : List AVal) (x1 : Sl) (h : H) : Prop :=
 newK 2 x0 h fun p0 h1 =>
 newO [.int .i64 (0), .sl Sl.nil] h1 fun p2 h3 =>
 newS 0 4 [] h3 fun s4 h5 =>
 spec_l01Renamed_L0 S K x1 p0 p2 s4 (0) h5
theorem spec_l01Renamed_main_link (S : SatT) (K : AVal → H → Prop) (x0 : List AVal) (x1 : Sl) (h : H) : cwp S tab spec_l01Renamed_M [] (bodyOf Try.f96) (kFun tab Try.f96.results.toList K) (fr0 Try.f96 [.agg x0, .sl x1]) h = spec_l01Renamed_main S K x0 x1 h := by kernel_rfl
theorem spec_l01Renamed_call (x0 : List AVal) (x1 : Sl) (h : H) (K : List AVal → H → Prop) (hm : spec_l01Renamed_main (Sat Try.prog) (fun v h' => ∃ r, v = .agg r ∧ K r h') x0 x1 h) : callA (Sat Try.prog) i_spec_l01Renamed [.agg x0, .sl x1] h K := by
  have := Sat.ex tok mixed spec_l01Renamed_M Try.func96 (c := bodyOf Try.f96) (by kernel_rfl) (calls_of Try.func96 (c := bodyOf Try.f96) (by kernel_rfl) (by decide)) ((spec_l01Renamed_main_link _ _ x0 x1 h).mpr hm)
  obtain ⟨v, h2, h3, r, rfl, h4⟩ := this; exact ⟨r, h2, h3, h4⟩

/-! ### loop.example/g01354/spec.ColumnWords -/
def spec_ColumnWords_M : Nat → List Nat := fun i => bif i == 0 then [1, 2, 6, 9, 10] else []
def spec_ColumnWords_ks6 (S : SatT) (K : AVal → H → Prop) : Kont := kSeq (cwp S tab spec_ColumnWords_M [] (sub [1, 1, 1, 1, 1] (bodyOf Try.f11)) (kFun tab (Try.f11).results.toList K)) (kFun tab (Try.f11).results.toList K)
def spec_ColumnWords_e0 (i1_ : Int) (p2_ : Pt) (s6_ : Sl) (s9_ : Sl) (i10_ : Int) : Frame := [U, .int .i64 i1_, .ptr p2_, U, U, U, .sl s6_, U, U, .sl s9_, .int .i64 i10_, U, U, U, U, U, U, U, U, U, U, U, U, U, U, U, U, U, U, U, U, U, U, U, U, U, U, U, U, U]
def spec_ColumnWords_w0 (S : SatT) (K : AVal → H → Prop) : (Frame → H → Prop) → Frame → H → Prop := fun X fr h => cwp S tab spec_ColumnWords_M (spec_ColumnWords_M 0) (sub [1, 1, 1, 1, 0, 1, 0, 0] (bodyOf Try.f11)) (kSeq (fun fr h => X (mask (spec_ColumnWords_M 0) fr) h) (kBlk 0 (spec_ColumnWords_ks6 S K))) fr h
def spec_ColumnWords_L0 (S : SatT) (K : AVal → H → Prop) (i1_ : Int) (p2_ : Pt) (s6_ : Sl) (s9_ : Sl) (i10_ : Int) (h : H) : Prop := loopK (spec_ColumnWords_w0 S K) (spec_ColumnWords_e0 i1_ p2_ s6_ s9_ i10_) h
def spec_ColumnWords_C0 (S : SatT) (K : AVal → H → Prop) (s9_ : Sl) (h : H) : Prop :=
 K (.tuple [.sl s9_, .int .i64 (0)]) h
def spec_ColumnWords_b0 (S : SatT) (K : AVal → H → Prop) (X0 : Frame → H → Prop) (i1_ : Int) (p2_ : Pt) (s6_ : Sl) (s9_ : Sl) (i10_ : Int) (h : H) : Prop :=
 bif (decide (i10_ < (s6_.len : Int))) then
 ixS s6_ 1 i10_ fun p0 =>
 ldI .i64 p0 h fun n1 =>
 isPt p2_ (
 ldI .i64 (Pt.add p2_ 0) h fun n2 =>
 callS S i_spec_l06Word [.int .i64 n1, .int .i64 n2, .int .i64 i1_] h fun s4 h3 =>
 newS 1 1 [.sl s4] h3 fun s5 h6 =>
 app s9_ s5 1 h6 fun s7 h8 =>
 X0 (spec_ColumnWords_e0 i1_ p2_ s6_ s7 (w64 (i10_ + (1)))) h8)
 else
 spec_ColumnWords_C0 S K s9_ h
theorem spec_ColumnWords_link0 (S : SatT) (K : AVal → H → Prop) (X0 : Frame → H → Prop) (i1_ : Int) (p2_ : Pt) (s6_ : Sl) (s9_ : Sl) (i10_ : Int) (h : H) : spec_ColumnWords_w0 S K X0 (spec_ColumnWords_e0 i1_ p2_ s6_ s9_ i10_) h = spec_ColumnWords_b0 S K X0 i1_ p2_ s6_ s9_ i10_ h := by kernel_rfl
theorem spec_ColumnWords_rule0 (S : SatT) (K : AVal → H → Prop) (i1_ : Int) (p2_ : Pt) (s6_ : Sl) (I_ : Sl → Int → H → Prop) (m_ : Sl → Int → H → Nat)
    (hs : ∀ (X0 : Frame → H → Prop) (s9_ : Sl) (i10_ : Int) (h : H), I_ s9_ i10_ h → (∀ (s9_' : Sl) (i10_' : Int) (h' : H), I_ s9_' i10_' h' → m_ s9_' i10_' h' < m_ s9_ i10_ h → X0 (spec_ColumnWords_e0 i1_ p2_ s6_ s9_' i10_') h') → spec_ColumnWords_b0 S K X0 i1_ p2_ s6_ s9_ i10_ h) (s9_ : Sl) (i10_ : Int) {h : H} (h0 : I_ s9_ i10_ h) : spec_ColumnWords_L0 S K i1_ p2_ s6_ s9_ i10_ h :=
  loop_rule (σ := (Sl) × (Int)) (fun s_ => spec_ColumnWords_e0 i1_ p2_ s6_ (s_.1) (s_.2)) (fun s_ h => I_ (s_.1) (s_.2) h) (fun s_ h => m_ (s_.1) (s_.2) h)
    (fun X s_ h hi hx => (spec_ColumnWords_link0 S K X i1_ p2_ s6_ (s_.1) (s_.2) h).mpr (hs X (s_.1) (s_.2) h hi fun s9_' i10_' h' hi' hm' => hx (s9_', i10_') h' hi' hm')) (s9_, i10_) h0
def spec_ColumnWords_main (S : SatT) (K : AVal → H → Prop) (x0 : List AVal) (x1 : Int) (h : H) : Prop :=
 newK 2 x0 h fun p0 h1 =>
 ldA p0 2 h1 fun cs2 =>
 callV S i_spec_l06Lasting [.agg cs2, .int .i64 x1] h1 fun v4 h3 =>
 viaT v4 fun vs5 =>
 exS vs5 0 fun s6 =>
 viaT v4 fun vs7 =>
 exS vs7 1 fun s8 =>
 viaT v4 fun vs9 =>
 exI .i64 vs9 2 fun n10 =>
 bif (n10 != (0)) then
 K (.tuple [.sl Sl.nil, .int .i64 n10]) h3
 else
 newS 0 1 [] h3 fun s11 h12 =>
 spec_ColumnWords_L0 S K x1 p0 s6 s11 (0) h12
theorem spec_ColumnWords_main_link (S : SatT) (K : AVal → H → Prop) (x0 : List AVal) (x1 : Int) (h : H) : cwp S tab spec_ColumnWords_M [] (bodyOf Try.f11) (kFun tab Try.f11.results.toList K) (fr0 Try.f11 [.agg x0, .int .i64 x1]) h = spec_ColumnWords_main S K x0 x1 h := by kernel_rfl
theorem spec_ColumnWords_call (x0 : List AVal) (x1 : Int) (h : H) (K : AVal → H → Prop) (hm : spec_ColumnWords_main (Sat Try.prog) (fun v h' => K v h') x0 x1 h) : callV (Sat Try.prog) i_spec_ColumnWords [.agg x0, .int .i64 x1] h K := by
  have := Sat.ex tok mixed spec_ColumnWords_M Try.func11 (c := bodyOf Try.f11) (by kernel_rfl) (calls_of Try.func11 (c := bodyOf Try.f11) (by kernel_rfl) (by decide)) ((spec_ColumnWords_main_link _ _ x0 x1 h).mpr hm)
  exact this

/-! ### slices.IndexFunc[[]int64,int64] -/
def slices_IndexFunc_s_int64_int64__M : Nat → List Nat := fun i => bif i == 0 then [0, 1, 7, 8] else []
def slices_IndexFunc_s_int64_int64__ks1 (S : SatT) (K : AVal → H → Prop) : Kont := kSeq (cwp S tab slices_IndexFunc_s_int64_int64__M [] (sub [1, 1] (bodyOf Try.f109)) (kFun tab (Try.f109).results.toList K)) (kFun tab (Try.f109).results.toList K)
def slices_IndexFunc_s_int64_int64__e0 (s0_ : Sl) (f1_ : AVal) (i7_ : Int) (i8_ : Int) : Frame := [.sl s0_, f1_, U, U, U, U, U, .int .i64 i7_, .int .i64 i8_, U, U, U, U, U, U, U, U, U, U]
def slices_IndexFunc_s_int64_int64__w0 (S : SatT) (K : AVal → H → Prop) : (Frame → H → Prop) → Frame → H → Prop := fun X fr h => cwp S tab slices_IndexFunc_s_int64_int64__M (slices_IndexFunc_s_int64_int64__M 0) (sub [1, 0, 1, 0, 0] (bodyOf Try.f109)) (kSeq (fun fr h => X (mask (slices_IndexFunc_s_int64_int64__M 0) fr) h) (kBlk 0 (slices_IndexFunc_s_int64_int64__ks1 S K))) fr h
def slices_IndexFunc_s_int64_int64__L0 (S : SatT) (K : AVal → H → Prop) (s0_ : Sl) (f1_ : AVal) (i7_ : Int) (i8_ : Int) (h : H) : Prop := loopK (slices_IndexFunc_s_int64_int64__w0 S K) (slices_IndexFunc_s_int64_int64__e0 s0_ f1_ i7_ i8_) h
def slices_IndexFunc_s_int64_int64__C0 (S : SatT) (K : AVal → H → Prop) (h : H) : Prop :=
 K (.int .i64 (-1)) h
def slices_IndexFunc_s_int64_int64__b0 (S : SatT) (K : AVal → H → Prop) (X0 : Frame → H → Prop) (s0_ : Sl) (f1_ : AVal) (i7_ : Int) (i8_ : Int) (h : H) : Prop :=
 bif (decide (i8_ < i7_)) then
 ixS s0_ 1 i8_ fun p0 =>
 ldI .i64 p0 h fun n1 =>
 viaF f1_ [.int .i64 n1] fun g2 ys3 =>
 callB S g2 ys3 h fun b5 h4 =>
 bif b5 then
 K (.int .i64 i8_) h4
 else
 X0 (slices_IndexFunc_s_int64_int64__e0 s0_ f1_ i7_ (w64 (i8_ + (1)))) h4
 else
 slices_IndexFunc_s_int64_int64__C0 S K h
theorem slices_IndexFunc_s_int64_int64__link0 (S : SatT) (K : AVal → H → Prop) (X0 : Frame → H → Prop) (s0_ : Sl) (f1_ : AVal) (i7_ : Int) (i8_ : Int) (h : H) : slices_IndexFunc_s_int64_int64__w0 S K X0 (slices_IndexFunc_s_int64_int64__e0 s0_ f1_ i7_ i8_) h = slices_IndexFunc_s_int64_int64__b0 S K X0 s0_ f1_ i7_ i8_ h := by kernel_rfl
theorem slices_IndexFunc_s_int64_int64__rule0 (S : SatT) (K : AVal → H → Prop) (s0_ : Sl) (f1_ : AVal) (i7_ : Int) (I_ : Int → H → Prop) (m_ : Int → H → Nat)
    (hs : ∀ (X0 : Frame → H → Prop) (i8_ : Int) (h : H), I_ i8_ h → (∀ (i8_' : Int) (h' : H), I_ i8_' h' → m_ i8_' h' < m_ i8_ h → X0 (slices_IndexFunc_s_int64_int64__e0 s0_ f1_ i7_ i8_') h') → slices_IndexFunc_s_int64_int64__b0 S K X0 s0_ f1_ i7_ i8_ h) (i8_ : Int) {h : H} (h0 : I_ i8_ h) : slices_IndexFunc_s_int64_int64__L0 S K s0_ f1_ i7_ i8_ h :=
  loop_rule (σ := (Int)) (fun s_ => slices_IndexFunc_s_int64_int64__e0 s0_ f1_ i7_ (s_)) (fun s_ h => I_ (s_) h) (fun s_ h => m_ (s_) h)
    (fun X s_ h hi hx => (slices_IndexFunc_s_int64_int64__link0 S K X s0_ f1_ i7_ (s_) h).mpr (hs X (s_) h hi fun i8_' h' hi' hm' => hx (i8_') h' hi' hm')) (i8_) h0
def slices_IndexFunc_s_int64_int64__main (S : SatT) (K : AVal → H → Prop) (x0 : Sl) (x1 : AVal) (h : H) : Prop :=
 slices_IndexFunc_s_int64_int64__L0 S K x0 x1 (x0.len : Int) (0) h
theorem slices_IndexFunc_s_int64_int64__main_link (S : SatT) (K : AVal → H → Prop) (x0 : Sl) (x1 : AVal) (h : H) : cwp S tab slices_IndexFunc_s_int64_int64__M [] (bodyOf Try.f109) (kFun tab Try.f109.results.toList K) (fr0 Try.f109 [.sl x0, x1]) h = slices_IndexFunc_s_int64_int64__main S K x0 x1 h := by kernel_rfl
theorem slices_IndexFunc_s_int64_int64__call (x0 : Sl) (x1 : AVal) (h : H) (K : Int → H → Prop) (hm : slices_IndexFunc_s_int64_int64__main (Sat Try.prog) (fun v h' => ∃ r, v = .int .i64 r ∧ K r h') x0 x1 h) : callI (Sat Try.prog) .i64 i_slices_IndexFunc_s_int64_int64_ [.sl x0, x1] h K := by
  have := Sat.ex tok mixed slices_IndexFunc_s_int64_int64__M Try.func109 (c := bodyOf Try.f109) (by kernel_rfl) (calls_of Try.func109 (c := bodyOf Try.f109) (by kernel_rfl) (by decide)) ((slices_IndexFunc_s_int64_int64__main_link _ _ x0 x1 h).mpr hm)
  obtain ⟨v, h2, h3, r, rfl, h4⟩ := this; exact ⟨r, h2, h3, h4⟩

/-! ### loop.example/g01354/spec.l01DrawOrder -/
def spec_l01DrawOrder_M : Nat → List Nat := fun i => bif i == 0 then [0, 1, 5, 6] else []
def spec_l01DrawOrder_ks2 (S : SatT) (K : AVal → H → Prop) : Kont := kSeq (cwp S tab spec_l01DrawOrder_M [] (sub [1, 1, 1] (bodyOf Try.f97)) (kFun tab (Try.f97).results.toList K)) (kFun tab (Try.f97).results.toList K)
def spec_l01DrawOrder_e0 (p0_ : Pt) (i1_ : Int) (s5_ : Sl) (i6_ : Int) : Frame := [.ptr p0_, .int .i64 i1_, U, U, U, .sl s5_, .int .i64 i6_, U, U, U, U, U, U, U, U, U, U, U, U, U, U, U, U, U, U, U, U, U, U, U]
def spec_l01DrawOrder_w0 (S : SatT) (K : AVal → H → Prop) : (Frame → H → Prop) → Frame → H → Prop := fun X fr h => cwp S tab spec_l01DrawOrder_M (spec_l01DrawOrder_M 0) (sub [1, 1, 0, 1, 0, 0] (bodyOf Try.f97)) (kSeq (fun fr h => X (mask (spec_l01DrawOrder_M 0) fr) h) (kBlk 0 (spec_l01DrawOrder_ks2 S K))) fr h
def spec_l01DrawOrder_L0 (S : SatT) (K : AVal → H → Prop) (p0_ : Pt) (i1_ : Int) (s5_ : Sl) (i6_ : Int) (h : H) : Prop := loopK (spec_l01DrawOrder_w0 S K) (spec_l01DrawOrder_e0 p0_ i1_ s5_ i6_) h
def spec_l01DrawOrder_C0 (S : SatT) (K : AVal → H → Prop) (s5_ : Sl) (h : H) : Prop :=
 K (.sl s5_) h
def spec_l01DrawOrder_b0 (S : SatT) (K : AVal → H → Prop) (X0 : Frame → H → Prop) (p0_ : Pt) (i1_ : Int) (s5_ : Sl) (i6_ : Int) (h : H) : Prop :=
 bif (decide (i6_ < i1_)) then
 callI S .i64 i_spec_l01Next [.ptr p0_, .int .i64 (w64 (i6_ + (1)))] h fun n1 h0 =>
 slotK 12 h0 fun h2 =>
 cut s5_ 1 (0) n1 h2 fun s3 =>
 callS S i_spec_l01Own [.sl s3] h2 fun s5 h4 =>
 cut s5_ 1 n1 (s5_.len : Int) h4 fun s6 =>
 okS h2 s5_ ∧ (
 newSat 1 1 [.int .i64 i6_] h4 (h0.length + 5) fun s7 h8 =>
 okS h4 s5_ ∧ (
 okS h8 s5_ ∧ (
 okS h8 s5_ ∧ (
 app s5 s7 1 h8 fun s9 h10 =>
 okS h10 s5_ ∧ (
 app s9 s6 1 h10 fun s11 h12 =>
 X0 (spec_l01DrawOrder_e0 p0_ i1_ s11 (w64 (i6_ + (1)))) h12)))))
 else
 spec_l01DrawOrder_C0 S K s5_ h
theorem spec_l01DrawOrder_link0 (S : SatT) (K : AVal → H → Prop) (X0 : Frame → H → Prop) (p0_ : Pt) (i1_ : Int) (s5_ : Sl) (i6_ : Int) (h : H) : spec_l01DrawOrder_w0 S K X0 (spec_l01DrawOrder_e0 p0_ i1_ s5_ i6_) h = spec_l01DrawOrder_b0 S K X0 p0_ i1_ s5_ i6_ h := by kernel_rfl
theorem spec_l01DrawOrder_rule0 (S : SatT) (K : AVal → H → Prop) (p0_ : Pt) (i1_ : Int) (I_ : Sl → Int → H → Prop) (m_ : Sl → Int → H → Nat)
    (hs : ∀ (X0 : Frame → H → Prop) (s5_ : Sl) (i6_ : Int) (h : H), I_ s5_ i6_ h → (∀ (s5_' : Sl) (i6_' : Int) (h' : H), I_ s5_' i6_' h' → m_ s5_' i6_' h' < m_ s5_ i6_ h → X0 (spec_l01DrawOrder_e0 p0_ i1_ s5_' i6_') h') → spec_l01DrawOrder_b0 S K X0 p0_ i1_ s5_ i6_ h) (s5_ : Sl) (i6_ : Int) {h : H} (h0 : I_ s5_ i6_ h) : spec_l01DrawOrder_L0 S K p0_ i1_ s5_ i6_ h :=
  loop_rule (σ := (Sl) × (Int)) (fun s_ => spec_l01DrawOrder_e0 p0_ i1_ (s_.1) (s_.2)) (fun s_ h => I_ (s_.1) (s_.2) h) (fun s_ h => m_ (s_.1) (s_.2) h)
    (fun X s_ h hi hx => (spec_l01DrawOrder_link0 S K X p0_ i1_ (s_.1) (s_.2) h).mpr (hs X (s_.1) (s_.2) h hi fun s5_' i6_' h' hi' hm' => hx (s5_', i6_') h' hi' hm')) (s5_, i6_) h0
def spec_l01DrawOrder_main (S : SatT) (K : AVal → H → Prop) (x0 : Pt) (x1 : Int) (h : H) : Prop :=
 newS 0 1 [] h fun s0 h1 =>
 spec_l01DrawOrder_L0 S K x0 x1 s0 (0) h1
theorem spec_l01DrawOrder_main_link (S : SatT) (K : AVal → H → Prop) (x0 : Pt) (x1 : Int) (h : H) : cwp S tab spec_l01DrawOrder_M [] (bodyOf Try.f97) (kFun tab Try.f97.results.toList K) (fr0 Try.f97 [.ptr x0, .int .i64 x1]) h = spec_l01DrawOrder_main S K x0 x1 h := by kernel_rfl
theorem spec_l01DrawOrder_call (x0 : Pt) (x1 : Int) (h : H) (K : Sl → H → Prop) (hm : spec_l01DrawOrder_main (Sat Try.prog) (fun v h' => ∃ r, v = .sl r ∧ K r h') x0 x1 h) : callS (Sat Try.prog) i_spec_l01DrawOrder [.ptr x0, .int .i64 x1] h K := by
  have := Sat.ex tok mixed spec_l01DrawOrder_M Try.func97 (c := bodyOf Try.f97) (by kernel_rfl) (calls_of Try.func97 (c := bodyOf Try.f97) (by kernel_rfl) (by decide)) ((spec_l01DrawOrder_main_link _ _ x0 x1 h).mpr hm)
  obtain ⟨v, h2, h3, r, rfl, h4⟩ := this; exact ⟨r, h2, h3, h4⟩

/-! ### loop.example/g01354/spec.l01From -/
def spec_l01From_M : Nat → List Nat := fun i => bif i == 0 then [0, 3, 4] else []
def spec_l01From_ks2 (S : SatT) (K : AVal → H → Prop) : Kont := kSeq (cwp S tab spec_l01From_M [] (sub [1, 1, 1] (bodyOf Try.f61)) (kFun tab (Try.f61).results.toList K)) (kFun tab (Try.f61).results.toList K)
def spec_l01From_e0 (s0_ : Sl) (p3_ : Pt) (i4_ : Int) : Frame := [.sl s0_, U, U, .ptr p3_, .int .i64 i4_, U, U, U, U, U, U, U, U, U, U, U, U, U, U, U, U, U, U, U, U, U, U, U, U, U, U, U, U, U, U, U, U, U]
def spec_l01From_w0 (S : SatT) (K : AVal → H → Prop) : (Frame → H → Prop) → Frame → H → Prop := fun X fr h => cwp S tab spec_l01From_M (spec_l01From_M 0) (sub [1, 1, 0, 1, 0, 0] (bodyOf Try.f61)) (kSeq (fun fr h => X (mask (spec_l01From_M 0) fr) h) (kBlk 0 (spec_l01From_ks2 S K))) fr h
def spec_l01From_L0 (S : SatT) (K : AVal → H → Prop) (s0_ : Sl) (p3_ : Pt) (i4_ : Int) (h : H) : Prop := loopK (spec_l01From_w0 S K) (spec_l01From_e0 s0_ p3_ i4_) h
def spec_l01From_C0 (S : SatT) (K : AVal → H → Prop) (p3_ : Pt) (h : H) : Prop :=
 K (.ptr p3_) h
def spec_l01From_b0 (S : SatT) (K : AVal → H → Prop) (X0 : Frame → H → Prop) (s0_ : Sl) (p3_ : Pt) (i4_ : Int) (h : H) : Prop :=
 bif (decide (i4_ < (s0_.len : Int))) then
 bif (decide (i4_ < (4096))) then
 nilC (.ptr p3_) (
 isPt p3_ (
 ldI .u64 (Pt.add p3_ 2) h fun n0 =>
 ixS s0_ 1 i4_ fun p1 =>
 ldI .u8 p1 h fun n2 =>
 nilC (.ptr p3_) (
 isPt p3_ (
 st1 (Pt.add p3_ 2) (.int .u64 (IntKind.wrap .u64 ((IntKind.wrap .u64 ((IntKind.wrap .u64 (n0 * (1099511628211))) + (IntKind.wrap .u64 (n2)))) + (191)))) h fun h3 =>
 X0 (spec_l01From_e0 s0_ p3_ (w64 (i4_ + (1)))) h3))))
 else
 spec_l01From_C0 S K p3_ h
 else
 spec_l01From_C0 S K p3_ h
theorem spec_l01From_link0 (S : SatT) (K : AVal → H → Prop) (X0 : Frame → H → Prop) (s0_ : Sl) (p3_ : Pt) (i4_ : Int) (h : H) : spec_l01From_w0 S K X0 (spec_l01From_e0 s0_ p3_ i4_) h = spec_l01From_b0 S K X0 s0_ p3_ i4_ h := by kernel_rfl
theorem spec_l01From_rule0 (S : SatT) (K : AVal → H → Prop) (s0_ : Sl) (p3_ : Pt) (I_ : Int → H → Prop) (m_ : Int → H → Nat)
    (hs : ∀ (X0 : Frame → H → Prop) (i4_ : Int) (h : H), I_ i4_ h → (∀ (i4_' : Int) (h' : H), I_ i4_' h' → m_ i4_' h' < m_ i4_ h → X0 (spec_l01From_e0 s0_ p3_ i4_') h') → spec_l01From_b0 S K X0 s0_ p3_ i4_ h) (i4_ : Int) {h : H} (h0 : I_ i4_ h) : spec_l01From_L0 S K s0_ p3_ i4_ h :=
  loop_rule (σ := (Int)) (fun s_ => spec_l01From_e0 s0_ p3_ (s_)) (fun s_ h => I_ (s_) h) (fun s_ h => m_ (s_) h)
    (fun X s_ h hi hx => (spec_l01From_link0 S K X s0_ p3_ (s_) h).mpr (hs X (s_) h hi fun i4_' h' hi' hm' => hx (i4_') h' hi' hm')) (i4_) h0
def spec_l01From_main (S : SatT) (K : AVal → H → Prop) (x0 : Sl) (h : H) : Prop :=
 newK 3 [.sl x0, .int .i64 (0), .int .u64 (IntKind.wrap .u64 ((13541) + (IntKind.wrap .u64 ((x0.len : Int)))))] h fun p0 h1 =>
 spec_l01From_L0 S K x0 p0 (0) h1
theorem spec_l01From_main_link (S : SatT) (K : AVal → H → Prop) (x0 : Sl) (h : H) : cwp S tab spec_l01From_M [] (bodyOf Try.f61) (kFun tab Try.f61.results.toList K) (fr0 Try.f61 [.sl x0]) h = spec_l01From_main S K x0 h := by kernel_rfl
theorem spec_l01From_call (x0 : Sl) (h : H) (K : Pt → H → Prop) (hm : spec_l01From_main (Sat Try.prog) (fun v h' => ∃ r, v = .ptr r ∧ K r h') x0 h) : callP (Sat Try.prog) i_spec_l01From [.sl x0] h K := by
  have := Sat.ex tok mixed spec_l01From_M Try.func61 (c := bodyOf Try.f61) (by kernel_rfl) (calls_of Try.func61 (c := bodyOf Try.f61) (by kernel_rfl) (by decide)) ((spec_l01From_main_link _ _ x0 h).mpr hm)
  obtain ⟨v, h2, h3, r, rfl, h4⟩ := this; exact ⟨r, h2, h3, h4⟩

/-! ### loop.example/g01354/spec.l01Tile -/
def spec_l01Tile_M : Nat → List Nat := fun i => bif i == 0 then [0, 3, 5] else []
def spec_l01Tile_ks1 (S : SatT) (K : AVal → H → Prop) : Kont := kSeq (cwp S tab spec_l01Tile_M [] (sub [1, 1] (bodyOf Try.f87)) (kFun tab (Try.f87).results.toList K)) (kFun tab (Try.f87).results.toList K)
def spec_l01Tile_e0 (i0_ : Int) (p3_ : Pt) (i5_ : Int) : Frame := [.int .i64 i0_, U, U, .ptr p3_, U, .int .i64 i5_, U, U, U, U, U, U, U, U, U, U, U]
def spec_l01Tile_w0 (S : SatT) (K : AVal → H → Prop) : (Frame → H → Prop) → Frame → H → Prop := fun X fr h => cwp S tab spec_l01Tile_M (spec_l01Tile_M 0) (sub [1, 0, 1, 0, 0] (bodyOf Try.f87)) (kSeq (fun fr h => X (mask (spec_l01Tile_M 0) fr) h) (kBlk 0 (spec_l01Tile_ks1 S K))) fr h
def spec_l01Tile_L0 (S : SatT) (K : AVal → H → Prop) (i0_ : Int) (p3_ : Pt) (i5_ : Int) (h : H) : Prop := loopK (spec_l01Tile_w0 S K) (spec_l01Tile_e0 i0_ p3_ i5_) h
def spec_l01Tile_C0 (S : SatT) (K : AVal → H → Prop) (h : H) : Prop :=
 K (.bool true) h
def spec_l01Tile_b0 (S : SatT) (K : AVal → H → Prop) (X0 : Frame → H → Prop) (i0_ : Int) (p3_ : Pt) (i5_ : Int) (h : H) : Prop :=
 bif (decide (i5_ < (4))) then
 ixA p3_ 4 1 i5_ fun p0 =>
 ldI .i64 p0 h fun n1 =>
 callB S i_spec_l01In [.int .i64 n1, .int .i64 (0), .int .i64 (w64 (i0_ - (1)))] h fun b3 h2 =>
 bif (!b3) then
 K (.bool false) h2
 else
 X0 (spec_l01Tile_e0 i0_ p3_ (w64 (i5_ + (1)))) h2
 else
 spec_l01Tile_C0 S K h
theorem spec_l01Tile_link0 (S : SatT) (K : AVal → H → Prop) (X0 : Frame → H → Prop) (i0_ : Int) (p3_ : Pt) (i5_ : Int) (h : H) : spec_l01Tile_w0 S K X0 (spec_l01Tile_e0 i0_ p3_ i5_) h = spec_l01Tile_b0 S K X0 i0_ p3_ i5_ h := by kernel_rfl
theorem spec_l01Tile_rule0 (S : SatT) (K : AVal → H → Prop) (i0_ : Int) (p3_ : Pt) (I_ : Int → H → Prop) (m_ : Int → H → Nat)
    (hs : ∀ (X0 : Frame → H → Prop) (i5_ : Int) (h : H), I_ i5_ h → (∀ (i5_' : Int) (h' : H), I_ i5_' h' → m_ i5_' h' < m_ i5_ h → X0 (spec_l01Tile_e0 i0_ p3_ i5_') h') → spec_l01Tile_b0 S K X0 i0_ p3_ i5_ h) (i5_ : Int) {h : H} (h0 : I_ i5_ h) : spec_l01Tile_L0 S K i0_ p3_ i5_ h :=
  loop_rule (σ := (Int)) (fun s_ => spec_l01Tile_e0 i0_ p3_ (s_)) (fun s_ h => I_ (s_) h) (fun s_ h => m_ (s_) h)
    (fun X s_ h hi hx => (spec_l01Tile_link0 S K X i0_ p3_ (s_) h).mpr (hs X (s_) h hi fun i5_' h' hi' hm' => hx (i5_') h' hi' hm')) (i5_) h0
def spec_l01Tile_main (S : SatT) (K : AVal → H → Prop) (x0 : Int) (x1 : List AVal) (h : H) : Prop :=
 newK 4 x1 h fun p0 h1 =>
 spec_l01Tile_L0 S K x0 p0 (0) h1
theorem spec_l01Tile_main_link (S : SatT) (K : AVal → H → Prop) (x0 : Int) (x1 : List AVal) (h : H) : cwp S tab spec_l01Tile_M [] (bodyOf Try.f87) (kFun tab Try.f87.results.toList K) (fr0 Try.f87 [.int .i64 x0, .agg x1]) h = spec_l01Tile_main S K x0 x1 h := by kernel_rfl
theorem spec_l01Tile_call (x0 : Int) (x1 : List AVal) (h : H) (K : Bool → H → Prop) (hm : spec_l01Tile_main (Sat Try.prog) (fun v h' => ∃ r, v = .bool r ∧ K r h') x0 x1 h) : callB (Sat Try.prog) i_spec_l01Tile [.int .i64 x0, .agg x1] h K := by
  have := Sat.ex tok mixed spec_l01Tile_M Try.func87 (c := bodyOf Try.f87) (by kernel_rfl) (calls_of Try.func87 (c := bodyOf Try.f87) (by kernel_rfl) (by decide)) ((spec_l01Tile_main_link _ _ x0 x1 h).mpr hm)
  obtain ⟨v, h2, h3, r, rfl, h4⟩ := this; exact ⟨r, h2, h3, h4⟩

/-! ### loop.example/g01354/laws.rows9 -/
def laws_rows9_M : Nat → List Nat := fun i => bif i == 0 then [0, 1, 5] else []
def laws_rows9_ks4 (S : SatT) (K : AVal → H → Prop) : Kont := kSeq (cwp S tab laws_rows9_M [] (sub [1, 1, 1] (bodyOf Try.f9)) (kFun tab (Try.f9).results.toList K)) (kFun tab (Try.f9).results.toList K)
def laws_rows9_e0 (s0_ : Sl) (s1_ : Sl) (i5_ : Int) : Frame := [.sl s0_, .sl s1_, U, U, U, .int .i64 i5_, U, U, U, U, U, U, U, U, U, U, U, U, U, U, U, U, U, U, U, U, U]
def laws_rows9_w0 (S : SatT) (K : AVal → H → Prop) : (Frame → H → Prop) → Frame → H → Prop := fun X fr h => cwp S tab laws_rows9_M (laws_rows9_M 0) (sub [1, 1, 0, 1, 0, 0] (bodyOf Try.f9)) (kSeq (fun fr h => X (mask (laws_rows9_M 0) fr) h) (kBlk 0 (laws_rows9_ks4 S K))) fr h
def laws_rows9_L0 (S : SatT) (K : AVal → H → Prop) (s0_ : Sl) (s1_ : Sl) (i5_ : Int) (h : H) : Prop := loopK (laws_rows9_w0 S K) (laws_rows9_e0 s0_ s1_ i5_) h
def laws_rows9_C0 (S : SatT) (K : AVal → H → Prop) (h : H) : Prop :=
 K (.bool true) h
def laws_rows9_b0 (S : SatT) (K : AVal → H → Prop) (X0 : Frame → H → Prop) (s0_ : Sl) (s1_ : Sl) (i5_ : Int) (h : H) : Prop :=
 bif (decide (i5_ < (s0_.len : Int))) then
 ixS s0_ 1 i5_ fun p0 =>
 ldS p0 h fun s1 =>
 ixS s1_ 1 i5_ fun p2 =>
 ldS p2 h fun s3 =>
 callB S i_laws_likeInts [.sl s1, .sl s3] h fun b5 h4 =>
 bif (!b5) then
 K (.bool false) h4
 else
 X0 (laws_rows9_e0 s0_ s1_ (w64 (i5_ + (1)))) h4
 else
 laws_rows9_C0 S K h
theorem laws_rows9_link0 (S : SatT) (K : AVal → H → Prop) (X0 : Frame → H → Prop) (s0_ : Sl) (s1_ : Sl) (i5_ : Int) (h : H) : laws_rows9_w0 S K X0 (laws_rows9_e0 s0_ s1_ i5_) h = laws_rows9_b0 S K X0 s0_ s1_ i5_ h := by kernel_rfl
theorem laws_rows9_rule0 (S : SatT) (K : AVal → H → Prop) (s0_ : Sl) (s1_ : Sl) (I_ : Int → H → Prop) (m_ : Int → H → Nat)
    (hs : ∀ (X0 : Frame → H → Prop) (i5_ : Int) (h : H), I_ i5_ h → (∀ (i5_' : Int) (h' : H), I_ i5_' h' → m_ i5_' h' < m_ i5_ h → X0 (laws_rows9_e0 s0_ s1_ i5_') h') → laws_rows9_b0 S K X0 s0_ s1_ i5_ h) (i5_ : Int) {h : H} (h0 : I_ i5_ h) : laws_rows9_L0 S K s0_ s1_ i5_ h :=
  loop_rule (σ := (Int)) (fun s_ => laws_rows9_e0 s0_ s1_ (s_)) (fun s_ h => I_ (s_) h) (fun s_ h => m_ (s_) h)
    (fun X s_ h hi hx => (laws_rows9_link0 S K X s0_ s1_ (s_) h).mpr (hs X (s_) h hi fun i5_' h' hi' hm' => hx (i5_') h' hi' hm')) (i5_) h0
def laws_rows9_main (S : SatT) (K : AVal → H → Prop) (x0 : Sl) (x1 : Sl) (h : H) : Prop :=
 bif ((x0.len : Int) != (x1.len : Int)) then
 K (.bool false) h
 else
 laws_rows9_L0 S K x0 x1 (0) h
theorem laws_rows9_main_link (S : SatT) (K : AVal → H → Prop) (x0 : Sl) (x1 : Sl) (h : H) : cwp S tab laws_rows9_M [] (bodyOf Try.f9) (kFun tab Try.f9.results.toList K) (fr0 Try.f9 [.sl x0, .sl x1]) h = laws_rows9_main S K x0 x1 h := by kernel_rfl
theorem laws_rows9_call (x0 : Sl) (x1 : Sl) (h : H) (K : Bool → H → Prop) (hm : laws_rows9_main (Sat Try.prog) (fun v h' => ∃ r, v = .bool r ∧ K r h') x0 x1 h) : callB (Sat Try.prog) i_laws_rows9 [.sl x0, .sl x1] h K := by
  have := Sat.ex tok mixed laws_rows9_M Try.func9 (c := bodyOf Try.f9) (by kernel_rfl) (calls_of Try.func9 (c := bodyOf Try.f9) (by kernel_rfl) (by decide)) ((laws_rows9_main_link _ _ x0 x1 h).mpr hm)
  obtain ⟨v, h2, h3, r, rfl, h4⟩ := this; exact ⟨r, h2, h3, h4⟩

/-! ### loop.example/g01354/spec.l06With -/
def spec_l06With_M : Nat → List Nat := fun i => []
def spec_l06With_main (S : SatT) (K : AVal → H → Prop) (x0 : Sl) (h : H) : Prop :=
 newO [.int .i64 (0), .sl Sl.nil] h fun p0 h1 =>
 callP S i_spec_l01From [.sl x0] h1 fun p3 h2 =>
 callV S i_spec_l06Draw [.ptr p3] h2 fun v5 h4 =>
 viaT v5 fun vs6 =>
 exA vs6 0 fun cs7 =>
 viaT v5 fun vs8 =>
 exI .i64 vs8 1 fun n9 =>
 newO [.int .i64 (0), .sl Sl.nil] h4 fun p10 h11 =>
 stN p10 2 cs7 h11 fun h12 =>
 ldA p10 2 h12 fun cs13 =>
 callI S .i64 i_spec_l01Near [.ptr p3, .int .i64 (30)] h12 fun n15 h14 =>
(range h14 p10.o p10.n p10.off 2 = range h12 p10.o p10.n p10.off 2) ∧ (
 newS 7 1 [.int .i64 (1), .int .i64 (2), .int .i64 (3), .int .i64 (4), .int .i64 (6), .int .i64 (10), .int .i64 n15] h14 fun s16 h17 =>
(range h17 p10.o p10.n p10.off 2 = range h12 p10.o p10.n p10.off 2) ∧ (
 callI S .i64 i_spec_l01Pick [.ptr p3, .sl s16] h17 fun n19 h18 =>
(range h18 p10.o p10.n p10.off 2 = range h12 p10.o p10.n p10.off 2) ∧ (
 stN p0 2 cs13 h18 fun h20 =>
 ldA p0 2 h20 fun cs21 =>
 K (.tuple [.agg cs21, .int .i64 n9, .int .i64 n19]) h20)))
theorem spec_l06With_main_link (S : SatT) (K : AVal → H → Prop) (x0 : Sl) (h : H) : cwp S tab spec_l06With_M [] (bodyOf Try.f36) (kFun tab Try.f36.results.toList K) (fr0 Try.f36 [.sl x0]) h = spec_l06With_main S K x0 h := by kernel_rfl
theorem spec_l06With_call (x0 : Sl) (h : H) (K : AVal → H → Prop) (hm : spec_l06With_main (Sat Try.prog) (fun v h' => K v h') x0 h) : callV (Sat Try.prog) i_spec_l06With [.sl x0] h K := by
  have := Sat.ex tok mixed spec_l06With_M Try.func36 (c := bodyOf Try.f36) (by kernel_rfl) (calls_of Try.func36 (c := bodyOf Try.f36) (by kernel_rfl) (by decide)) ((spec_l06With_main_link _ _ x0 h).mpr hm)
  exact this

/-! ### loop.example/g01354/spec.l06Code -/
def spec_l06Code_M : Nat → List Nat := fun i => []
def spec_l06Code_main (S : SatT) (K : AVal → H → Prop) (x0 : List AVal) (x1 : Int) (h : H) : Prop :=
 newK 2 x0 h fun p0 h1 =>
 ldA p0 2 h1 fun cs2 =>
 callB S i_spec_l01Is [.agg cs2] h1 fun b4 h3 =>
 bif (!b4) then
 K (.tuple [.sl Sl.nil, .int .i64 (1)]) h3
 else
 callB S i_spec_l01In [.int .i64 x1, .int .i64 (1), .int .i64 (4)] h3 fun b6 h5 =>
 bif (!b6) then
 K (.tuple [.sl Sl.nil, .int .i64 (2)]) h5
 else
 ldA p0 2 h5 fun cs7 =>
 callI S .i64 i_spec_l06Size [.agg cs7, .int .i64 x1] h5 fun n9 h8 =>
 bif (decide (n9 > (700))) then
 K (.tuple [.sl Sl.nil, .int .i64 (3)]) h8
 else
 ldA p0 2 h8 fun cs10 =>
 callV S i_spec_l06Columns [.agg cs10, .int .i64 x1] h8 fun v12 h11 =>
 viaT v12 fun vs13 =>
 exS vs13 0 fun s14 =>
 viaT v12 fun vs15 =>
 exB vs15 1 fun b16 =>
 bif (!b16) then
 K (.tuple [.sl Sl.nil, .int .i64 (3)]) h11
 else
 K (.tuple [.sl s14, .int .i64 (0)]) h11
theorem spec_l06Code_main_link (S : SatT) (K : AVal → H → Prop) (x0 : List AVal) (x1 : Int) (h : H) : cwp S tab spec_l06Code_M [] (bodyOf Try.f35) (kFun tab Try.f35.results.toList K) (fr0 Try.f35 [.agg x0, .int .i64 x1]) h = spec_l06Code_main S K x0 x1 h := by kernel_rfl
theorem spec_l06Code_call (x0 : List AVal) (x1 : Int) (h : H) (K : AVal → H → Prop) (hm : spec_l06Code_main (Sat Try.prog) (fun v h' => K v h') x0 x1 h) : callV (Sat Try.prog) i_spec_l06Code [.agg x0, .int .i64 x1] h K := by
  have := Sat.ex tok mixed spec_l06Code_M Try.func35 (c := bodyOf Try.f35) (by kernel_rfl) (calls_of Try.func35 (c := bodyOf Try.f35) (by kernel_rfl) (by decide)) ((spec_l06Code_main_link _ _ x0 x1 h).mpr hm)
  exact this

/-! ### loop.example/g01354/impl.ColumnTable -/
def impl_ColumnTable_M : Nat → List Nat := fun i => []
def impl_ColumnTable_main (S : SatT) (K : AVal → H → Prop) (x0 : List AVal) (x1 : Int) (h : H) : Prop :=
 newK 2 x0 h fun p0 h1 =>
 ldA p0 2 h1 fun cs2 =>
 callV S i_impl_lastingOf [.agg cs2, .int .i64 x1] h1 fun v4 h3 =>
 viaT v4 fun vs5 =>
 exP vs5 0 fun p6 =>
 viaT v4 fun vs7 =>
 exS vs7 1 fun s8 =>
 viaT v4 fun vs9 =>
 exS vs9 2 fun s10 =>
 viaT v4 fun vs11 =>
 exI .i64 vs11 3 fun n12 =>
 bif (n12 != (0)) then
 K (.tuple [.sl Sl.nil, .int .i64 n12]) h3
 else
 K (.tuple [.sl s10, .int .i64 (0)]) h3
theorem impl_ColumnTable_main_link (S : SatT) (K : AVal → H → Prop) (x0 : List AVal) (x1 : Int) (h : H) : cwp S tab impl_ColumnTable_M [] (bodyOf Try.f7) (kFun tab Try.f7.results.toList K) (fr0 Try.f7 [.agg x0, .int .i64 x1]) h = impl_ColumnTable_main S K x0 x1 h := by kernel_rfl
theorem impl_ColumnTable_call (x0 : List AVal) (x1 : Int) (h : H) (K : AVal → H → Prop) (hm : impl_ColumnTable_main (Sat Try.prog) (fun v h' => K v h') x0 x1 h) : callV (Sat Try.prog) i_impl_ColumnTable [.agg x0, .int .i64 x1] h K := by
  have := Sat.ex tok mixed impl_ColumnTable_M Try.func7 (c := bodyOf Try.f7) (by kernel_rfl) (calls_of Try.func7 (c := bodyOf Try.f7) (by kernel_rfl) (by decide)) ((impl_ColumnTable_main_link _ _ x0 x1 h).mpr hm)
  exact this

/-! ### loop.example/g01354/spec.DrawStripSequence -/
def spec_DrawStripSequence_M : Nat → List Nat := fun i => []
def spec_DrawStripSequence_main (S : SatT) (K : AVal → H → Prop) (x0 : Sl) (h : H) : Prop :=
 newO [.int .i64 (0), .sl Sl.nil] h fun p0 h1 =>
 callV S i_spec_l06With [.sl x0] h1 fun v3 h2 =>
 viaT v3 fun vs4 =>
 exA vs4 0 fun cs5 =>
 viaT v3 fun vs6 =>
 exI .i64 vs6 1 fun n7 =>
 viaT v3 fun vs8 =>
 exI .i64 vs8 2 fun n9 =>
 stN p0 2 cs5 h2 fun h10 =>
 ldA p0 2 h10 fun cs11 =>
 K (.tuple [.agg cs11, .int .i64 n7, .int .i64 n9]) h10
theorem spec_DrawStripSequence_main_link (S : SatT) (K : AVal → H → Prop) (x0 : Sl) (h : H) : cwp S tab spec_DrawStripSequence_M [] (bodyOf Try.f14) (kFun tab Try.f14.results.toList K) (fr0 Try.f14 [.sl x0]) h = spec_DrawStripSequence_main S K x0 h := by kernel_rfl
theorem spec_DrawStripSequence_call (x0 : Sl) (h : H) (K : AVal → H → Prop) (hm : spec_DrawStripSequence_main (Sat Try.prog) (fun v h' => K v h') x0 h) : callV (Sat Try.prog) i_spec_DrawStripSequence [.sl x0] h K := by
  have := Sat.ex tok mixed spec_DrawStripSequence_M Try.func14 (c := bodyOf Try.f14) (by kernel_rfl) (calls_of Try.func14 (c := bodyOf Try.f14) (by kernel_rfl) (by decide)) ((spec_DrawStripSequence_main_link _ _ x0 h).mpr hm)
  exact this

/-! ### loop.example/g01354/impl.setCode -/
def impl_setCode_M : Nat → List Nat := fun i => []
def impl_setCode_main (S : SatT) (K : AVal → H → Prop) (x0 : List AVal) (x1 : AVal) (h : H) : Prop :=
 newK 2 x0 h fun p0 h1 =>
 ldA p0 2 h1 fun cs2 =>
 callB S i_impl_IsSet [.agg cs2] h1 fun b4 h3 =>
 bif (!b4) then
 K (.int .i64 (1)) h3
 else
 viaF x1 [] fun g5 ys6 =>
 callB S g5 ys6 h3 fun b8 h7 =>
 bif (!b8) then
 K (.int .i64 (2)) h7
 else
 K (.int .i64 (0)) h7
theorem impl_setCode_main_link (S : SatT) (K : AVal → H → Prop) (x0 : List AVal) (x1 : AVal) (h : H) : cwp S tab impl_setCode_M [] (bodyOf Try.f37) (kFun tab Try.f37.results.toList K) (fr0 Try.f37 [.agg x0, x1]) h = impl_setCode_main S K x0 x1 h := by kernel_rfl
theorem impl_setCode_call (x0 : List AVal) (x1 : AVal) (h : H) (K : Int → H → Prop) (hm : impl_setCode_main (Sat Try.prog) (fun v h' => ∃ r, v = .int .i64 r ∧ K r h') x0 x1 h) : callI (Sat Try.prog) .i64 i_impl_setCode [.agg x0, x1] h K := by
  have := Sat.ex tok mixed impl_setCode_M Try.func37 (c := bodyOf Try.f37) (by kernel_rfl) (calls_of Try.func37 (c := bodyOf Try.f37) (by kernel_rfl) (by decide)) ((impl_setCode_main_link _ _ x0 x1 h).mpr hm)
  obtain ⟨v, h2, h3, r, rfl, h4⟩ := this; exact ⟨r, h2, h3, h4⟩

/-! ### loop.example/g01354/spec.l01Made -/
def spec_l01Made_M : Nat → List Nat := fun i => []
def spec_l01Made_main (S : SatT) (K : AVal → H → Prop) (x0 : Int) (x1 : Sl) (h : H) : Prop :=
 newO [.int .i64 (0), .sl Sl.nil] h fun p0 h1 =>
 callS S i_spec_l01Sort [.sl x1] h1 fun s3 h2 =>
 stN p0 2 [.int .i64 x0, .sl s3] h2 fun h4 =>
 ldA p0 2 h4 fun cs5 =>
 K (.agg cs5) h4
theorem spec_l01Made_main_link (S : SatT) (K : AVal → H → Prop) (x0 : Int) (x1 : Sl) (h : H) : cwp S tab spec_l01Made_M [] (bodyOf Try.f107) (kFun tab Try.f107.results.toList K) (fr0 Try.f107 [.int .i64 x0, .sl x1]) h = spec_l01Made_main S K x0 x1 h := by kernel_rfl
theorem spec_l01Made_call (x0 : Int) (x1 : Sl) (h : H) (K : List AVal → H → Prop) (hm : spec_l01Made_main (Sat Try.prog) (fun v h' => ∃ r, v = .agg r ∧ K r h') x0 x1 h) : callA (Sat Try.prog) i_spec_l01Made [.int .i64 x0, .sl x1] h K := by
  have := Sat.ex tok mixed spec_l01Made_M Try.func107 (c := bodyOf Try.f107) (by kernel_rfl) (calls_of Try.func107 (c := bodyOf Try.f107) (by kernel_rfl) (by decide)) ((spec_l01Made_main_link _ _ x0 x1 h).mpr hm)
  obtain ⟨v, h2, h3, r, rfl, h4⟩ := this; exact ⟨r, h2, h3, h4⟩

/-! ### loop.example/g01354/spec.l01Spoil -/
def spec_l01Spoil_M : Nat → List Nat := fun i => []
def spec_l01Spoil_main (S : SatT) (K : AVal → H → Prop) (x0 : Pt) (h : H) : Prop :=
 newO [.int .i64 (0), .sl Sl.nil] h fun p0 h1 =>
 callA S i_spec_l01Draw [.ptr x0] h1 fun cs3 h2 =>
 callA S i_spec_l01Bad [.ptr x0, .agg cs3] h2 fun cs5 h4 =>
 stN p0 2 cs5 h4 fun h6 =>
 ldA p0 2 h6 fun cs7 =>
 K (.agg cs7) h6
theorem spec_l01Spoil_main_link (S : SatT) (K : AVal → H → Prop) (x0 : Pt) (h : H) : cwp S tab spec_l01Spoil_M [] (bodyOf Try.f83) (kFun tab Try.f83.results.toList K) (fr0 Try.f83 [.ptr x0]) h = spec_l01Spoil_main S K x0 h := by kernel_rfl
theorem spec_l01Spoil_call (x0 : Pt) (h : H) (K : List AVal → H → Prop) (hm : spec_l01Spoil_main (Sat Try.prog) (fun v h' => ∃ r, v = .agg r ∧ K r h') x0 h) : callA (Sat Try.prog) i_spec_l01Spoil [.ptr x0] h K := by
  have := Sat.ex tok mixed spec_l01Spoil_M Try.func83 (c := bodyOf Try.f83) (by kernel_rfl) (calls_of Try.func83 (c := bodyOf Try.f83) (by kernel_rfl) (by decide)) ((spec_l01Spoil_main_link _ _ x0 h).mpr hm)
  obtain ⟨v, h2, h3, r, rfl, h4⟩ := this; exact ⟨r, h2, h3, h4⟩

/-! ### math/bits.Mul -/
def math_bits_Mul_M : Nat → List Nat := fun i => []
def math_bits_Mul_main (S : SatT) (K : AVal → H → Prop) (x0 : Int) (x1 : Int) (h : H) : Prop :=
 callV S i_math_bits_Mul64 [.int .u64 x0, .int .u64 x1] h fun v1 h0 =>
 viaT v1 fun vs2 =>
 exI .u64 vs2 0 fun n3 =>
 viaT v1 fun vs4 =>
 exI .u64 vs4 1 fun n5 =>
 K (.tuple [.int .u64 n3, .int .u64 n5]) h0
theorem math_bits_Mul_main_link (S : SatT) (K : AVal → H → Prop) (x0 : Int) (x1 : Int) (h : H) : cwp S tab math_bits_Mul_M [] (bodyOf Try.f91) (kFun tab Try.f91.results.toList K) (fr0 Try.f91 [.int .u64 x0, .int .u64 x1]) h = math_bits_Mul_main S K x0 x1 h := by kernel_rfl
theorem math_bits_Mul_call (x0 : Int) (x1 : Int) (h : H) (K : AVal → H → Prop) (hm : math_bits_Mul_main (Sat Try.prog) (fun v h' => K v h') x0 x1 h) : callV (Sat Try.prog) i_math_bits_Mul [.int .u64 x0, .int .u64 x1] h K := by
  have := Sat.ex tok mixed math_bits_Mul_M Try.func91 (c := bodyOf Try.f91) (by kernel_rfl) (calls_of Try.func91 (c := bodyOf Try.f91) (by kernel_rfl) (by decide)) ((math_bits_Mul_main_link _ _ x0 x1 h).mpr hm)
  exact this

/-! ### cmp.isNaN[int64] -/
def cmp_isNaN_int64__M : Nat → List Nat := fun i => []
def cmp_isNaN_int64__main (S : SatT) (K : AVal → H → Prop) (x0 : Int) (h : H) : Prop :=
 K (.bool (x0 != x0)) h
theorem cmp_isNaN_int64__main_link (S : SatT) (K : AVal → H → Prop) (x0 : Int) (h : H) : cwp S tab cmp_isNaN_int64__M [] (bodyOf Try.f114) (kFun tab Try.f114.results.toList K) (fr0 Try.f114 [.int .i64 x0]) h = cmp_isNaN_int64__main S K x0 h := by kernel_rfl
theorem cmp_isNaN_int64__call (x0 : Int) (h : H) (K : Bool → H → Prop) (hm : cmp_isNaN_int64__main (Sat Try.prog) (fun v h' => ∃ r, v = .bool r ∧ K r h') x0 h) : callB (Sat Try.prog) i_cmp_isNaN_int64_ [.int .i64 x0] h K := by
  have := Sat.ex tok mixed cmp_isNaN_int64__M Try.func114 (c := bodyOf Try.f114) (by kernel_rfl) (calls_of Try.func114 (c := bodyOf Try.f114) (by kernel_rfl) (by decide)) ((cmp_isNaN_int64__main_link _ _ x0 h).mpr hm)
  obtain ⟨v, h2, h3, r, rfl, h4⟩ := this; exact ⟨r, h2, h3, h4⟩

/-! ### (loop.example/g01354/impl.Set).ways -/
def impl_Set_ways_M : Nat → List Nat := fun i => bif i == 4 then [1, 2, 5, 7, 8, 13, 14, 23, 24, 30, 31, 32] else bif i == 2 then [1, 2, 5, 7, 13, 14, 23, 24] else bif i == 0 then [1, 2, 5, 13, 14] else []
def impl_Set_ways_ks2 (S : SatT) (K : AVal → H → Prop) : Kont := kSeq (cwp S tab impl_Set_ways_M [] (sub [1, 1, 1] (bodyOf Try.f49)) (kFun tab (Try.f49).results.toList K)) (kFun tab (Try.f49).results.toList K)
def impl_Set_ways_e0 (i1_ : Int) (p2_ : Pt) (s5_ : Sl) (i13_ : Int) (i14_ : Int) : Frame := [U, .int .i64 i1_, .ptr p2_, U, U, .sl s5_, U, U, U, U, U, U, U, .int .i64 i13_, .int .i64 i14_, U, U, U, U, U, U, U, U, U, U, U, U, U, U, U, U, U, U, U, U, U, U, U, U, U, U, U, U, U, U, U, U, U, U, U, U, U, U, U, U, U, U, U, U, U, U]
def impl_Set_ways_w0 (S : SatT) (K : AVal → H → Prop) : (Frame → H → Prop) → Frame → H → Prop := fun X fr h => cwp S tab impl_Set_ways_M (impl_Set_ways_M 0) (sub [1, 1, 0, 1, 0, 0] (bodyOf Try.f49)) (kSeq (fun fr h => X (mask (impl_Set_ways_M 0) fr) h) (kBlk 0 (impl_Set_ways_ks2 S K))) fr h
def impl_Set_ways_L0 (S : SatT) (K : AVal → H → Prop) (i1_ : Int) (p2_ : Pt) (s5_ : Sl) (i13_ : Int) (i14_ : Int) (h : H) : Prop := loopK (impl_Set_ways_w0 S K) (impl_Set_ways_e0 i1_ p2_ s5_ i13_ i14_) h
def impl_Set_ways_ks6 (S : SatT) (K : AVal → H → Prop) (X0 : Frame → H → Prop) : Kont := kSeq (cwp S tab impl_Set_ways_M (impl_Set_ways_M 0) (sub [1, 1, 0, 1, 0, 0, 1, 1, 1] (bodyOf Try.f49)) (kSeq (fun fr h => X0 (mask (impl_Set_ways_M 0) fr) h) (kBlk 0 (impl_Set_ways_ks2 S K)))) (kSeq (fun fr h => X0 (mask (impl_Set_ways_M 0) fr) h) (kBlk 0 (impl_Set_ways_ks2 S K)))
def impl_Set_ways_ks10 (S : SatT) (K : AVal → H → Prop) (X0 : Frame → H → Prop) : Kont := kSeq (cwp S tab impl_Set_ways_M (impl_Set_ways_M 1) (sub [1, 1, 0, 1, 0, 0, 1, 1, 0, 0, 1, 1, 1, 1] (bodyOf Try.f49)) (kBlk 1 (impl_Set_ways_ks6 S K X0))) (kBlk 1 (impl_Set_ways_ks6 S K X0))
def impl_Set_ways_e2 (i1_ : Int) (p2_ : Pt) (s5_ : Sl) (s7_ : Sl) (i13_ : Int) (i14_ : Int) (i23_ : Int) (i24_ : Int) : Frame := [U, .int .i64 i1_, .ptr p2_, U, U, .sl s5_, U, .sl s7_, U, U, U, U, U, .int .i64 i13_, .int .i64 i14_, U, U, U, U, U, U, U, U, .int .i64 i23_, .int .i64 i24_, U, U, U, U, U, U, U, U, U, U, U, U, U, U, U, U, U, U, U, U, U, U, U, U, U, U, U, U, U, U, U, U, U, U, U, U]
def impl_Set_ways_w2 (S : SatT) (K : AVal → H → Prop) (X0 : Frame → H → Prop) : (Frame → H → Prop) → Frame → H → Prop := fun X fr h => cwp S tab impl_Set_ways_M (impl_Set_ways_M 2) (sub [1, 1, 0, 1, 0, 0, 1, 1, 0, 0, 1, 1, 1, 0, 1, 0, 0] (bodyOf Try.f49)) (kSeq (fun fr h => X (mask (impl_Set_ways_M 2) fr) h) (kBlk 2 (impl_Set_ways_ks10 S K X0))) fr h
def impl_Set_ways_L2 (S : SatT) (K : AVal → H → Prop) (X0 : Frame → H → Prop) (i1_ : Int) (p2_ : Pt) (s5_ : Sl) (s7_ : Sl) (i13_ : Int) (i14_ : Int) (i23_ : Int) (i24_ : Int) (h : H) : Prop := loopK (impl_Set_ways_w2 S K X0) (impl_Set_ways_e2 i1_ p2_ s5_ s7_ i13_ i14_ i23_ i24_) h
def impl_Set_ways_ks14 (S : SatT) (K : AVal → H → Prop) (X0 : Frame → H → Prop) (X2 : Frame → H → Prop) : Kont := kSeq (cwp S tab impl_Set_ways_M (impl_Set_ways_M 2) (sub [1, 1, 0, 1, 0, 0, 1, 1, 0, 0, 1, 1, 1, 0, 1, 0, 0, 1, 1, 1] (bodyOf Try.f49)) (kSeq (fun fr h => X2 (mask (impl_Set_ways_M 2) fr) h) (kBlk 2 (impl_Set_ways_ks10 S K X0)))) (kSeq (fun fr h => X2 (mask (impl_Set_ways_M 2) fr) h) (kBlk 2 (impl_Set_ways_ks10 S K X0)))
def impl_Set_ways_ks16 (S : SatT) (K : AVal → H → Prop) (X0 : Frame → H → Prop) (X2 : Frame → H → Prop) : Kont := kSeq (cwp S tab impl_Set_ways_M (impl_Set_ways_M 3) (sub [1, 1, 0, 1, 0, 0, 1, 1, 0, 0, 1, 1, 1, 0, 1, 0, 0, 1, 1, 0, 0, 1, 1] (bodyOf Try.f49)) (kBlk 3 (impl_Set_ways_ks14 S K X0 X2))) (kBlk 3 (impl_Set_ways_ks14 S K X0 X2))
def impl_Set_ways_e4 (i1_ : Int) (p2_ : Pt) (s5_ : Sl) (s7_ : Sl) (s8_ : Sl) (i13_ : Int) (i14_ : Int) (i23_ : Int) (i24_ : Int) (s30_ : Sl) (i31_ : Int) (i32_ : Int) : Frame := [U, .int .i64 i1_, .ptr p2_, U, U, .sl s5_, U, .sl s7_, .sl s8_, U, U, U, U, .int .i64 i13_, .int .i64 i14_, U, U, U, U, U, U, U, U, .int .i64 i23_, .int .i64 i24_, U, U, U, U, U, .sl s30_, .int .i64 i31_, .int .i64 i32_, U, U, U, U, U, U, U, U, U, U, U, U, U, U, U, U, U, U, U, U, U, U, U, U, U, U, U, U]
def impl_Set_ways_w4 (S : SatT) (K : AVal → H → Prop) (X0 : Frame → H → Prop) (X2 : Frame → H → Prop) : (Frame → H → Prop) → Frame → H → Prop := fun X fr h => cwp S tab impl_Set_ways_M (impl_Set_ways_M 4) (sub [1, 1, 0, 1, 0, 0, 1, 1, 0, 0, 1, 1, 1, 0, 1, 0, 0, 1, 1, 0, 0, 1, 0, 1, 0, 0] (bodyOf Try.f49)) (kSeq (fun fr h => X (mask (impl_Set_ways_M 4) fr) h) (kBlk 4 (impl_Set_ways_ks16 S K X0 X2))) fr h
def impl_Set_ways_L4 (S : SatT) (K : AVal → H → Prop) (X0 : Frame → H → Prop) (X2 : Frame → H → Prop) (i1_ : Int) (p2_ : Pt) (s5_ : Sl) (s7_ : Sl) (s8_ : Sl) (i13_ : Int) (i14_ : Int) (i23_ : Int) (i24_ : Int) (s30_ : Sl) (i31_ : Int) (i32_ : Int) (h : H) : Prop := loopK (impl_Set_ways_w4 S K X0 X2) (impl_Set_ways_e4 i1_ p2_ s5_ s7_ s8_ i13_ i14_ i23_ i24_ s30_ i31_ i32_) h
def impl_Set_ways_C3 (S : SatT) (K : AVal → H → Prop) (X0 : Frame → H → Prop) (X2 : Frame → H → Prop) (i1_ : Int) (p2_ : Pt) (s5_ : Sl) (s7_ : Sl) (i13_ : Int) (i14_ : Int) (i23_ : Int) (i24_ : Int) (h : H) : Prop :=
 X2 (impl_Set_ways_e2 i1_ p2_ s5_ s7_ i13_ i14_ i23_ (w64 (i24_ + (1)))) h
def impl_Set_ways_C4 (S : SatT) (K : AVal → H → Prop) (X0 : Frame → H → Prop) (X2 : Frame → H → Prop) (i1_ : Int) (p2_ : Pt) (s5_ : Sl) (s8_ : Sl) (i13_ : Int) (i14_ : Int) (i23_ : Int) (i24_ : Int) (h : H) : Prop :=
 impl_Set_ways_C3 S K X0 X2 i1_ p2_ s5_ s8_ i13_ i14_ i23_ i24_ h
def impl_Set_ways_b4 (S : SatT) (K : AVal → H → Prop) (X0 : Frame → H → Prop) (X2 : Frame → H → Prop) (X4 : Frame → H → Prop) (i1_ : Int) (p2_ : Pt) (s5_ : Sl) (s7_ : Sl) (s8_ : Sl) (i13_ : Int) (i14_ : Int) (i23_ : Int) (i24_ : Int) (s30_ : Sl) (i31_ : Int) (i32_ : Int) (h : H) : Prop :=
 bif (decide (i32_ < i31_)) then
 ixS s30_ 4 i32_ fun p0 =>
 ldA p0 4 h fun cs1 =>
 newO [.int .i64 (0), .int .i64 (0), .int .i64 (0), .int .i64 (0)] h fun p2 h3 =>
 stN p2 4 cs1 h3 fun h4 =>
 ixA p2 4 1 (2) fun p5 =>
 ldI .i64 p5 h4 fun n6 =>
 ixA p2 4 1 (2) fun p7 =>
 ldI .i64 p7 h4 fun n8 =>
 ixS s8_ 1 n8 fun p9 =>
 ldI .i64 p9 h4 fun n10 =>
 ixA p2 4 1 (0) fun p11 =>
 ldI .i64 p11 h4 fun n12 =>
 ixS s7_ 1 n12 fun p13 =>
 ldI .i64 p13 h4 fun n14 =>
 ixS s8_ 1 n6 fun p15 =>
 st1 p15 (.int .i64 (mnI (1000000000000001) (w64 (n10 + n14)))) h4 fun h16 =>
 X4 (impl_Set_ways_e4 i1_ p2_ s5_ s7_ s8_ i13_ i14_ i23_ i24_ s30_ i31_ (w64 (i32_ + (1)))) h16
 else
 impl_Set_ways_C4 S K X0 X2 i1_ p2_ s5_ s8_ i13_ i14_ i23_ i24_ h
theorem impl_Set_ways_link4 (S : SatT) (K : AVal → H → Prop) (X0 : Frame → H → Prop) (X2 : Frame → H → Prop) (X4 : Frame → H → Prop) (i1_ : Int) (p2_ : Pt) (s5_ : Sl) (s7_ : Sl) (s8_ : Sl) (i13_ : Int) (i14_ : Int) (i23_ : Int) (i24_ : Int) (s30_ : Sl) (i31_ : Int) (i32_ : Int) (h : H) : impl_Set_ways_w4 S K X0 X2 X4 (impl_Set_ways_e4 i1_ p2_ s5_ s7_ s8_ i13_ i14_ i23_ i24_ s30_ i31_ i32_) h = impl_Set_ways_b4 S K X0 X2 X4 i1_ p2_ s5_ s7_ s8_ i13_ i14_ i23_ i24_ s30_ i31_ i32_ h := by kernel_rfl
theorem impl_Set_ways_rule4 (S : SatT) (K : AVal → H → Prop) (X0 : Frame → H → Prop) (X2 : Frame → H → Prop) (i1_ : Int) (p2_ : Pt) (s5_ : Sl) (s7_ : Sl) (s8_ : Sl) (i13_ : Int) (i14_ : Int) (i23_ : Int) (i24_ : Int) (s30_ : Sl) (i31_ : Int) (I_ : Int → H → Prop) (m_ : Int → H → Nat)
    (hs : ∀ (X4 : Frame → H → Prop) (i32_ : Int) (h : H), I_ i32_ h → (∀ (i32_' : Int) (h' : H), I_ i32_' h' → m_ i32_' h' < m_ i32_ h → X4 (impl_Set_ways_e4 i1_ p2_ s5_ s7_ s8_ i13_ i14_ i23_ i24_ s30_ i31_ i32_') h') → impl_Set_ways_b4 S K X0 X2 X4 i1_ p2_ s5_ s7_ s8_ i13_ i14_ i23_ i24_ s30_ i31_ i32_ h) (i32_ : Int) {h : H} (h0 : I_ i32_ h) : impl_Set_ways_L4 S K X0 X2 i1_ p2_ s5_ s7_ s8_ i13_ i14_ i23_ i24_ s30_ i31_ i32_ h :=
  loop_rule (σ := (Int)) (fun s_ => impl_Set_ways_e4 i1_ p2_ s5_ s7_ s8_ i13_ i14_ i23_ i24_ s30_ i31_ (s_)) (fun s_ h => I_ (s_) h) (fun s_ h => m_ (s_) h)
    (fun X s_ h hi hx => (impl_Set_ways_link4 S K X0 X2 X i1_ p2_ s5_ s7_ s8_ i13_ i14_ i23_ i24_ s30_ i31_ (s_) h).mpr (hs X (s_) h hi fun i32_' h' hi' hm' => hx (i32_') h' hi' hm')) (i32_) h0
def impl_Set_ways_C1 (S : SatT) (K : AVal → H → Prop) (X0 : Frame → H → Prop) (i1_ : Int) (p2_ : Pt) (s5_ : Sl) (i13_ : Int) (i14_ : Int) (h : H) : Prop :=
 X0 (impl_Set_ways_e0 i1_ p2_ s5_ i13_ (w64 (i14_ + (1)))) h
def impl_Set_ways_C2 (S : SatT) (K : AVal → H → Prop) (X0 : Frame → H → Prop) (i1_ : Int) (p2_ : Pt) (s5_ : Sl) (s7_ : Sl) (i13_ : Int) (i14_ : Int) (h : H) : Prop :=
 newS 1 1 [.sl s7_] h fun s0 h1 =>
 app s5_ s0 1 h1 fun s2 h3 =>
 impl_Set_ways_C1 S K X0 i1_ p2_ s2 i13_ i14_ h3
def impl_Set_ways_b2 (S : SatT) (K : AVal → H → Prop) (X0 : Frame → H → Prop) (X2 : Frame → H → Prop) (i1_ : Int) (p2_ : Pt) (s5_ : Sl) (s7_ : Sl) (i13_ : Int) (i14_ : Int) (i23_ : Int) (i24_ : Int) (h : H) : Prop :=
 bif (decide (i24_ < i23_)) then
 isPt p2_ (
 ldI .i64 (Pt.add p2_ 0) h fun n0 =>
 mkS n0 [.int .i64 (0)] h fun s1 h2 =>
 isPt p2_ (
 ldS (Pt.add p2_ 1) h2 fun s3 =>
 impl_Set_ways_L4 S K X0 X2 i1_ p2_ s5_ s7_ s1 i13_ i14_ i23_ i24_ s3 (s3.len : Int) (0) h2))
 else
 impl_Set_ways_C2 S K X0 i1_ p2_ s5_ s7_ i13_ i14_ h
theorem impl_Set_ways_link2 (S : SatT) (K : AVal → H → Prop) (X0 : Frame → H → Prop) (X2 : Frame → H → Prop) (i1_ : Int) (p2_ : Pt) (s5_ : Sl) (s7_ : Sl) (i13_ : Int) (i14_ : Int) (i23_ : Int) (i24_ : Int) (h : H) : impl_Set_ways_w2 S K X0 X2 (impl_Set_ways_e2 i1_ p2_ s5_ s7_ i13_ i14_ i23_ i24_) h = impl_Set_ways_b2 S K X0 X2 i1_ p2_ s5_ s7_ i13_ i14_ i23_ i24_ h := by kernel_rfl
theorem impl_Set_ways_rule2 (S : SatT) (K : AVal → H → Prop) (X0 : Frame → H → Prop) (i1_ : Int) (p2_ : Pt) (s5_ : Sl) (i13_ : Int) (i14_ : Int) (i23_ : Int) (I_ : Sl → Int → H → Prop) (m_ : Sl → Int → H → Nat)
    (hs : ∀ (X2 : Frame → H → Prop) (s7_ : Sl) (i24_ : Int) (h : H), I_ s7_ i24_ h → (∀ (s7_' : Sl) (i24_' : Int) (h' : H), I_ s7_' i24_' h' → m_ s7_' i24_' h' < m_ s7_ i24_ h → X2 (impl_Set_ways_e2 i1_ p2_ s5_ s7_' i13_ i14_ i23_ i24_') h') → impl_Set_ways_b2 S K X0 X2 i1_ p2_ s5_ s7_ i13_ i14_ i23_ i24_ h) (s7_ : Sl) (i24_ : Int) {h : H} (h0 : I_ s7_ i24_ h) : impl_Set_ways_L2 S K X0 i1_ p2_ s5_ s7_ i13_ i14_ i23_ i24_ h :=
  loop_rule (σ := (Sl) × (Int)) (fun s_ => impl_Set_ways_e2 i1_ p2_ s5_ (s_.1) i13_ i14_ i23_ (s_.2)) (fun s_ h => I_ (s_.1) (s_.2) h) (fun s_ h => m_ (s_.1) (s_.2) h)
    (fun X s_ h hi hx => (impl_Set_ways_link2 S K X0 X i1_ p2_ s5_ (s_.1) i13_ i14_ i23_ (s_.2) h).mpr (hs X (s_.1) (s_.2) h hi fun s7_' i24_' h' hi' hm' => hx (s7_', i24_') h' hi' hm')) (s7_, i24_) h0
def impl_Set_ways_C0 (S : SatT) (K : AVal → H → Prop) (s5_ : Sl) (h : H) : Prop :=
 K (.sl s5_) h
def impl_Set_ways_b0 (S : SatT) (K : AVal → H → Prop) (X0 : Frame → H → Prop) (i1_ : Int) (p2_ : Pt) (s5_ : Sl) (i13_ : Int) (i14_ : Int) (h : H) : Prop :=
 bif (decide (i14_ < i13_)) then
 isPt p2_ (
 ldI .i64 (Pt.add p2_ 0) h fun n0 =>
 mkS n0 [.int .i64 (0)] h fun s1 h2 =>
 ixS s1 1 i14_ fun p3 =>
 st1 p3 (.int .i64 (1)) h2 fun h4 =>
 impl_Set_ways_L2 S K X0 i1_ p2_ s5_ s1 i13_ i14_ i1_ (0) h4)
 else
 impl_Set_ways_C0 S K s5_ h
theorem impl_Set_ways_link0 (S : SatT) (K : AVal → H → Prop) (X0 : Frame → H → Prop) (i1_ : Int) (p2_ : Pt) (s5_ : Sl) (i13_ : Int) (i14_ : Int) (h : H) : impl_Set_ways_w0 S K X0 (impl_Set_ways_e0 i1_ p2_ s5_ i13_ i14_) h = impl_Set_ways_b0 S K X0 i1_ p2_ s5_ i13_ i14_ h := by kernel_rfl
theorem impl_Set_ways_rule0 (S : SatT) (K : AVal → H → Prop) (i1_ : Int) (p2_ : Pt) (i13_ : Int) (I_ : Sl → Int → H → Prop) (m_ : Sl → Int → H → Nat)
    (hs : ∀ (X0 : Frame → H → Prop) (s5_ : Sl) (i14_ : Int) (h : H), I_ s5_ i14_ h → (∀ (s5_' : Sl) (i14_' : Int) (h' : H), I_ s5_' i14_' h' → m_ s5_' i14_' h' < m_ s5_ i14_ h → X0 (impl_Set_ways_e0 i1_ p2_ s5_' i13_ i14_') h') → impl_Set_ways_b0 S K X0 i1_ p2_ s5_ i13_ i14_ h) (s5_ : Sl) (i14_ : Int) {h : H} (h0 : I_ s5_ i14_ h) : impl_Set_ways_L0 S K i1_ p2_ s5_ i13_ i14_ h :=
  loop_rule (σ := (Sl) × (Int)) (fun s_ => impl_Set_ways_e0 i1_ p2_ (s_.1) i13_ (s_.2)) (fun s_ h => I_ (s_.1) (s_.2) h) (fun s_ h => m_ (s_.1) (s_.2) h)
    (fun X s_ h hi hx => (impl_Set_ways_link0 S K X i1_ p2_ (s_.1) i13_ (s_.2) h).mpr (hs X (s_.1) (s_.2) h hi fun s5_' i14_' h' hi' hm' => hx (s5_', i14_') h' hi' hm')) (s5_, i14_) h0
def impl_Set_ways_main (S : SatT) (K : AVal → H → Prop) (x0 : List AVal) (x1 : Int) (h : H) : Prop :=
 newK 2 x0 h fun p0 h1 =>
 newS 0 1 [] h1 fun s2 h3 =>
 isPt p0 (
 ldI .i64 (Pt.add p0 0) h3 fun n4 =>
 impl_Set_ways_L0 S K x1 p0 s2 n4 (0) h3)
theorem impl_Set_ways_main_link (S : SatT) (K : AVal → H → Prop) (x0 : List AVal) (x1 : Int) (h : H) : cwp S tab impl_Set_ways_M [] (bodyOf Try.f49) (kFun tab Try.f49.results.toList K) (fr0 Try.f49 [.agg x0, .int .i64 x1]) h = impl_Set_ways_main S K x0 x1 h := by kernel_rfl
theorem impl_Set_ways_call (x0 : List AVal) (x1 : Int) (h : H) (K : Sl → H → Prop) (hm : impl_Set_ways_main (Sat Try.prog) (fun v h' => ∃ r, v = .sl r ∧ K r h') x0 x1 h) : callS (Sat Try.prog) i_impl_Set_ways [.agg x0, .int .i64 x1] h K := by
  have := Sat.ex tok mixed impl_Set_ways_M Try.func49 (c := bodyOf Try.f49) (by kernel_rfl) (calls_of Try.func49 (c := bodyOf Try.f49) (by kernel_rfl) (by decide)) ((impl_Set_ways_main_link _ _ x0 x1 h).mpr hm)
  obtain ⟨v, h2, h3, r, rfl, h4⟩ := this; exact ⟨r, h2, h3, h4⟩

/-! ### loop.example/g01354/impl.ColumnWords -/
def impl_ColumnWords_M : Nat → List Nat := fun i => bif i == 2 then [1, 6, 10, 12, 13, 14, 27, 28, 29] else bif i == 0 then [1, 6, 10, 27, 28, 29] else []
def impl_ColumnWords_ks6 (S : SatT) (K : AVal → H → Prop) : Kont := kSeq (cwp S tab impl_ColumnWords_M [] (sub [1, 1, 1, 1, 1] (bodyOf Try.f10)) (kFun tab (Try.f10).results.toList K)) (kFun tab (Try.f10).results.toList K)
def impl_ColumnWords_e0 (i1_ : Int) (p6_ : Pt) (s10_ : Sl) (s27_ : Sl) (i28_ : Int) (i29_ : Int) : Frame := [U, .int .i64 i1_, U, U, U, U, .ptr p6_, U, U, U, .sl s10_, U, U, U, U, U, U, U, U, U, U, U, U, U, U, U, U, .sl s27_, .int .i64 i28_, .int .i64 i29_, U, U, U, U, U, U, U, U, U, U, U, U, U, U, U, U, U, U, U, U, U, U, U, U, U, U, U, U, U, U, U, U, U, U]
def impl_ColumnWords_w0 (S : SatT) (K : AVal → H → Prop) : (Frame → H → Prop) → Frame → H → Prop := fun X fr h => cwp S tab impl_ColumnWords_M (impl_ColumnWords_M 0) (sub [1, 1, 1, 1, 0, 1, 0, 0] (bodyOf Try.f10)) (kSeq (fun fr h => X (mask (impl_ColumnWords_M 0) fr) h) (kBlk 0 (impl_ColumnWords_ks6 S K))) fr h
def impl_ColumnWords_L0 (S : SatT) (K : AVal → H → Prop) (i1_ : Int) (p6_ : Pt) (s10_ : Sl) (s27_ : Sl) (i28_ : Int) (i29_ : Int) (h : H) : Prop := loopK (impl_ColumnWords_w0 S K) (impl_ColumnWords_e0 i1_ p6_ s10_ s27_ i28_ i29_) h
def impl_ColumnWords_ks10 (S : SatT) (K : AVal → H → Prop) (X0 : Frame → H → Prop) : Kont := kSeq (cwp S tab impl_ColumnWords_M (impl_ColumnWords_M 0) (sub [1, 1, 1, 1, 0, 1, 0, 0, 1, 1, 1] (bodyOf Try.f10)) (kSeq (fun fr h => X0 (mask (impl_ColumnWords_M 0) fr) h) (kBlk 0 (impl_ColumnWords_ks6 S K)))) (kSeq (fun fr h => X0 (mask (impl_ColumnWords_M 0) fr) h) (kBlk 0 (impl_ColumnWords_ks6 S K)))
def impl_ColumnWords_ks13 (S : SatT) (K : AVal → H → Prop) (X0 : Frame → H → Prop) : Kont := kSeq (cwp S tab impl_ColumnWords_M (impl_ColumnWords_M 1) (sub [1, 1, 1, 1, 0, 1, 0, 0, 1, 1, 0, 0, 1, 1, 1] (bodyOf Try.f10)) (kBlk 1 (impl_ColumnWords_ks10 S K X0))) (kBlk 1 (impl_ColumnWords_ks10 S K X0))
def impl_ColumnWords_e2 (i1_ : Int) (p6_ : Pt) (s10_ : Sl) (i12_ : Int) (s13_ : Sl) (i14_ : Int) (s27_ : Sl) (i28_ : Int) (i29_ : Int) : Frame := [U, .int .i64 i1_, U, U, U, U, .ptr p6_, U, U, U, .sl s10_, U, .int .i64 i12_, .sl s13_, .int .i64 i14_, U, U, U, U, U, U, U, U, U, U, U, U, .sl s27_, .int .i64 i28_, .int .i64 i29_, U, U, U, U, U, U, U, U, U, U, U, U, U, U, U, U, U, U, U, U, U, U, U, U, U, U, U, U, U, U, U, U, U, U]
def impl_ColumnWords_w2 (S : SatT) (K : AVal → H → Prop) (X0 : Frame → H → Prop) : (Frame → H → Prop) → Frame → H → Prop := fun X fr h => cwp S tab impl_ColumnWords_M (impl_ColumnWords_M 2) (sub [1, 1, 1, 1, 0, 1, 0, 0, 1, 1, 0, 0, 1, 1, 0, 1, 0, 0] (bodyOf Try.f10)) (kSeq (fun fr h => X (mask (impl_ColumnWords_M 2) fr) h) (kBlk 2 (impl_ColumnWords_ks13 S K X0))) fr h
def impl_ColumnWords_L2 (S : SatT) (K : AVal → H → Prop) (X0 : Frame → H → Prop) (i1_ : Int) (p6_ : Pt) (s10_ : Sl) (i12_ : Int) (s13_ : Sl) (i14_ : Int) (s27_ : Sl) (i28_ : Int) (i29_ : Int) (h : H) : Prop := loopK (impl_ColumnWords_w2 S K X0) (impl_ColumnWords_e2 i1_ p6_ s10_ i12_ s13_ i14_ s27_ i28_ i29_) h
def impl_ColumnWords_C1 (S : SatT) (K : AVal → H → Prop) (X0 : Frame → H → Prop) (i1_ : Int) (p6_ : Pt) (s10_ : Sl) (s27_ : Sl) (i28_ : Int) (i29_ : Int) (h : H) : Prop :=
 X0 (impl_ColumnWords_e0 i1_ p6_ s10_ s27_ i28_ (w64 (i29_ + (1)))) h
def impl_ColumnWords_C2 (S : SatT) (K : AVal → H → Prop) (X0 : Frame → H → Prop) (i1_ : Int) (p6_ : Pt) (s10_ : Sl) (s13_ : Sl) (s27_ : Sl) (i28_ : Int) (i29_ : Int) (h : H) : Prop :=
 newS 1 1 [.sl s13_] h fun s0 h1 =>
 app s10_ s0 1 h1 fun s2 h3 =>
 impl_ColumnWords_C1 S K X0 i1_ p6_ s2 s27_ i28_ i29_ h3
def impl_ColumnWords_b2 (S : SatT) (K : AVal → H → Prop) (X0 : Frame → H → Prop) (X2 : Frame → H → Prop) (i1_ : Int) (p6_ : Pt) (s10_ : Sl) (i12_ : Int) (s13_ : Sl) (i14_ : Int) (s27_ : Sl) (i28_ : Int) (i29_ : Int) (h : H) : Prop :=
 bif (decide (i14_ ≥ (0))) then
 nilC (.ptr p6_) (
 isPt p6_ (
 isPt (Pt.add p6_ 0) (
 ldI .i64 (Pt.add (Pt.add p6_ 0) 0) h fun n0 =>
 nz n0 (
 ixS s13_ 1 i14_ fun p1 =>
 st1 p1 (.int .i64 (Int.tmod i12_ n0)) h fun h2 =>
 nilC (.ptr p6_) (
 isPt p6_ (
 isPt (Pt.add p6_ 0) (
 ldI .i64 (Pt.add (Pt.add p6_ 0) 0) h2 fun n3 =>
 nz n3 (
 X2 (impl_ColumnWords_e2 i1_ p6_ s10_ (w64 (Int.tdiv i12_ n3)) s13_ (w64 (i14_ - (1))) s27_ i28_ i29_) h2))))))))
 else
 impl_ColumnWords_C2 S K X0 i1_ p6_ s10_ s13_ s27_ i28_ i29_ h
theorem impl_ColumnWords_link2 (S : SatT) (K : AVal → H → Prop) (X0 : Frame → H → Prop) (X2 : Frame → H → Prop) (i1_ : Int) (p6_ : Pt) (s10_ : Sl) (i12_ : Int) (s13_ : Sl) (i14_ : Int) (s27_ : Sl) (i28_ : Int) (i29_ : Int) (h : H) : impl_ColumnWords_w2 S K X0 X2 (impl_ColumnWords_e2 i1_ p6_ s10_ i12_ s13_ i14_ s27_ i28_ i29_) h = impl_ColumnWords_b2 S K X0 X2 i1_ p6_ s10_ i12_ s13_ i14_ s27_ i28_ i29_ h := by kernel_rfl
theorem impl_ColumnWords_rule2 (S : SatT) (K : AVal → H → Prop) (X0 : Frame → H → Prop) (i1_ : Int) (p6_ : Pt) (s10_ : Sl) (s13_ : Sl) (s27_ : Sl) (i28_ : Int) (i29_ : Int) (I_ : Int → Int → H → Prop) (m_ : Int → Int → H → Nat)
    (hs : ∀ (X2 : Frame → H → Prop) (i12_ : Int) (i14_ : Int) (h : H), I_ i12_ i14_ h → (∀ (i12_' : Int) (i14_' : Int) (h' : H), I_ i12_' i14_' h' → m_ i12_' i14_' h' < m_ i12_ i14_ h → X2 (impl_ColumnWords_e2 i1_ p6_ s10_ i12_' s13_ i14_' s27_ i28_ i29_) h') → impl_ColumnWords_b2 S K X0 X2 i1_ p6_ s10_ i12_ s13_ i14_ s27_ i28_ i29_ h) (i12_ : Int) (i14_ : Int) {h : H} (h0 : I_ i12_ i14_ h) : impl_ColumnWords_L2 S K X0 i1_ p6_ s10_ i12_ s13_ i14_ s27_ i28_ i29_ h :=
  loop_rule (σ := (Int) × (Int)) (fun s_ => impl_ColumnWords_e2 i1_ p6_ s10_ (s_.1) s13_ (s_.2) s27_ i28_ i29_) (fun s_ h => I_ (s_.1) (s_.2) h) (fun s_ h => m_ (s_.1) (s_.2) h)
    (fun X s_ h hi hx => (impl_ColumnWords_link2 S K X0 X i1_ p6_ s10_ (s_.1) s13_ (s_.2) s27_ i28_ i29_ h).mpr (hs X (s_.1) (s_.2) h hi fun i12_' i14_' h' hi' hm' => hx (i12_', i14_') h' hi' hm')) (i12_, i14_) h0
def impl_ColumnWords_C0 (S : SatT) (K : AVal → H → Prop) (s10_ : Sl) (h : H) : Prop :=
 K (.tuple [.sl s10_, .int .i64 (0)]) h
def impl_ColumnWords_b0 (S : SatT) (K : AVal → H → Prop) (X0 : Frame → H → Prop) (i1_ : Int) (p6_ : Pt) (s10_ : Sl) (s27_ : Sl) (i28_ : Int) (i29_ : Int) (h : H) : Prop :=
 bif (decide (i29_ < i28_)) then
 ixS s27_ 1 i29_ fun p0 =>
 ldI .i64 p0 h fun n1 =>
 mkS i1_ [.int .i64 (0)] h fun s2 h3 =>
 impl_ColumnWords_L2 S K X0 i1_ p6_ s10_ n1 s2 (w64 (i1_ - (1))) s27_ i28_ i29_ h3
 else
 impl_ColumnWords_C0 S K s10_ h
theorem impl_ColumnWords_link0 (S : SatT) (K : AVal → H → Prop) (X0 : Frame → H → Prop) (i1_ : Int) (p6_ : Pt) (s10_ : Sl) (s27_ : Sl) (i28_ : Int) (i29_ : Int) (h : H) : impl_ColumnWords_w0 S K X0 (impl_ColumnWords_e0 i1_ p6_ s10_ s27_ i28_ i29_) h = impl_ColumnWords_b0 S K X0 i1_ p6_ s10_ s27_ i28_ i29_ h := by kernel_rfl
theorem impl_ColumnWords_rule0 (S : SatT) (K : AVal → H → Prop) (i1_ : Int) (p6_ : Pt) (s27_ : Sl) (i28_ : Int) (I_ : Sl → Int → H → Prop) (m_ : Sl → Int → H → Nat)
    (hs : ∀ (X0 : Frame → H → Prop) (s10_ : Sl) (i29_ : Int) (h : H), I_ s10_ i29_ h → (∀ (s10_' : Sl) (i29_' : Int) (h' : H), I_ s10_' i29_' h' → m_ s10_' i29_' h' < m_ s10_ i29_ h → X0 (impl_ColumnWords_e0 i1_ p6_ s10_' s27_ i28_ i29_') h') → impl_ColumnWords_b0 S K X0 i1_ p6_ s10_ s27_ i28_ i29_ h) (s10_ : Sl) (i29_ : Int) {h : H} (h0 : I_ s10_ i29_ h) : impl_ColumnWords_L0 S K i1_ p6_ s10_ s27_ i28_ i29_ h :=
  loop_rule (σ := (Sl) × (Int)) (fun s_ => impl_ColumnWords_e0 i1_ p6_ (s_.1) s27_ i28_ (s_.2)) (fun s_ h => I_ (s_.1) (s_.2) h) (fun s_ h => m_ (s_.1) (s_.2) h)
    (fun X s_ h hi hx => (impl_ColumnWords_link0 S K X i1_ p6_ (s_.1) s27_ i28_ (s_.2) h).mpr (hs X (s_.1) (s_.2) h hi fun s10_' i29_' h' hi' hm' => hx (s10_', i29_') h' hi' hm')) (s10_, i29_) h0
def impl_ColumnWords_main (S : SatT) (K : AVal → H → Prop) (x0 : List AVal) (x1 : Int) (h : H) : Prop :=
 newK 2 x0 h fun p0 h1 =>
 ldA p0 2 h1 fun cs2 =>
 callV S i_impl_lastingOf [.agg cs2, .int .i64 x1] h1 fun v4 h3 =>
 viaT v4 fun vs5 =>
 exP vs5 0 fun p6 =>
 viaT v4 fun vs7 =>
 exS vs7 1 fun s8 =>
 viaT v4 fun vs9 =>
 exS vs9 2 fun s10 =>
 viaT v4 fun vs11 =>
 exI .i64 vs11 3 fun n12 =>
 bif (n12 != (0)) then
 K (.tuple [.sl Sl.nil, .int .i64 n12]) h3
 else
 newS 0 1 [] h3 fun s13 h14 =>
 impl_ColumnWords_L0 S K x1 p6 s13 s8 (s8.len : Int) (0) h14
theorem impl_ColumnWords_main_link (S : SatT) (K : AVal → H → Prop) (x0 : List AVal) (x1 : Int) (h : H) : cwp S tab impl_ColumnWords_M [] (bodyOf Try.f10) (kFun tab Try.f10.results.toList K) (fr0 Try.f10 [.agg x0, .int .i64 x1]) h = impl_ColumnWords_main S K x0 x1 h := by kernel_rfl
theorem impl_ColumnWords_call (x0 : List AVal) (x1 : Int) (h : H) (K : AVal → H → Prop) (hm : impl_ColumnWords_main (Sat Try.prog) (fun v h' => K v h') x0 x1 h) : callV (Sat Try.prog) i_impl_ColumnWords [.agg x0, .int .i64 x1] h K := by
  have := Sat.ex tok mixed impl_ColumnWords_M Try.func10 (c := bodyOf Try.f10) (by kernel_rfl) (calls_of Try.func10 (c := bodyOf Try.f10) (by kernel_rfl) (by decide)) ((impl_ColumnWords_main_link _ _ x0 x1 h).mpr hm)
  exact this

/-! ### loop.example/g01354/impl.newStrip$1 -/
def impl_newStrip_1_M : Nat → List Nat := fun i => bif i == 0 then [0, 1, 2, 3, 4, 6, 7, 8, 39, 40, 41] else []
def impl_newStrip_1_ks5 (S : SatT) (K : AVal → H → Prop) : Kont := kSeq (cwp S tab impl_newStrip_1_M [] (sub [1, 1, 1] (bodyOf Try.f86)) (kFun tab (Try.f86).results.toList K)) (kFun tab (Try.f86).results.toList K)
def impl_newStrip_1_e0 (i0_ : Int) (i1_ : Int) (i2_ : Int) (i3_ : Int) (i4_ : Int) (p6_ : Pt) (p7_ : Pt) (p8_ : Pt) (s39_ : Sl) (i40_ : Int) (i41_ : Int) : Frame := [.int .i64 i0_, .int .i64 i1_, .int .i64 i2_, .int .i64 i3_, .int .i64 i4_, U, .ptr p6_, .ptr p7_, .ptr p8_, U, U, U, U, U, U, U, U, U, U, U, U, U, U, U, U, U, U, U, U, U, U, U, U, U, U, U, U, U, U, .sl s39_, .int .i64 i40_, .int .i64 i41_, U, U, U, U, U, U, U, U, U, U, U, U, U, U, U, U, U, U, U, U, U, U, U, U, U, U, U, U, U, U, U, U, U, U, U, U, U, U, U, U]
def impl_newStrip_1_w0 (S : SatT) (K : AVal → H → Prop) : (Frame → H → Prop) → Frame → H → Prop := fun X fr h => cwp S tab impl_newStrip_1_M (impl_newStrip_1_M 0) (sub [1, 1, 0, 1, 0, 0] (bodyOf Try.f86)) (kSeq (fun fr h => X (mask (impl_newStrip_1_M 0) fr) h) (kBlk 0 (impl_newStrip_1_ks5 S K))) fr h
def impl_newStrip_1_L0 (S : SatT) (K : AVal → H → Prop) (i0_ : Int) (i1_ : Int) (i2_ : Int) (i3_ : Int) (i4_ : Int) (p6_ : Pt) (p7_ : Pt) (p8_ : Pt) (s39_ : Sl) (i40_ : Int) (i41_ : Int) (h : H) : Prop := loopK (impl_newStrip_1_w0 S K) (impl_newStrip_1_e0 i0_ i1_ i2_ i3_ i4_ p6_ p7_ p8_ s39_ i40_ i41_) h
def impl_newStrip_1_C0 (S : SatT) (K : AVal → H → Prop) (h : H) : Prop :=
 K (.bool true) h
def impl_newStrip_1_b0 (S : SatT) (K : AVal → H → Prop) (X0 : Frame → H → Prop) (i0_ : Int) (i1_ : Int) (i2_ : Int) (i3_ : Int) (i4_ : Int) (p6_ : Pt) (p7_ : Pt) (p8_ : Pt) (s39_ : Sl) (i40_ : Int) (i41_ : Int) (h : H) : Prop :=
 bif (decide (i41_ < i40_)) then
 ixS s39_ 4 i41_ fun p0 =>
 ldA p0 4 h fun cs1 =>
 newO [.int .i64 (0), .int .i64 (0), .int .i64 (0), .int .i64 (0)] h fun p2 h3 =>
 stN p2 4 cs1 h3 fun h4 =>
 ldI .i64 p7_ h4 fun n5 =>
 bif (decide (i4_ < n5)) then
 ixA p2 4 1 (1) fun p6 =>
 ldI .i64 p6 h4 fun n7 =>
 bif (n7 != i1_) then
 X0 (impl_newStrip_1_e0 i0_ i1_ i2_ i3_ i4_ p6_ p7_ p8_ s39_ i40_ (w64 (i41_ + (1)))) h4
 else
 ldI .i64 p7_ h4 fun n8 =>
 bif (i4_ == n8) then
 ixA p2 4 1 (1) fun p9 =>
 ldI .i64 p9 h4 fun n10 =>
 ldV p8_ h4 fun v11 =>
 ixA p2 4 1 (3) fun p12 =>
 ldI .i64 p12 h4 fun n13 =>
 isPt p6_ (
 ldI .i64 (Pt.add p6_ 0) h4 fun n14 =>
 ixA p2 4 1 (0) fun p15 =>
 ldI .i64 p15 h4 fun n16 =>
 isPt p6_ (
 ldI .i64 (Pt.add p6_ 0) h4 fun n17 =>
 ixA p2 4 1 (2) fun p18 =>
 ldI .i64 p18 h4 fun n19 =>
 viaF v11 [.int .i64 n10, .int .i64 n13, .int .i64 (w64 ((w64 (i2_ * n14)) + n16)), .int .i64 (w64 ((w64 (i3_ * n17)) + n19)), .int .i64 (w64 (i4_ - (1)))] fun g20 ys21 =>
 callB S g20 ys21 h4 fun b23 h22 =>
 bif (!b23) then
 K (.bool false) h22
 else
 X0 (impl_newStrip_1_e0 n10 i1_ i2_ i3_ i4_ p6_ p7_ p8_ s39_ i40_ (w64 (i41_ + (1)))) h22))
 else
 ldV p8_ h4 fun v24 =>
 ixA p2 4 1 (3) fun p25 =>
 ldI .i64 p25 h4 fun n26 =>
 isPt p6_ (
 ldI .i64 (Pt.add p6_ 0) h4 fun n27 =>
 ixA p2 4 1 (0) fun p28 =>
 ldI .i64 p28 h4 fun n29 =>
 isPt p6_ (
 ldI .i64 (Pt.add p6_ 0) h4 fun n30 =>
 ixA p2 4 1 (2) fun p31 =>
 ldI .i64 p31 h4 fun n32 =>
 viaF v24 [.int .i64 i0_, .int .i64 n26, .int .i64 (w64 ((w64 (i2_ * n27)) + n29)), .int .i64 (w64 ((w64 (i3_ * n30)) + n32)), .int .i64 (w64 (i4_ - (1)))] fun g33 ys34 =>
 callB S g33 ys34 h4 fun b36 h35 =>
 bif (!b36) then
 K (.bool false) h35
 else
 X0 (impl_newStrip_1_e0 i0_ i1_ i2_ i3_ i4_ p6_ p7_ p8_ s39_ i40_ (w64 (i41_ + (1)))) h35))
 else
 ldI .i64 p7_ h4 fun n37 =>
 bif (i4_ == n37) then
 ixA p2 4 1 (1) fun p38 =>
 ldI .i64 p38 h4 fun n39 =>
 ldV p8_ h4 fun v40 =>
 ixA p2 4 1 (3) fun p41 =>
 ldI .i64 p41 h4 fun n42 =>
 isPt p6_ (
 ldI .i64 (Pt.add p6_ 0) h4 fun n43 =>
 ixA p2 4 1 (0) fun p44 =>
 ldI .i64 p44 h4 fun n45 =>
 isPt p6_ (
 ldI .i64 (Pt.add p6_ 0) h4 fun n46 =>
 ixA p2 4 1 (2) fun p47 =>
 ldI .i64 p47 h4 fun n48 =>
 viaF v40 [.int .i64 n39, .int .i64 n42, .int .i64 (w64 ((w64 (i2_ * n43)) + n45)), .int .i64 (w64 ((w64 (i3_ * n46)) + n48)), .int .i64 (w64 (i4_ - (1)))] fun g49 ys50 =>
 callB S g49 ys50 h4 fun b52 h51 =>
 bif (!b52) then
 K (.bool false) h51
 else
 X0 (impl_newStrip_1_e0 n39 i1_ i2_ i3_ i4_ p6_ p7_ p8_ s39_ i40_ (w64 (i41_ + (1)))) h51))
 else
 ldV p8_ h4 fun v53 =>
 ixA p2 4 1 (3) fun p54 =>
 ldI .i64 p54 h4 fun n55 =>
 isPt p6_ (
 ldI .i64 (Pt.add p6_ 0) h4 fun n56 =>
 ixA p2 4 1 (0) fun p57 =>
 ldI .i64 p57 h4 fun n58 =>
 isPt p6_ (
 ldI .i64 (Pt.add p6_ 0) h4 fun n59 =>
 ixA p2 4 1 (2) fun p60 =>
 ldI .i64 p60 h4 fun n61 =>
 viaF v53 [.int .i64 i0_, .int .i64 n55, .int .i64 (w64 ((w64 (i2_ * n56)) + n58)), .int .i64 (w64 ((w64 (i3_ * n59)) + n61)), .int .i64 (w64 (i4_ - (1)))] fun g62 ys63 =>
 callB S g62 ys63 h4 fun b65 h64 =>
 bif (!b65) then
 K (.bool false) h64
 else
 X0 (impl_newStrip_1_e0 i0_ i1_ i2_ i3_ i4_ p6_ p7_ p8_ s39_ i40_ (w64 (i41_ + (1)))) h64))
 else
 impl_newStrip_1_C0 S K h
theorem impl_newStrip_1_link0 (S : SatT) (K : AVal → H → Prop) (X0 : Frame → H → Prop) (i0_ : Int) (i1_ : Int) (i2_ : Int) (i3_ : Int) (i4_ : Int) (p6_ : Pt) (p7_ : Pt) (p8_ : Pt) (s39_ : Sl) (i40_ : Int) (i41_ : Int) (h : H) : impl_newStrip_1_w0 S K X0 (impl_newStrip_1_e0 i0_ i1_ i2_ i3_ i4_ p6_ p7_ p8_ s39_ i40_ i41_) h = impl_newStrip_1_b0 S K X0 i0_ i1_ i2_ i3_ i4_ p6_ p7_ p8_ s39_ i40_ i41_ h := by kernel_rfl
theorem impl_newStrip_1_rule0 (S : SatT) (K : AVal → H → Prop) (i1_ : Int) (i2_ : Int) (i3_ : Int) (i4_ : Int) (p6_ : Pt) (p7_ : Pt) (p8_ : Pt) (s39_ : Sl) (i40_ : Int) (I_ : Int → Int → H → Prop) (m_ : Int → Int → H → Nat)
    (hs : ∀ (X0 : Frame → H → Prop) (i0_ : Int) (i41_ : Int) (h : H), I_ i0_ i41_ h → (∀ (i0_' : Int) (i41_' : Int) (h' : H), I_ i0_' i41_' h' → m_ i0_' i41_' h' < m_ i0_ i41_ h → X0 (impl_newStrip_1_e0 i0_' i1_ i2_ i3_ i4_ p6_ p7_ p8_ s39_ i40_ i41_') h') → impl_newStrip_1_b0 S K X0 i0_ i1_ i2_ i3_ i4_ p6_ p7_ p8_ s39_ i40_ i41_ h) (i0_ : Int) (i41_ : Int) {h : H} (h0 : I_ i0_ i41_ h) : impl_newStrip_1_L0 S K i0_ i1_ i2_ i3_ i4_ p6_ p7_ p8_ s39_ i40_ i41_ h :=
  loop_rule (σ := (Int) × (Int)) (fun s_ => impl_newStrip_1_e0 (s_.1) i1_ i2_ i3_ i4_ p6_ p7_ p8_ s39_ i40_ (s_.2)) (fun s_ h => I_ (s_.1) (s_.2) h) (fun s_ h => m_ (s_.1) (s_.2) h)
    (fun X s_ h hi hx => (impl_newStrip_1_link0 S K X (s_.1) i1_ i2_ i3_ i4_ p6_ p7_ p8_ s39_ i40_ (s_.2) h).mpr (hs X (s_.1) (s_.2) h hi fun i0_' i41_' h' hi' hm' => hx (i0_', i41_') h' hi' hm')) (i0_, i41_) h0
def impl_newStrip_1_main (S : SatT) (K : AVal → H → Prop) (x0 : Int) (x1 : Int) (x2 : Int) (x3 : Int) (x4 : Int) (x5 : Pt) (x6 : Pt) (x7 : Pt) (x8 : Pt) (h : H) : Prop :=
 bif (x4 == (0)) then
 ldP x5 h fun p0 =>
 ldP x5 h fun p1 =>
 nilC (.ptr p1) (
 isPt p1 (
 ldS (Pt.add p1 4) h fun s2 =>
 lenA [.int .i64 x2, .int .i64 x3, .int .i64 x0] 3 (
 newS 1 3 (spl [.int .i64 (0), .int .i64 (0), .int .i64 (0)] 0 3 [.int .i64 x2, .int .i64 x3, .int .i64 x0]) h fun s3 h4 =>
(cell h4 (Pt.add p1 4) = cell h (Pt.add p1 4)) ∧ (
(cell h4 x5 = cell h x5) ∧ (
(cell h4 x5 = cell h x5) ∧ (
 app s2 s3 3 h4 fun s5 h6 =>
(cell h6 x5 = cell h x5) ∧ (
 nilC (.ptr p0) (
 isPt p0 (
 st1 (Pt.add p0 4) (.sl s5) h6 fun h7 =>
 ldP x5 h7 fun p8 =>
 nilC (.ptr p8) (
 isPt p8 (
 ldS (Pt.add p8 4) h7 fun s9 =>
 K (.bool (decide ((s9.len : Int) ≤ (5000)))) h7)))))))))))
 else
 isPt x6 (
 ldS (Pt.add x6 1) h fun s10 =>
 impl_newStrip_1_L0 S K x0 x1 x2 x3 x4 x6 x7 x8 s10 (s10.len : Int) (0) h)
theorem impl_newStrip_1_main_link (S : SatT) (K : AVal → H → Prop) (x0 : Int) (x1 : Int) (x2 : Int) (x3 : Int) (x4 : Int) (x5 : Pt) (x6 : Pt) (x7 : Pt) (x8 : Pt) (h : H) : cwp S tab impl_newStrip_1_M [] (bodyOf Try.f86) (kFun tab Try.f86.results.toList K) (fr0 Try.f86 [.int .i64 x0, .int .i64 x1, .int .i64 x2, .int .i64 x3, .int .i64 x4, .ptr x5, .ptr x6, .ptr x7, .ptr x8]) h = impl_newStrip_1_main S K x0 x1 x2 x3 x4 x5 x6 x7 x8 h := by kernel_rfl
theorem impl_newStrip_1_call (x0 : Int) (x1 : Int) (x2 : Int) (x3 : Int) (x4 : Int) (x5 : Pt) (x6 : Pt) (x7 : Pt) (x8 : Pt) (h : H) (K : Bool → H → Prop) (hm : impl_newStrip_1_main (Sat Try.prog) (fun v h' => ∃ r, v = .bool r ∧ K r h') x0 x1 x2 x3 x4 x5 x6 x7 x8 h) : callB (Sat Try.prog) i_impl_newStrip_1 [.int .i64 x0, .int .i64 x1, .int .i64 x2, .int .i64 x3, .int .i64 x4, .ptr x5, .ptr x6, .ptr x7, .ptr x8] h K := by
  have := Sat.ex tok mixed impl_newStrip_1_M Try.func86 (c := bodyOf Try.f86) (by kernel_rfl) (calls_of Try.func86 (c := bodyOf Try.f86) (by kernel_rfl) (by decide)) ((impl_newStrip_1_main_link _ _ x0 x1 x2 x3 x4 x5 x6 x7 x8 h).mpr hm)
  obtain ⟨v, h2, h3, r, rfl, h4⟩ := this; exact ⟨r, h2, h3, h4⟩

/-! ### loop.example/g01354/spec.l01Sort -/
def spec_l01Sort_M : Nat → List Nat := fun i => bif i == 2 then [0, 3, 4, 5] else bif i == 0 then [0, 3, 4] else []
def spec_l01Sort_ks2 (S : SatT) (K : AVal → H → Prop) : Kont := kSeq (cwp S tab spec_l01Sort_M [] (sub [1, 1, 1] (bodyOf Try.f111)) (kFun tab (Try.f111).results.toList K)) (kFun tab (Try.f111).results.toList K)
def spec_l01Sort_e0 (s0_ : Sl) (s3_ : Sl) (i4_ : Int) : Frame := [.sl s0_, U, U, .sl s3_, .int .i64 i4_, U, U, U, U, U, U, U, U, U, U, U, U, U, U, U, U, U, U, U, U, U, U, U, U, U, U, U, U, U, U, U, U, U, U, U, U, U, U, U, U, U, U, U, U, U, U, U, U, U, U, U, U, U, U, U, U, U, U]
def spec_l01Sort_w0 (S : SatT) (K : AVal → H → Prop) : (Frame → H → Prop) → Frame → H → Prop := fun X fr h => cwp S tab spec_l01Sort_M (spec_l01Sort_M 0) (sub [1, 1, 0, 1, 0, 0] (bodyOf Try.f111)) (kSeq (fun fr h => X (mask (spec_l01Sort_M 0) fr) h) (kBlk 0 (spec_l01Sort_ks2 S K))) fr h
def spec_l01Sort_L0 (S : SatT) (K : AVal → H → Prop) (s0_ : Sl) (s3_ : Sl) (i4_ : Int) (h : H) : Prop := loopK (spec_l01Sort_w0 S K) (spec_l01Sort_e0 s0_ s3_ i4_) h
def spec_l01Sort_ks6 (S : SatT) (K : AVal → H → Prop) (X0 : Frame → H → Prop) : Kont := kSeq (cwp S tab spec_l01Sort_M (spec_l01Sort_M 0) (sub [1, 1, 0, 1, 0, 0, 1, 1] (bodyOf Try.f111)) (kSeq (fun fr h => X0 (mask (spec_l01Sort_M 0) fr) h) (kBlk 0 (spec_l01Sort_ks2 S K)))) (kSeq (fun fr h => X0 (mask (spec_l01Sort_M 0) fr) h) (kBlk 0 (spec_l01Sort_ks2 S K)))
def spec_l01Sort_ks8 (S : SatT) (K : AVal → H → Prop) (X0 : Frame → H → Prop) : Kont := kSeq (cwp S tab spec_l01Sort_M (spec_l01Sort_M 1) (sub [1, 1, 0, 1, 0, 0, 1, 0, 0, 1, 1] (bodyOf Try.f111)) (kBlk 1 (spec_l01Sort_ks6 S K X0))) (kBlk 1 (spec_l01Sort_ks6 S K X0))
def spec_l01Sort_e2 (s0_ : Sl) (s3_ : Sl) (i4_ : Int) (i5_ : Int) : Frame := [.sl s0_, U, U, .sl s3_, .int .i64 i4_, .int .i64 i5_, U, U, U, U, U, U, U, U, U, U, U, U, U, U, U, U, U, U, U, U, U, U, U, U, U, U, U, U, U, U, U, U, U, U, U, U, U, U, U, U, U, U, U, U, U, U, U, U, U, U, U, U, U, U, U, U, U]
def spec_l01Sort_w2 (S : SatT) (K : AVal → H → Prop) (X0 : Frame → H → Prop) : (Frame → H → Prop) → Frame → H → Prop := fun X fr h => cwp S tab spec_l01Sort_M (spec_l01Sort_M 2) (sub [1, 1, 0, 1, 0, 0, 1, 0, 0, 1, 0, 0, 0] (bodyOf Try.f111)) (kSeq (fun fr h => X (mask (spec_l01Sort_M 2) fr) h) (kBlk 2 (spec_l01Sort_ks8 S K X0))) fr h
def spec_l01Sort_L2 (S : SatT) (K : AVal → H → Prop) (X0 : Frame → H → Prop) (s0_ : Sl) (s3_ : Sl) (i4_ : Int) (i5_ : Int) (h : H) : Prop := loopK (spec_l01Sort_w2 S K X0) (spec_l01Sort_e2 s0_ s3_ i4_ i5_) h
def spec_l01Sort_C1 (S : SatT) (K : AVal → H → Prop) (X0 : Frame → H → Prop) (s0_ : Sl) (s3_ : Sl) (i4_ : Int) (h : H) : Prop :=
 X0 (spec_l01Sort_e0 s0_ s3_ (w64 (i4_ + (1)))) h
def spec_l01Sort_C2 (S : SatT) (K : AVal → H → Prop) (X0 : Frame → H → Prop) (s0_ : Sl) (s3_ : Sl) (i4_ : Int) (i5_ : Int) (h : H) : Prop :=
 bif (decide (i5_ > (0))) then
 ixS s3_ 4 (w64 (i5_ - (1))) fun p0 =>
 ldA p0 4 h fun cs1 =>
 ixS s0_ 4 i4_ fun p2 =>
 ldA p2 4 h fun cs3 =>
 eqA .i64 4 cs1 cs3 fun b4 =>
 bif b4 then
 spec_l01Sort_C1 S K X0 s0_ s3_ i4_ h
 else
 ixS s0_ 4 i4_ fun p5 =>
 ldA p5 4 h fun cs6 =>
 lenA cs6 4 (
 newS 1 4 (spl [.int .i64 (0), .int .i64 (0), .int .i64 (0), .int .i64 (0)] 0 4 cs6) h fun s7 h8 =>
 cut s3_ 4 i5_ (s3_.len : Int) h8 fun s9 =>
 okS h s3_ ∧ (
 app s7 s9 4 h8 fun s10 h11 =>
 newS 0 4 [] h11 fun s12 h13 =>
 cut s3_ 4 (0) i5_ h13 fun s14 =>
 app s12 s14 4 h13 fun s15 h16 =>
 app s15 s10 4 h16 fun s17 h18 =>
 spec_l01Sort_C1 S K X0 s0_ s17 i4_ h18))
 else
 ixS s0_ 4 i4_ fun p19 =>
 ldA p19 4 h fun cs20 =>
 lenA cs20 4 (
 newS 1 4 (spl [.int .i64 (0), .int .i64 (0), .int .i64 (0), .int .i64 (0)] 0 4 cs20) h fun s21 h22 =>
 cut s3_ 4 i5_ (s3_.len : Int) h22 fun s23 =>
 okS h s3_ ∧ (
 app s21 s23 4 h22 fun s24 h25 =>
 newS 0 4 [] h25 fun s26 h27 =>
 cut s3_ 4 (0) i5_ h27 fun s28 =>
 app s26 s28 4 h27 fun s29 h30 =>
 app s29 s24 4 h30 fun s31 h32 =>
 spec_l01Sort_C1 S K X0 s0_ s31 i4_ h32))
def spec_l01Sort_b2 (S : SatT) (K : AVal → H → Prop) (X0 : Frame → H → Prop) (X2 : Frame → H → Prop) (s0_ : Sl) (s3_ : Sl) (i4_ : Int) (i5_ : Int) (h : H) : Prop :=
 bif (decide (i5_ > (0))) then
 ixS s0_ 4 i4_ fun p0 =>
 ldA p0 4 h fun cs1 =>
 ixS s3_ 4 (w64 (i5_ - (1))) fun p2 =>
 ldA p2 4 h fun cs3 =>
 callB S i_spec_l01Before [.agg cs1, .agg cs3] h fun b5 h4 =>
 bif b5 then
 X2 (spec_l01Sort_e2 s0_ s3_ i4_ (w64 (i5_ - (1)))) h4
 else
 spec_l01Sort_C2 S K X0 s0_ s3_ i4_ i5_ h4
 else
 spec_l01Sort_C2 S K X0 s0_ s3_ i4_ i5_ h
theorem spec_l01Sort_link2 (S : SatT) (K : AVal → H → Prop) (X0 : Frame → H → Prop) (X2 : Frame → H → Prop) (s0_ : Sl) (s3_ : Sl) (i4_ : Int) (i5_ : Int) (h : H) : spec_l01Sort_w2 S K X0 X2 (spec_l01Sort_e2 s0_ s3_ i4_ i5_) h = spec_l01Sort_b2 S K X0 X2 s0_ s3_ i4_ i5_ h := by kernel_rfl
theorem spec_l01Sort_rule2 (S : SatT) (K : AVal → H → Prop) (X0 : Frame → H → Prop) (s0_ : Sl) (s3_ : Sl) (i4_ : Int) (I_ : Int → H → Prop) (m_ : Int → H → Nat)
    (hs : ∀ (X2 : Frame → H → Prop) (i5_ : Int) (h : H), I_ i5_ h → (∀ (i5_' : Int) (h' : H), I_ i5_' h' → m_ i5_' h' < m_ i5_ h → X2 (spec_l01Sort_e2 s0_ s3_ i4_ i5_') h') → spec_l01Sort_b2 S K X0 X2 s0_ s3_ i4_ i5_ h) (i5_ : Int) {h : H} (h0 : I_ i5_ h) : spec_l01Sort_L2 S K X0 s0_ s3_ i4_ i5_ h :=
  loop_rule (σ := (Int)) (fun s_ => spec_l01Sort_e2 s0_ s3_ i4_ (s_)) (fun s_ h => I_ (s_) h) (fun s_ h => m_ (s_) h)
    (fun X s_ h hi hx => (spec_l01Sort_link2 S K X0 X s0_ s3_ i4_ (s_) h).mpr (hs X (s_) h hi fun i5_' h' hi' hm' => hx (i5_') h' hi' hm')) (i5_) h0
def spec_l01Sort_C0 (S : SatT) (K : AVal → H → Prop) (s3_ : Sl) (h : H) : Prop :=
 K (.sl s3_) h
def spec_l01Sort_b0 (S : SatT) (K : AVal → H → Prop) (X0 : Frame → H → Prop) (s0_ : Sl) (s3_ : Sl) (i4_ : Int) (h : H) : Prop :=
 bif (decide (i4_ < (s0_.len : Int))) then
 spec_l01Sort_L2 S K X0 s0_ s3_ i4_ (s3_.len : Int) h
 else
 spec_l01Sort_C0 S K s3_ h
theorem spec_l01Sort_link0 (S : SatT) (K : AVal → H → Prop) (X0 : Frame → H → Prop) (s0_ : Sl) (s3_ : Sl) (i4_ : Int) (h : H) : spec_l01Sort_w0 S K X0 (spec_l01Sort_e0 s0_ s3_ i4_) h = spec_l01Sort_b0 S K X0 s0_ s3_ i4_ h := by kernel_rfl
theorem spec_l01Sort_rule0 (S : SatT) (K : AVal → H → Prop) (s0_ : Sl) (I_ : Sl → Int → H → Prop) (m_ : Sl → Int → H → Nat)
    (hs : ∀ (X0 : Frame → H → Prop) (s3_ : Sl) (i4_ : Int) (h : H), I_ s3_ i4_ h → (∀ (s3_' : Sl) (i4_' : Int) (h' : H), I_ s3_' i4_' h' → m_ s3_' i4_' h' < m_ s3_ i4_ h → X0 (spec_l01Sort_e0 s0_ s3_' i4_') h') → spec_l01Sort_b0 S K X0 s0_ s3_ i4_ h) (s3_ : Sl) (i4_ : Int) {h : H} (h0 : I_ s3_ i4_ h) : spec_l01Sort_L0 S K s0_ s3_ i4_ h :=
  loop_rule (σ := (Sl) × (Int)) (fun s_ => spec_l01Sort_e0 s0_ (s_.1) (s_.2)) (fun s_ h => I_ (s_.1) (s_.2) h) (fun s_ h => m_ (s_.1) (s_.2) h)
    (fun X s_ h hi hx => (spec_l01Sort_link0 S K X s0_ (s_.1) (s_.2) h).mpr (hs X (s_.1) (s_.2) h hi fun s3_' i4_' h' hi' hm' => hx (s3_', i4_') h' hi' hm')) (s3_, i4_) h0
def spec_l01Sort_main (S : SatT) (K : AVal → H → Prop) (x0 : Sl) (h : H) : Prop :=
 newS 0 4 [] h fun s0 h1 =>
 spec_l01Sort_L0 S K x0 s0 (0) h1
theorem spec_l01Sort_main_link (S : SatT) (K : AVal → H → Prop) (x0 : Sl) (h : H) : cwp S tab spec_l01Sort_M [] (bodyOf Try.f111) (kFun tab Try.f111.results.toList K) (fr0 Try.f111 [.sl x0]) h = spec_l01Sort_main S K x0 h := by kernel_rfl
theorem spec_l01Sort_call (x0 : Sl) (h : H) (K : Sl → H → Prop) (hm : spec_l01Sort_main (Sat Try.prog) (fun v h' => ∃ r, v = .sl r ∧ K r h') x0 h) : callS (Sat Try.prog) i_spec_l01Sort [.sl x0] h K := by
  have := Sat.ex tok mixed spec_l01Sort_M Try.func111 (c := bodyOf Try.f111) (by kernel_rfl) (calls_of Try.func111 (c := bodyOf Try.f111) (by kernel_rfl) (by decide)) ((spec_l01Sort_main_link _ _ x0 h).mpr hm)
  obtain ⟨v, h2, h3, r, rfl, h4⟩ := this; exact ⟨r, h2, h3, h4⟩

/-! ### loop.example/g01354/impl.newStrip -/
def impl_newStrip_M : Nat → List Nat := fun i => bif i == 0 then [2, 3, 6, 12, 13] else []
def impl_newStrip_ks2 (S : SatT) (K : AVal → H → Prop) : Kont := kSeq (cwp S tab impl_newStrip_M [] (sub [1, 1, 1] (bodyOf Try.f66)) (kFun tab (Try.f66).results.toList K)) (kFun tab (Try.f66).results.toList K)
def impl_newStrip_e0 (p2_ : Pt) (p3_ : Pt) (p6_ : Pt) (i12_ : Int) (i13_ : Int) : Frame := [U, U, .ptr p2_, .ptr p3_, U, U, .ptr p6_, U, U, U, U, U, .int .i64 i12_, .int .i64 i13_, U, U, U, U, U, U, U, U, U, U, U, U, U, U, U, U, U, U, U, U, U]
def impl_newStrip_w0 (S : SatT) (K : AVal → H → Prop) : (Frame → H → Prop) → Frame → H → Prop := fun X fr h => cwp S tab impl_newStrip_M (impl_newStrip_M 0) (sub [1, 1, 0, 1, 0, 0] (bodyOf Try.f66)) (kSeq (fun fr h => X (mask (impl_newStrip_M 0) fr) h) (kBlk 0 (impl_newStrip_ks2 S K))) fr h
def impl_newStrip_L0 (S : SatT) (K : AVal → H → Prop) (p2_ : Pt) (p3_ : Pt) (p6_ : Pt) (i12_ : Int) (i13_ : Int) (h : H) : Prop := loopK (impl_newStrip_w0 S K) (impl_newStrip_e0 p2_ p3_ p6_ i12_ i13_) h
def impl_newStrip_C0 (S : SatT) (K : AVal → H → Prop) (p2_ : Pt) (p3_ : Pt) (p6_ : Pt) (h : H) : Prop :=
 ldP p6_ h fun p0 =>
 nilC (.ptr p0) (
 isPt p0 (
 ldI .i64 (Pt.add p0 3) h fun n1 =>
 bif (decide (n1 > (700))) then
 K (.tuple [.ptr Pt.nil, .bool false]) h
 else
 newO [.nilFunc] h fun p2 h3 =>
 st1 p2 (.func 86 [.ptr p6_, .ptr p2_, .ptr p3_, .ptr p2]) h3 fun h4 =>
 ldP p6_ h4 fun p5 =>
 ldV p2 h4 fun v6 =>
 ldI .i64 p3_ h4 fun n7 =>
 viaF v6 [.int .i64 (0), .int .i64 (0), .int .i64 (0), .int .i64 (0), .int .i64 n7] fun g8 ys9 =>
 callB S g8 ys9 h4 fun b11 h10 =>
(cell h10 p6_ = cell h4 p6_) ∧ (
 K (.tuple [.ptr p5, .bool b11]) h10)))
def impl_newStrip_b0 (S : SatT) (K : AVal → H → Prop) (X0 : Frame → H → Prop) (p2_ : Pt) (p3_ : Pt) (p6_ : Pt) (i12_ : Int) (i13_ : Int) (h : H) : Prop :=
 bif (decide (i13_ < i12_)) then
 ldP p6_ h fun p0 =>
 nilC (.ptr p0) (
 isPt p0 (
 ldI .i64 (Pt.add p0 3) h fun n1 =>
 isPt p2_ (
 ldI .i64 (Pt.add p2_ 0) h fun n2 =>
 nilC (.ptr p0) (
 isPt p0 (
 st1 (Pt.add p0 3) (.int .i64 (w64 (n1 * n2))) h fun h3 =>
 X0 (impl_newStrip_e0 p2_ p3_ p6_ i12_ (w64 (i13_ + (1)))) h3)))))
 else
 impl_newStrip_C0 S K p2_ p3_ p6_ h
theorem impl_newStrip_link0 (S : SatT) (K : AVal → H → Prop) (X0 : Frame → H → Prop) (p2_ : Pt) (p3_ : Pt) (p6_ : Pt) (i12_ : Int) (i13_ : Int) (h : H) : impl_newStrip_w0 S K X0 (impl_newStrip_e0 p2_ p3_ p6_ i12_ i13_) h = impl_newStrip_b0 S K X0 p2_ p3_ p6_ i12_ i13_ h := by kernel_rfl
theorem impl_newStrip_rule0 (S : SatT) (K : AVal → H → Prop) (p2_ : Pt) (p3_ : Pt) (p6_ : Pt) (i12_ : Int) (I_ : Int → H → Prop) (m_ : Int → H → Nat)
    (hs : ∀ (X0 : Frame → H → Prop) (i13_ : Int) (h : H), I_ i13_ h → (∀ (i13_' : Int) (h' : H), I_ i13_' h' → m_ i13_' h' < m_ i13_ h → X0 (impl_newStrip_e0 p2_ p3_ p6_ i12_ i13_') h') → impl_newStrip_b0 S K X0 p2_ p3_ p6_ i12_ i13_ h) (i13_ : Int) {h : H} (h0 : I_ i13_ h) : impl_newStrip_L0 S K p2_ p3_ p6_ i12_ i13_ h :=
  loop_rule (σ := (Int)) (fun s_ => impl_newStrip_e0 p2_ p3_ p6_ i12_ (s_)) (fun s_ h => I_ (s_) h) (fun s_ h => m_ (s_) h)
    (fun X s_ h hi hx => (impl_newStrip_link0 S K X p2_ p3_ p6_ i12_ (s_) h).mpr (hs X (s_) h hi fun i13_' h' hi' hm' => hx (i13_') h' hi' hm')) (i13_) h0
def impl_newStrip_main (S : SatT) (K : AVal → H → Prop) (x0 : List AVal) (x1 : Int) (h : H) : Prop :=
 newK 2 x0 h fun p0 h1 =>
 newO [.int .i64 x1] h1 fun p2 h3 =>
 ldA p0 2 h3 fun cs4 =>
 ldI .i64 p2 h3 fun n5 =>
 lenA cs4 2 (
 newK 5 (spl (spl (spl [.int .i64 (0), .sl Sl.nil, .int .i64 (0), .int .i64 (0), .sl Sl.nil] 0 2 cs4) 2 1 [.int .i64 n5]) 3 1 [.int .i64 (1)]) h3 fun p6 h7 =>
 newO [.ptr Pt.nil] h7 fun p8 h9 =>
 st1 p8 (.ptr p6) h9 fun h10 =>
 ldI .i64 p2 h10 fun n11 =>
 impl_newStrip_L0 S K p0 p2 p8 n11 (0) h10)
theorem impl_newStrip_main_link (S : SatT) (K : AVal → H → Prop) (x0 : List AVal) (x1 : Int) (h : H) : cwp S tab impl_newStrip_M [] (bodyOf Try.f66) (kFun tab Try.f66.results.toList K) (fr0 Try.f66 [.agg x0, .int .i64 x1]) h = impl_newStrip_main S K x0 x1 h := by kernel_rfl
theorem impl_newStrip_call (x0 : List AVal) (x1 : Int) (h : H) (K : AVal → H → Prop) (hm : impl_newStrip_main (Sat Try.prog) (fun v h' => K v h') x0 x1 h) : callV (Sat Try.prog) i_impl_newStrip [.agg x0, .int .i64 x1] h K := by
  have := Sat.ex tok mixed impl_newStrip_M Try.func66 (c := bodyOf Try.f66) (by kernel_rfl) (calls_of Try.func66 (c := bodyOf Try.f66) (by kernel_rfl) (by decide)) ((impl_newStrip_main_link _ _ x0 x1 h).mpr hm)
  exact this

/-! ### loop.example/g01354/spec.l01Split -/
def spec_l01Split_M : Nat → List Nat := fun i => bif i == 0 then [0, 1, 5, 6, 7] else []
def spec_l01Split_ks3 (S : SatT) (K : AVal → H → Prop) : Kont := kSeq (cwp S tab spec_l01Split_M [] (sub [1, 1, 1, 1] (bodyOf Try.f112)) (kFun tab (Try.f112).results.toList K)) (kFun tab (Try.f112).results.toList K)
def spec_l01Split_e0 (f0_ : AVal) (i1_ : Int) (s5_ : Sl) (i6_ : Int) (i7_ : Int) : Frame := [f0_, .int .u8 i1_, U, U, U, .sl s5_, .int .i64 i6_, .int .i64 i7_, U, U, U, U, U, U, U, U, U, U, U, U, U, U, U, U, U, U, U, U, U, U, U, U, U, U, U]
def spec_l01Split_w0 (S : SatT) (K : AVal → H → Prop) : (Frame → H → Prop) → Frame → H → Prop := fun X fr h => cwp S tab spec_l01Split_M (spec_l01Split_M 0) (sub [1, 1, 1, 0, 1, 0, 0] (bodyOf Try.f112)) (kSeq (fun fr h => X (mask (spec_l01Split_M 0) fr) h) (kBlk 0 (spec_l01Split_ks3 S K))) fr h
def spec_l01Split_L0 (S : SatT) (K : AVal → H → Prop) (f0_ : AVal) (i1_ : Int) (s5_ : Sl) (i6_ : Int) (i7_ : Int) (h : H) : Prop := loopK (spec_l01Split_w0 S K) (spec_l01Split_e0 f0_ i1_ s5_ i6_ i7_) h
def spec_l01Split_C0 (S : SatT) (K : AVal → H → Prop) (f0_ : AVal) (s5_ : Sl) (i6_ : Int) (h : H) : Prop :=
 viaStr f0_ fun t0 =>
 cutStr t0 i6_ (t0.size : Int) fun t1 =>
 newS 1 1 [.str t1] h fun s2 h3 =>
 app s5_ s2 1 h3 fun s4 h5 =>
 K (.sl s4) h5
def spec_l01Split_b0 (S : SatT) (K : AVal → H → Prop) (X0 : Frame → H → Prop) (f0_ : AVal) (i1_ : Int) (s5_ : Sl) (i6_ : Int) (i7_ : Int) (h : H) : Prop :=
 viaStr f0_ fun t0 =>
 bif (decide (i7_ < (t0.size : Int))) then
 viaStr f0_ fun t1 =>
 ixStr t1 i7_ fun n2 =>
 bif (n2 == i1_) then
 viaStr f0_ fun t3 =>
 cutStr t3 i6_ i7_ fun t4 =>
 newS 1 1 [.str t4] h fun s5 h6 =>
 app s5_ s5 1 h6 fun s7 h8 =>
 X0 (spec_l01Split_e0 f0_ i1_ s7 (w64 (i7_ + (1))) (w64 (i7_ + (1)))) h8
 else
 X0 (spec_l01Split_e0 f0_ i1_ s5_ i6_ (w64 (i7_ + (1)))) h
 else
 spec_l01Split_C0 S K f0_ s5_ i6_ h
theorem spec_l01Split_link0 (S : SatT) (K : AVal → H → Prop) (X0 : Frame → H → Prop) (f0_ : AVal) (i1_ : Int) (s5_ : Sl) (i6_ : Int) (i7_ : Int) (h : H) : spec_l01Split_w0 S K X0 (spec_l01Split_e0 f0_ i1_ s5_ i6_ i7_) h = spec_l01Split_b0 S K X0 f0_ i1_ s5_ i6_ i7_ h := by kernel_rfl
theorem spec_l01Split_rule0 (S : SatT) (K : AVal → H → Prop) (f0_ : AVal) (i1_ : Int) (I_ : Sl → Int → Int → H → Prop) (m_ : Sl → Int → Int → H → Nat)
    (hs : ∀ (X0 : Frame → H → Prop) (s5_ : Sl) (i6_ : Int) (i7_ : Int) (h : H), I_ s5_ i6_ i7_ h → (∀ (s5_' : Sl) (i6_' : Int) (i7_' : Int) (h' : H), I_ s5_' i6_' i7_' h' → m_ s5_' i6_' i7_' h' < m_ s5_ i6_ i7_ h → X0 (spec_l01Split_e0 f0_ i1_ s5_' i6_' i7_') h') → spec_l01Split_b0 S K X0 f0_ i1_ s5_ i6_ i7_ h) (s5_ : Sl) (i6_ : Int) (i7_ : Int) {h : H} (h0 : I_ s5_ i6_ i7_ h) : spec_l01Split_L0 S K f0_ i1_ s5_ i6_ i7_ h :=
  loop_rule (σ := (Sl) × (Int) × (Int)) (fun s_ => spec_l01Split_e0 f0_ i1_ (s_.1) (s_.2.1) (s_.2.2)) (fun s_ h => I_ (s_.1) (s_.2.1) (s_.2.2) h) (fun s_ h => m_ (s_.1) (s_.2.1) (s_.2.2) h)
    (fun X s_ h hi hx => (spec_l01Split_link0 S K X f0_ i1_ (s_.1) (s_.2.1) (s_.2.2) h).mpr (hs X (s_.1) (s_.2.1) (s_.2.2) h hi fun s5_' i6_' i7_' h' hi' hm' => hx (s5_', i6_', i7_') h' hi' hm')) (s5_, i6_, i7_) h0
def spec_l01Split_main (S : SatT) (K : AVal → H → Prop) (x0 : AVal) (x1 : Int) (h : H) : Prop :=
 newS 0 1 [] h fun s0 h1 =>
 spec_l01Split_L0 S K x0 x1 s0 (0) (0) h1
theorem spec_l01Split_main_link (S : SatT) (K : AVal → H → Prop) (x0 : AVal) (x1 : Int) (h : H) : cwp S tab spec_l01Split_M [] (bodyOf Try.f112) (kFun tab Try.f112.results.toList K) (fr0 Try.f112 [x0, .int .u8 x1]) h = spec_l01Split_main S K x0 x1 h := by kernel_rfl
theorem spec_l01Split_call (x0 : AVal) (x1 : Int) (h : H) (K : Sl → H → Prop) (hm : spec_l01Split_main (Sat Try.prog) (fun v h' => ∃ r, v = .sl r ∧ K r h') x0 x1 h) : callS (Sat Try.prog) i_spec_l01Split [x0, .int .u8 x1] h K := by
  have := Sat.ex tok mixed spec_l01Split_M Try.func112 (c := bodyOf Try.f112) (by kernel_rfl) (calls_of Try.func112 (c := bodyOf Try.f112) (by kernel_rfl) (by decide)) ((spec_l01Split_main_link _ _ x0 x1 h).mpr hm)
  obtain ⟨v, h2, h3, r, rfl, h4⟩ := this; exact ⟨r, h2, h3, h4⟩

/-! ### loop.example/g01354/spec.l01DrawOf -/
def spec_l01DrawOf_M : Nat → List Nat := fun i => bif i == 0 then [0, 1, 6, 7, 8] else []
def spec_l01DrawOf_ks2 (S : SatT) (K : AVal → H → Prop) : Kont := kSeq (cwp S tab spec_l01DrawOf_M [] (sub [1, 1, 1] (bodyOf Try.f98)) (kFun tab (Try.f98).results.toList K)) (kFun tab (Try.f98).results.toList K)
def spec_l01DrawOf_e0 (p0_ : Pt) (i1_ : Int) (p6_ : Pt) (s7_ : Sl) (i8_ : Int) : Frame := [.ptr p0_, .int .i64 i1_, U, U, U, U, .ptr p6_, .sl s7_, .int .i64 i8_, U, U, U, U, U, U, U, U, U, U, U, U, U, U, U]
def spec_l01DrawOf_w0 (S : SatT) (K : AVal → H → Prop) : (Frame → H → Prop) → Frame → H → Prop := fun X fr h => cwp S tab spec_l01DrawOf_M (spec_l01DrawOf_M 0) (sub [1, 1, 0, 1, 0, 0] (bodyOf Try.f98)) (kSeq (fun fr h => X (mask (spec_l01DrawOf_M 0) fr) h) (kBlk 0 (spec_l01DrawOf_ks2 S K))) fr h
def spec_l01DrawOf_L0 (S : SatT) (K : AVal → H → Prop) (p0_ : Pt) (i1_ : Int) (p6_ : Pt) (s7_ : Sl) (i8_ : Int) (h : H) : Prop := loopK (spec_l01DrawOf_w0 S K) (spec_l01DrawOf_e0 p0_ i1_ p6_ s7_ i8_) h
def spec_l01DrawOf_C0 (S : SatT) (K : AVal → H → Prop) (i1_ : Int) (p6_ : Pt) (s7_ : Sl) (h : H) : Prop :=
 callA S i_spec_l01Made [.int .i64 i1_, .sl s7_] h fun cs1 h0 =>
 stN p6_ 2 cs1 h0 fun h2 =>
 ldA p6_ 2 h2 fun cs3 =>
 K (.agg cs3) h2
def spec_l01DrawOf_b0 (S : SatT) (K : AVal → H → Prop) (X0 : Frame → H → Prop) (p0_ : Pt) (i1_ : Int) (p6_ : Pt) (s7_ : Sl) (i8_ : Int) (h : H) : Prop :=
 bif (decide (i8_ > (0))) then
 callA S i_spec_l01DrawTile [.ptr p0_, .int .i64 i1_] h fun cs1 h0 =>
 lenA cs1 4 (
 newS 1 4 (spl [.int .i64 (0), .int .i64 (0), .int .i64 (0), .int .i64 (0)] 0 4 cs1) h0 fun s2 h3 =>
 app s7_ s2 4 h3 fun s4 h5 =>
 X0 (spec_l01DrawOf_e0 p0_ i1_ p6_ s4 (w64 (i8_ - (1)))) h5)
 else
 spec_l01DrawOf_C0 S K i1_ p6_ s7_ h
theorem spec_l01DrawOf_link0 (S : SatT) (K : AVal → H → Prop) (X0 : Frame → H → Prop) (p0_ : Pt) (i1_ : Int) (p6_ : Pt) (s7_ : Sl) (i8_ : Int) (h : H) : spec_l01DrawOf_w0 S K X0 (spec_l01DrawOf_e0 p0_ i1_ p6_ s7_ i8_) h = spec_l01DrawOf_b0 S K X0 p0_ i1_ p6_ s7_ i8_ h := by kernel_rfl
theorem spec_l01DrawOf_rule0 (S : SatT) (K : AVal → H → Prop) (p0_ : Pt) (i1_ : Int) (p6_ : Pt) (I_ : Sl → Int → H → Prop) (m_ : Sl → Int → H → Nat)
    (hs : ∀ (X0 : Frame → H → Prop) (s7_ : Sl) (i8_ : Int) (h : H), I_ s7_ i8_ h → (∀ (s7_' : Sl) (i8_' : Int) (h' : H), I_ s7_' i8_' h' → m_ s7_' i8_' h' < m_ s7_ i8_ h → X0 (spec_l01DrawOf_e0 p0_ i1_ p6_ s7_' i8_') h') → spec_l01DrawOf_b0 S K X0 p0_ i1_ p6_ s7_ i8_ h) (s7_ : Sl) (i8_ : Int) {h : H} (h0 : I_ s7_ i8_ h) : spec_l01DrawOf_L0 S K p0_ i1_ p6_ s7_ i8_ h :=
  loop_rule (σ := (Sl) × (Int)) (fun s_ => spec_l01DrawOf_e0 p0_ i1_ p6_ (s_.1) (s_.2)) (fun s_ h => I_ (s_.1) (s_.2) h) (fun s_ h => m_ (s_.1) (s_.2) h)
    (fun X s_ h hi hx => (spec_l01DrawOf_link0 S K X p0_ i1_ p6_ (s_.1) (s_.2) h).mpr (hs X (s_.1) (s_.2) h hi fun s7_' i8_' h' hi' hm' => hx (s7_', i8_') h' hi' hm')) (s7_, i8_) h0
def spec_l01DrawOf_main (S : SatT) (K : AVal → H → Prop) (x0 : Pt) (x1 : Int) (x2 : Int) (h : H) : Prop :=
 newO [.int .i64 (0), .sl Sl.nil] h fun p0 h1 =>
 newS 0 4 [] h1 fun s2 h3 =>
 spec_l01DrawOf_L0 S K x0 x1 p0 s2 x2 h3
theorem spec_l01DrawOf_main_link (S : SatT) (K : AVal → H → Prop) (x0 : Pt) (x1 : Int) (x2 : Int) (h : H) : cwp S tab spec_l01DrawOf_M [] (bodyOf Try.f98) (kFun tab Try.f98.results.toList K) (fr0 Try.f98 [.ptr x0, .int .i64 x1, .int .i64 x2]) h = spec_l01DrawOf_main S K x0 x1 x2 h := by kernel_rfl
theorem spec_l01DrawOf_call (x0 : Pt) (x1 : Int) (x2 : Int) (h : H) (K : List AVal → H → Prop) (hm : spec_l01DrawOf_main (Sat Try.prog) (fun v h' => ∃ r, v = .agg r ∧ K r h') x0 x1 x2 h) : callA (Sat Try.prog) i_spec_l01DrawOf [.ptr x0, .int .i64 x1, .int .i64 x2] h K := by
  have := Sat.ex tok mixed spec_l01DrawOf_M Try.func98 (c := bodyOf Try.f98) (by kernel_rfl) (calls_of Try.func98 (c := bodyOf Try.f98) (by kernel_rfl) (by decide)) ((spec_l01DrawOf_main_link _ _ x0 x1 x2 h).mpr hm)
  obtain ⟨v, h2, h3, r, rfl, h4⟩ := this; exact ⟨r, h2, h3, h4⟩

/-! ### slices.Equal[[]bool,bool] -/
def slices_Equal_s_bool_bool__M : Nat → List Nat := fun i => bif i == 0 then [0, 1, 12, 13] else []
def slices_Equal_s_bool_bool__ks4 (S : SatT) (K : AVal → H → Prop) : Kont := kSeq (cwp S tab slices_Equal_s_bool_bool__M [] (sub [1, 1, 1] (bodyOf Try.f100)) (kFun tab (Try.f100).results.toList K)) (kFun tab (Try.f100).results.toList K)
def slices_Equal_s_bool_bool__e0 (s0_ : Sl) (s1_ : Sl) (i12_ : Int) (i13_ : Int) : Frame := [.sl s0_, .sl s1_, U, U, U, U, U, U, U, U, U, U, .int .i64 i12_, .int .i64 i13_, U, U, U, U, U, U, U, U, U, U, U, U]
def slices_Equal_s_bool_bool__w0 (S : SatT) (K : AVal → H → Prop) : (Frame → H → Prop) → Frame → H → Prop := fun X fr h => cwp S tab slices_Equal_s_bool_bool__M (slices_Equal_s_bool_bool__M 0) (sub [1, 1, 0, 1, 0, 0] (bodyOf Try.f100)) (kSeq (fun fr h => X (mask (slices_Equal_s_bool_bool__M 0) fr) h) (kBlk 0 (slices_Equal_s_bool_bool__ks4 S K))) fr h
def slices_Equal_s_bool_bool__L0 (S : SatT) (K : AVal → H → Prop) (s0_ : Sl) (s1_ : Sl) (i12_ : Int) (i13_ : Int) (h : H) : Prop := loopK (slices_Equal_s_bool_bool__w0 S K) (slices_Equal_s_bool_bool__e0 s0_ s1_ i12_ i13_) h
def slices_Equal_s_bool_bool__C0 (S : SatT) (K : AVal → H → Prop) (h : H) : Prop :=
 K (.bool true) h
def slices_Equal_s_bool_bool__b0 (S : SatT) (K : AVal → H → Prop) (X0 : Frame → H → Prop) (s0_ : Sl) (s1_ : Sl) (i12_ : Int) (i13_ : Int) (h : H) : Prop :=
 bif (decide (i13_ < i12_)) then
 ixS s0_ 1 i13_ fun p0 =>
 ldB p0 h fun b1 =>
 ixS s1_ 1 i13_ fun p2 =>
 ldB p2 h fun b3 =>
 bif (b1 != b3) then
 K (.bool false) h
 else
 X0 (slices_Equal_s_bool_bool__e0 s0_ s1_ i12_ (w64 (i13_ + (1)))) h
 else
 slices_Equal_s_bool_bool__C0 S K h
theorem slices_Equal_s_bool_bool__link0 (S : SatT) (K : AVal → H → Prop) (X0 : Frame → H → Prop) (s0_ : Sl) (s1_ : Sl) (i12_ : Int) (i13_ : Int) (h : H) : slices_Equal_s_bool_bool__w0 S K X0 (slices_Equal_s_bool_bool__e0 s0_ s1_ i12_ i13_) h = slices_Equal_s_bool_bool__b0 S K X0 s0_ s1_ i12_ i13_ h := by kernel_rfl
theorem slices_Equal_s_bool_bool__rule0 (S : SatT) (K : AVal → H → Prop) (s0_ : Sl) (s1_ : Sl) (i12_ : Int) (I_ : Int → H → Prop) (m_ : Int → H → Nat)
    (hs : ∀ (X0 : Frame → H → Prop) (i13_ : Int) (h : H), I_ i13_ h → (∀ (i13_' : Int) (h' : H), I_ i13_' h' → m_ i13_' h' < m_ i13_ h → X0 (slices_Equal_s_bool_bool__e0 s0_ s1_ i12_ i13_') h') → slices_Equal_s_bool_bool__b0 S K X0 s0_ s1_ i12_ i13_ h) (i13_ : Int) {h : H} (h0 : I_ i13_ h) : slices_Equal_s_bool_bool__L0 S K s0_ s1_ i12_ i13_ h :=
  loop_rule (σ := (Int)) (fun s_ => slices_Equal_s_bool_bool__e0 s0_ s1_ i12_ (s_)) (fun s_ h => I_ (s_) h) (fun s_ h => m_ (s_) h)
    (fun X s_ h hi hx => (slices_Equal_s_bool_bool__link0 S K X s0_ s1_ i12_ (s_) h).mpr (hs X (s_) h hi fun i13_' h' hi' hm' => hx (i13_') h' hi' hm')) (i13_) h0
def slices_Equal_s_bool_bool__main (S : SatT) (K : AVal → H → Prop) (x0 : Sl) (x1 : Sl) (h : H) : Prop :=
 bif ((x0.len : Int) != (x1.len : Int)) then
 K (.bool false) h
 else
 slices_Equal_s_bool_bool__L0 S K x0 x1 (x0.len : Int) (0) h
theorem slices_Equal_s_bool_bool__main_link (S : SatT) (K : AVal → H → Prop) (x0 : Sl) (x1 : Sl) (h : H) : cwp S tab slices_Equal_s_bool_bool__M [] (bodyOf Try.f100) (kFun tab Try.f100.results.toList K) (fr0 Try.f100 [.sl x0, .sl x1]) h = slices_Equal_s_bool_bool__main S K x0 x1 h := by kernel_rfl
theorem slices_Equal_s_bool_bool__call (x0 : Sl) (x1 : Sl) (h : H) (K : Bool → H → Prop) (hm : slices_Equal_s_bool_bool__main (Sat Try.prog) (fun v h' => ∃ r, v = .bool r ∧ K r h') x0 x1 h) : callB (Sat Try.prog) i_slices_Equal_s_bool_bool_ [.sl x0, .sl x1] h K := by
  have := Sat.ex tok mixed slices_Equal_s_bool_bool__M Try.func100 (c := bodyOf Try.f100) (by kernel_rfl) (calls_of Try.func100 (c := bodyOf Try.f100) (by kernel_rfl) (by decide)) ((slices_Equal_s_bool_bool__main_link _ _ x0 x1 h).mpr hm)
  obtain ⟨v, h2, h3, r, rfl, h4⟩ := this; exact ⟨r, h2, h3, h4⟩

/-! ### loop.example/g01354/laws.likeInts -/
def laws_likeInts_M : Nat → List Nat := fun i => bif i == 0 then [0, 1, 5] else []
def laws_likeInts_ks4 (S : SatT) (K : AVal → H → Prop) : Kont := kSeq (cwp S tab laws_likeInts_M [] (sub [1, 1, 1] (bodyOf Try.f17)) (kFun tab (Try.f17).results.toList K)) (kFun tab (Try.f17).results.toList K)
def laws_likeInts_e0 (s0_ : Sl) (s1_ : Sl) (i5_ : Int) : Frame := [.sl s0_, .sl s1_, U, U, U, .int .i64 i5_, U, U, U, U, U, U, U, U, U, U, U, U, U, U, U, U, U, U, U, U]
def laws_likeInts_w0 (S : SatT) (K : AVal → H → Prop) : (Frame → H → Prop) → Frame → H → Prop := fun X fr h => cwp S tab laws_likeInts_M (laws_likeInts_M 0) (sub [1, 1, 0, 1, 0, 0] (bodyOf Try.f17)) (kSeq (fun fr h => X (mask (laws_likeInts_M 0) fr) h) (kBlk 0 (laws_likeInts_ks4 S K))) fr h
def laws_likeInts_L0 (S : SatT) (K : AVal → H → Prop) (s0_ : Sl) (s1_ : Sl) (i5_ : Int) (h : H) : Prop := loopK (laws_likeInts_w0 S K) (laws_likeInts_e0 s0_ s1_ i5_) h
def laws_likeInts_C0 (S : SatT) (K : AVal → H → Prop) (h : H) : Prop :=
 K (.bool true) h
def laws_likeInts_b0 (S : SatT) (K : AVal → H → Prop) (X0 : Frame → H → Prop) (s0_ : Sl) (s1_ : Sl) (i5_ : Int) (h : H) : Prop :=
 bif (decide (i5_ < (s0_.len : Int))) then
 ixS s0_ 1 i5_ fun p0 =>
 ldI .i64 p0 h fun n1 =>
 ixS s1_ 1 i5_ fun p2 =>
 ldI .i64 p2 h fun n3 =>
 bif (n1 != n3) then
 K (.bool false) h
 else
 X0 (laws_likeInts_e0 s0_ s1_ (w64 (i5_ + (1)))) h
 else
 laws_likeInts_C0 S K h
theorem laws_likeInts_link0 (S : SatT) (K : AVal → H → Prop) (X0 : Frame → H → Prop) (s0_ : Sl) (s1_ : Sl) (i5_ : Int) (h : H) : laws_likeInts_w0 S K X0 (laws_likeInts_e0 s0_ s1_ i5_) h = laws_likeInts_b0 S K X0 s0_ s1_ i5_ h := by kernel_rfl
theorem laws_likeInts_rule0 (S : SatT) (K : AVal → H → Prop) (s0_ : Sl) (s1_ : Sl) (I_ : Int → H → Prop) (m_ : Int → H → Nat)
    (hs : ∀ (X0 : Frame → H → Prop) (i5_ : Int) (h : H), I_ i5_ h → (∀ (i5_' : Int) (h' : H), I_ i5_' h' → m_ i5_' h' < m_ i5_ h → X0 (laws_likeInts_e0 s0_ s1_ i5_') h') → laws_likeInts_b0 S K X0 s0_ s1_ i5_ h) (i5_ : Int) {h : H} (h0 : I_ i5_ h) : laws_likeInts_L0 S K s0_ s1_ i5_ h :=
  loop_rule (σ := (Int)) (fun s_ => laws_likeInts_e0 s0_ s1_ (s_)) (fun s_ h => I_ (s_) h) (fun s_ h => m_ (s_) h)
    (fun X s_ h hi hx => (laws_likeInts_link0 S K X s0_ s1_ (s_) h).mpr (hs X (s_) h hi fun i5_' h' hi' hm' => hx (i5_') h' hi' hm')) (i5_) h0
def laws_likeInts_main (S : SatT) (K : AVal → H → Prop) (x0 : Sl) (x1 : Sl) (h : H) : Prop :=
 bif ((x0.len : Int) != (x1.len : Int)) then
 K (.bool false) h
 else
 laws_likeInts_L0 S K x0 x1 (0) h
theorem laws_likeInts_main_link (S : SatT) (K : AVal → H → Prop) (x0 : Sl) (x1 : Sl) (h : H) : cwp S tab laws_likeInts_M [] (bodyOf Try.f17) (kFun tab Try.f17.results.toList K) (fr0 Try.f17 [.sl x0, .sl x1]) h = laws_likeInts_main S K x0 x1 h := by kernel_rfl
theorem laws_likeInts_call (x0 : Sl) (x1 : Sl) (h : H) (K : Bool → H → Prop) (hm : laws_likeInts_main (Sat Try.prog) (fun v h' => ∃ r, v = .bool r ∧ K r h') x0 x1 h) : callB (Sat Try.prog) i_laws_likeInts [.sl x0, .sl x1] h K := by
  have := Sat.ex tok mixed laws_likeInts_M Try.func17 (c := bodyOf Try.f17) (by kernel_rfl) (calls_of Try.func17 (c := bodyOf Try.f17) (by kernel_rfl) (by decide)) ((laws_likeInts_main_link _ _ x0 x1 h).mpr hm)
  obtain ⟨v, h2, h3, r, rfl, h4⟩ := this; exact ⟨r, h2, h3, h4⟩

/-! ### loop.example/g01354/spec.l02Total -/
def spec_l02Total_M : Nat → List Nat := fun i => bif i == 0 then [0, 3, 4] else []
def spec_l02Total_ks2 (S : SatT) (K : AVal → H → Prop) : Kont := kSeq (cwp S tab spec_l02Total_M [] (sub [1, 1, 1] (bodyOf Try.f47)) (kFun tab (Try.f47).results.toList K)) (kFun tab (Try.f47).results.toList K)
def spec_l02Total_e0 (s0_ : Sl) (i3_ : Int) (i4_ : Int) : Frame := [.sl s0_, U, U, .int .i64 i3_, .int .i64 i4_, U, U, U, U, U, U, U, U, U, U, U, U, U, U]
def spec_l02Total_w0 (S : SatT) (K : AVal → H → Prop) : (Frame → H → Prop) → Frame → H → Prop := fun X fr h => cwp S tab spec_l02Total_M (spec_l02Total_M 0) (sub [1, 1, 0, 1, 0, 0] (bodyOf Try.f47)) (kSeq (fun fr h => X (mask (spec_l02Total_M 0) fr) h) (kBlk 0 (spec_l02Total_ks2 S K))) fr h
def spec_l02Total_L0 (S : SatT) (K : AVal → H → Prop) (s0_ : Sl) (i3_ : Int) (i4_ : Int) (h : H) : Prop := loopK (spec_l02Total_w0 S K) (spec_l02Total_e0 s0_ i3_ i4_) h
def spec_l02Total_C0 (S : SatT) (K : AVal → H → Prop) (i3_ : Int) (h : H) : Prop :=
 K (.int .i64 i3_) h
def spec_l02Total_b0 (S : SatT) (K : AVal → H → Prop) (X0 : Frame → H → Prop) (s0_ : Sl) (i3_ : Int) (i4_ : Int) (h : H) : Prop :=
 bif (decide (i4_ < (s0_.len : Int))) then
 ixS s0_ 1 i4_ fun p0 =>
 ldI .i64 p0 h fun n1 =>
 X0 (spec_l02Total_e0 s0_ (mnI (w64 (i3_ + n1)) (1000000000000001)) (w64 (i4_ + (1)))) h
 else
 spec_l02Total_C0 S K i3_ h
theorem spec_l02Total_link0 (S : SatT) (K : AVal → H → Prop) (X0 : Frame → H → Prop) (s0_ : Sl) (i3_ : Int) (i4_ : Int) (h : H) : spec_l02Total_w0 S K X0 (spec_l02Total_e0 s0_ i3_ i4_) h = spec_l02Total_b0 S K X0 s0_ i3_ i4_ h := by kernel_rfl
theorem spec_l02Total_rule0 (S : SatT) (K : AVal → H → Prop) (s0_ : Sl) (I_ : Int → Int → H → Prop) (m_ : Int → Int → H → Nat)
    (hs : ∀ (X0 : Frame → H → Prop) (i3_ : Int) (i4_ : Int) (h : H), I_ i3_ i4_ h → (∀ (i3_' : Int) (i4_' : Int) (h' : H), I_ i3_' i4_' h' → m_ i3_' i4_' h' < m_ i3_ i4_ h → X0 (spec_l02Total_e0 s0_ i3_' i4_') h') → spec_l02Total_b0 S K X0 s0_ i3_ i4_ h) (i3_ : Int) (i4_ : Int) {h : H} (h0 : I_ i3_ i4_ h) : spec_l02Total_L0 S K s0_ i3_ i4_ h :=
  loop_rule (σ := (Int) × (Int)) (fun s_ => spec_l02Total_e0 s0_ (s_.1) (s_.2)) (fun s_ h => I_ (s_.1) (s_.2) h) (fun s_ h => m_ (s_.1) (s_.2) h)
    (fun X s_ h hi hx => (spec_l02Total_link0 S K X s0_ (s_.1) (s_.2) h).mpr (hs X (s_.1) (s_.2) h hi fun i3_' i4_' h' hi' hm' => hx (i3_', i4_') h' hi' hm')) (i3_, i4_) h0
def spec_l02Total_main (S : SatT) (K : AVal → H → Prop) (x0 : Sl) (h : H) : Prop :=
 spec_l02Total_L0 S K x0 (0) (0) h
theorem spec_l02Total_main_link (S : SatT) (K : AVal → H → Prop) (x0 : Sl) (h : H) : cwp S tab spec_l02Total_M [] (bodyOf Try.f47) (kFun tab Try.f47.results.toList K) (fr0 Try.f47 [.sl x0]) h = spec_l02Total_main S K x0 h := by kernel_rfl
theorem spec_l02Total_call (x0 : Sl) (h : H) (K : Int → H → Prop) (hm : spec_l02Total_main (Sat Try.prog) (fun v h' => ∃ r, v = .int .i64 r ∧ K r h') x0 h) : callI (Sat Try.prog) .i64 i_spec_l02Total [.sl x0] h K := by
  have := Sat.ex tok mixed spec_l02Total_M Try.func47 (c := bodyOf Try.f47) (by kernel_rfl) (calls_of Try.func47 (c := bodyOf Try.f47) (by kernel_rfl) (by decide)) ((spec_l02Total_main_link _ _ x0 h).mpr hm)
  obtain ⟨v, h2, h3, r, rfl, h4⟩ := this; exact ⟨r, h2, h3, h4⟩

/-! ### loop.example/g01354/laws.sum -/
def laws_sum_M : Nat → List Nat := fun i => bif i == 0 then [0, 3, 4] else []
def laws_sum_ks2 (S : SatT) (K : AVal → H → Prop) : Kont := kSeq (cwp S tab laws_sum_M [] (sub [1, 1, 1] (bodyOf Try.f19)) (kFun tab (Try.f19).results.toList K)) (kFun tab (Try.f19).results.toList K)
def laws_sum_e0 (s0_ : Sl) (i3_ : Int) (i4_ : Int) : Frame := [.sl s0_, U, U, .int .i64 i3_, .int .i64 i4_, U, U, U, U, U, U, U, U, U, U, U, U, U]
def laws_sum_w0 (S : SatT) (K : AVal → H → Prop) : (Frame → H → Prop) → Frame → H → Prop := fun X fr h => cwp S tab laws_sum_M (laws_sum_M 0) (sub [1, 1, 0, 1, 0, 0] (bodyOf Try.f19)) (kSeq (fun fr h => X (mask (laws_sum_M 0) fr) h) (kBlk 0 (laws_sum_ks2 S K))) fr h
def laws_sum_L0 (S : SatT) (K : AVal → H → Prop) (s0_ : Sl) (i3_ : Int) (i4_ : Int) (h : H) : Prop := loopK (laws_sum_w0 S K) (laws_sum_e0 s0_ i3_ i4_) h
def laws_sum_C0 (S : SatT) (K : AVal → H → Prop) (i3_ : Int) (h : H) : Prop :=
 K (.int .i64 i3_) h
def laws_sum_b0 (S : SatT) (K : AVal → H → Prop) (X0 : Frame → H → Prop) (s0_ : Sl) (i3_ : Int) (i4_ : Int) (h : H) : Prop :=
 bif (decide (i4_ < (s0_.len : Int))) then
 ixS s0_ 1 i4_ fun p0 =>
 ldI .i64 p0 h fun n1 =>
 X0 (laws_sum_e0 s0_ (w64 (i3_ + n1)) (w64 (i4_ + (1)))) h
 else
 laws_sum_C0 S K i3_ h
theorem laws_sum_link0 (S : SatT) (K : AVal → H → Prop) (X0 : Frame → H → Prop) (s0_ : Sl) (i3_ : Int) (i4_ : Int) (h : H) : laws_sum_w0 S K X0 (laws_sum_e0 s0_ i3_ i4_) h = laws_sum_b0 S K X0 s0_ i3_ i4_ h := by kernel_rfl
theorem laws_sum_rule0 (S : SatT) (K : AVal → H → Prop) (s0_ : Sl) (I_ : Int → Int → H → Prop) (m_ : Int → Int → H → Nat)
    (hs : ∀ (X0 : Frame → H → Prop) (i3_ : Int) (i4_ : Int) (h : H), I_ i3_ i4_ h → (∀ (i3_' : Int) (i4_' : Int) (h' : H), I_ i3_' i4_' h' → m_ i3_' i4_' h' < m_ i3_ i4_ h → X0 (laws_sum_e0 s0_ i3_' i4_') h') → laws_sum_b0 S K X0 s0_ i3_ i4_ h) (i3_ : Int) (i4_ : Int) {h : H} (h0 : I_ i3_ i4_ h) : laws_sum_L0 S K s0_ i3_ i4_ h :=
  loop_rule (σ := (Int) × (Int)) (fun s_ => laws_sum_e0 s0_ (s_.1) (s_.2)) (fun s_ h => I_ (s_.1) (s_.2) h) (fun s_ h => m_ (s_.1) (s_.2) h)
    (fun X s_ h hi hx => (laws_sum_link0 S K X s0_ (s_.1) (s_.2) h).mpr (hs X (s_.1) (s_.2) h hi fun i3_' i4_' h' hi' hm' => hx (i3_', i4_') h' hi' hm')) (i3_, i4_) h0
def laws_sum_main (S : SatT) (K : AVal → H → Prop) (x0 : Sl) (h : H) : Prop :=
 laws_sum_L0 S K x0 (0) (0) h
theorem laws_sum_main_link (S : SatT) (K : AVal → H → Prop) (x0 : Sl) (h : H) : cwp S tab laws_sum_M [] (bodyOf Try.f19) (kFun tab Try.f19.results.toList K) (fr0 Try.f19 [.sl x0]) h = laws_sum_main S K x0 h := by kernel_rfl
theorem laws_sum_call (x0 : Sl) (h : H) (K : Int → H → Prop) (hm : laws_sum_main (Sat Try.prog) (fun v h' => ∃ r, v = .int .i64 r ∧ K r h') x0 h) : callI (Sat Try.prog) .i64 i_laws_sum [.sl x0] h K := by
  have := Sat.ex tok mixed laws_sum_M Try.func19 (c := bodyOf Try.f19) (by kernel_rfl) (calls_of Try.func19 (c := bodyOf Try.f19) (by kernel_rfl) (by decide)) ((laws_sum_main_link _ _ x0 h).mpr hm)
  obtain ⟨v, h2, h3, r, rfl, h4⟩ := this; exact ⟨r, h2, h3, h4⟩

/-! ### loop.example/g01354/impl.StripSequence$3 -/
def impl_StripSequence_3_M : Nat → List Nat := fun i => []
def impl_StripSequence_3_main (S : SatT) (K : AVal → H → Prop) (x0 : Int) (x1 : Pt) (x2 : Pt) (x3 : Pt) (h : H) : Prop :=
 ldS x1 h fun s0 =>
 newS 1 1 [.int .i64 x0] h fun s1 h2 =>
(cell h2 x1 = cell h x1) ∧ (
 app s0 s1 1 h2 fun s3 h4 =>
 ldB x2 h4 fun b5 =>
(cell h2 x2 = cell h4 x2) ∧ (
(cell h x2 = cell h4 x2) ∧ (
 bif b5 then
 st1 x1 (.sl s3) h4 fun h6 =>
 st1 x2 (.bool (decide (x0 ≤ (1000000000000000)))) h6 fun h7 =>
 ldB x2 h7 fun b8 =>
 bif b8 then
 ldS x1 h7 fun s9 =>
 ldI .i64 x3 h7 fun n10 =>
 K (.bool (decide ((s9.len : Int) < n10))) h7
 else
 K (.bool false) h7
 else
 st1 x1 (.sl s3) h4 fun h11 =>
 st1 x2 (.bool false) h11 fun h12 =>
 ldB x2 h12 fun b13 =>
 bif b13 then
 ldS x1 h12 fun s14 =>
 ldI .i64 x3 h12 fun n15 =>
 K (.bool (decide ((s14.len : Int) < n15))) h12
 else
 K (.bool false) h12)))
theorem impl_StripSequence_3_main_link (S : SatT) (K : AVal → H → Prop) (x0 : Int) (x1 : Pt) (x2 : Pt) (x3 : Pt) (h : H) : cwp S tab impl_StripSequence_3_M [] (bodyOf Try.f42) (kFun tab Try.f42.results.toList K) (fr0 Try.f42 [.int .i64 x0, .ptr x1, .ptr x2, .ptr x3]) h = impl_StripSequence_3_main S K x0 x1 x2 x3 h := by kernel_rfl
theorem impl_StripSequence_3_call (x0 : Int) (x1 : Pt) (x2 : Pt) (x3 : Pt) (h : H) (K : Bool → H → Prop) (hm : impl_StripSequence_3_main (Sat Try.prog) (fun v h' => ∃ r, v = .bool r ∧ K r h') x0 x1 x2 x3 h) : callB (Sat Try.prog) i_impl_StripSequence_3 [.int .i64 x0, .ptr x1, .ptr x2, .ptr x3] h K := by
  have := Sat.ex tok mixed impl_StripSequence_3_M Try.func42 (c := bodyOf Try.f42) (by kernel_rfl) (calls_of Try.func42 (c := bodyOf Try.f42) (by kernel_rfl) (by decide)) ((impl_StripSequence_3_main_link _ _ x0 x1 x2 x3 h).mpr hm)
  obtain ⟨v, h2, h3, r, rfl, h4⟩ := this; exact ⟨r, h2, h3, h4⟩

/-! ### loop.example/g01354/spec.l06Draw -/
def spec_l06Draw_M : Nat → List Nat := fun i => []
def spec_l06Draw_main (S : SatT) (K : AVal → H → Prop) (x0 : Pt) (h : H) : Prop :=
 newO [.int .i64 (0), .sl Sl.nil] h fun p0 h1 =>
 callI S .i64 i_spec_l01Next [.ptr x0, .int .i64 (6)] h1 fun n3 h2 =>
 bif (n3 == (0)) then
 callA S i_spec_l01Spoil [.ptr x0] h2 fun cs5 h4 =>
 callI S .i64 i_spec_l01Next [.ptr x0, .int .i64 (6)] h4 fun n7 h6 =>
 newS 4 1 [.int .i64 (1), .int .i64 (1), .int .i64 (2), .int .i64 n7] h6 fun s8 h9 =>
 callI S .i64 i_spec_l01Pick [.ptr x0, .sl s8] h9 fun n11 h10 =>
 stN p0 2 cs5 h10 fun h12 =>
 ldA p0 2 h12 fun cs13 =>
 K (.tuple [.agg cs13, .int .i64 n11]) h12
 else
 callA S i_spec_l01Small [.ptr x0] h2 fun cs15 h14 =>
 newS 5 1 [.int .i64 (1), .int .i64 (2), .int .i64 (2), .int .i64 (3), .int .i64 (4)] h14 fun s16 h17 =>
 callI S .i64 i_spec_l01Pick [.ptr x0, .sl s16] h17 fun n19 h18 =>
 stN p0 2 cs15 h18 fun h20 =>
 ldA p0 2 h20 fun cs21 =>
 K (.tuple [.agg cs21, .int .i64 n19]) h20
theorem spec_l06Draw_main_link (S : SatT) (K : AVal → H → Prop) (x0 : Pt) (h : H) : cwp S tab spec_l06Draw_M [] (bodyOf Try.f60) (kFun tab Try.f60.results.toList K) (fr0 Try.f60 [.ptr x0]) h = spec_l06Draw_main S K x0 h := by kernel_rfl
theorem spec_l06Draw_call (x0 : Pt) (h : H) (K : AVal → H → Prop) (hm : spec_l06Draw_main (Sat Try.prog) (fun v h' => K v h') x0 h) : callV (Sat Try.prog) i_spec_l06Draw [.ptr x0] h K := by
  have := Sat.ex tok mixed spec_l06Draw_M Try.func60 (c := bodyOf Try.f60) (by kernel_rfl) (calls_of Try.func60 (c := bodyOf Try.f60) (by kernel_rfl) (by decide)) ((spec_l06Draw_main_link _ _ x0 h).mpr hm)
  exact this

/-! ### loop.example/g01354/spec.l01DrawTile -/
def spec_l01DrawTile_M : Nat → List Nat := fun i => []
def spec_l01DrawTile_main (S : SatT) (K : AVal → H → Prop) (x0 : Pt) (x1 : Int) (h : H) : Prop :=
 newO [.int .i64 (0), .int .i64 (0), .int .i64 (0), .int .i64 (0)] h fun p0 h1 =>
 callI S .i64 i_spec_l01Next [.ptr x0, .int .i64 x1] h1 fun n3 h2 =>
 callI S .i64 i_spec_l01Next [.ptr x0, .int .i64 x1] h2 fun n5 h4 =>
 callI S .i64 i_spec_l01Next [.ptr x0, .int .i64 x1] h4 fun n7 h6 =>
 callI S .i64 i_spec_l01Next [.ptr x0, .int .i64 x1] h6 fun n9 h8 =>
 stN p0 4 [.int .i64 n3, .int .i64 n5, .int .i64 n7, .int .i64 n9] h8 fun h10 =>
 ldA p0 4 h10 fun cs11 =>
 K (.agg cs11) h10
theorem spec_l01DrawTile_main_link (S : SatT) (K : AVal → H → Prop) (x0 : Pt) (x1 : Int) (h : H) : cwp S tab spec_l01DrawTile_M [] (bodyOf Try.f106) (kFun tab Try.f106.results.toList K) (fr0 Try.f106 [.ptr x0, .int .i64 x1]) h = spec_l01DrawTile_main S K x0 x1 h := by kernel_rfl
theorem spec_l01DrawTile_call (x0 : Pt) (x1 : Int) (h : H) (K : List AVal → H → Prop) (hm : spec_l01DrawTile_main (Sat Try.prog) (fun v h' => ∃ r, v = .agg r ∧ K r h') x0 x1 h) : callA (Sat Try.prog) i_spec_l01DrawTile [.ptr x0, .int .i64 x1] h K := by
  have := Sat.ex tok mixed spec_l01DrawTile_M Try.func106 (c := bodyOf Try.f106) (by kernel_rfl) (calls_of Try.func106 (c := bodyOf Try.f106) (by kernel_rfl) (by decide)) ((spec_l01DrawTile_main_link _ _ x0 x1 h).mpr hm)
  obtain ⟨v, h2, h3, r, rfl, h4⟩ := this; exact ⟨r, h2, h3, h4⟩

/-! ### cmp.Compare[int64] -/
def cmp_Compare_int64__M : Nat → List Nat := fun i => []
def cmp_Compare_int64__main (S : SatT) (K : AVal → H → Prop) (x0 : Int) (x1 : Int) (h : H) : Prop :=
 callB S i_cmp_isNaN_int64_ [.int .i64 x0] h fun b1 h0 =>
 callB S i_cmp_isNaN_int64_ [.int .i64 x1] h0 fun b3 h2 =>
 bif b1 then
 bif b3 then
 K (.int .i64 (0)) h2
 else
 K (.int .i64 (-1)) h2
 else
 bif b3 then
 K (.int .i64 (1)) h2
 else
 bif (decide (x0 < x1)) then
 K (.int .i64 (-1)) h2
 else
 bif (decide (x0 > x1)) then
 K (.int .i64 (1)) h2
 else
 K (.int .i64 (0)) h2
theorem cmp_Compare_int64__main_link (S : SatT) (K : AVal → H → Prop) (x0 : Int) (x1 : Int) (h : H) : cwp S tab cmp_Compare_int64__M [] (bodyOf Try.f110) (kFun tab Try.f110.results.toList K) (fr0 Try.f110 [.int .i64 x0, .int .i64 x1]) h = cmp_Compare_int64__main S K x0 x1 h := by kernel_rfl
theorem cmp_Compare_int64__call (x0 : Int) (x1 : Int) (h : H) (K : Int → H → Prop) (hm : cmp_Compare_int64__main (Sat Try.prog) (fun v h' => ∃ r, v = .int .i64 r ∧ K r h') x0 x1 h) : callI (Sat Try.prog) .i64 i_cmp_Compare_int64_ [.int .i64 x0, .int .i64 x1] h K := by
  have := Sat.ex tok mixed cmp_Compare_int64__M Try.func110 (c := bodyOf Try.f110) (by kernel_rfl) (calls_of Try.func110 (c := bodyOf Try.f110) (by kernel_rfl) (by decide)) ((cmp_Compare_int64__main_link _ _ x0 x1 h).mpr hm)
  obtain ⟨v, h2, h3, r, rfl, h4⟩ := this; exact ⟨r, h2, h3, h4⟩

/-! ### loop.example/g01354/impl.CountColumns -/
def impl_CountColumns_M : Nat → List Nat := fun i => []
def impl_CountColumns_main (S : SatT) (K : AVal → H → Prop) (x0 : List AVal) (x1 : Int) (h : H) : Prop :=
 newK 2 x0 h fun p0 h1 =>
 ldA p0 2 h1 fun cs2 =>
 callV S i_impl_stripOf [.agg cs2, .int .i64 x1] h1 fun v4 h3 =>
 viaT v4 fun vs5 =>
 exP vs5 0 fun p6 =>
 viaT v4 fun vs7 =>
 exI .i64 vs7 1 fun n8 =>
 bif (n8 != (0)) then
 K (.tuple [.int .i64 (0), .int .i64 n8]) h3
 else
 nilC (.ptr p6) (
 isPt p6 (
 ldS (Pt.add p6 4) h3 fun s9 =>
 K (.tuple [.int .i64 (s9.len : Int), .int .i64 (0)]) h3))
theorem impl_CountColumns_main_link (S : SatT) (K : AVal → H → Prop) (x0 : List AVal) (x1 : Int) (h : H) : cwp S tab impl_CountColumns_M [] (bodyOf Try.f12) (kFun tab Try.f12.results.toList K) (fr0 Try.f12 [.agg x0, .int .i64 x1]) h = impl_CountColumns_main S K x0 x1 h := by kernel_rfl
theorem impl_CountColumns_call (x0 : List AVal) (x1 : Int) (h : H) (K : AVal → H → Prop) (hm : impl_CountColumns_main (Sat Try.prog) (fun v h' => K v h') x0 x1 h) : callV (Sat Try.prog) i_impl_CountColumns [.agg x0, .int .i64 x1] h K := by
  have := Sat.ex tok mixed impl_CountColumns_M Try.func12 (c := bodyOf Try.f12) (by kernel_rfl) (calls_of Try.func12 (c := bodyOf Try.f12) (by kernel_rfl) (by decide)) ((impl_CountColumns_main_link _ _ x0 x1 h).mpr hm)
  exact this

/-! ### loop.example/g01354/impl.StripSequence$1 -/
def impl_StripSequence_1_M : Nat → List Nat := fun i => []
def impl_StripSequence_1_main (S : SatT) (K : AVal → H → Prop) (x0 : Pt) (x1 : Pt) (h : H) : Prop :=
 ldI .i64 x0 h fun n0 =>
 callB S i_impl_within [.int .i64 n0, .int .i64 (1), .int .i64 (4)] h fun b2 h1 =>
 bif b2 then
 ldI .i64 x1 h1 fun n3 =>
 callB S i_impl_within [.int .i64 n3, .int .i64 (1), .int .i64 (30)] h1 fun b5 h4 =>
 K (.bool b5) h4
 else
 K (.bool false) h1
theorem impl_StripSequence_1_main_link (S : SatT) (K : AVal → H → Prop) (x0 : Pt) (x1 : Pt) (h : H) : cwp S tab impl_StripSequence_1_M [] (bodyOf Try.f38) (kFun tab Try.f38.results.toList K) (fr0 Try.f38 [.ptr x0, .ptr x1]) h = impl_StripSequence_1_main S K x0 x1 h := by kernel_rfl
theorem impl_StripSequence_1_call (x0 : Pt) (x1 : Pt) (h : H) (K : Bool → H → Prop) (hm : impl_StripSequence_1_main (Sat Try.prog) (fun v h' => ∃ r, v = .bool r ∧ K r h') x0 x1 h) : callB (Sat Try.prog) i_impl_StripSequence_1 [.ptr x0, .ptr x1] h K := by
  have := Sat.ex tok mixed impl_StripSequence_1_M Try.func38 (c := bodyOf Try.f38) (by kernel_rfl) (calls_of Try.func38 (c := bodyOf Try.f38) (by kernel_rfl) (by decide)) ((impl_StripSequence_1_main_link _ _ x0 x1 h).mpr hm)
  obtain ⟨v, h2, h3, r, rfl, h4⟩ := this; exact ⟨r, h2, h3, h4⟩

/-! ### slices.ContainsFunc[[]int64,int64] -/
def slices_ContainsFunc_s_int64_int64__M : Nat → List Nat := fun i => []
def slices_ContainsFunc_s_int64_int64__main (S : SatT) (K : AVal → H → Prop) (x0 : Sl) (x1 : AVal) (h : H) : Prop :=
 callI S .i64 i_slices_IndexFunc_s_int64_int64_ [.sl x0, x1] h fun n1 h0 =>
 K (.bool (decide (n1 ≥ (0)))) h0
theorem slices_ContainsFunc_s_int64_int64__main_link (S : SatT) (K : AVal → H → Prop) (x0 : Sl) (x1 : AVal) (h : H) : cwp S tab slices_ContainsFunc_s_int64_int64__M [] (bodyOf Try.f101) (kFun tab Try.f101.results.toList K) (fr0 Try.f101 [.sl x0, x1]) h = slices_ContainsFunc_s_int64_int64__main S K x0 x1 h := by kernel_rfl
theorem slices_ContainsFunc_s_int64_int64__call (x0 : Sl) (x1 : AVal) (h : H) (K : Bool → H → Prop) (hm : slices_ContainsFunc_s_int64_int64__main (Sat Try.prog) (fun v h' => ∃ r, v = .bool r ∧ K r h') x0 x1 h) : callB (Sat Try.prog) i_slices_ContainsFunc_s_int64_int64_ [.sl x0, x1] h K := by
  have := Sat.ex tok mixed slices_ContainsFunc_s_int64_int64__M Try.func101 (c := bodyOf Try.f101) (by kernel_rfl) (calls_of Try.func101 (c := bodyOf Try.f101) (by kernel_rfl) (by decide)) ((slices_ContainsFunc_s_int64_int64__main_link _ _ x0 x1 h).mpr hm)
  obtain ⟨v, h2, h3, r, rfl, h4⟩ := this; exact ⟨r, h2, h3, h4⟩

/-! ### loop.example/g01354/impl.isTile$1 -/
def impl_isTile_1_M : Nat → List Nat := fun i => []
def impl_isTile_1_main (S : SatT) (K : AVal → H → Prop) (x0 : Int) (x1 : Pt) (h : H) : Prop :=
 ldI .i64 x1 h fun n0 =>
 callB S i_impl_within [.int .i64 x0, .int .i64 (0), .int .i64 (w64 (n0 - (1)))] h fun b2 h1 =>
 K (.bool (!b2)) h1
theorem impl_isTile_1_main_link (S : SatT) (K : AVal → H → Prop) (x0 : Int) (x1 : Pt) (h : H) : cwp S tab impl_isTile_1_M [] (bodyOf Try.f102) (kFun tab Try.f102.results.toList K) (fr0 Try.f102 [.int .i64 x0, .ptr x1]) h = impl_isTile_1_main S K x0 x1 h := by kernel_rfl
theorem impl_isTile_1_call (x0 : Int) (x1 : Pt) (h : H) (K : Bool → H → Prop) (hm : impl_isTile_1_main (Sat Try.prog) (fun v h' => ∃ r, v = .bool r ∧ K r h') x0 x1 h) : callB (Sat Try.prog) i_impl_isTile_1 [.int .i64 x0, .ptr x1] h K := by
  have := Sat.ex tok mixed impl_isTile_1_M Try.func102 (c := bodyOf Try.f102) (by kernel_rfl) (calls_of Try.func102 (c := bodyOf Try.f102) (by kernel_rfl) (by decide)) ((impl_isTile_1_main_link _ _ x0 x1 h).mpr hm)
  obtain ⟨v, h2, h3, r, rfl, h4⟩ := this; exact ⟨r, h2, h3, h4⟩

/-! ### loop.example/g01354/spec.l01Pick -/
def spec_l01Pick_M : Nat → List Nat := fun i => []
def spec_l01Pick_main (S : SatT) (K : AVal → H → Prop) (x0 : Pt) (x1 : Sl) (h : H) : Prop :=
 callI S .i64 i_spec_l01Next [.ptr x0, .int .i64 (x1.len : Int)] h fun n1 h0 =>
 ixS x1 1 n1 fun p2 =>
 ldI .i64 p2 h0 fun n3 =>
 K (.int .i64 n3) h0
theorem spec_l01Pick_main_link (S : SatT) (K : AVal → H → Prop) (x0 : Pt) (x1 : Sl) (h : H) : cwp S tab spec_l01Pick_M [] (bodyOf Try.f69) (kFun tab Try.f69.results.toList K) (fr0 Try.f69 [.ptr x0, .sl x1]) h = spec_l01Pick_main S K x0 x1 h := by kernel_rfl
theorem spec_l01Pick_call (x0 : Pt) (x1 : Sl) (h : H) (K : Int → H → Prop) (hm : spec_l01Pick_main (Sat Try.prog) (fun v h' => ∃ r, v = .int .i64 r ∧ K r h') x0 x1 h) : callI (Sat Try.prog) .i64 i_spec_l01Pick [.ptr x0, .sl x1] h K := by
  have := Sat.ex tok mixed spec_l01Pick_M Try.func69 (c := bodyOf Try.f69) (by kernel_rfl) (calls_of Try.func69 (c := bodyOf Try.f69) (by kernel_rfl) (by decide)) ((spec_l01Pick_main_link _ _ x0 x1 h).mpr hm)
  obtain ⟨v, h2, h3, r, rfl, h4⟩ := this; exact ⟨r, h2, h3, h4⟩

/-! ### loop.example/g01354/laws.big -/
def laws_big_M : Nat → List Nat := fun i => []
def laws_big_main (S : SatT) (K : AVal → H → Prop) (x0 : Sl) (h : H) : Prop :=
 K (.bool (decide ((x0.len : Int) > (4096)))) h
theorem laws_big_main_link (S : SatT) (K : AVal → H → Prop) (x0 : Sl) (h : H) : cwp S tab laws_big_M [] (bodyOf Try.f5) (kFun tab Try.f5.results.toList K) (fr0 Try.f5 [.sl x0]) h = laws_big_main S K x0 h := by kernel_rfl
theorem laws_big_call (x0 : Sl) (h : H) (K : Bool → H → Prop) (hm : laws_big_main (Sat Try.prog) (fun v h' => ∃ r, v = .bool r ∧ K r h') x0 h) : callB (Sat Try.prog) i_laws_big [.sl x0] h K := by
  have := Sat.ex tok mixed laws_big_M Try.func5 (c := bodyOf Try.f5) (by kernel_rfl) (calls_of Try.func5 (c := bodyOf Try.f5) (by kernel_rfl) (by decide)) ((laws_big_main_link _ _ x0 h).mpr hm)
  obtain ⟨v, h2, h3, r, rfl, h4⟩ := this; exact ⟨r, h2, h3, h4⟩

/-! ### loop.example/g01354/spec.l06Columns -/
def spec_l06Columns_M : Nat → List Nat := fun i => bif i == 4 then [1, 2, 6, 7, 8, 9, 10] else bif i == 2 then [1, 2, 6, 7, 8, 9] else bif i == 0 then [1, 2, 6, 7] else []
def spec_l06Columns_ks2 (S : SatT) (K : AVal → H → Prop) : Kont := kSeq (cwp S tab spec_l06Columns_M [] (sub [1, 1, 1] (bodyOf Try.f68)) (kFun tab (Try.f68).results.toList K)) (kFun tab (Try.f68).results.toList K)
def spec_l06Columns_e0 (i1_ : Int) (p2_ : Pt) (s6_ : Sl) (i7_ : Int) : Frame := [U, .int .i64 i1_, .ptr p2_, U, U, U, .sl s6_, .int .i64 i7_, U, U, U, U, U, U, U, U, U, U, U, U, U, U, U, U, U, U, U, U, U, U, U, U, U, U, U, U, U, U, U, U, U, U, U, U, U, U, U, U, U, U, U, U, U, U, U, U, U, U, U, U, U, U, U, U, U, U, U, U, U, U, U, U, U, U, U, U, U, U, U, U, U, U, U, U, U, U, U, U, U, U, U]
def spec_l06Columns_w0 (S : SatT) (K : AVal → H → Prop) : (Frame → H → Prop) → Frame → H → Prop := fun X fr h => cwp S tab spec_l06Columns_M (spec_l06Columns_M 0) (sub [1, 1, 0, 1, 0, 0] (bodyOf Try.f68)) (kSeq (fun fr h => X (mask (spec_l06Columns_M 0) fr) h) (kBlk 0 (spec_l06Columns_ks2 S K))) fr h
def spec_l06Columns_L0 (S : SatT) (K : AVal → H → Prop) (i1_ : Int) (p2_ : Pt) (s6_ : Sl) (i7_ : Int) (h : H) : Prop := loopK (spec_l06Columns_w0 S K) (spec_l06Columns_e0 i1_ p2_ s6_ i7_) h
def spec_l06Columns_ks6 (S : SatT) (K : AVal → H → Prop) (X0 : Frame → H → Prop) : Kont := kSeq (cwp S tab spec_l06Columns_M (spec_l06Columns_M 0) (sub [1, 1, 0, 1, 0, 0, 1, 1] (bodyOf Try.f68)) (kSeq (fun fr h => X0 (mask (spec_l06Columns_M 0) fr) h) (kBlk 0 (spec_l06Columns_ks2 S K)))) (kSeq (fun fr h => X0 (mask (spec_l06Columns_M 0) fr) h) (kBlk 0 (spec_l06Columns_ks2 S K)))
def spec_l06Columns_ks8 (S : SatT) (K : AVal → H → Prop) (X0 : Frame → H → Prop) : Kont := kSeq (cwp S tab spec_l06Columns_M (spec_l06Columns_M 1) (sub [1, 1, 0, 1, 0, 0, 1, 0, 0, 1, 1] (bodyOf Try.f68)) (kBlk 1 (spec_l06Columns_ks6 S K X0))) (kBlk 1 (spec_l06Columns_ks6 S K X0))
def spec_l06Columns_e2 (i1_ : Int) (p2_ : Pt) (s6_ : Sl) (i7_ : Int) (s8_ : Sl) (i9_ : Int) : Frame := [U, .int .i64 i1_, .ptr p2_, U, U, U, .sl s6_, .int .i64 i7_, .sl s8_, .int .i64 i9_, U, U, U, U, U, U, U, U, U, U, U, U, U, U, U, U, U, U, U, U, U, U, U, U, U, U, U, U, U, U, U, U, U, U, U, U, U, U, U, U, U, U, U, U, U, U, U, U, U, U, U, U, U, U, U, U, U, U, U, U, U, U, U, U, U, U, U, U, U, U, U, U, U, U, U, U, U, U, U, U, U]
def spec_l06Columns_w2 (S : SatT) (K : AVal → H → Prop) (X0 : Frame → H → Prop) : (Frame → H → Prop) → Frame → H → Prop := fun X fr h => cwp S tab spec_l06Columns_M (spec_l06Columns_M 2) (sub [1, 1, 0, 1, 0, 0, 1, 0, 0, 1, 0, 1, 0, 0] (bodyOf Try.f68)) (kSeq (fun fr h => X (mask (spec_l06Columns_M 2) fr) h) (kBlk 2 (spec_l06Columns_ks8 S K X0))) fr h
def spec_l06Columns_L2 (S : SatT) (K : AVal → H → Prop) (X0 : Frame → H → Prop) (i1_ : Int) (p2_ : Pt) (s6_ : Sl) (i7_ : Int) (s8_ : Sl) (i9_ : Int) (h : H) : Prop := loopK (spec_l06Columns_w2 S K X0) (spec_l06Columns_e2 i1_ p2_ s6_ i7_ s8_ i9_) h
def spec_l06Columns_ks12 (S : SatT) (K : AVal → H → Prop) (X0 : Frame → H → Prop) (X2 : Frame → H → Prop) : Kont := kSeq (cwp S tab spec_l06Columns_M (spec_l06Columns_M 2) (sub [1, 1, 0, 1, 0, 0, 1, 0, 0, 1, 0, 1, 0, 0, 1, 1] (bodyOf Try.f68)) (kSeq (fun fr h => X2 (mask (spec_l06Columns_M 2) fr) h) (kBlk 2 (spec_l06Columns_ks8 S K X0)))) (kSeq (fun fr h => X2 (mask (spec_l06Columns_M 2) fr) h) (kBlk 2 (spec_l06Columns_ks8 S K X0)))
def spec_l06Columns_e4 (i1_ : Int) (p2_ : Pt) (s6_ : Sl) (i7_ : Int) (s8_ : Sl) (i9_ : Int) (i10_ : Int) : Frame := [U, .int .i64 i1_, .ptr p2_, U, U, U, .sl s6_, .int .i64 i7_, .sl s8_, .int .i64 i9_, .int .i64 i10_, U, U, U, U, U, U, U, U, U, U, U, U, U, U, U, U, U, U, U, U, U, U, U, U, U, U, U, U, U, U, U, U, U, U, U, U, U, U, U, U, U, U, U, U, U, U, U, U, U, U, U, U, U, U, U, U, U, U, U, U, U, U, U, U, U, U, U, U, U, U, U, U, U, U, U, U, U, U, U, U]
def spec_l06Columns_w4 (S : SatT) (K : AVal → H → Prop) (X0 : Frame → H → Prop) (X2 : Frame → H → Prop) : (Frame → H → Prop) → Frame → H → Prop := fun X fr h => cwp S tab spec_l06Columns_M (spec_l06Columns_M 4) (sub [1, 1, 0, 1, 0, 0, 1, 0, 0, 1, 0, 1, 0, 0, 1, 0, 0, 1, 0, 0] (bodyOf Try.f68)) (kSeq (fun fr h => X (mask (spec_l06Columns_M 4) fr) h) (kBlk 4 (kBlk 3 (spec_l06Columns_ks12 S K X0 X2)))) fr h
def spec_l06Columns_L4 (S : SatT) (K : AVal → H → Prop) (X0 : Frame → H → Prop) (X2 : Frame → H → Prop) (i1_ : Int) (p2_ : Pt) (s6_ : Sl) (i7_ : Int) (s8_ : Sl) (i9_ : Int) (i10_ : Int) (h : H) : Prop := loopK (spec_l06Columns_w4 S K X0 X2) (spec_l06Columns_e4 i1_ p2_ s6_ i7_ s8_ i9_ i10_) h
def spec_l06Columns_C3 (S : SatT) (K : AVal → H → Prop) (X0 : Frame → H → Prop) (X2 : Frame → H → Prop) (i1_ : Int) (p2_ : Pt) (s6_ : Sl) (i7_ : Int) (s8_ : Sl) (i9_ : Int) (h : H) : Prop :=
 X2 (spec_l06Columns_e2 i1_ p2_ s6_ i7_ s8_ (w64 (i9_ + (1)))) h
def spec_l06Columns_C4 (S : SatT) (K : AVal → H → Prop) (X0 : Frame → H → Prop) (X2 : Frame → H → Prop) (i1_ : Int) (p2_ : Pt) (s6_ : Sl) (i7_ : Int) (s8_ : Sl) (i9_ : Int) (h : H) : Prop :=
 spec_l06Columns_C3 S K X0 X2 i1_ p2_ s6_ i7_ s8_ i9_ h
def spec_l06Columns_b4 (S : SatT) (K : AVal → H → Prop) (X0 : Frame → H → Prop) (X2 : Frame → H → Prop) (X4 : Frame → H → Prop) (i1_ : Int) (p2_ : Pt) (s6_ : Sl) (i7_ : Int) (s8_ : Sl) (i9_ : Int) (i10_ : Int) (h : H) : Prop :=
 isPt p2_ (
 ldS (Pt.add p2_ 1) h fun s0 =>
 bif (decide (i10_ < (s0.len : Int))) then
 isPt p2_ (
 ldS (Pt.add p2_ 1) h fun s1 =>
 ixS s1 4 i10_ fun p2 =>
 ldA p2 4 h fun cs3 =>
 newO [.int .i64 (0), .int .i64 (0), .int .i64 (0), .int .i64 (0)] h fun p4 h5 =>
 stN p4 4 cs3 h5 fun h6 =>
 ixS s6_ 1 i9_ fun p7 =>
 ldS p7 h6 fun s8 =>
 ixS s8 1 (2) fun p9 =>
 ldI .i64 p9 h6 fun n10 =>
 bif (decide (n10 ≥ (0))) then
 ixS s6_ 1 i9_ fun p11 =>
 ldS p11 h6 fun s12 =>
 ixS s12 1 (2) fun p13 =>
 ldI .i64 p13 h6 fun n14 =>
 ixA p4 4 1 (1) fun p15 =>
 ldI .i64 p15 h6 fun n16 =>
 bif (n14 != n16) then
 X4 (spec_l06Columns_e4 i1_ p2_ s6_ i7_ s8_ i9_ (w64 (i10_ + (1)))) h6
 else
 bif ((s8_.len : Int) == (5000)) then
 K (.tuple [.sl Sl.nil, .bool false]) h6
 else
 ixS s6_ 1 i9_ fun p17 =>
 ldS p17 h6 fun s18 =>
 ixS s18 1 (0) fun p19 =>
 ldI .i64 p19 h6 fun n20 =>
 isPt p2_ (
 ldI .i64 (Pt.add p2_ 0) h6 fun n21 =>
 ixA p4 4 1 (0) fun p22 =>
 ldI .i64 p22 h6 fun n23 =>
 ixS s6_ 1 i9_ fun p24 =>
 ldS p24 h6 fun s25 =>
 ixS s25 1 (1) fun p26 =>
 ldI .i64 p26 h6 fun n27 =>
 isPt p2_ (
 ldI .i64 (Pt.add p2_ 0) h6 fun n28 =>
 ixA p4 4 1 (2) fun p29 =>
 ldI .i64 p29 h6 fun n30 =>
 ixA p4 4 1 (3) fun p31 =>
 ldI .i64 p31 h6 fun n32 =>
 newS 3 1 [.int .i64 (w64 ((w64 (n20 * n21)) + n23)), .int .i64 (w64 ((w64 (n27 * n28)) + n30)), .int .i64 n32] h6 fun s33 h34 =>
 newS 1 1 [.sl s33] h34 fun s35 h36 =>
 app s8_ s35 1 h36 fun s37 h38 =>
 X4 (spec_l06Columns_e4 i1_ p2_ s6_ i7_ s37 i9_ (w64 (i10_ + (1)))) h38))
 else
 bif ((s8_.len : Int) == (5000)) then
 K (.tuple [.sl Sl.nil, .bool false]) h6
 else
 ixS s6_ 1 i9_ fun p39 =>
 ldS p39 h6 fun s40 =>
 ixS s40 1 (0) fun p41 =>
 ldI .i64 p41 h6 fun n42 =>
 isPt p2_ (
 ldI .i64 (Pt.add p2_ 0) h6 fun n43 =>
 ixA p4 4 1 (0) fun p44 =>
 ldI .i64 p44 h6 fun n45 =>
 ixS s6_ 1 i9_ fun p46 =>
 ldS p46 h6 fun s47 =>
 ixS s47 1 (1) fun p48 =>
 ldI .i64 p48 h6 fun n49 =>
 isPt p2_ (
 ldI .i64 (Pt.add p2_ 0) h6 fun n50 =>
 ixA p4 4 1 (2) fun p51 =>
 ldI .i64 p51 h6 fun n52 =>
 ixA p4 4 1 (3) fun p53 =>
 ldI .i64 p53 h6 fun n54 =>
 newS 3 1 [.int .i64 (w64 ((w64 (n42 * n43)) + n45)), .int .i64 (w64 ((w64 (n49 * n50)) + n52)), .int .i64 n54] h6 fun s55 h56 =>
 newS 1 1 [.sl s55] h56 fun s57 h58 =>
 app s8_ s57 1 h58 fun s59 h60 =>
 X4 (spec_l06Columns_e4 i1_ p2_ s6_ i7_ s59 i9_ (w64 (i10_ + (1)))) h60)))
 else
 spec_l06Columns_C4 S K X0 X2 i1_ p2_ s6_ i7_ s8_ i9_ h)
theorem spec_l06Columns_link4 (S : SatT) (K : AVal → H → Prop) (X0 : Frame → H → Prop) (X2 : Frame → H → Prop) (X4 : Frame → H → Prop) (i1_ : Int) (p2_ : Pt) (s6_ : Sl) (i7_ : Int) (s8_ : Sl) (i9_ : Int) (i10_ : Int) (h : H) : spec_l06Columns_w4 S K X0 X2 X4 (spec_l06Columns_e4 i1_ p2_ s6_ i7_ s8_ i9_ i10_) h = spec_l06Columns_b4 S K X0 X2 X4 i1_ p2_ s6_ i7_ s8_ i9_ i10_ h := by kernel_rfl
theorem spec_l06Columns_rule4 (S : SatT) (K : AVal → H → Prop) (X0 : Frame → H → Prop) (X2 : Frame → H → Prop) (i1_ : Int) (p2_ : Pt) (s6_ : Sl) (i7_ : Int) (i9_ : Int) (I_ : Sl → Int → H → Prop) (m_ : Sl → Int → H → Nat)
    (hs : ∀ (X4 : Frame → H → Prop) (s8_ : Sl) (i10_ : Int) (h : H), I_ s8_ i10_ h → (∀ (s8_' : Sl) (i10_' : Int) (h' : H), I_ s8_' i10_' h' → m_ s8_' i10_' h' < m_ s8_ i10_ h → X4 (spec_l06Columns_e4 i1_ p2_ s6_ i7_ s8_' i9_ i10_') h') → spec_l06Columns_b4 S K X0 X2 X4 i1_ p2_ s6_ i7_ s8_ i9_ i10_ h) (s8_ : Sl) (i10_ : Int) {h : H} (h0 : I_ s8_ i10_ h) : spec_l06Columns_L4 S K X0 X2 i1_ p2_ s6_ i7_ s8_ i9_ i10_ h :=
  loop_rule (σ := (Sl) × (Int)) (fun s_ => spec_l06Columns_e4 i1_ p2_ s6_ i7_ (s_.1) i9_ (s_.2)) (fun s_ h => I_ (s_.1) (s_.2) h) (fun s_ h => m_ (s_.1) (s_.2) h)
    (fun X s_ h hi hx => (spec_l06Columns_link4 S K X0 X2 X i1_ p2_ s6_ i7_ (s_.1) i9_ (s_.2) h).mpr (hs X (s_.1) (s_.2) h hi fun s8_' i10_' h' hi' hm' => hx (s8_', i10_') h' hi' hm')) (s8_, i10_) h0
def spec_l06Columns_C1 (S : SatT) (K : AVal → H → Prop) (X0 : Frame → H → Prop) (i1_ : Int) (p2_ : Pt) (s6_ : Sl) (i7_ : Int) (h : H) : Prop :=
 X0 (spec_l06Columns_e0 i1_ p2_ s6_ (w64 (i7_ + (1)))) h
def spec_l06Columns_C2 (S : SatT) (K : AVal → H → Prop) (X0 : Frame → H → Prop) (i1_ : Int) (p2_ : Pt) (i7_ : Int) (s8_ : Sl) (h : H) : Prop :=
 spec_l06Columns_C1 S K X0 i1_ p2_ s8_ i7_ h
def spec_l06Columns_b2 (S : SatT) (K : AVal → H → Prop) (X0 : Frame → H → Prop) (X2 : Frame → H → Prop) (i1_ : Int) (p2_ : Pt) (s6_ : Sl) (i7_ : Int) (s8_ : Sl) (i9_ : Int) (h : H) : Prop :=
 bif (decide (i9_ < (s6_.len : Int))) then
 spec_l06Columns_L4 S K X0 X2 i1_ p2_ s6_ i7_ s8_ i9_ (0) h
 else
 spec_l06Columns_C2 S K X0 i1_ p2_ i7_ s8_ h
theorem spec_l06Columns_link2 (S : SatT) (K : AVal → H → Prop) (X0 : Frame → H → Prop) (X2 : Frame → H → Prop) (i1_ : Int) (p2_ : Pt) (s6_ : Sl) (i7_ : Int) (s8_ : Sl) (i9_ : Int) (h : H) : spec_l06Columns_w2 S K X0 X2 (spec_l06Columns_e2 i1_ p2_ s6_ i7_ s8_ i9_) h = spec_l06Columns_b2 S K X0 X2 i1_ p2_ s6_ i7_ s8_ i9_ h := by kernel_rfl
theorem spec_l06Columns_rule2 (S : SatT) (K : AVal → H → Prop) (X0 : Frame → H → Prop) (i1_ : Int) (p2_ : Pt) (s6_ : Sl) (i7_ : Int) (I_ : Sl → Int → H → Prop) (m_ : Sl → Int → H → Nat)
    (hs : ∀ (X2 : Frame → H → Prop) (s8_ : Sl) (i9_ : Int) (h : H), I_ s8_ i9_ h → (∀ (s8_' : Sl) (i9_' : Int) (h' : H), I_ s8_' i9_' h' → m_ s8_' i9_' h' < m_ s8_ i9_ h → X2 (spec_l06Columns_e2 i1_ p2_ s6_ i7_ s8_' i9_') h') → spec_l06Columns_b2 S K X0 X2 i1_ p2_ s6_ i7_ s8_ i9_ h) (s8_ : Sl) (i9_ : Int) {h : H} (h0 : I_ s8_ i9_ h) : spec_l06Columns_L2 S K X0 i1_ p2_ s6_ i7_ s8_ i9_ h :=
  loop_rule (σ := (Sl) × (Int)) (fun s_ => spec_l06Columns_e2 i1_ p2_ s6_ i7_ (s_.1) (s_.2)) (fun s_ h => I_ (s_.1) (s_.2) h) (fun s_ h => m_ (s_.1) (s_.2) h)
    (fun X s_ h hi hx => (spec_l06Columns_link2 S K X0 X i1_ p2_ s6_ i7_ (s_.1) (s_.2) h).mpr (hs X (s_.1) (s_.2) h hi fun s8_' i9_' h' hi' hm' => hx (s8_', i9_') h' hi' hm')) (s8_, i9_) h0
def spec_l06Columns_C0 (S : SatT) (K : AVal → H → Prop) (s6_ : Sl) (h : H) : Prop :=
 K (.tuple [.sl s6_, .bool true]) h
def spec_l06Columns_b0 (S : SatT) (K : AVal → H → Prop) (X0 : Frame → H → Prop) (i1_ : Int) (p2_ : Pt) (s6_ : Sl) (i7_ : Int) (h : H) : Prop :=
 bif (decide (i7_ < i1_)) then
 newS 0 1 [] h fun s0 h1 =>
 spec_l06Columns_L2 S K X0 i1_ p2_ s6_ i7_ s0 (0) h1
 else
 spec_l06Columns_C0 S K s6_ h
theorem spec_l06Columns_link0 (S : SatT) (K : AVal → H → Prop) (X0 : Frame → H → Prop) (i1_ : Int) (p2_ : Pt) (s6_ : Sl) (i7_ : Int) (h : H) : spec_l06Columns_w0 S K X0 (spec_l06Columns_e0 i1_ p2_ s6_ i7_) h = spec_l06Columns_b0 S K X0 i1_ p2_ s6_ i7_ h := by kernel_rfl
theorem spec_l06Columns_rule0 (S : SatT) (K : AVal → H → Prop) (i1_ : Int) (p2_ : Pt) (I_ : Sl → Int → H → Prop) (m_ : Sl → Int → H → Nat)
    (hs : ∀ (X0 : Frame → H → Prop) (s6_ : Sl) (i7_ : Int) (h : H), I_ s6_ i7_ h → (∀ (s6_' : Sl) (i7_' : Int) (h' : H), I_ s6_' i7_' h' → m_ s6_' i7_' h' < m_ s6_ i7_ h → X0 (spec_l06Columns_e0 i1_ p2_ s6_' i7_') h') → spec_l06Columns_b0 S K X0 i1_ p2_ s6_ i7_ h) (s6_ : Sl) (i7_ : Int) {h : H} (h0 : I_ s6_ i7_ h) : spec_l06Columns_L0 S K i1_ p2_ s6_ i7_ h :=
  loop_rule (σ := (Sl) × (Int)) (fun s_ => spec_l06Columns_e0 i1_ p2_ (s_.1) (s_.2)) (fun s_ h => I_ (s_.1) (s_.2) h) (fun s_ h => m_ (s_.1) (s_.2) h)
    (fun X s_ h hi hx => (spec_l06Columns_link0 S K X i1_ p2_ (s_.1) (s_.2) h).mpr (hs X (s_.1) (s_.2) h hi fun s6_' i7_' h' hi' hm' => hx (s6_', i7_') h' hi' hm')) (s6_, i7_) h0
def spec_l06Columns_main (S : SatT) (K : AVal → H → Prop) (x0 : List AVal) (x1 : Int) (h : H) : Prop :=
 newK 2 x0 h fun p0 h1 =>
 newS 3 1 [.int .i64 (0), .int .i64 (0), .int .i64 (-1)] h1 fun s2 h3 =>
 newS 1 1 [.sl s2] h3 fun s4 h5 =>
 spec_l06Columns_L0 S K x1 p0 s4 (0) h5
theorem spec_l06Columns_main_link (S : SatT) (K : AVal → H → Prop) (x0 : List AVal) (x1 : Int) (h : H) : cwp S tab spec_l06Columns_M [] (bodyOf Try.f68) (kFun tab Try.f68.results.toList K) (fr0 Try.f68 [.agg x0, .int .i64 x1]) h = spec_l06Columns_main S K x0 x1 h := by kernel_rfl
theorem spec_l06Columns_call (x0 : List AVal) (x1 : Int) (h : H) (K : AVal → H → Prop) (hm : spec_l06Columns_main (Sat Try.prog) (fun v h' => K v h') x0 x1 h) : callV (Sat Try.prog) i_spec_l06Columns [.agg x0, .int .i64 x1] h K := by
  have := Sat.ex tok mixed spec_l06Columns_M Try.func68 (c := bodyOf Try.f68) (by kernel_rfl) (calls_of Try.func68 (c := bodyOf Try.f68) (by kernel_rfl) (by decide)) ((spec_l06Columns_main_link _ _ x0 x1 h).mpr hm)
  exact this

/-! ### loop.example/g01354/spec.l06Lasting -/
def spec_l06Lasting_M : Nat → List Nat := fun i => bif i == 4 then [7, 9, 11, 13] else bif i == 2 then [7, 9, 11, 12] else bif i == 0 then [7, 9, 10] else []
def spec_l06Lasting_ks7 (S : SatT) (K : AVal → H → Prop) : Kont := kSeq (cwp S tab spec_l06Lasting_M [] (sub [1, 1, 1, 1, 1, 1] (bodyOf Try.f32)) (kFun tab (Try.f32).results.toList K)) (kFun tab (Try.f32).results.toList K)
def spec_l06Lasting_e0 (s7_ : Sl) (s9_ : Sl) (i10_ : Int) : Frame := [U, U, U, U, U, U, U, .sl s7_, U, .sl s9_, .int .i64 i10_, U, U, U, U, U, U, U, U, U, U, U, U, U, U, U, U, U, U, U, U, U, U, U, U, U, U, U, U, U, U, U, U, U, U, U, U, U, U, U, U, U, U, U, U, U, U, U, U, U, U, U, U, U, U, U, U, U, U, U, U, U, U, U, U, U, U, U, U, U, U, U, U, U, U, U, U, U, U, U, U, U, U, U, U, U, U, U, U, U, U]
def spec_l06Lasting_w0 (S : SatT) (K : AVal → H → Prop) : (Frame → H → Prop) → Frame → H → Prop := fun X fr h => cwp S tab spec_l06Lasting_M (spec_l06Lasting_M 0) (sub [1, 1, 1, 1, 1, 0, 1, 0, 0] (bodyOf Try.f32)) (kSeq (fun fr h => X (mask (spec_l06Lasting_M 0) fr) h) (kBlk 0 (spec_l06Lasting_ks7 S K))) fr h
def spec_l06Lasting_L0 (S : SatT) (K : AVal → H → Prop) (s7_ : Sl) (s9_ : Sl) (i10_ : Int) (h : H) : Prop := loopK (spec_l06Lasting_w0 S K) (spec_l06Lasting_e0 s7_ s9_ i10_) h
def spec_l06Lasting_ks17 (S : SatT) (K : AVal → H → Prop) : Kont := kSeq (cwp S tab spec_l06Lasting_M [] (sub [1, 1, 1, 1, 1, 1, 1, 1, 1, 1] (bodyOf Try.f32)) (kFun tab (Try.f32).results.toList K)) (kFun tab (Try.f32).results.toList K)
def spec_l06Lasting_e2 (s7_ : Sl) (s9_ : Sl) (s11_ : Sl) (i12_ : Int) : Frame := [U, U, U, U, U, U, U, .sl s7_, U, .sl s9_, U, .sl s11_, .int .i64 i12_, U, U, U, U, U, U, U, U, U, U, U, U, U, U, U, U, U, U, U, U, U, U, U, U, U, U, U, U, U, U, U, U, U, U, U, U, U, U, U, U, U, U, U, U, U, U, U, U, U, U, U, U, U, U, U, U, U, U, U, U, U, U, U, U, U, U, U, U, U, U, U, U, U, U, U, U, U, U, U, U, U, U, U, U, U, U, U, U]
def spec_l06Lasting_w2 (S : SatT) (K : AVal → H → Prop) : (Frame → H → Prop) → Frame → H → Prop := fun X fr h => cwp S tab spec_l06Lasting_M (spec_l06Lasting_M 2) (sub [1, 1, 1, 1, 1, 1, 1, 1, 1, 0, 1, 0, 0] (bodyOf Try.f32)) (kSeq (fun fr h => X (mask (spec_l06Lasting_M 2) fr) h) (kBlk 2 (spec_l06Lasting_ks17 S K))) fr h
def spec_l06Lasting_L2 (S : SatT) (K : AVal → H → Prop) (s7_ : Sl) (s9_ : Sl) (s11_ : Sl) (i12_ : Int) (h : H) : Prop := loopK (spec_l06Lasting_w2 S K) (spec_l06Lasting_e2 s7_ s9_ s11_ i12_) h
def spec_l06Lasting_ks22 (S : SatT) (K : AVal → H → Prop) : Kont := kSeq (cwp S tab spec_l06Lasting_M [] (sub [1, 1, 1, 1, 1, 1, 1, 1, 1, 1, 1] (bodyOf Try.f32)) (kFun tab (Try.f32).results.toList K)) (kFun tab (Try.f32).results.toList K)
def spec_l06Lasting_e4 (s7_ : Sl) (s9_ : Sl) (s11_ : Sl) (i13_ : Int) : Frame := [U, U, U, U, U, U, U, .sl s7_, U, .sl s9_, U, .sl s11_, U, .int .i64 i13_, U, U, U, U, U, U, U, U, U, U, U, U, U, U, U, U, U, U, U, U, U, U, U, U, U, U, U, U, U, U, U, U, U, U, U, U, U, U, U, U, U, U, U, U, U, U, U, U, U, U, U, U, U, U, U, U, U, U, U, U, U, U, U, U, U, U, U, U, U, U, U, U, U, U, U, U, U, U, U, U, U, U, U, U, U, U, U]
def spec_l06Lasting_w4 (S : SatT) (K : AVal → H → Prop) : (Frame → H → Prop) → Frame → H → Prop := fun X fr h => cwp S tab spec_l06Lasting_M (spec_l06Lasting_M 4) (sub [1, 1, 1, 1, 1, 1, 1, 1, 1, 1, 0, 1, 0, 0] (bodyOf Try.f32)) (kSeq (fun fr h => X (mask (spec_l06Lasting_M 4) fr) h) (kBlk 4 (spec_l06Lasting_ks22 S K))) fr h
def spec_l06Lasting_L4 (S : SatT) (K : AVal → H → Prop) (s7_ : Sl) (s9_ : Sl) (s11_ : Sl) (i13_ : Int) (h : H) : Prop := loopK (spec_l06Lasting_w4 S K) (spec_l06Lasting_e4 s7_ s9_ s11_ i13_) h
def spec_l06Lasting_C4 (S : SatT) (K : AVal → H → Prop) (s9_ : Sl) (s11_ : Sl) (h : H) : Prop :=
 K (.tuple [.sl s9_, .sl s11_, .int .i64 (0)]) h
def spec_l06Lasting_b4 (S : SatT) (K : AVal → H → Prop) (X4 : Frame → H → Prop) (s7_ : Sl) (s9_ : Sl) (s11_ : Sl) (i13_ : Int) (h : H) : Prop :=
 bif (decide (i13_ < (s7_.len : Int))) then
 ixS s7_ 1 i13_ fun p0 =>
 ldS p0 h fun s1 =>
 ixS s1 1 (0) fun p2 =>
 ldI .i64 p2 h fun n3 =>
 callI S .i64 i_spec_l04Find [.sl s9_, .int .i64 n3] h fun n5 h4 =>
 ixS s11_ 1 n5 fun p6 =>
 ldS p6 h4 fun s7 =>
 ixS s7_ 1 i13_ fun p8 =>
 ldS p8 h4 fun s9 =>
 ixS s9 1 (1) fun p10 =>
 ldI .i64 p10 h4 fun n11 =>
 callI S .i64 i_spec_l04Find [.sl s9_, .int .i64 n11] h4 fun n13 h12 =>
 ixS s7 1 n13 fun p14 =>
 ldI .i64 p14 h12 fun n15 =>
 ixS s7 1 n13 fun p16 =>
 st1 p16 (.int .i64 (w64 (n15 + (1)))) h12 fun h17 =>
 X4 (spec_l06Lasting_e4 s7_ s9_ s11_ (w64 (i13_ + (1)))) h17
 else
 spec_l06Lasting_C4 S K s9_ s11_ h
theorem spec_l06Lasting_link4 (S : SatT) (K : AVal → H → Prop) (X4 : Frame → H → Prop) (s7_ : Sl) (s9_ : Sl) (s11_ : Sl) (i13_ : Int) (h : H) : spec_l06Lasting_w4 S K X4 (spec_l06Lasting_e4 s7_ s9_ s11_ i13_) h = spec_l06Lasting_b4 S K X4 s7_ s9_ s11_ i13_ h := by kernel_rfl
theorem spec_l06Lasting_rule4 (S : SatT) (K : AVal → H → Prop) (s7_ : Sl) (s9_ : Sl) (s11_ : Sl) (I_ : Int → H → Prop) (m_ : Int → H → Nat)
    (hs : ∀ (X4 : Frame → H → Prop) (i13_ : Int) (h : H), I_ i13_ h → (∀ (i13_' : Int) (h' : H), I_ i13_' h' → m_ i13_' h' < m_ i13_ h → X4 (spec_l06Lasting_e4 s7_ s9_ s11_ i13_') h') → spec_l06Lasting_b4 S K X4 s7_ s9_ s11_ i13_ h) (i13_ : Int) {h : H} (h0 : I_ i13_ h) : spec_l06Lasting_L4 S K s7_ s9_ s11_ i13_ h :=
  loop_rule (σ := (Int)) (fun s_ => spec_l06Lasting_e4 s7_ s9_ s11_ (s_)) (fun s_ h => I_ (s_) h) (fun s_ h => m_ (s_) h)
    (fun X s_ h hi hx => (spec_l06Lasting_link4 S K X s7_ s9_ s11_ (s_) h).mpr (hs X (s_) h hi fun i13_' h' hi' hm' => hx (i13_') h' hi' hm')) (i13_) h0
def spec_l06Lasting_C2 (S : SatT) (K : AVal → H → Prop) (s7_ : Sl) (s9_ : Sl) (s11_ : Sl) (h : H) : Prop :=
 spec_l06Lasting_L4 S K s7_ s9_ s11_ (0) h
def spec_l06Lasting_b2 (S : SatT) (K : AVal → H → Prop) (X2 : Frame → H → Prop) (s7_ : Sl) (s9_ : Sl) (s11_ : Sl) (i12_ : Int) (h : H) : Prop :=
 bif (decide (i12_ < (s9_.len : Int))) then
 mkS (s9_.len : Int) [.int .i64 (0)] h fun s0 h1 =>
 newS 1 1 [.sl s0] h1 fun s2 h3 =>
 app s11_ s2 1 h3 fun s4 h5 =>
 X2 (spec_l06Lasting_e2 s7_ s9_ s4 (w64 (i12_ + (1)))) h5
 else
 spec_l06Lasting_C2 S K s7_ s9_ s11_ h
theorem spec_l06Lasting_link2 (S : SatT) (K : AVal → H → Prop) (X2 : Frame → H → Prop) (s7_ : Sl) (s9_ : Sl) (s11_ : Sl) (i12_ : Int) (h : H) : spec_l06Lasting_w2 S K X2 (spec_l06Lasting_e2 s7_ s9_ s11_ i12_) h = spec_l06Lasting_b2 S K X2 s7_ s9_ s11_ i12_ h := by kernel_rfl
theorem spec_l06Lasting_rule2 (S : SatT) (K : AVal → H → Prop) (s7_ : Sl) (s9_ : Sl) (I_ : Sl → Int → H → Prop) (m_ : Sl → Int → H → Nat)
    (hs : ∀ (X2 : Frame → H → Prop) (s11_ : Sl) (i12_ : Int) (h : H), I_ s11_ i12_ h → (∀ (s11_' : Sl) (i12_' : Int) (h' : H), I_ s11_' i12_' h' → m_ s11_' i12_' h' < m_ s11_ i12_ h → X2 (spec_l06Lasting_e2 s7_ s9_ s11_' i12_') h') → spec_l06Lasting_b2 S K X2 s7_ s9_ s11_ i12_ h) (s11_ : Sl) (i12_ : Int) {h : H} (h0 : I_ s11_ i12_ h) : spec_l06Lasting_L2 S K s7_ s9_ s11_ i12_ h :=
  loop_rule (σ := (Sl) × (Int)) (fun s_ => spec_l06Lasting_e2 s7_ s9_ (s_.1) (s_.2)) (fun s_ h => I_ (s_.1) (s_.2) h) (fun s_ h => m_ (s_.1) (s_.2) h)
    (fun X s_ h hi hx => (spec_l06Lasting_link2 S K X s7_ s9_ (s_.1) (s_.2) h).mpr (hs X (s_.1) (s_.2) h hi fun s11_' i12_' h' hi' hm' => hx (s11_', i12_') h' hi' hm')) (s11_, i12_) h0
def spec_l06Lasting_C0 (S : SatT) (K : AVal → H → Prop) (s7_ : Sl) (s9_ : Sl) (h : H) : Prop :=
 callS S i_spec_l04Sorted [.sl s9_] h fun s1 h0 =>
 bif (decide ((s1.len : Int) > (40))) then
 K (.tuple [.sl Sl.nil, .sl Sl.nil, .int .i64 (3)]) h0
 else
 newS 0 1 [] h0 fun s2 h3 =>
 spec_l06Lasting_L2 S K s7_ s1 s2 (0) h3
def spec_l06Lasting_b0 (S : SatT) (K : AVal → H → Prop) (X0 : Frame → H → Prop) (s7_ : Sl) (s9_ : Sl) (i10_ : Int) (h : H) : Prop :=
 bif (decide (i10_ < (s7_.len : Int))) then
 ixS s7_ 1 i10_ fun p0 =>
 ldS p0 h fun s1 =>
 ixS s1 1 (0) fun p2 =>
 ldI .i64 p2 h fun n3 =>
 ixS s7_ 1 i10_ fun p4 =>
 ldS p4 h fun s5 =>
 ixS s5 1 (1) fun p6 =>
 ldI .i64 p6 h fun n7 =>
 newS 2 1 [.int .i64 n3, .int .i64 n7] h fun s8 h9 =>
 app s9_ s8 1 h9 fun s10 h11 =>
 X0 (spec_l06Lasting_e0 s7_ s10 (w64 (i10_ + (1)))) h11
 else
 spec_l06Lasting_C0 S K s7_ s9_ h
theorem spec_l06Lasting_link0 (S : SatT) (K : AVal → H → Prop) (X0 : Frame → H → Prop) (s7_ : Sl) (s9_ : Sl) (i10_ : Int) (h : H) : spec_l06Lasting_w0 S K X0 (spec_l06Lasting_e0 s7_ s9_ i10_) h = spec_l06Lasting_b0 S K X0 s7_ s9_ i10_ h := by kernel_rfl
theorem spec_l06Lasting_rule0 (S : SatT) (K : AVal → H → Prop) (s7_ : Sl) (I_ : Sl → Int → H → Prop) (m_ : Sl → Int → H → Nat)
    (hs : ∀ (X0 : Frame → H → Prop) (s9_ : Sl) (i10_ : Int) (h : H), I_ s9_ i10_ h → (∀ (s9_' : Sl) (i10_' : Int) (h' : H), I_ s9_' i10_' h' → m_ s9_' i10_' h' < m_ s9_ i10_ h → X0 (spec_l06Lasting_e0 s7_ s9_' i10_') h') → spec_l06Lasting_b0 S K X0 s7_ s9_ i10_ h) (s9_ : Sl) (i10_ : Int) {h : H} (h0 : I_ s9_ i10_ h) : spec_l06Lasting_L0 S K s7_ s9_ i10_ h :=
  loop_rule (σ := (Sl) × (Int)) (fun s_ => spec_l06Lasting_e0 s7_ (s_.1) (s_.2)) (fun s_ h => I_ (s_.1) (s_.2) h) (fun s_ h => m_ (s_.1) (s_.2) h)
    (fun X s_ h hi hx => (spec_l06Lasting_link0 S K X s7_ (s_.1) (s_.2) h).mpr (hs X (s_.1) (s_.2) h hi fun s9_' i10_' h' hi' hm' => hx (s9_', i10_') h' hi' hm')) (s9_, i10_) h0
def spec_l06Lasting_main (S : SatT) (K : AVal → H → Prop) (x0 : List AVal) (x1 : Int) (h : H) : Prop :=
 newK 2 x0 h fun p0 h1 =>
 ldA p0 2 h1 fun cs2 =>
 callV S i_spec_l06Code [.agg cs2, .int .i64 x1] h1 fun v4 h3 =>
 viaT v4 fun vs5 =>
 exS vs5 0 fun s6 =>
 viaT v4 fun vs7 =>
 exI .i64 vs7 1 fun n8 =>
 bif (n8 != (0)) then
 K (.tuple [.sl Sl.nil, .sl Sl.nil, .int .i64 n8]) h3
 else
 ldA p0 2 h3 fun cs9 =>
 callI S .i64 i_spec_l06Size [.agg cs9, .int .i64 x1] h3 fun n11 h10 =>
 callS S i_spec_l06Keep [.sl s6, .int .i64 n11] h10 fun s13 h12 =>
 newS 0 1 [] h12 fun s14 h15 =>
 spec_l06Lasting_L0 S K s13 s14 (0) h15
theorem spec_l06Lasting_main_link (S : SatT) (K : AVal → H → Prop) (x0 : List AVal) (x1 : Int) (h : H) : cwp S tab spec_l06Lasting_M [] (bodyOf Try.f32) (kFun tab Try.f32.results.toList K) (fr0 Try.f32 [.agg x0, .int .i64 x1]) h = spec_l06Lasting_main S K x0 x1 h := by kernel_rfl
theorem spec_l06Lasting_call (x0 : List AVal) (x1 : Int) (h : H) (K : AVal → H → Prop) (hm : spec_l06Lasting_main (Sat Try.prog) (fun v h' => K v h') x0 x1 h) : callV (Sat Try.prog) i_spec_l06Lasting [.agg x0, .int .i64 x1] h K := by
  have := Sat.ex tok mixed spec_l06Lasting_M Try.func32 (c := bodyOf Try.f32) (by kernel_rfl) (calls_of Try.func32 (c := bodyOf Try.f32) (by kernel_rfl) (by decide)) ((spec_l06Lasting_main_link _ _ x0 x1 h).mpr hm)
  exact this

end Go.Proofs.Ytcoampecbpiecaa.Cl
