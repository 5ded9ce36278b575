/- Typed forms of functions, and their links. No claim is stated here. -/
import Derived.Test.YtlbglfgienklfaaFT
/- Typed forms of functions of the program, and their links. Printed by program. No claim is stated here. -/
set_option linter.unusedVariables false
namespace Go.Proofs.Ytlbglfgienklfaa.Cl
open Go
/-! ### loop.example/g01354/impl.kept -/
def impl_kept_M : Nat → List Nat := fun i => bif i == 6 then [0, 3, 7, 32, 33, 34] else bif i == 4 then [0, 3, 4, 11, 17, 18, 19] else bif i == 2 then [0, 3, 11] else bif i == 0 then [0] else []
def impl_kept_e0 (s0_ : Sl) : Frame := [.sl s0_, U, U, U, U, U, U, U, U, U, U, U, U, U, U, U, U, U, U, U, U, U, U, U, U, U, U, U, U, U, U, U, U, U, U, U, U, U, U, U, U, U, U, U, U, U, U, U, U, U, U, U, U, U, U, U, U, U, U, U, U, U]
def impl_kept_w0 (S : SatT) (K : AVal → H → Prop) : (Frame → H → Prop) → Frame → H → Prop := fun X fr h => cwp S tab impl_kept_M (impl_kept_M 0) (sub [1, 0, 0] (bodyOf Try.f48)) (kSeq (fun fr h => X (mask (impl_kept_M 0) fr) h) (kBlk 0 (kFun tab (Try.f48).results.toList K))) fr h
def impl_kept_L0 (S : SatT) (K : AVal → H → Prop) (s0_ : Sl) (h : H) : Prop := loopK (impl_kept_w0 S K) (impl_kept_e0 s0_) h
def impl_kept_ks2 (S : SatT) (K : AVal → H → Prop) (X0 : Frame → H → Prop) : Kont := kSeq (cwp S tab impl_kept_M (impl_kept_M 1) (sub [1, 0, 0, 0, 1, 1] (bodyOf Try.f48)) (kBlk 1 (kSeq (fun fr h => X0 (mask (impl_kept_M 0) fr) h) (kBlk 0 (kFun tab (Try.f48).results.toList K))))) (kBlk 1 (kSeq (fun fr h => X0 (mask (impl_kept_M 0) fr) h) (kBlk 0 (kFun tab (Try.f48).results.toList K))))
def impl_kept_e2 (s0_ : Sl) (p3_ : Pt) (i11_ : Int) : Frame := [.sl s0_, U, U, .ptr p3_, U, U, U, U, U, U, U, .int .i64 i11_, U, U, U, U, U, U, U, U, U, U, U, U, U, U, U, U, U, U, U, U, U, U, U, U, U, U, U, U, U, U, U, U, U, U, U, U, U, U, U, U, U, U, U, U, U, U, U, U, U, U]
def impl_kept_w2 (S : SatT) (K : AVal → H → Prop) (X0 : Frame → H → Prop) : (Frame → H → Prop) → Frame → H → Prop := fun X fr h => cwp S tab impl_kept_M (impl_kept_M 2) (sub [1, 0, 0, 0, 1, 0, 1, 0, 0] (bodyOf Try.f48)) (kSeq (fun fr h => X (mask (impl_kept_M 2) fr) h) (kBlk 2 (impl_kept_ks2 S K X0))) fr h
def impl_kept_L2 (S : SatT) (K : AVal → H → Prop) (X0 : Frame → H → Prop) (s0_ : Sl) (p3_ : Pt) (i11_ : Int) (h : H) : Prop := loopK (impl_kept_w2 S K X0) (impl_kept_e2 s0_ p3_ i11_) h
def impl_kept_ks6 (S : SatT) (K : AVal → H → Prop) (X0 : Frame → H → Prop) (X2 : Frame → H → Prop) : Kont := kSeq (cwp S tab impl_kept_M (impl_kept_M 2) (sub [1, 0, 0, 0, 1, 0, 1, 0, 0, 1, 1, 1] (bodyOf Try.f48)) (kSeq (fun fr h => X2 (mask (impl_kept_M 2) fr) h) (kBlk 2 (impl_kept_ks2 S K X0)))) (kSeq (fun fr h => X2 (mask (impl_kept_M 2) fr) h) (kBlk 2 (impl_kept_ks2 S K X0)))
def impl_kept_e4 (s0_ : Sl) (p3_ : Pt) (i4_ : Int) (i11_ : Int) (s17_ : Sl) (i18_ : Int) (i19_ : Int) : Frame := [.sl s0_, U, U, .ptr p3_, .int .i64 i4_, U, U, U, U, U, U, .int .i64 i11_, U, U, U, U, U, .sl s17_, .int .i64 i18_, .int .i64 i19_, U, U, U, U, U, U, U, U, U, U, U, U, U, U, U, U, U, U, U, U, U, U, U, U, U, U, U, U, U, U, U, U, U, U, U, U, U, U, U, U, U, U]
def impl_kept_w4 (S : SatT) (K : AVal → H → Prop) (X0 : Frame → H → Prop) (X2 : Frame → H → Prop) : (Frame → H → Prop) → Frame → H → Prop := fun X fr h => cwp S tab impl_kept_M (impl_kept_M 4) (sub [1, 0, 0, 0, 1, 0, 1, 0, 0, 1, 1, 0, 0, 1, 1, 1, 0, 0] (bodyOf Try.f48)) (kSeq (fun fr h => X (mask (impl_kept_M 4) fr) h) (kBlk 4 (kBlk 3 (impl_kept_ks6 S K X0 X2)))) fr h
def impl_kept_L4 (S : SatT) (K : AVal → H → Prop) (X0 : Frame → H → Prop) (X2 : Frame → H → Prop) (s0_ : Sl) (p3_ : Pt) (i4_ : Int) (i11_ : Int) (s17_ : Sl) (i18_ : Int) (i19_ : Int) (h : H) : Prop := loopK (impl_kept_w4 S K X0 X2) (impl_kept_e4 s0_ p3_ i4_ i11_ s17_ i18_ i19_) h
def impl_kept_C3 (S : SatT) (K : AVal → H → Prop) (X0 : Frame → H → Prop) (X2 : Frame → H → Prop) (s0_ : Sl) (p3_ : Pt) (i11_ : Int) (h : H) : Prop :=
 X2 (impl_kept_e2 s0_ p3_ (w64 (i11_ + (1)))) h
def impl_kept_C4 (S : SatT) (K : AVal → H → Prop) (X0 : Frame → H → Prop) (X2 : Frame → H → Prop) (s0_ : Sl) (p3_ : Pt) (i11_ : Int) (h : H) : Prop :=
 impl_kept_C3 S K X0 X2 s0_ p3_ i11_ h
def impl_kept_b4 (S : SatT) (K : AVal → H → Prop) (X0 : Frame → H → Prop) (X2 : Frame → H → Prop) (X4 : Frame → H → Prop) (s0_ : Sl) (p3_ : Pt) (i4_ : Int) (i11_ : Int) (s17_ : Sl) (i18_ : Int) (i19_ : Int) (h : H) : Prop :=
 bif (decide (i19_ < i18_)) then
 ixS s17_ 4 i19_ fun p0 =>
 ldA p0 4 h fun cs1 =>
 newO [.int .i64 (0), .int .i64 (0), .int .i64 (0), .int .i64 (0)] h fun p2 h3 =>
 stN p2 4 cs1 h3 fun h4 =>
 ixA p3_ 4 1 i4_ fun p5 =>
 ldV p5 h4 fun v6 =>
 ixA p2 4 1 i4_ fun p7 =>
 ldI .i64 p7 h4 fun n8 =>
 mput v6 (.int .i64 n8) (.bool true) h4 fun h9 =>
 X4 (impl_kept_e4 s0_ p3_ i4_ i11_ s17_ i18_ (w64 (i19_ + (1)))) h9
 else
 impl_kept_C4 S K X0 X2 s0_ p3_ i11_ h
theorem impl_kept_link4 (S : SatT) (K : AVal → H → Prop) (X0 : Frame → H → Prop) (X2 : Frame → H → Prop) (X4 : Frame → H → Prop) (s0_ : Sl) (p3_ : Pt) (i4_ : Int) (i11_ : Int) (s17_ : Sl) (i18_ : Int) (i19_ : Int) (h : H) : impl_kept_w4 S K X0 X2 X4 (impl_kept_e4 s0_ p3_ i4_ i11_ s17_ i18_ i19_) h = impl_kept_b4 S K X0 X2 X4 s0_ p3_ i4_ i11_ s17_ i18_ i19_ h := by kernel_rfl
theorem impl_kept_rule4 (S : SatT) (K : AVal → H → Prop) (X0 : Frame → H → Prop) (X2 : Frame → H → Prop) (s0_ : Sl) (p3_ : Pt) (i4_ : Int) (i11_ : Int) (s17_ : Sl) (i18_ : Int) (I_ : Int → H → Prop) (m_ : Int → H → Nat)
    (hs : ∀ (X4 : Frame → H → Prop) (i19_ : Int) (h : H), I_ i19_ h → (∀ (i19_' : Int) (h' : H), I_ i19_' h' → m_ i19_' h' < m_ i19_ h → X4 (impl_kept_e4 s0_ p3_ i4_ i11_ s17_ i18_ i19_') h') → impl_kept_b4 S K X0 X2 X4 s0_ p3_ i4_ i11_ s17_ i18_ i19_ h) (i19_ : Int) {h : H} (h0 : I_ i19_ h) : impl_kept_L4 S K X0 X2 s0_ p3_ i4_ i11_ s17_ i18_ i19_ h :=
  loop_rule (σ := (Int)) (fun s_ => impl_kept_e4 s0_ p3_ i4_ i11_ s17_ i18_ (s_)) (fun s_ h => I_ (s_) h) (fun s_ h => m_ (s_) h)
    (fun X s_ h hi hx => (impl_kept_link4 S K X0 X2 X s0_ p3_ i4_ i11_ s17_ i18_ (s_) h).mpr (hs X (s_) h hi fun i19_' h' hi' hm' => hx (i19_') h' hi' hm')) (i19_) h0
theorem impl_kept_unroll4 (S : SatT) (K : AVal → H → Prop) (X0 : Frame → H → Prop) (X2 : Frame → H → Prop) (s0_ : Sl) (p3_ : Pt) (i4_ : Int) (i11_ : Int) (s17_ : Sl) (i18_ : Int) (i19_ : Int) (h : H) (hb : impl_kept_b4 S K X0 X2 (fun fr h => loopK (impl_kept_w4 S K X0 X2) fr h) s0_ p3_ i4_ i11_ s17_ i18_ i19_ h) : impl_kept_L4 S K X0 X2 s0_ p3_ i4_ i11_ s17_ i18_ i19_ h := loop_unroll ((impl_kept_link4 S K X0 X2 _ s0_ p3_ i4_ i11_ s17_ i18_ i19_ h).mpr hb)
def impl_kept_ks15 (S : SatT) (K : AVal → H → Prop) (X0 : Frame → H → Prop) : Kont := kSeq (cwp S tab impl_kept_M (impl_kept_M 1) (sub [1, 0, 0, 0, 1, 1, 1, 1] (bodyOf Try.f48)) (kBlk 1 (kSeq (fun fr h => X0 (mask (impl_kept_M 0) fr) h) (kBlk 0 (kFun tab (Try.f48).results.toList K))))) (kBlk 1 (kSeq (fun fr h => X0 (mask (impl_kept_M 0) fr) h) (kBlk 0 (kFun tab (Try.f48).results.toList K))))
def impl_kept_e6 (s0_ : Sl) (p3_ : Pt) (s7_ : Sl) (s32_ : Sl) (i33_ : Int) (i34_ : Int) : Frame := [.sl s0_, U, U, .ptr p3_, U, U, U, .sl s7_, U, U, U, U, U, U, U, U, U, U, U, U, U, U, U, U, U, U, U, U, U, U, U, U, .sl s32_, .int .i64 i33_, .int .i64 i34_, U, U, U, U, U, U, U, U, U, U, U, U, U, U, U, U, U, U, U, U, U, U, U, U, U, U, U]
def impl_kept_w6 (S : SatT) (K : AVal → H → Prop) (X0 : Frame → H → Prop) : (Frame → H → Prop) → Frame → H → Prop := fun X fr h => cwp S tab impl_kept_M (impl_kept_M 6) (sub [1, 0, 0, 0, 1, 1, 1, 0, 1, 0, 0] (bodyOf Try.f48)) (kSeq (fun fr h => X (mask (impl_kept_M 6) fr) h) (kBlk 6 (impl_kept_ks15 S K X0))) fr h
def impl_kept_L6 (S : SatT) (K : AVal → H → Prop) (X0 : Frame → H → Prop) (s0_ : Sl) (p3_ : Pt) (s7_ : Sl) (s32_ : Sl) (i33_ : Int) (i34_ : Int) (h : H) : Prop := loopK (impl_kept_w6 S K X0) (impl_kept_e6 s0_ p3_ s7_ s32_ i33_ i34_) h
def impl_kept_C6 (S : SatT) (K : AVal → H → Prop) (X0 : Frame → H → Prop) (s0_ : Sl) (s7_ : Sl) (h : H) : Prop :=
 bif ((s7_.len : Int) == (s0_.len : Int)) then
 K (.sl s7_) h
 else
 X0 (impl_kept_e0 s7_) h
def impl_kept_b6 (S : SatT) (K : AVal → H → Prop) (X0 : Frame → H → Prop) (X6 : Frame → H → Prop) (s0_ : Sl) (p3_ : Pt) (s7_ : Sl) (s32_ : Sl) (i33_ : Int) (i34_ : Int) (h : H) : Prop :=
 bif (decide (i34_ < i33_)) then
 ixS s32_ 4 i34_ fun p0 =>
 ldA p0 4 h fun cs1 =>
 newO [.int .i64 (0), .int .i64 (0), .int .i64 (0), .int .i64 (0)] h fun p2 h3 =>
 stN p2 4 cs1 h3 fun h4 =>
 ixA p3_ 4 1 (2) fun p5 =>
 ldV p5 h4 fun v6 =>
 ixA p2 4 1 (0) fun p7 =>
 ldI .i64 p7 h4 fun n8 =>
 mgetB v6 (.int .i64 n8) h4 fun b9 =>
 bif b9 then
 ixA p3_ 4 1 (0) fun p10 =>
 ldV p10 h4 fun v11 =>
 ixA p2 4 1 (2) fun p12 =>
 ldI .i64 p12 h4 fun n13 =>
 mgetB v11 (.int .i64 n13) h4 fun b14 =>
 bif b14 then
 ldA p2 4 h4 fun cs15 =>
 lenA cs15 4 (
 newS 1 4 (spl [.int .i64 (0), .int .i64 (0), .int .i64 (0), .int .i64 (0)] 0 4 cs15) h4 fun s16 h17 =>
 app s7_ s16 4 h17 fun s18 h19 =>
 X6 (impl_kept_e6 s0_ p3_ s18 s32_ i33_ (w64 (i34_ + (1)))) h19)
 else
 X6 (impl_kept_e6 s0_ p3_ s7_ s32_ i33_ (w64 (i34_ + (1)))) h4
 else
 X6 (impl_kept_e6 s0_ p3_ s7_ s32_ i33_ (w64 (i34_ + (1)))) h4
 else
 impl_kept_C6 S K X0 s0_ s7_ h
theorem impl_kept_link6 (S : SatT) (K : AVal → H → Prop) (X0 : Frame → H → Prop) (X6 : Frame → H → Prop) (s0_ : Sl) (p3_ : Pt) (s7_ : Sl) (s32_ : Sl) (i33_ : Int) (i34_ : Int) (h : H) : impl_kept_w6 S K X0 X6 (impl_kept_e6 s0_ p3_ s7_ s32_ i33_ i34_) h = impl_kept_b6 S K X0 X6 s0_ p3_ s7_ s32_ i33_ i34_ h := by kernel_rfl
theorem impl_kept_rule6 (S : SatT) (K : AVal → H → Prop) (X0 : Frame → H → Prop) (s0_ : Sl) (p3_ : Pt) (s32_ : Sl) (i33_ : Int) (I_ : Sl → Int → H → Prop) (m_ : Sl → Int → H → Nat)
    (hs : ∀ (X6 : Frame → H → Prop) (s7_ : Sl) (i34_ : Int) (h : H), I_ s7_ i34_ h → (∀ (s7_' : Sl) (i34_' : Int) (h' : H), I_ s7_' i34_' h' → m_ s7_' i34_' h' < m_ s7_ i34_ h → X6 (impl_kept_e6 s0_ p3_ s7_' s32_ i33_ i34_') h') → impl_kept_b6 S K X0 X6 s0_ p3_ s7_ s32_ i33_ i34_ h) (s7_ : Sl) (i34_ : Int) {h : H} (h0 : I_ s7_ i34_ h) : impl_kept_L6 S K X0 s0_ p3_ s7_ s32_ i33_ i34_ h :=
  loop_rule (σ := (Sl) × (Int)) (fun s_ => impl_kept_e6 s0_ p3_ (s_.1) s32_ i33_ (s_.2)) (fun s_ h => I_ (s_.1) (s_.2) h) (fun s_ h => m_ (s_.1) (s_.2) h)
    (fun X s_ h hi hx => (impl_kept_link6 S K X0 X s0_ p3_ (s_.1) s32_ i33_ (s_.2) h).mpr (hs X (s_.1) (s_.2) h hi fun s7_' i34_' h' hi' hm' => hx (s7_', i34_') h' hi' hm')) (s7_, i34_) h0
theorem impl_kept_unroll6 (S : SatT) (K : AVal → H → Prop) (X0 : Frame → H → Prop) (s0_ : Sl) (p3_ : Pt) (s7_ : Sl) (s32_ : Sl) (i33_ : Int) (i34_ : Int) (h : H) (hb : impl_kept_b6 S K X0 (fun fr h => loopK (impl_kept_w6 S K X0) fr h) s0_ p3_ s7_ s32_ i33_ i34_ h) : impl_kept_L6 S K X0 s0_ p3_ s7_ s32_ i33_ i34_ h := loop_unroll ((impl_kept_link6 S K X0 _ s0_ p3_ s7_ s32_ i33_ i34_ h).mpr hb)
def impl_kept_C2 (S : SatT) (K : AVal → H → Prop) (X0 : Frame → H → Prop) (s0_ : Sl) (p3_ : Pt) (h : H) : Prop :=
 newS 0 4 [] h fun s0 h1 =>
 impl_kept_L6 S K X0 s0_ p3_ s0 s0_ (s0_.len : Int) (0) h1
def impl_kept_b2 (S : SatT) (K : AVal → H → Prop) (X0 : Frame → H → Prop) (X2 : Frame → H → Prop) (s0_ : Sl) (p3_ : Pt) (i11_ : Int) (h : H) : Prop :=
 bif (decide (i11_ < (4))) then
 newM h fun v0 h1 =>
 ixA p3_ 4 1 i11_ fun p2 =>
 bif (AVal.isCell v0 && true) then
 st1 p2 v0 h1 fun h3 =>
 impl_kept_L4 S K X0 X2 s0_ p3_ i11_ i11_ s0_ (s0_.len : Int) (0) h3
 else False
 else
 impl_kept_C2 S K X0 s0_ p3_ h
theorem impl_kept_link2 (S : SatT) (K : AVal → H → Prop) (X0 : Frame → H → Prop) (X2 : Frame → H → Prop) (s0_ : Sl) (p3_ : Pt) (i11_ : Int) (h : H) : impl_kept_w2 S K X0 X2 (impl_kept_e2 s0_ p3_ i11_) h = impl_kept_b2 S K X0 X2 s0_ p3_ i11_ h := by kernel_rfl
theorem impl_kept_rule2 (S : SatT) (K : AVal → H → Prop) (X0 : Frame → H → Prop) (s0_ : Sl) (p3_ : Pt) (I_ : Int → H → Prop) (m_ : Int → H → Nat)
    (hs : ∀ (X2 : Frame → H → Prop) (i11_ : Int) (h : H), I_ i11_ h → (∀ (i11_' : Int) (h' : H), I_ i11_' h' → m_ i11_' h' < m_ i11_ h → X2 (impl_kept_e2 s0_ p3_ i11_') h') → impl_kept_b2 S K X0 X2 s0_ p3_ i11_ h) (i11_ : Int) {h : H} (h0 : I_ i11_ h) : impl_kept_L2 S K X0 s0_ p3_ i11_ h :=
  loop_rule (σ := (Int)) (fun s_ => impl_kept_e2 s0_ p3_ (s_)) (fun s_ h => I_ (s_) h) (fun s_ h => m_ (s_) h)
    (fun X s_ h hi hx => (impl_kept_link2 S K X0 X s0_ p3_ (s_) h).mpr (hs X (s_) h hi fun i11_' h' hi' hm' => hx (i11_') h' hi' hm')) (i11_) h0
theorem impl_kept_unroll2 (S : SatT) (K : AVal → H → Prop) (X0 : Frame → H → Prop) (s0_ : Sl) (p3_ : Pt) (i11_ : Int) (h : H) (hb : impl_kept_b2 S K X0 (fun fr h => loopK (impl_kept_w2 S K X0) fr h) s0_ p3_ i11_ h) : impl_kept_L2 S K X0 s0_ p3_ i11_ h := loop_unroll ((impl_kept_link2 S K X0 _ s0_ p3_ i11_ h).mpr hb)
def impl_kept_b0 (S : SatT) (K : AVal → H → Prop) (X0 : Frame → H → Prop) (s0_ : Sl) (h : H) : Prop :=
 newO [.map none, .map none, .map none, .map none] h fun p0 h1 =>
 stN p0 4 [.map none, .map none, .map none, .map none] h1 fun h2 =>
 impl_kept_L2 S K X0 s0_ p0 (0) h2
theorem impl_kept_link0 (S : SatT) (K : AVal → H → Prop) (X0 : Frame → H → Prop) (s0_ : Sl) (h : H) : impl_kept_w0 S K X0 (impl_kept_e0 s0_) h = impl_kept_b0 S K X0 s0_ h := by kernel_rfl
theorem impl_kept_rule0 (S : SatT) (K : AVal → H → Prop) (I_ : Sl → H → Prop) (m_ : Sl → H → Nat)
    (hs : ∀ (X0 : Frame → H → Prop) (s0_ : Sl) (h : H), I_ s0_ h → (∀ (s0_' : Sl) (h' : H), I_ s0_' h' → m_ s0_' h' < m_ s0_ h → X0 (impl_kept_e0 s0_') h') → impl_kept_b0 S K X0 s0_ h) (s0_ : Sl) {h : H} (h0 : I_ s0_ h) : impl_kept_L0 S K s0_ h :=
  loop_rule (σ := (Sl)) (fun s_ => impl_kept_e0 (s_)) (fun s_ h => I_ (s_) h) (fun s_ h => m_ (s_) h)
    (fun X s_ h hi hx => (impl_kept_link0 S K X (s_) h).mpr (hs X (s_) h hi fun s0_' h' hi' hm' => hx (s0_') h' hi' hm')) (s0_) h0
theorem impl_kept_unroll0 (S : SatT) (K : AVal → H → Prop) (s0_ : Sl) (h : H) (hb : impl_kept_b0 S K (fun fr h => loopK (impl_kept_w0 S K) fr h) s0_ h) : impl_kept_L0 S K s0_ h := loop_unroll ((impl_kept_link0 S K _ s0_ h).mpr hb)
def impl_kept_main (S : SatT) (K : AVal → H → Prop) (x0 : Sl) (h : H) : Prop :=
 impl_kept_L0 S K x0 h
theorem impl_kept_main_link (S : SatT) (K : AVal → H → Prop) (x0 : Sl) (h : H) : cwp S tab impl_kept_M [] (bodyOf Try.f48) (kFun tab Try.f48.results.toList K) (fr0 Try.f48 [.sl x0]) h = impl_kept_main S K x0 h := by kernel_rfl
theorem impl_kept_call (x0 : Sl) (h : H) (K : Sl → H → Prop) (hm : impl_kept_main (Sat Try.prog) (fun v h' => ∃ r, v = .sl r ∧ K r h') x0 h) : callS (Sat Try.prog) i_impl_kept [.sl x0] h K := by
  have := Sat.ex tok mixed impl_kept_M Try.func48 (c := bodyOf Try.f48) (by kernel_rfl) (calls_of Try.func48 (c := bodyOf Try.f48) (by kernel_rfl) (by decide)) ((impl_kept_main_link _ _ x0 h).mpr hm)
  obtain ⟨v, h2, h3, r, rfl, h4⟩ := this; exact ⟨r, h2, h3, h4⟩

/-! ### loop.example/g01354/spec.l04Pairs -/
def spec_l04Pairs_M : Nat → List Nat := fun i => bif i == 2 then [2, 3, 5, 6, 7] else bif i == 0 then [2, 3, 5, 6] else []
def spec_l04Pairs_ks2 (S : SatT) (K : AVal → H → Prop) : Kont := kSeq (cwp S tab spec_l04Pairs_M [] (sub [1, 1, 1] (bodyOf Try.f37)) (kFun tab (Try.f37).results.toList K)) (kFun tab (Try.f37).results.toList K)
def spec_l04Pairs_e0 (p2_ : Pt) (p3_ : Pt) (s5_ : Sl) (i6_ : Int) : Frame := [U, U, .ptr p2_, .ptr p3_, U, .sl s5_, .int .i64 i6_, U, U, U, U, U, U, U, U, U, U, U, U, U, U, U, U, U, U, U, U, U, U, U, U, U, U, U, U, U, U, U, U, U, U, U, U, U, U, U, U, U, U, U, U, U, U, U, U, U, U, U, U, U, U, U, U, U, U, U, U, U, U]
def spec_l04Pairs_w0 (S : SatT) (K : AVal → H → Prop) : (Frame → H → Prop) → Frame → H → Prop := fun X fr h => cwp S tab spec_l04Pairs_M (spec_l04Pairs_M 0) (sub [1, 1, 0, 1, 0, 0] (bodyOf Try.f37)) (kSeq (fun fr h => X (mask (spec_l04Pairs_M 0) fr) h) (kBlk 0 (spec_l04Pairs_ks2 S K))) fr h
def spec_l04Pairs_L0 (S : SatT) (K : AVal → H → Prop) (p2_ : Pt) (p3_ : Pt) (s5_ : Sl) (i6_ : Int) (h : H) : Prop := loopK (spec_l04Pairs_w0 S K) (spec_l04Pairs_e0 p2_ p3_ s5_ i6_) h
def spec_l04Pairs_ks6 (S : SatT) (K : AVal → H → Prop) (X0 : Frame → H → Prop) : Kont := kSeq (cwp S tab spec_l04Pairs_M (spec_l04Pairs_M 0) (sub [1, 1, 0, 1, 0, 0, 1, 1] (bodyOf Try.f37)) (kSeq (fun fr h => X0 (mask (spec_l04Pairs_M 0) fr) h) (kBlk 0 (spec_l04Pairs_ks2 S K)))) (kSeq (fun fr h => X0 (mask (spec_l04Pairs_M 0) fr) h) (kBlk 0 (spec_l04Pairs_ks2 S K)))
def spec_l04Pairs_e2 (p2_ : Pt) (p3_ : Pt) (s5_ : Sl) (i6_ : Int) (i7_ : Int) : Frame := [U, U, .ptr p2_, .ptr p3_, U, .sl s5_, .int .i64 i6_, .int .i64 i7_, U, U, U, U, U, U, U, U, U, U, U, U, U, U, U, U, U, U, U, U, U, U, U, U, U, U, U, U, U, U, U, U, U, U, U, U, U, U, U, U, U, U, U, U, U, U, U, U, U, U, U, U, U, U, U, U, U, U, U, U, U]
def spec_l04Pairs_w2 (S : SatT) (K : AVal → H → Prop) (X0 : Frame → H → Prop) : (Frame → H → Prop) → Frame → H → Prop := fun X fr h => cwp S tab spec_l04Pairs_M (spec_l04Pairs_M 2) (sub [1, 1, 0, 1, 0, 0, 1, 0, 0, 1, 0, 0] (bodyOf Try.f37)) (kSeq (fun fr h => X (mask (spec_l04Pairs_M 2) fr) h) (kBlk 2 (kBlk 1 (spec_l04Pairs_ks6 S K X0)))) fr h
def spec_l04Pairs_L2 (S : SatT) (K : AVal → H → Prop) (X0 : Frame → H → Prop) (p2_ : Pt) (p3_ : Pt) (s5_ : Sl) (i6_ : Int) (i7_ : Int) (h : H) : Prop := loopK (spec_l04Pairs_w2 S K X0) (spec_l04Pairs_e2 p2_ p3_ s5_ i6_ i7_) h
def spec_l04Pairs_C1 (S : SatT) (K : AVal → H → Prop) (X0 : Frame → H → Prop) (p2_ : Pt) (p3_ : Pt) (s5_ : Sl) (i6_ : Int) (h : H) : Prop :=
 X0 (spec_l04Pairs_e0 p2_ p3_ s5_ (w64 (i6_ + (1)))) h
def spec_l04Pairs_C2 (S : SatT) (K : AVal → H → Prop) (X0 : Frame → H → Prop) (p2_ : Pt) (p3_ : Pt) (s5_ : Sl) (i6_ : Int) (h : H) : Prop :=
 spec_l04Pairs_C1 S K X0 p2_ p3_ s5_ i6_ h
def spec_l04Pairs_b2 (S : SatT) (K : AVal → H → Prop) (X0 : Frame → H → Prop) (X2 : Frame → H → Prop) (p2_ : Pt) (p3_ : Pt) (s5_ : Sl) (i6_ : Int) (i7_ : Int) (h : H) : Prop :=
 isPt p3_ (
 ldS (Pt.add p3_ 1) h fun s0 =>
 bif (decide (i7_ < (s0.len : Int))) then
 isPt p2_ (
 ldS (Pt.add p2_ 1) h fun s1 =>
 ixS s1 4 i6_ fun p2 =>
 ixA p2 4 1 (3) fun p3 =>
 ldI .i64 p3 h fun n4 =>
 isPt p3_ (
 ldS (Pt.add p3_ 1) h fun s5 =>
 ixS s5 4 i7_ fun p6 =>
 ixA p6 4 1 (1) fun p7 =>
 ldI .i64 p7 h fun n8 =>
 bif (n4 == n8) then
 isPt p2_ (
 ldS (Pt.add p2_ 1) h fun s9 =>
 ixS s9 4 i6_ fun p10 =>
 ixA p10 4 1 (0) fun p11 =>
 ldI .i64 p11 h fun n12 =>
 isPt p3_ (
 ldS (Pt.add p3_ 1) h fun s13 =>
 ixS s13 4 i7_ fun p14 =>
 ixA p14 4 1 (0) fun p15 =>
 ldI .i64 p15 h fun n16 =>
 isPt p2_ (
 ldS (Pt.add p2_ 1) h fun s17 =>
 ixS s17 4 i6_ fun p18 =>
 ixA p18 4 1 (2) fun p19 =>
 ldI .i64 p19 h fun n20 =>
 isPt p3_ (
 ldS (Pt.add p3_ 1) h fun s21 =>
 ixS s21 4 i7_ fun p22 =>
 ixA p22 4 1 (2) fun p23 =>
 ldI .i64 p23 h fun n24 =>
 newS 2 1 [.int .i64 (w64 ((w64 ((16) * n12)) + n16)), .int .i64 (w64 ((w64 ((16) * n20)) + n24))] h fun s25 h26 =>
 app s5_ s25 1 h26 fun s27 h28 =>
 X2 (spec_l04Pairs_e2 p2_ p3_ s27 i6_ (w64 (i7_ + (1)))) h28))))
 else
 X2 (spec_l04Pairs_e2 p2_ p3_ s5_ i6_ (w64 (i7_ + (1)))) h))
 else
 spec_l04Pairs_C2 S K X0 p2_ p3_ s5_ i6_ h)
theorem spec_l04Pairs_link2 (S : SatT) (K : AVal → H → Prop) (X0 : Frame → H → Prop) (X2 : Frame → H → Prop) (p2_ : Pt) (p3_ : Pt) (s5_ : Sl) (i6_ : Int) (i7_ : Int) (h : H) : spec_l04Pairs_w2 S K X0 X2 (spec_l04Pairs_e2 p2_ p3_ s5_ i6_ i7_) h = spec_l04Pairs_b2 S K X0 X2 p2_ p3_ s5_ i6_ i7_ h := by kernel_rfl
theorem spec_l04Pairs_rule2 (S : SatT) (K : AVal → H → Prop) (X0 : Frame → H → Prop) (p2_ : Pt) (p3_ : Pt) (i6_ : Int) (I_ : Sl → Int → H → Prop) (m_ : Sl → Int → H → Nat)
    (hs : ∀ (X2 : Frame → H → Prop) (s5_ : Sl) (i7_ : Int) (h : H), I_ s5_ i7_ h → (∀ (s5_' : Sl) (i7_' : Int) (h' : H), I_ s5_' i7_' h' → m_ s5_' i7_' h' < m_ s5_ i7_ h → X2 (spec_l04Pairs_e2 p2_ p3_ s5_' i6_ i7_') h') → spec_l04Pairs_b2 S K X0 X2 p2_ p3_ s5_ i6_ i7_ h) (s5_ : Sl) (i7_ : Int) {h : H} (h0 : I_ s5_ i7_ h) : spec_l04Pairs_L2 S K X0 p2_ p3_ s5_ i6_ i7_ h :=
  loop_rule (σ := (Sl) × (Int)) (fun s_ => spec_l04Pairs_e2 p2_ p3_ (s_.1) i6_ (s_.2)) (fun s_ h => I_ (s_.1) (s_.2) h) (fun s_ h => m_ (s_.1) (s_.2) h)
    (fun X s_ h hi hx => (spec_l04Pairs_link2 S K X0 X p2_ p3_ (s_.1) i6_ (s_.2) h).mpr (hs X (s_.1) (s_.2) h hi fun s5_' i7_' h' hi' hm' => hx (s5_', i7_') h' hi' hm')) (s5_, i7_) h0
theorem spec_l04Pairs_unroll2 (S : SatT) (K : AVal → H → Prop) (X0 : Frame → H → Prop) (p2_ : Pt) (p3_ : Pt) (s5_ : Sl) (i6_ : Int) (i7_ : Int) (h : H) (hb : spec_l04Pairs_b2 S K X0 (fun fr h => loopK (spec_l04Pairs_w2 S K X0) fr h) p2_ p3_ s5_ i6_ i7_ h) : spec_l04Pairs_L2 S K X0 p2_ p3_ s5_ i6_ i7_ h := loop_unroll ((spec_l04Pairs_link2 S K X0 _ p2_ p3_ s5_ i6_ i7_ h).mpr hb)
def spec_l04Pairs_C0 (S : SatT) (K : AVal → H → Prop) (s5_ : Sl) (h : H) : Prop :=
 callS S i_spec_l04Sorted [.sl s5_] h fun s1 h0 =>
 K (.sl s1) h0
def spec_l04Pairs_b0 (S : SatT) (K : AVal → H → Prop) (X0 : Frame → H → Prop) (p2_ : Pt) (p3_ : Pt) (s5_ : Sl) (i6_ : Int) (h : H) : Prop :=
 isPt p2_ (
 ldS (Pt.add p2_ 1) h fun s0 =>
 bif (decide (i6_ < (s0.len : Int))) then
 spec_l04Pairs_L2 S K X0 p2_ p3_ s5_ i6_ (0) h
 else
 spec_l04Pairs_C0 S K s5_ h)
theorem spec_l04Pairs_link0 (S : SatT) (K : AVal → H → Prop) (X0 : Frame → H → Prop) (p2_ : Pt) (p3_ : Pt) (s5_ : Sl) (i6_ : Int) (h : H) : spec_l04Pairs_w0 S K X0 (spec_l04Pairs_e0 p2_ p3_ s5_ i6_) h = spec_l04Pairs_b0 S K X0 p2_ p3_ s5_ i6_ h := by kernel_rfl
theorem spec_l04Pairs_rule0 (S : SatT) (K : AVal → H → Prop) (p2_ : Pt) (p3_ : Pt) (I_ : Sl → Int → H → Prop) (m_ : Sl → Int → H → Nat)
    (hs : ∀ (X0 : Frame → H → Prop) (s5_ : Sl) (i6_ : Int) (h : H), I_ s5_ i6_ h → (∀ (s5_' : Sl) (i6_' : Int) (h' : H), I_ s5_' i6_' h' → m_ s5_' i6_' h' < m_ s5_ i6_ h → X0 (spec_l04Pairs_e0 p2_ p3_ s5_' i6_') h') → spec_l04Pairs_b0 S K X0 p2_ p3_ s5_ i6_ h) (s5_ : Sl) (i6_ : Int) {h : H} (h0 : I_ s5_ i6_ h) : spec_l04Pairs_L0 S K p2_ p3_ s5_ i6_ h :=
  loop_rule (σ := (Sl) × (Int)) (fun s_ => spec_l04Pairs_e0 p2_ p3_ (s_.1) (s_.2)) (fun s_ h => I_ (s_.1) (s_.2) h) (fun s_ h => m_ (s_.1) (s_.2) h)
    (fun X s_ h hi hx => (spec_l04Pairs_link0 S K X p2_ p3_ (s_.1) (s_.2) h).mpr (hs X (s_.1) (s_.2) h hi fun s5_' i6_' h' hi' hm' => hx (s5_', i6_') h' hi' hm')) (s5_, i6_) h0
theorem spec_l04Pairs_unroll0 (S : SatT) (K : AVal → H → Prop) (p2_ : Pt) (p3_ : Pt) (s5_ : Sl) (i6_ : Int) (h : H) (hb : spec_l04Pairs_b0 S K (fun fr h => loopK (spec_l04Pairs_w0 S K) fr h) p2_ p3_ s5_ i6_ h) : spec_l04Pairs_L0 S K p2_ p3_ s5_ i6_ h := loop_unroll ((spec_l04Pairs_link0 S K _ p2_ p3_ s5_ i6_ h).mpr hb)
def spec_l04Pairs_main (S : SatT) (K : AVal → H → Prop) (x0 : List AVal) (x1 : List AVal) (h : H) : Prop :=
 newK 2 x0 h fun p0 h1 =>
 newK 2 x1 h1 fun p2 h3 =>
 newS 0 1 [] h3 fun s4 h5 =>
 spec_l04Pairs_L0 S K p0 p2 s4 (0) h5
theorem spec_l04Pairs_main_link (S : SatT) (K : AVal → H → Prop) (x0 : List AVal) (x1 : List AVal) (h : H) : cwp S tab spec_l04Pairs_M [] (bodyOf Try.f37) (kFun tab Try.f37.results.toList K) (fr0 Try.f37 [.agg x0, .agg x1]) h = spec_l04Pairs_main S K x0 x1 h := by kernel_rfl
theorem spec_l04Pairs_call (x0 : List AVal) (x1 : List AVal) (h : H) (K : Sl → H → Prop) (hm : spec_l04Pairs_main (Sat Try.prog) (fun v h' => ∃ r, v = .sl r ∧ K r h') x0 x1 h) : callS (Sat Try.prog) i_spec_l04Pairs [.agg x0, .agg x1] h K := by
  have := Sat.ex tok mixed spec_l04Pairs_M Try.func37 (c := bodyOf Try.f37) (by kernel_rfl) (calls_of Try.func37 (c := bodyOf Try.f37) (by kernel_rfl) (by decide)) ((spec_l04Pairs_main_link _ _ x0 x1 h).mpr hm)
  obtain ⟨v, h2, h3, r, rfl, h4⟩ := this; exact ⟨r, h2, h3, h4⟩

/-! ### loop.example/g01354/laws.heldTileS -/
def laws_heldTileS_M : Nat → List Nat := fun i => bif i == 2 then [0, 1, 5, 6] else bif i == 0 then [0, 1, 5] else []
def laws_heldTileS_ks1 (S : SatT) (K : AVal → H → Prop) : Kont := kSeq (cwp S tab laws_heldTileS_M [] (sub [1, 1] (bodyOf Try.f35)) (kFun tab (Try.f35).results.toList K)) (kFun tab (Try.f35).results.toList K)
def laws_heldTileS_e0 (s0_ : Sl) (i1_ : Int) (i5_ : Int) : Frame := [.sl s0_, .int .i64 i1_, U, U, U, .int .i64 i5_, U, U, U, U, U, U, U, U, U, U, U, U, U, U, U, U, U, U, U, U, U, U]
def laws_heldTileS_w0 (S : SatT) (K : AVal → H → Prop) : (Frame → H → Prop) → Frame → H → Prop := fun X fr h => cwp S tab laws_heldTileS_M (laws_heldTileS_M 0) (sub [1, 0, 1, 0, 0] (bodyOf Try.f35)) (kSeq (fun fr h => X (mask (laws_heldTileS_M 0) fr) h) (kBlk 0 (laws_heldTileS_ks1 S K))) fr h
def laws_heldTileS_L0 (S : SatT) (K : AVal → H → Prop) (s0_ : Sl) (i1_ : Int) (i5_ : Int) (h : H) : Prop := loopK (laws_heldTileS_w0 S K) (laws_heldTileS_e0 s0_ i1_ i5_) h
def laws_heldTileS_ks5 (S : SatT) (K : AVal → H → Prop) (X0 : Frame → H → Prop) : Kont := kSeq (cwp S tab laws_heldTileS_M (laws_heldTileS_M 0) (sub [1, 0, 1, 0, 0, 1, 1] (bodyOf Try.f35)) (kSeq (fun fr h => X0 (mask (laws_heldTileS_M 0) fr) h) (kBlk 0 (laws_heldTileS_ks1 S K)))) (kSeq (fun fr h => X0 (mask (laws_heldTileS_M 0) fr) h) (kBlk 0 (laws_heldTileS_ks1 S K)))
def laws_heldTileS_e2 (s0_ : Sl) (i1_ : Int) (i5_ : Int) (i6_ : Int) : Frame := [.sl s0_, .int .i64 i1_, U, U, U, .int .i64 i5_, .int .i64 i6_, U, U, U, U, U, U, U, U, U, U, U, U, U, U, U, U, U, U, U, U, U]
def laws_heldTileS_w2 (S : SatT) (K : AVal → H → Prop) (X0 : Frame → H → Prop) : (Frame → H → Prop) → Frame → H → Prop := fun X fr h => cwp S tab laws_heldTileS_M (laws_heldTileS_M 2) (sub [1, 0, 1, 0, 0, 1, 0, 0, 1, 0, 0] (bodyOf Try.f35)) (kSeq (fun fr h => X (mask (laws_heldTileS_M 2) fr) h) (kBlk 2 (kBlk 1 (laws_heldTileS_ks5 S K X0)))) fr h
def laws_heldTileS_L2 (S : SatT) (K : AVal → H → Prop) (X0 : Frame → H → Prop) (s0_ : Sl) (i1_ : Int) (i5_ : Int) (i6_ : Int) (h : H) : Prop := loopK (laws_heldTileS_w2 S K X0) (laws_heldTileS_e2 s0_ i1_ i5_ i6_) h
def laws_heldTileS_C1 (S : SatT) (K : AVal → H → Prop) (X0 : Frame → H → Prop) (s0_ : Sl) (i1_ : Int) (i5_ : Int) (h : H) : Prop :=
 X0 (laws_heldTileS_e0 s0_ i1_ (w64 (i5_ + (1)))) h
def laws_heldTileS_C2 (S : SatT) (K : AVal → H → Prop) (X0 : Frame → H → Prop) (s0_ : Sl) (i1_ : Int) (i5_ : Int) (h : H) : Prop :=
 laws_heldTileS_C1 S K X0 s0_ i1_ i5_ h
def laws_heldTileS_b2 (S : SatT) (K : AVal → H → Prop) (X0 : Frame → H → Prop) (X2 : Frame → H → Prop) (s0_ : Sl) (i1_ : Int) (i5_ : Int) (i6_ : Int) (h : H) : Prop :=
 bif (decide (i6_ < (4))) then
 ixS s0_ 4 i5_ fun p0 =>
 ixA p0 4 1 i6_ fun p1 =>
 ldI .i64 p1 h fun n2 =>
 bif (n2 != i1_) then
 K (.int .i64 (-1)) h
 else
 X2 (laws_heldTileS_e2 s0_ (w64 (i1_ + (1))) i5_ (w64 (i6_ + (1)))) h
 else
 laws_heldTileS_C2 S K X0 s0_ i1_ i5_ h
theorem laws_heldTileS_link2 (S : SatT) (K : AVal → H → Prop) (X0 : Frame → H → Prop) (X2 : Frame → H → Prop) (s0_ : Sl) (i1_ : Int) (i5_ : Int) (i6_ : Int) (h : H) : laws_heldTileS_w2 S K X0 X2 (laws_heldTileS_e2 s0_ i1_ i5_ i6_) h = laws_heldTileS_b2 S K X0 X2 s0_ i1_ i5_ i6_ h := by kernel_rfl
theorem laws_heldTileS_rule2 (S : SatT) (K : AVal → H → Prop) (X0 : Frame → H → Prop) (s0_ : Sl) (i5_ : Int) (I_ : Int → Int → H → Prop) (m_ : Int → Int → H → Nat)
    (hs : ∀ (X2 : Frame → H → Prop) (i1_ : Int) (i6_ : Int) (h : H), I_ i1_ i6_ h → (∀ (i1_' : Int) (i6_' : Int) (h' : H), I_ i1_' i6_' h' → m_ i1_' i6_' h' < m_ i1_ i6_ h → X2 (laws_heldTileS_e2 s0_ i1_' i5_ i6_') h') → laws_heldTileS_b2 S K X0 X2 s0_ i1_ i5_ i6_ h) (i1_ : Int) (i6_ : Int) {h : H} (h0 : I_ i1_ i6_ h) : laws_heldTileS_L2 S K X0 s0_ i1_ i5_ i6_ h :=
  loop_rule (σ := (Int) × (Int)) (fun s_ => laws_heldTileS_e2 s0_ (s_.1) i5_ (s_.2)) (fun s_ h => I_ (s_.1) (s_.2) h) (fun s_ h => m_ (s_.1) (s_.2) h)
    (fun X s_ h hi hx => (laws_heldTileS_link2 S K X0 X s0_ (s_.1) i5_ (s_.2) h).mpr (hs X (s_.1) (s_.2) h hi fun i1_' i6_' h' hi' hm' => hx (i1_', i6_') h' hi' hm')) (i1_, i6_) h0
theorem laws_heldTileS_unroll2 (S : SatT) (K : AVal → H → Prop) (X0 : Frame → H → Prop) (s0_ : Sl) (i1_ : Int) (i5_ : Int) (i6_ : Int) (h : H) (hb : laws_heldTileS_b2 S K X0 (fun fr h => loopK (laws_heldTileS_w2 S K X0) fr h) s0_ i1_ i5_ i6_ h) : laws_heldTileS_L2 S K X0 s0_ i1_ i5_ i6_ h := loop_unroll ((laws_heldTileS_link2 S K X0 _ s0_ i1_ i5_ i6_ h).mpr hb)
def laws_heldTileS_C0 (S : SatT) (K : AVal → H → Prop) (i1_ : Int) (h : H) : Prop :=
 K (.int .i64 i1_) h
def laws_heldTileS_b0 (S : SatT) (K : AVal → H → Prop) (X0 : Frame → H → Prop) (s0_ : Sl) (i1_ : Int) (i5_ : Int) (h : H) : Prop :=
 bif (decide (i5_ < (s0_.len : Int))) then
 laws_heldTileS_L2 S K X0 s0_ i1_ i5_ (0) h
 else
 laws_heldTileS_C0 S K i1_ h
theorem laws_heldTileS_link0 (S : SatT) (K : AVal → H → Prop) (X0 : Frame → H → Prop) (s0_ : Sl) (i1_ : Int) (i5_ : Int) (h : H) : laws_heldTileS_w0 S K X0 (laws_heldTileS_e0 s0_ i1_ i5_) h = laws_heldTileS_b0 S K X0 s0_ i1_ i5_ h := by kernel_rfl
theorem laws_heldTileS_rule0 (S : SatT) (K : AVal → H → Prop) (s0_ : Sl) (I_ : Int → Int → H → Prop) (m_ : Int → Int → H → Nat)
    (hs : ∀ (X0 : Frame → H → Prop) (i1_ : Int) (i5_ : Int) (h : H), I_ i1_ i5_ h → (∀ (i1_' : Int) (i5_' : Int) (h' : H), I_ i1_' i5_' h' → m_ i1_' i5_' h' < m_ i1_ i5_ h → X0 (laws_heldTileS_e0 s0_ i1_' i5_') h') → laws_heldTileS_b0 S K X0 s0_ i1_ i5_ h) (i1_ : Int) (i5_ : Int) {h : H} (h0 : I_ i1_ i5_ h) : laws_heldTileS_L0 S K s0_ i1_ i5_ h :=
  loop_rule (σ := (Int) × (Int)) (fun s_ => laws_heldTileS_e0 s0_ (s_.1) (s_.2)) (fun s_ h => I_ (s_.1) (s_.2) h) (fun s_ h => m_ (s_.1) (s_.2) h)
    (fun X s_ h hi hx => (laws_heldTileS_link0 S K X s0_ (s_.1) (s_.2) h).mpr (hs X (s_.1) (s_.2) h hi fun i1_' i5_' h' hi' hm' => hx (i1_', i5_') h' hi' hm')) (i1_, i5_) h0
theorem laws_heldTileS_unroll0 (S : SatT) (K : AVal → H → Prop) (s0_ : Sl) (i1_ : Int) (i5_ : Int) (h : H) (hb : laws_heldTileS_b0 S K (fun fr h => loopK (laws_heldTileS_w0 S K) fr h) s0_ i1_ i5_ h) : laws_heldTileS_L0 S K s0_ i1_ i5_ h := loop_unroll ((laws_heldTileS_link0 S K _ s0_ i1_ i5_ h).mpr hb)
def laws_heldTileS_main (S : SatT) (K : AVal → H → Prop) (x0 : Sl) (x1 : Int) (h : H) : Prop :=
 laws_heldTileS_L0 S K x0 x1 (0) h
theorem laws_heldTileS_main_link (S : SatT) (K : AVal → H → Prop) (x0 : Sl) (x1 : Int) (h : H) : cwp S tab laws_heldTileS_M [] (bodyOf Try.f35) (kFun tab Try.f35.results.toList K) (fr0 Try.f35 [.sl x0, .int .i64 x1]) h = laws_heldTileS_main S K x0 x1 h := by kernel_rfl
theorem laws_heldTileS_call (x0 : Sl) (x1 : Int) (h : H) (K : Int → H → Prop) (hm : laws_heldTileS_main (Sat Try.prog) (fun v h' => ∃ r, v = .int .i64 r ∧ K r h') x0 x1 h) : callI (Sat Try.prog) .i64 i_laws_heldTileS [.sl x0, .int .i64 x1] h K := by
  have := Sat.ex tok mixed laws_heldTileS_M Try.func35 (c := bodyOf Try.f35) (by kernel_rfl) (calls_of Try.func35 (c := bodyOf Try.f35) (by kernel_rfl) (by decide)) ((laws_heldTileS_main_link _ _ x0 x1 h).mpr hm)
  obtain ⟨v, h2, h3, r, rfl, h4⟩ := this; exact ⟨r, h2, h3, h4⟩

/-! ### loop.example/g01354/impl.FailingHeight -/
def impl_FailingHeight_M : Nat → List Nat := fun i => bif i == 0 then [2, 3, 7, 8] else []
def impl_FailingHeight_ks6 (S : SatT) (K : AVal → H → Prop) : Kont := kSeq (cwp S tab impl_FailingHeight_M [] (sub [1, 1, 1, 1] (bodyOf Try.f24)) (kFun tab (Try.f24).results.toList K)) (kFun tab (Try.f24).results.toList K)
def impl_FailingHeight_e0 (p2_ : Pt) (p3_ : Pt) (s7_ : Sl) (i8_ : Int) : Frame := [U, U, .ptr p2_, .ptr p3_, U, U, U, .sl s7_, .int .i64 i8_, U, U, U, U, U, U, U, U, U, U, U, U, U, U, U, U, U, U, U, U, U, U, U, U, U, U, U, U, U, U, U, U, U, U, U, U, U, U, U, U]
def impl_FailingHeight_w0 (S : SatT) (K : AVal → H → Prop) : (Frame → H → Prop) → Frame → H → Prop := fun X fr h => cwp S tab impl_FailingHeight_M (impl_FailingHeight_M 0) (sub [1, 1, 1, 0, 1, 0, 0] (bodyOf Try.f24)) (kSeq (fun fr h => X (mask (impl_FailingHeight_M 0) fr) h) (kBlk 0 (impl_FailingHeight_ks6 S K))) fr h
def impl_FailingHeight_L0 (S : SatT) (K : AVal → H → Prop) (p2_ : Pt) (p3_ : Pt) (s7_ : Sl) (i8_ : Int) (h : H) : Prop := loopK (impl_FailingHeight_w0 S K) (impl_FailingHeight_e0 p2_ p3_ s7_ i8_) h
def impl_FailingHeight_C0 (S : SatT) (K : AVal → H → Prop) (h : H) : Prop :=
 K (.tuple [.int .i64 (0), .int .i64 (4)]) h
def impl_FailingHeight_b0 (S : SatT) (K : AVal → H → Prop) (X0 : Frame → H → Prop) (p2_ : Pt) (p3_ : Pt) (s7_ : Sl) (i8_ : Int) (h : H) : Prop :=
 ldI .i64 p3_ h fun n0 =>
 bif (decide (i8_ ≤ n0)) then
 bif (decide (i8_ > (1))) then
 isPt p2_ (
 ldS (Pt.add p2_ 1) h fun s1 =>
 callS S i_impl_stacked [.sl s7_, .sl s1] h fun s3 h2 =>
 bif (decide ((s3.len : Int) > (3000))) then
 K (.tuple [.int .i64 (0), .int .i64 (3)]) h2
 else
 isPt p2_ (
 ldS (Pt.add p2_ 1) h2 fun s4 =>
 callV S i_impl_stackTiles [.sl s7_, .sl s4] h2 fun v6 h5 =>
 viaT v6 fun vs7 =>
 exS vs7 0 fun s8 =>
 viaT v6 fun vs9 =>
 exI .i64 vs9 1 fun n10 =>
 callV S i_slices_Values_s_impl_Tile_impl_Tile_ [.sl s8] h5 fun v12 h11 =>
 callS S i_slices_SortedFunc_impl_Tile_ [v12, .func 55 []] h11 fun s14 h13 =>
 callS S i_slices_Compact_s_impl_Tile_impl_Tile_ [.sl s14] h13 fun s16 h15 =>
 callS S i_impl_kept [.sl s16] h15 fun s18 h17 =>
 bif ((s18.len : Int) == (0)) then
 K (.tuple [.int .i64 i8_, .int .i64 (0)]) h17
 else
 X0 (impl_FailingHeight_e0 p2_ p3_ s18 (w64 (i8_ + (1)))) h17))
 else
 bif ((s7_.len : Int) == (0)) then
 K (.tuple [.int .i64 i8_, .int .i64 (0)]) h
 else
 X0 (impl_FailingHeight_e0 p2_ p3_ s7_ (w64 (i8_ + (1)))) h
 else
 impl_FailingHeight_C0 S K h
theorem impl_FailingHeight_link0 (S : SatT) (K : AVal → H → Prop) (X0 : Frame → H → Prop) (p2_ : Pt) (p3_ : Pt) (s7_ : Sl) (i8_ : Int) (h : H) : impl_FailingHeight_w0 S K X0 (impl_FailingHeight_e0 p2_ p3_ s7_ i8_) h = impl_FailingHeight_b0 S K X0 p2_ p3_ s7_ i8_ h := by kernel_rfl
theorem impl_FailingHeight_rule0 (S : SatT) (K : AVal → H → Prop) (p2_ : Pt) (p3_ : Pt) (I_ : Sl → Int → H → Prop) (m_ : Sl → Int → H → Nat)
    (hs : ∀ (X0 : Frame → H → Prop) (s7_ : Sl) (i8_ : Int) (h : H), I_ s7_ i8_ h → (∀ (s7_' : Sl) (i8_' : Int) (h' : H), I_ s7_' i8_' h' → m_ s7_' i8_' h' < m_ s7_ i8_ h → X0 (impl_FailingHeight_e0 p2_ p3_ s7_' i8_') h') → impl_FailingHeight_b0 S K X0 p2_ p3_ s7_ i8_ h) (s7_ : Sl) (i8_ : Int) {h : H} (h0 : I_ s7_ i8_ h) : impl_FailingHeight_L0 S K p2_ p3_ s7_ i8_ h :=
  loop_rule (σ := (Sl) × (Int)) (fun s_ => impl_FailingHeight_e0 p2_ p3_ (s_.1) (s_.2)) (fun s_ h => I_ (s_.1) (s_.2) h) (fun s_ h => m_ (s_.1) (s_.2) h)
    (fun X s_ h hi hx => (impl_FailingHeight_link0 S K X p2_ p3_ (s_.1) (s_.2) h).mpr (hs X (s_.1) (s_.2) h hi fun s7_' i8_' h' hi' hm' => hx (s7_', i8_') h' hi' hm')) (s7_, i8_) h0
theorem impl_FailingHeight_unroll0 (S : SatT) (K : AVal → H → Prop) (p2_ : Pt) (p3_ : Pt) (s7_ : Sl) (i8_ : Int) (h : H) (hb : impl_FailingHeight_b0 S K (fun fr h => loopK (impl_FailingHeight_w0 S K) fr h) p2_ p3_ s7_ i8_ h) : impl_FailingHeight_L0 S K p2_ p3_ s7_ i8_ h := loop_unroll ((impl_FailingHeight_link0 S K _ p2_ p3_ s7_ i8_ h).mpr hb)
def impl_FailingHeight_main (S : SatT) (K : AVal → H → Prop) (x0 : List AVal) (x1 : Int) (h : H) : Prop :=
 newK 2 x0 h fun p0 h1 =>
 newO [.int .i64 x1] h1 fun p2 h3 =>
 ldA p0 2 h3 fun cs4 =>
 callI S .i64 i_impl_setCode [.agg cs4, .func 51 [.ptr p2]] h3 fun n6 h5 =>
 bif (n6 != (0)) then
 K (.tuple [.int .i64 (0), .int .i64 n6]) h5
 else
 isPt p0 (
 ldS (Pt.add p0 1) h5 fun s7 =>
 callS S i_impl_kept [.sl s7] h5 fun s9 h8 =>
 impl_FailingHeight_L0 S K p0 p2 s9 (1) h8)
theorem impl_FailingHeight_main_link (S : SatT) (K : AVal → H → Prop) (x0 : List AVal) (x1 : Int) (h : H) : cwp S tab impl_FailingHeight_M [] (bodyOf Try.f24) (kFun tab Try.f24.results.toList K) (fr0 Try.f24 [.agg x0, .int .i64 x1]) h = impl_FailingHeight_main S K x0 x1 h := by kernel_rfl
theorem impl_FailingHeight_call (x0 : List AVal) (x1 : Int) (h : H) (K : AVal → H → Prop) (hm : impl_FailingHeight_main (Sat Try.prog) (fun v h' => K v h') x0 x1 h) : callV (Sat Try.prog) i_impl_FailingHeight [.agg x0, .int .i64 x1] h K := by
  have := Sat.ex tok mixed impl_FailingHeight_M Try.func24 (c := bodyOf Try.f24) (by kernel_rfl) (calls_of Try.func24 (c := bodyOf Try.f24) (by kernel_rfl) (by decide)) ((impl_FailingHeight_main_link _ _ x0 x1 h).mpr hm)
  exact this

/-! ### loop.example/g01354/spec.PowerOf -/
def spec_PowerOf_M : Nat → List Nat := fun i => bif i == 1 then [1, 2, 4, 6, 7] else []
def spec_PowerOf_ks7 (S : SatT) (K : AVal → H → Prop) : Kont := kSeq (cwp S tab spec_PowerOf_M [] (sub [1, 1, 1, 1] (bodyOf Try.f21)) (kFun tab (Try.f21).results.toList K)) (kFun tab (Try.f21).results.toList K)
def spec_PowerOf_e1 (i1_ : Int) (p2_ : Pt) (p4_ : Pt) (p6_ : Pt) (i7_ : Int) : Frame := [U, .int .i64 i1_, .ptr p2_, U, .ptr p4_, U, .ptr p6_, .int .i64 i7_, U, U, U, U, U, U, U, U, U, U, U, U, U, U, U, U, U, U, U, U, U, U, U, U, U, U, U, U, U, U, U, U]
def spec_PowerOf_w1 (S : SatT) (K : AVal → H → Prop) : (Frame → H → Prop) → Frame → H → Prop := fun X fr h => cwp S tab spec_PowerOf_M (spec_PowerOf_M 1) (sub [1, 1, 1, 0, 1, 0, 0] (bodyOf Try.f21)) (kSeq (fun fr h => X (mask (spec_PowerOf_M 1) fr) h) (kBlk 1 (spec_PowerOf_ks7 S K))) fr h
def spec_PowerOf_L1 (S : SatT) (K : AVal → H → Prop) (i1_ : Int) (p2_ : Pt) (p4_ : Pt) (p6_ : Pt) (i7_ : Int) (h : H) : Prop := loopK (spec_PowerOf_w1 S K) (spec_PowerOf_e1 i1_ p2_ p4_ p6_ i7_) h
def spec_PowerOf_C1 (S : SatT) (K : AVal → H → Prop) (p4_ : Pt) (p6_ : Pt) (h : H) : Prop :=
 ldA p6_ 2 h fun cs0 =>
 stN p4_ 2 cs0 h fun h1 =>
 ldA p4_ 2 h1 fun cs2 =>
 K (.tuple [.agg cs2, .int .i64 (0)]) h1
def spec_PowerOf_b1 (S : SatT) (K : AVal → H → Prop) (X1 : Frame → H → Prop) (i1_ : Int) (p2_ : Pt) (p4_ : Pt) (p6_ : Pt) (i7_ : Int) (h : H) : Prop :=
 bif (decide (i7_ < i1_)) then
 ldA p6_ 2 h fun cs0 =>
 ldA p2_ 2 h fun cs1 =>
 callV S i_spec_l04Made [.agg cs0, .agg cs1] h fun v3 h2 =>
 viaT v3 fun vs4 =>
 exA vs4 0 fun cs5 =>
 viaT v3 fun vs6 =>
 exI .i64 vs6 1 fun n7 =>
 newO [.int .i64 (0), .sl Sl.nil] h2 fun p8 h9 =>
 stN p8 2 cs5 h9 fun h10 =>
 bif (n7 != (0)) then
 stN p4_ 2 [.int .i64 (0), .sl Sl.nil] h10 fun h11 =>
 ldA p4_ 2 h11 fun cs12 =>
 K (.tuple [.agg cs12, .int .i64 n7]) h11
 else
 ldA p8 2 h10 fun cs13 =>
 callA S i_spec_l04Kept [.agg cs13] h10 fun cs15 h14 =>
 stN p6_ 2 cs15 h14 fun h16 =>
 X1 (spec_PowerOf_e1 i1_ p2_ p4_ p6_ (w64 (i7_ + (1)))) h16
 else
 spec_PowerOf_C1 S K p4_ p6_ h
theorem spec_PowerOf_link1 (S : SatT) (K : AVal → H → Prop) (X1 : Frame → H → Prop) (i1_ : Int) (p2_ : Pt) (p4_ : Pt) (p6_ : Pt) (i7_ : Int) (h : H) : spec_PowerOf_w1 S K X1 (spec_PowerOf_e1 i1_ p2_ p4_ p6_ i7_) h = spec_PowerOf_b1 S K X1 i1_ p2_ p4_ p6_ i7_ h := by kernel_rfl
theorem spec_PowerOf_rule1 (S : SatT) (K : AVal → H → Prop) (i1_ : Int) (p2_ : Pt) (p4_ : Pt) (p6_ : Pt) (I_ : Int → H → Prop) (m_ : Int → H → Nat)
    (hs : ∀ (X1 : Frame → H → Prop) (i7_ : Int) (h : H), I_ i7_ h → (∀ (i7_' : Int) (h' : H), I_ i7_' h' → m_ i7_' h' < m_ i7_ h → X1 (spec_PowerOf_e1 i1_ p2_ p4_ p6_ i7_') h') → spec_PowerOf_b1 S K X1 i1_ p2_ p4_ p6_ i7_ h) (i7_ : Int) {h : H} (h0 : I_ i7_ h) : spec_PowerOf_L1 S K i1_ p2_ p4_ p6_ i7_ h :=
  loop_rule (σ := (Int)) (fun s_ => spec_PowerOf_e1 i1_ p2_ p4_ p6_ (s_)) (fun s_ h => I_ (s_) h) (fun s_ h => m_ (s_) h)
    (fun X s_ h hi hx => (spec_PowerOf_link1 S K X i1_ p2_ p4_ p6_ (s_) h).mpr (hs X (s_) h hi fun i7_' h' hi' hm' => hx (i7_') h' hi' hm')) (i7_) h0
theorem spec_PowerOf_unroll1 (S : SatT) (K : AVal → H → Prop) (i1_ : Int) (p2_ : Pt) (p4_ : Pt) (p6_ : Pt) (i7_ : Int) (h : H) (hb : spec_PowerOf_b1 S K (fun fr h => loopK (spec_PowerOf_w1 S K) fr h) i1_ p2_ p4_ p6_ i7_ h) : spec_PowerOf_L1 S K i1_ p2_ p4_ p6_ i7_ h := loop_unroll ((spec_PowerOf_link1 S K _ i1_ p2_ p4_ p6_ i7_ h).mpr hb)
def spec_PowerOf_main (S : SatT) (K : AVal → H → Prop) (x0 : List AVal) (x1 : Int) (h : H) : Prop :=
 newK 2 x0 h fun p0 h1 =>
 newO [.int .i64 (0), .sl Sl.nil] h1 fun p2 h3 =>
 ldA p0 2 h3 fun cs4 =>
 callB S i_spec_l01Is [.agg cs4] h3 fun b6 h5 =>
 bif (!b6) then
 stN p2 2 [.int .i64 (0), .sl Sl.nil] h5 fun h7 =>
 ldA p2 2 h7 fun cs8 =>
 K (.tuple [.agg cs8, .int .i64 (1)]) h7
 else
 callB S i_spec_l01In [.int .i64 x1, .int .i64 (1), .int .i64 (4)] h5 fun b10 h9 =>
 bif (!b10) then
 stN p2 2 [.int .i64 (0), .sl Sl.nil] h9 fun h11 =>
 ldA p2 2 h11 fun cs12 =>
 K (.tuple [.agg cs12, .int .i64 (2)]) h11
 else
 ldA p0 2 h9 fun cs13 =>
 callA S i_spec_l04Kept [.agg cs13] h9 fun cs15 h14 =>
 newO [.int .i64 (0), .sl Sl.nil] h14 fun p16 h17 =>
 stN p16 2 cs15 h17 fun h18 =>
 spec_PowerOf_L1 S K x1 p0 p2 p16 (1) h18
theorem spec_PowerOf_main_link (S : SatT) (K : AVal → H → Prop) (x0 : List AVal) (x1 : Int) (h : H) : cwp S tab spec_PowerOf_M [] (bodyOf Try.f21) (kFun tab Try.f21.results.toList K) (fr0 Try.f21 [.agg x0, .int .i64 x1]) h = spec_PowerOf_main S K x0 x1 h := by kernel_rfl
theorem spec_PowerOf_call (x0 : List AVal) (x1 : Int) (h : H) (K : AVal → H → Prop) (hm : spec_PowerOf_main (Sat Try.prog) (fun v h' => K v h') x0 x1 h) : callV (Sat Try.prog) i_spec_PowerOf [.agg x0, .int .i64 x1] h K := by
  have := Sat.ex tok mixed spec_PowerOf_M Try.func21 (c := bodyOf Try.f21) (by kernel_rfl) (calls_of Try.func21 (c := bodyOf Try.f21) (by kernel_rfl) (by decide)) ((spec_PowerOf_main_link _ _ x0 x1 h).mpr hm)
  exact this

/-! ### loop.example/g01354/spec.l04Kept -/
def spec_l04Kept_M : Nat → List Nat := fun i => bif i == 0 then [1, 2, 3, 4, 5] else []
def spec_l04Kept_ks2 (S : SatT) (K : AVal → H → Prop) : Kont := kSeq (cwp S tab spec_l04Kept_M [] (sub [1, 1, 1] (bodyOf Try.f44)) (kFun tab (Try.f44).results.toList K)) (kFun tab (Try.f44).results.toList K)
def spec_l04Kept_e0 (p1_ : Pt) (p2_ : Pt) (s3_ : Sl) (s4_ : Sl) (i5_ : Int) : Frame := [U, .ptr p1_, .ptr p2_, .sl s3_, .sl s4_, .int .i64 i5_, U, U, U, U, U, U, U, U, U, U, U, U, U, U, U, U, U, U, U, U, U, U, U, U, U]
def spec_l04Kept_w0 (S : SatT) (K : AVal → H → Prop) : (Frame → H → Prop) → Frame → H → Prop := fun X fr h => cwp S tab spec_l04Kept_M (spec_l04Kept_M 0) (sub [1, 1, 0, 1, 0, 0] (bodyOf Try.f44)) (kSeq (fun fr h => X (mask (spec_l04Kept_M 0) fr) h) (kBlk 0 (spec_l04Kept_ks2 S K))) fr h
def spec_l04Kept_L0 (S : SatT) (K : AVal → H → Prop) (p1_ : Pt) (p2_ : Pt) (s3_ : Sl) (s4_ : Sl) (i5_ : Int) (h : H) : Prop := loopK (spec_l04Kept_w0 S K) (spec_l04Kept_e0 p1_ p2_ s3_ s4_ i5_) h
def spec_l04Kept_C0 (S : SatT) (K : AVal → H → Prop) (p1_ : Pt) (p2_ : Pt) (s4_ : Sl) (h : H) : Prop :=
 isPt p1_ (
 ldI .i64 (Pt.add p1_ 0) h fun n0 =>
 callA S i_spec_l01Made [.int .i64 n0, .sl s4_] h fun cs2 h1 =>
 stN p2_ 2 cs2 h1 fun h3 =>
 ldA p2_ 2 h3 fun cs4 =>
 K (.agg cs4) h3)
def spec_l04Kept_b0 (S : SatT) (K : AVal → H → Prop) (X0 : Frame → H → Prop) (p1_ : Pt) (p2_ : Pt) (s3_ : Sl) (s4_ : Sl) (i5_ : Int) (h : H) : Prop :=
 bif (decide (i5_ < (s3_.len : Int))) then
 ixS s3_ 1 i5_ fun p0 =>
 ldB p0 h fun b1 =>
 bif b1 then
 isPt p1_ (
 ldS (Pt.add p1_ 1) h fun s2 =>
 ixS s2 4 i5_ fun p3 =>
 ldA p3 4 h fun cs4 =>
 lenA cs4 4 (
 newS 1 4 (spl [.int .i64 (0), .int .i64 (0), .int .i64 (0), .int .i64 (0)] 0 4 cs4) h fun s5 h6 =>
 app s4_ s5 4 h6 fun s7 h8 =>
 X0 (spec_l04Kept_e0 p1_ p2_ s3_ s7 (w64 (i5_ + (1)))) h8))
 else
 X0 (spec_l04Kept_e0 p1_ p2_ s3_ s4_ (w64 (i5_ + (1)))) h
 else
 spec_l04Kept_C0 S K p1_ p2_ s4_ h
theorem spec_l04Kept_link0 (S : SatT) (K : AVal → H → Prop) (X0 : Frame → H → Prop) (p1_ : Pt) (p2_ : Pt) (s3_ : Sl) (s4_ : Sl) (i5_ : Int) (h : H) : spec_l04Kept_w0 S K X0 (spec_l04Kept_e0 p1_ p2_ s3_ s4_ i5_) h = spec_l04Kept_b0 S K X0 p1_ p2_ s3_ s4_ i5_ h := by kernel_rfl
theorem spec_l04Kept_rule0 (S : SatT) (K : AVal → H → Prop) (p1_ : Pt) (p2_ : Pt) (s3_ : Sl) (I_ : Sl → Int → H → Prop) (m_ : Sl → Int → H → Nat)
    (hs : ∀ (X0 : Frame → H → Prop) (s4_ : Sl) (i5_ : Int) (h : H), I_ s4_ i5_ h → (∀ (s4_' : Sl) (i5_' : Int) (h' : H), I_ s4_' i5_' h' → m_ s4_' i5_' h' < m_ s4_ i5_ h → X0 (spec_l04Kept_e0 p1_ p2_ s3_ s4_' i5_') h') → spec_l04Kept_b0 S K X0 p1_ p2_ s3_ s4_ i5_ h) (s4_ : Sl) (i5_ : Int) {h : H} (h0 : I_ s4_ i5_ h) : spec_l04Kept_L0 S K p1_ p2_ s3_ s4_ i5_ h :=
  loop_rule (σ := (Sl) × (Int)) (fun s_ => spec_l04Kept_e0 p1_ p2_ s3_ (s_.1) (s_.2)) (fun s_ h => I_ (s_.1) (s_.2) h) (fun s_ h => m_ (s_.1) (s_.2) h)
    (fun X s_ h hi hx => (spec_l04Kept_link0 S K X p1_ p2_ s3_ (s_.1) (s_.2) h).mpr (hs X (s_.1) (s_.2) h hi fun s4_' i5_' h' hi' hm' => hx (s4_', i5_') h' hi' hm')) (s4_, i5_) h0
theorem spec_l04Kept_unroll0 (S : SatT) (K : AVal → H → Prop) (p1_ : Pt) (p2_ : Pt) (s3_ : Sl) (s4_ : Sl) (i5_ : Int) (h : H) (hb : spec_l04Kept_b0 S K (fun fr h => loopK (spec_l04Kept_w0 S K) fr h) p1_ p2_ s3_ s4_ i5_ h) : spec_l04Kept_L0 S K p1_ p2_ s3_ s4_ i5_ h := loop_unroll ((spec_l04Kept_link0 S K _ p1_ p2_ s3_ s4_ i5_ h).mpr hb)
def spec_l04Kept_main (S : SatT) (K : AVal → H → Prop) (x0 : List AVal) (h : H) : Prop :=
 newK 2 x0 h fun p0 h1 =>
 newO [.int .i64 (0), .sl Sl.nil] h1 fun p2 h3 =>
 ldA p0 2 h3 fun cs4 =>
 callS S i_spec_l02Lasting [.agg cs4] h3 fun s6 h5 =>
 newS 0 4 [] h5 fun s7 h8 =>
 spec_l04Kept_L0 S K p0 p2 s6 s7 (0) h8
theorem spec_l04Kept_main_link (S : SatT) (K : AVal → H → Prop) (x0 : List AVal) (h : H) : cwp S tab spec_l04Kept_M [] (bodyOf Try.f44) (kFun tab Try.f44.results.toList K) (fr0 Try.f44 [.agg x0]) h = spec_l04Kept_main S K x0 h := by kernel_rfl
theorem spec_l04Kept_call (x0 : List AVal) (h : H) (K : List AVal → H → Prop) (hm : spec_l04Kept_main (Sat Try.prog) (fun v h' => ∃ r, v = .agg r ∧ K r h') x0 h) : callA (Sat Try.prog) i_spec_l04Kept [.agg x0] h K := by
  have := Sat.ex tok mixed spec_l04Kept_M Try.func44 (c := bodyOf Try.f44) (by kernel_rfl) (calls_of Try.func44 (c := bodyOf Try.f44) (by kernel_rfl) (by decide)) ((spec_l04Kept_main_link _ _ x0 h).mpr hm)
  obtain ⟨v, h2, h3, r, rfl, h4⟩ := this; exact ⟨r, h2, h3, h4⟩

/-! ### loop.example/g01354/impl.IsSet -/
def impl_IsSet_M : Nat → List Nat := fun i => bif i == 0 then [1, 6, 7, 8] else []
def impl_IsSet_ks1 (S : SatT) (K : AVal → H → Prop) : Kont := kSeq (cwp S tab impl_IsSet_M [] (sub [1, 1] (bodyOf Try.f64)) (kFun tab (Try.f64).results.toList K)) (kFun tab (Try.f64).results.toList K)
def impl_IsSet_e0 (p1_ : Pt) (s6_ : Sl) (i7_ : Int) (i8_ : Int) : Frame := [U, .ptr p1_, U, U, U, U, .sl s6_, .int .i64 i7_, .int .i64 i8_, U, U, U, U, U, U, U, U, U, U, U, U, U, U, U, U, U, U, U, U, U, U, U, U, U, U, U, U, U, U, U, U, U, U]
def impl_IsSet_w0 (S : SatT) (K : AVal → H → Prop) : (Frame → H → Prop) → Frame → H → Prop := fun X fr h => cwp S tab impl_IsSet_M (impl_IsSet_M 0) (sub [1, 0, 1, 0, 0] (bodyOf Try.f64)) (kSeq (fun fr h => X (mask (impl_IsSet_M 0) fr) h) (kBlk 0 (impl_IsSet_ks1 S K))) fr h
def impl_IsSet_L0 (S : SatT) (K : AVal → H → Prop) (p1_ : Pt) (s6_ : Sl) (i7_ : Int) (i8_ : Int) (h : H) : Prop := loopK (impl_IsSet_w0 S K) (impl_IsSet_e0 p1_ s6_ i7_ i8_) h
def impl_IsSet_C0 (S : SatT) (K : AVal → H → Prop) (p1_ : Pt) (h : H) : Prop :=
 isPt p1_ (
 ldI .i64 (Pt.add p1_ 0) h fun n0 =>
 callB S i_impl_within [.int .i64 n0, .int .i64 (1), .int .i64 (6)] h fun b2 h1 =>
 bif b2 then
 isPt p1_ (
 ldS (Pt.add p1_ 1) h1 fun s3 =>
 K (.bool (decide ((s3.len : Int) ≤ (16)))) h1)
 else
 K (.bool false) h1)
def impl_IsSet_b0 (S : SatT) (K : AVal → H → Prop) (X0 : Frame → H → Prop) (p1_ : Pt) (s6_ : Sl) (i7_ : Int) (i8_ : Int) (h : H) : Prop :=
 bif (decide (i8_ < i7_)) then
 ixS s6_ 4 i8_ fun p0 =>
 ldA p0 4 h fun cs1 =>
 newO [.int .i64 (0), .int .i64 (0), .int .i64 (0), .int .i64 (0)] h fun p2 h3 =>
 stN p2 4 cs1 h3 fun h4 =>
 ldA p2 4 h4 fun cs5 =>
 isPt p1_ (
 ldI .i64 (Pt.add p1_ 0) h4 fun n6 =>
 callB S i_impl_isTile [.agg cs5, .int .i64 n6] h4 fun b8 h7 =>
 bif (!b8) then
 K (.bool false) h7
 else
 bif (decide (i8_ > (0))) then
 isPt p1_ (
 ldS (Pt.add p1_ 1) h7 fun s9 =>
 ixS s9 4 (w64 (i8_ - (1))) fun p10 =>
 ldA p10 4 h7 fun cs11 =>
 ldA p2 4 h7 fun cs12 =>
 callI S .i64 i_impl_compare [.agg cs11, .agg cs12] h7 fun n14 h13 =>
 bif (decide (n14 ≥ (0))) then
 K (.bool false) h13
 else
 X0 (impl_IsSet_e0 p1_ s6_ i7_ (w64 (i8_ + (1)))) h13)
 else
 X0 (impl_IsSet_e0 p1_ s6_ i7_ (w64 (i8_ + (1)))) h7)
 else
 impl_IsSet_C0 S K p1_ h
theorem impl_IsSet_link0 (S : SatT) (K : AVal → H → Prop) (X0 : Frame → H → Prop) (p1_ : Pt) (s6_ : Sl) (i7_ : Int) (i8_ : Int) (h : H) : impl_IsSet_w0 S K X0 (impl_IsSet_e0 p1_ s6_ i7_ i8_) h = impl_IsSet_b0 S K X0 p1_ s6_ i7_ i8_ h := by kernel_rfl
theorem impl_IsSet_rule0 (S : SatT) (K : AVal → H → Prop) (p1_ : Pt) (s6_ : Sl) (i7_ : Int) (I_ : Int → H → Prop) (m_ : Int → H → Nat)
    (hs : ∀ (X0 : Frame → H → Prop) (i8_ : Int) (h : H), I_ i8_ h → (∀ (i8_' : Int) (h' : H), I_ i8_' h' → m_ i8_' h' < m_ i8_ h → X0 (impl_IsSet_e0 p1_ s6_ i7_ i8_') h') → impl_IsSet_b0 S K X0 p1_ s6_ i7_ i8_ h) (i8_ : Int) {h : H} (h0 : I_ i8_ h) : impl_IsSet_L0 S K p1_ s6_ i7_ i8_ h :=
  loop_rule (σ := (Int)) (fun s_ => impl_IsSet_e0 p1_ s6_ i7_ (s_)) (fun s_ h => I_ (s_) h) (fun s_ h => m_ (s_) h)
    (fun X s_ h hi hx => (impl_IsSet_link0 S K X p1_ s6_ i7_ (s_) h).mpr (hs X (s_) h hi fun i8_' h' hi' hm' => hx (i8_') h' hi' hm')) (i8_) h0
theorem impl_IsSet_unroll0 (S : SatT) (K : AVal → H → Prop) (p1_ : Pt) (s6_ : Sl) (i7_ : Int) (i8_ : Int) (h : H) (hb : impl_IsSet_b0 S K (fun fr h => loopK (impl_IsSet_w0 S K) fr h) p1_ s6_ i7_ i8_ h) : impl_IsSet_L0 S K p1_ s6_ i7_ i8_ h := loop_unroll ((impl_IsSet_link0 S K _ p1_ s6_ i7_ i8_ h).mpr hb)
def impl_IsSet_main (S : SatT) (K : AVal → H → Prop) (x0 : List AVal) (h : H) : Prop :=
 newK 2 x0 h fun p0 h1 =>
 isPt p0 (
 ldS (Pt.add p0 1) h1 fun s2 =>
 impl_IsSet_L0 S K p0 s2 (s2.len : Int) (0) h1)
theorem impl_IsSet_main_link (S : SatT) (K : AVal → H → Prop) (x0 : List AVal) (h : H) : cwp S tab impl_IsSet_M [] (bodyOf Try.f64) (kFun tab Try.f64.results.toList K) (fr0 Try.f64 [.agg x0]) h = impl_IsSet_main S K x0 h := by kernel_rfl
theorem impl_IsSet_call (x0 : List AVal) (h : H) (K : Bool → H → Prop) (hm : impl_IsSet_main (Sat Try.prog) (fun v h' => ∃ r, v = .bool r ∧ K r h') x0 h) : callB (Sat Try.prog) i_impl_IsSet [.agg x0] h K := by
  have := Sat.ex tok mixed impl_IsSet_M Try.func64 (c := bodyOf Try.f64) (by kernel_rfl) (calls_of Try.func64 (c := bodyOf Try.f64) (by kernel_rfl) (by decide)) ((impl_IsSet_main_link _ _ x0 h).mpr hm)
  obtain ⟨v, h2, h3, r, rfl, h4⟩ := this; exact ⟨r, h2, h3, h4⟩

/-! ### loop.example/g01354/spec.l04Find -/
def spec_l04Find_M : Nat → List Nat := fun i => bif i == 0 then [0, 1, 5, 6] else []
def spec_l04Find_ks2 (S : SatT) (K : AVal → H → Prop) : Kont := kSeq (cwp S tab spec_l04Find_M [] (sub [1, 1, 1] (bodyOf Try.f68)) (kFun tab (Try.f68).results.toList K)) (kFun tab (Try.f68).results.toList K)
def spec_l04Find_e0 (s0_ : Sl) (i1_ : Int) (i5_ : Int) (i6_ : Int) : Frame := [.sl s0_, .int .i64 i1_, U, U, U, .int .i64 i5_, .int .i64 i6_, U, U, U, U, U, U, U, U, U, U, U, U, U, U, U, U, U, U, U, U, U, U, U, U, U, U, U, U, U, U, U, U]
def spec_l04Find_w0 (S : SatT) (K : AVal → H → Prop) : (Frame → H → Prop) → Frame → H → Prop := fun X fr h => cwp S tab spec_l04Find_M (spec_l04Find_M 0) (sub [1, 1, 0, 0, 0] (bodyOf Try.f68)) (kSeq (fun fr h => X (mask (spec_l04Find_M 0) fr) h) (kBlk 0 (spec_l04Find_ks2 S K))) fr h
def spec_l04Find_L0 (S : SatT) (K : AVal → H → Prop) (s0_ : Sl) (i1_ : Int) (i5_ : Int) (i6_ : Int) (h : H) : Prop := loopK (spec_l04Find_w0 S K) (spec_l04Find_e0 s0_ i1_ i5_ i6_) h
def spec_l04Find_C0 (S : SatT) (K : AVal → H → Prop) (s0_ : Sl) (i1_ : Int) (i5_ : Int) (h : H) : Prop :=
 bif (decide (i5_ < (s0_.len : Int))) then
 ixS s0_ 1 i5_ fun p0 =>
 ldI .i64 p0 h fun n1 =>
 bif (n1 == i1_) then
 K (.int .i64 i5_) h
 else
 K (.int .i64 (-1)) h
 else
 K (.int .i64 (-1)) h
def spec_l04Find_b0 (S : SatT) (K : AVal → H → Prop) (X0 : Frame → H → Prop) (s0_ : Sl) (i1_ : Int) (i5_ : Int) (i6_ : Int) (h : H) : Prop :=
 bif (decide (i5_ < i6_)) then
 nz (2) (
 ixS s0_ 1 (w64 (Int.tdiv (w64 (i5_ + i6_)) (2))) fun p0 =>
 ldI .i64 p0 h fun n1 =>
 bif (decide (n1 < i1_)) then
 X0 (spec_l04Find_e0 s0_ i1_ (w64 ((w64 (Int.tdiv (w64 (i5_ + i6_)) (2))) + (1))) i6_) h
 else
 X0 (spec_l04Find_e0 s0_ i1_ i5_ (w64 (Int.tdiv (w64 (i5_ + i6_)) (2)))) h)
 else
 spec_l04Find_C0 S K s0_ i1_ i5_ h
theorem spec_l04Find_link0 (S : SatT) (K : AVal → H → Prop) (X0 : Frame → H → Prop) (s0_ : Sl) (i1_ : Int) (i5_ : Int) (i6_ : Int) (h : H) : spec_l04Find_w0 S K X0 (spec_l04Find_e0 s0_ i1_ i5_ i6_) h = spec_l04Find_b0 S K X0 s0_ i1_ i5_ i6_ h := by kernel_rfl
theorem spec_l04Find_rule0 (S : SatT) (K : AVal → H → Prop) (s0_ : Sl) (i1_ : Int) (I_ : Int → Int → H → Prop) (m_ : Int → Int → H → Nat)
    (hs : ∀ (X0 : Frame → H → Prop) (i5_ : Int) (i6_ : Int) (h : H), I_ i5_ i6_ h → (∀ (i5_' : Int) (i6_' : Int) (h' : H), I_ i5_' i6_' h' → m_ i5_' i6_' h' < m_ i5_ i6_ h → X0 (spec_l04Find_e0 s0_ i1_ i5_' i6_') h') → spec_l04Find_b0 S K X0 s0_ i1_ i5_ i6_ h) (i5_ : Int) (i6_ : Int) {h : H} (h0 : I_ i5_ i6_ h) : spec_l04Find_L0 S K s0_ i1_ i5_ i6_ h :=
  loop_rule (σ := (Int) × (Int)) (fun s_ => spec_l04Find_e0 s0_ i1_ (s_.1) (s_.2)) (fun s_ h => I_ (s_.1) (s_.2) h) (fun s_ h => m_ (s_.1) (s_.2) h)
    (fun X s_ h hi hx => (spec_l04Find_link0 S K X s0_ i1_ (s_.1) (s_.2) h).mpr (hs X (s_.1) (s_.2) h hi fun i5_' i6_' h' hi' hm' => hx (i5_', i6_') h' hi' hm')) (i5_, i6_) h0
theorem spec_l04Find_unroll0 (S : SatT) (K : AVal → H → Prop) (s0_ : Sl) (i1_ : Int) (i5_ : Int) (i6_ : Int) (h : H) (hb : spec_l04Find_b0 S K (fun fr h => loopK (spec_l04Find_w0 S K) fr h) s0_ i1_ i5_ i6_ h) : spec_l04Find_L0 S K s0_ i1_ i5_ i6_ h := loop_unroll ((spec_l04Find_link0 S K _ s0_ i1_ i5_ i6_ h).mpr hb)
def spec_l04Find_main (S : SatT) (K : AVal → H → Prop) (x0 : Sl) (x1 : Int) (h : H) : Prop :=
 spec_l04Find_L0 S K x0 x1 (0) (x0.len : Int) h
theorem spec_l04Find_main_link (S : SatT) (K : AVal → H → Prop) (x0 : Sl) (x1 : Int) (h : H) : cwp S tab spec_l04Find_M [] (bodyOf Try.f68) (kFun tab Try.f68.results.toList K) (fr0 Try.f68 [.sl x0, .int .i64 x1]) h = spec_l04Find_main S K x0 x1 h := by kernel_rfl
theorem spec_l04Find_call (x0 : Sl) (x1 : Int) (h : H) (K : Int → H → Prop) (hm : spec_l04Find_main (Sat Try.prog) (fun v h' => ∃ r, v = .int .i64 r ∧ K r h') x0 x1 h) : callI (Sat Try.prog) .i64 i_spec_l04Find [.sl x0, .int .i64 x1] h K := by
  have := Sat.ex tok mixed spec_l04Find_M Try.func68 (c := bodyOf Try.f68) (by kernel_rfl) (calls_of Try.func68 (c := bodyOf Try.f68) (by kernel_rfl) (by decide)) ((spec_l04Find_main_link _ _ x0 x1 h).mpr hm)
  obtain ⟨v, h2, h3, r, rfl, h4⟩ := this; exact ⟨r, h2, h3, h4⟩

/-! ### loop.example/g01354/spec.l01Before -/
def spec_l01Before_M : Nat → List Nat := fun i => bif i == 0 then [2, 3, 5] else []
def spec_l01Before_ks1 (S : SatT) (K : AVal → H → Prop) : Kont := kSeq (cwp S tab spec_l01Before_M [] (sub [1, 1] (bodyOf Try.f59)) (kFun tab (Try.f59).results.toList K)) (kFun tab (Try.f59).results.toList K)
def spec_l01Before_e0 (p2_ : Pt) (p3_ : Pt) (i5_ : Int) : Frame := [U, U, .ptr p2_, .ptr p3_, U, .int .i64 i5_, U, U, U, U, U, U, U, U, U, U, U, U, U, U, U, U, U, U]
def spec_l01Before_w0 (S : SatT) (K : AVal → H → Prop) : (Frame → H → Prop) → Frame → H → Prop := fun X fr h => cwp S tab spec_l01Before_M (spec_l01Before_M 0) (sub [1, 0, 1, 0, 0] (bodyOf Try.f59)) (kSeq (fun fr h => X (mask (spec_l01Before_M 0) fr) h) (kBlk 0 (spec_l01Before_ks1 S K))) fr h
def spec_l01Before_L0 (S : SatT) (K : AVal → H → Prop) (p2_ : Pt) (p3_ : Pt) (i5_ : Int) (h : H) : Prop := loopK (spec_l01Before_w0 S K) (spec_l01Before_e0 p2_ p3_ i5_) h
def spec_l01Before_C0 (S : SatT) (K : AVal → H → Prop) (h : H) : Prop :=
 K (.bool false) h
def spec_l01Before_b0 (S : SatT) (K : AVal → H → Prop) (X0 : Frame → H → Prop) (p2_ : Pt) (p3_ : Pt) (i5_ : Int) (h : H) : Prop :=
 bif (decide (i5_ < (4))) then
 ixA p2_ 4 1 i5_ fun p0 =>
 ldI .i64 p0 h fun n1 =>
 ixA p3_ 4 1 i5_ fun p2 =>
 ldI .i64 p2 h fun n3 =>
 bif (n1 != n3) then
 ixA p2_ 4 1 i5_ fun p4 =>
 ldI .i64 p4 h fun n5 =>
 ixA p3_ 4 1 i5_ fun p6 =>
 ldI .i64 p6 h fun n7 =>
 K (.bool (decide (n5 < n7))) h
 else
 X0 (spec_l01Before_e0 p2_ p3_ (w64 (i5_ + (1)))) h
 else
 spec_l01Before_C0 S K h
theorem spec_l01Before_link0 (S : SatT) (K : AVal → H → Prop) (X0 : Frame → H → Prop) (p2_ : Pt) (p3_ : Pt) (i5_ : Int) (h : H) : spec_l01Before_w0 S K X0 (spec_l01Before_e0 p2_ p3_ i5_) h = spec_l01Before_b0 S K X0 p2_ p3_ i5_ h := by kernel_rfl
theorem spec_l01Before_rule0 (S : SatT) (K : AVal → H → Prop) (p2_ : Pt) (p3_ : Pt) (I_ : Int → H → Prop) (m_ : Int → H → Nat)
    (hs : ∀ (X0 : Frame → H → Prop) (i5_ : Int) (h : H), I_ i5_ h → (∀ (i5_' : Int) (h' : H), I_ i5_' h' → m_ i5_' h' < m_ i5_ h → X0 (spec_l01Before_e0 p2_ p3_ i5_') h') → spec_l01Before_b0 S K X0 p2_ p3_ i5_ h) (i5_ : Int) {h : H} (h0 : I_ i5_ h) : spec_l01Before_L0 S K p2_ p3_ i5_ h :=
  loop_rule (σ := (Int)) (fun s_ => spec_l01Before_e0 p2_ p3_ (s_)) (fun s_ h => I_ (s_) h) (fun s_ h => m_ (s_) h)
    (fun X s_ h hi hx => (spec_l01Before_link0 S K X p2_ p3_ (s_) h).mpr (hs X (s_) h hi fun i5_' h' hi' hm' => hx (i5_') h' hi' hm')) (i5_) h0
theorem spec_l01Before_unroll0 (S : SatT) (K : AVal → H → Prop) (p2_ : Pt) (p3_ : Pt) (i5_ : Int) (h : H) (hb : spec_l01Before_b0 S K (fun fr h => loopK (spec_l01Before_w0 S K) fr h) p2_ p3_ i5_ h) : spec_l01Before_L0 S K p2_ p3_ i5_ h := loop_unroll ((spec_l01Before_link0 S K _ p2_ p3_ i5_ h).mpr hb)
def spec_l01Before_main (S : SatT) (K : AVal → H → Prop) (x0 : List AVal) (x1 : List AVal) (h : H) : Prop :=
 newK 4 x0 h fun p0 h1 =>
 newK 4 x1 h1 fun p2 h3 =>
 spec_l01Before_L0 S K p0 p2 (0) h3
theorem spec_l01Before_main_link (S : SatT) (K : AVal → H → Prop) (x0 : List AVal) (x1 : List AVal) (h : H) : cwp S tab spec_l01Before_M [] (bodyOf Try.f59) (kFun tab Try.f59.results.toList K) (fr0 Try.f59 [.agg x0, .agg x1]) h = spec_l01Before_main S K x0 x1 h := by kernel_rfl
theorem spec_l01Before_call (x0 : List AVal) (x1 : List AVal) (h : H) (K : Bool → H → Prop) (hm : spec_l01Before_main (Sat Try.prog) (fun v h' => ∃ r, v = .bool r ∧ K r h') x0 x1 h) : callB (Sat Try.prog) i_spec_l01Before [.agg x0, .agg x1] h K := by
  have := Sat.ex tok mixed spec_l01Before_M Try.func59 (c := bodyOf Try.f59) (by kernel_rfl) (calls_of Try.func59 (c := bodyOf Try.f59) (by kernel_rfl) (by decide)) ((spec_l01Before_main_link _ _ x0 x1 h).mpr hm)
  obtain ⟨v, h2, h3, r, rfl, h4⟩ := this; exact ⟨r, h2, h3, h4⟩

/-! ### loop.example/g01354/laws.markInt64S -/
def laws_markInt64S_M : Nat → List Nat := fun i => bif i == 0 then [0, 1, 5] else []
def laws_markInt64S_ks1 (S : SatT) (K : AVal → H → Prop) : Kont := kSeq (cwp S tab laws_markInt64S_M [] (sub [1, 1] (bodyOf Try.f19)) (kFun tab (Try.f19).results.toList K)) (kFun tab (Try.f19).results.toList K)
def laws_markInt64S_e0 (s0_ : Sl) (i1_ : Int) (i5_ : Int) : Frame := [.sl s0_, .int .i64 i1_, U, U, U, .int .i64 i5_, U, U, U, U, U, U, U, U, U, U, U, U, U]
def laws_markInt64S_w0 (S : SatT) (K : AVal → H → Prop) : (Frame → H → Prop) → Frame → H → Prop := fun X fr h => cwp S tab laws_markInt64S_M (laws_markInt64S_M 0) (sub [1, 0, 1, 0, 0] (bodyOf Try.f19)) (kSeq (fun fr h => X (mask (laws_markInt64S_M 0) fr) h) (kBlk 0 (laws_markInt64S_ks1 S K))) fr h
def laws_markInt64S_L0 (S : SatT) (K : AVal → H → Prop) (s0_ : Sl) (i1_ : Int) (i5_ : Int) (h : H) : Prop := loopK (laws_markInt64S_w0 S K) (laws_markInt64S_e0 s0_ i1_ i5_) h
def laws_markInt64S_C0 (S : SatT) (K : AVal → H → Prop) (i1_ : Int) (h : H) : Prop :=
 K (.int .i64 i1_) h
def laws_markInt64S_b0 (S : SatT) (K : AVal → H → Prop) (X0 : Frame → H → Prop) (s0_ : Sl) (i1_ : Int) (i5_ : Int) (h : H) : Prop :=
 bif (decide (i5_ < (s0_.len : Int))) then
 ixS s0_ 1 i5_ fun p0 =>
 st1 p0 (.int .i64 i1_) h fun h1 =>
 X0 (laws_markInt64S_e0 s0_ (w64 (i1_ + (1))) (w64 (i5_ + (1)))) h1
 else
 laws_markInt64S_C0 S K i1_ h
theorem laws_markInt64S_link0 (S : SatT) (K : AVal → H → Prop) (X0 : Frame → H → Prop) (s0_ : Sl) (i1_ : Int) (i5_ : Int) (h : H) : laws_markInt64S_w0 S K X0 (laws_markInt64S_e0 s0_ i1_ i5_) h = laws_markInt64S_b0 S K X0 s0_ i1_ i5_ h := by kernel_rfl
theorem laws_markInt64S_rule0 (S : SatT) (K : AVal → H → Prop) (s0_ : Sl) (I_ : Int → Int → H → Prop) (m_ : Int → Int → H → Nat)
    (hs : ∀ (X0 : Frame → H → Prop) (i1_ : Int) (i5_ : Int) (h : H), I_ i1_ i5_ h → (∀ (i1_' : Int) (i5_' : Int) (h' : H), I_ i1_' i5_' h' → m_ i1_' i5_' h' < m_ i1_ i5_ h → X0 (laws_markInt64S_e0 s0_ i1_' i5_') h') → laws_markInt64S_b0 S K X0 s0_ i1_ i5_ h) (i1_ : Int) (i5_ : Int) {h : H} (h0 : I_ i1_ i5_ h) : laws_markInt64S_L0 S K s0_ i1_ i5_ h :=
  loop_rule (σ := (Int) × (Int)) (fun s_ => laws_markInt64S_e0 s0_ (s_.1) (s_.2)) (fun s_ h => I_ (s_.1) (s_.2) h) (fun s_ h => m_ (s_.1) (s_.2) h)
    (fun X s_ h hi hx => (laws_markInt64S_link0 S K X s0_ (s_.1) (s_.2) h).mpr (hs X (s_.1) (s_.2) h hi fun i1_' i5_' h' hi' hm' => hx (i1_', i5_') h' hi' hm')) (i1_, i5_) h0
theorem laws_markInt64S_unroll0 (S : SatT) (K : AVal → H → Prop) (s0_ : Sl) (i1_ : Int) (i5_ : Int) (h : H) (hb : laws_markInt64S_b0 S K (fun fr h => loopK (laws_markInt64S_w0 S K) fr h) s0_ i1_ i5_ h) : laws_markInt64S_L0 S K s0_ i1_ i5_ h := loop_unroll ((laws_markInt64S_link0 S K _ s0_ i1_ i5_ h).mpr hb)
def laws_markInt64S_main (S : SatT) (K : AVal → H → Prop) (x0 : Sl) (x1 : Int) (h : H) : Prop :=
 laws_markInt64S_L0 S K x0 x1 (0) h
theorem laws_markInt64S_main_link (S : SatT) (K : AVal → H → Prop) (x0 : Sl) (x1 : Int) (h : H) : cwp S tab laws_markInt64S_M [] (bodyOf Try.f19) (kFun tab Try.f19.results.toList K) (fr0 Try.f19 [.sl x0, .int .i64 x1]) h = laws_markInt64S_main S K x0 x1 h := by kernel_rfl
theorem laws_markInt64S_call (x0 : Sl) (x1 : Int) (h : H) (K : Int → H → Prop) (hm : laws_markInt64S_main (Sat Try.prog) (fun v h' => ∃ r, v = .int .i64 r ∧ K r h') x0 x1 h) : callI (Sat Try.prog) .i64 i_laws_markInt64S [.sl x0, .int .i64 x1] h K := by
  have := Sat.ex tok mixed laws_markInt64S_M Try.func19 (c := bodyOf Try.f19) (by kernel_rfl) (calls_of Try.func19 (c := bodyOf Try.f19) (by kernel_rfl) (by decide)) ((laws_markInt64S_main_link _ _ x0 x1 h).mpr hm)
  obtain ⟨v, h2, h3, r, rfl, h4⟩ := this; exact ⟨r, h2, h3, h4⟩

/-! ### loop.example/g01354/laws.eqTile -/
def laws_eqTile_M : Nat → List Nat := fun i => bif i == 0 then [2, 3, 5] else []
def laws_eqTile_ks1 (S : SatT) (K : AVal → H → Prop) : Kont := kSeq (cwp S tab laws_eqTile_M [] (sub [1, 1] (bodyOf Try.f66)) (kFun tab (Try.f66).results.toList K)) (kFun tab (Try.f66).results.toList K)
def laws_eqTile_e0 (p2_ : Pt) (p3_ : Pt) (i5_ : Int) : Frame := [U, U, .ptr p2_, .ptr p3_, U, .int .i64 i5_, U, U, U, U, U, U, U, U, U, U, U]
def laws_eqTile_w0 (S : SatT) (K : AVal → H → Prop) : (Frame → H → Prop) → Frame → H → Prop := fun X fr h => cwp S tab laws_eqTile_M (laws_eqTile_M 0) (sub [1, 0, 1, 0, 0] (bodyOf Try.f66)) (kSeq (fun fr h => X (mask (laws_eqTile_M 0) fr) h) (kBlk 0 (laws_eqTile_ks1 S K))) fr h
def laws_eqTile_L0 (S : SatT) (K : AVal → H → Prop) (p2_ : Pt) (p3_ : Pt) (i5_ : Int) (h : H) : Prop := loopK (laws_eqTile_w0 S K) (laws_eqTile_e0 p2_ p3_ i5_) h
def laws_eqTile_C0 (S : SatT) (K : AVal → H → Prop) (h : H) : Prop :=
 K (.bool true) h
def laws_eqTile_b0 (S : SatT) (K : AVal → H → Prop) (X0 : Frame → H → Prop) (p2_ : Pt) (p3_ : Pt) (i5_ : Int) (h : H) : Prop :=
 bif (decide (i5_ < (4))) then
 ixA p2_ 4 1 i5_ fun p0 =>
 ldI .i64 p0 h fun n1 =>
 ixA p3_ 4 1 i5_ fun p2 =>
 ldI .i64 p2 h fun n3 =>
 bif (n1 != n3) then
 K (.bool false) h
 else
 X0 (laws_eqTile_e0 p2_ p3_ (w64 (i5_ + (1)))) h
 else
 laws_eqTile_C0 S K h
theorem laws_eqTile_link0 (S : SatT) (K : AVal → H → Prop) (X0 : Frame → H → Prop) (p2_ : Pt) (p3_ : Pt) (i5_ : Int) (h : H) : laws_eqTile_w0 S K X0 (laws_eqTile_e0 p2_ p3_ i5_) h = laws_eqTile_b0 S K X0 p2_ p3_ i5_ h := by kernel_rfl
theorem laws_eqTile_rule0 (S : SatT) (K : AVal → H → Prop) (p2_ : Pt) (p3_ : Pt) (I_ : Int → H → Prop) (m_ : Int → H → Nat)
    (hs : ∀ (X0 : Frame → H → Prop) (i5_ : Int) (h : H), I_ i5_ h → (∀ (i5_' : Int) (h' : H), I_ i5_' h' → m_ i5_' h' < m_ i5_ h → X0 (laws_eqTile_e0 p2_ p3_ i5_') h') → laws_eqTile_b0 S K X0 p2_ p3_ i5_ h) (i5_ : Int) {h : H} (h0 : I_ i5_ h) : laws_eqTile_L0 S K p2_ p3_ i5_ h :=
  loop_rule (σ := (Int)) (fun s_ => laws_eqTile_e0 p2_ p3_ (s_)) (fun s_ h => I_ (s_) h) (fun s_ h => m_ (s_) h)
    (fun X s_ h hi hx => (laws_eqTile_link0 S K X p2_ p3_ (s_) h).mpr (hs X (s_) h hi fun i5_' h' hi' hm' => hx (i5_') h' hi' hm')) (i5_) h0
theorem laws_eqTile_unroll0 (S : SatT) (K : AVal → H → Prop) (p2_ : Pt) (p3_ : Pt) (i5_ : Int) (h : H) (hb : laws_eqTile_b0 S K (fun fr h => loopK (laws_eqTile_w0 S K) fr h) p2_ p3_ i5_ h) : laws_eqTile_L0 S K p2_ p3_ i5_ h := loop_unroll ((laws_eqTile_link0 S K _ p2_ p3_ i5_ h).mpr hb)
def laws_eqTile_main (S : SatT) (K : AVal → H → Prop) (x0 : List AVal) (x1 : List AVal) (h : H) : Prop :=
 newK 4 x0 h fun p0 h1 =>
 newK 4 x1 h1 fun p2 h3 =>
 laws_eqTile_L0 S K p0 p2 (0) h3
theorem laws_eqTile_main_link (S : SatT) (K : AVal → H → Prop) (x0 : List AVal) (x1 : List AVal) (h : H) : cwp S tab laws_eqTile_M [] (bodyOf Try.f66) (kFun tab Try.f66.results.toList K) (fr0 Try.f66 [.agg x0, .agg x1]) h = laws_eqTile_main S K x0 x1 h := by kernel_rfl
theorem laws_eqTile_call (x0 : List AVal) (x1 : List AVal) (h : H) (K : Bool → H → Prop) (hm : laws_eqTile_main (Sat Try.prog) (fun v h' => ∃ r, v = .bool r ∧ K r h') x0 x1 h) : callB (Sat Try.prog) i_laws_eqTile [.agg x0, .agg x1] h K := by
  have := Sat.ex tok mixed laws_eqTile_M Try.func66 (c := bodyOf Try.f66) (by kernel_rfl) (calls_of Try.func66 (c := bodyOf Try.f66) (by kernel_rfl) (by decide)) ((laws_eqTile_main_link _ _ x0 x1 h).mpr hm)
  obtain ⟨v, h2, h3, r, rfl, h4⟩ := this; exact ⟨r, h2, h3, h4⟩

/-! ### loop.example/g01354/impl.setOf -/
def impl_setOf_M : Nat → List Nat := fun i => []
def impl_setOf_main (S : SatT) (K : AVal → H → Prop) (x0 : Int) (x1 : Sl) (h : H) : Prop :=
 newO [.int .i64 (0), .sl Sl.nil] h fun p0 h1 =>
 callV S i_slices_Values_s_impl_Tile_impl_Tile_ [.sl x1] h1 fun v3 h2 =>
 callS S i_slices_SortedFunc_impl_Tile_ [v3, .func 55 []] h2 fun s5 h4 =>
 callS S i_slices_Compact_s_impl_Tile_impl_Tile_ [.sl s5] h4 fun s7 h6 =>
 newO [.int .i64 (0), .sl Sl.nil] h6 fun p8 h9 =>
 stN p8 2 [.int .i64 x0, .sl s7] h9 fun h10 =>
 ldA p8 2 h10 fun cs11 =>
 isPt p8 (
 ldI .i64 (Pt.add p8 0) h10 fun n12 =>
 bif (decide (n12 ≤ (6))) then
 isPt p8 (
 ldS (Pt.add p8 1) h10 fun s13 =>
 stN p0 2 cs11 h10 fun h14 =>
(cell h14 (Pt.add p8 1) = cell h10 (Pt.add p8 1)) ∧ (
 ldA p0 2 h14 fun cs15 =>
 K (.tuple [.agg cs15, .bool (decide ((s13.len : Int) ≤ (16)))]) h14))
 else
 stN p0 2 cs11 h10 fun h16 =>
 ldA p0 2 h16 fun cs17 =>
 K (.tuple [.agg cs17, .bool false]) h16)
theorem impl_setOf_main_link (S : SatT) (K : AVal → H → Prop) (x0 : Int) (x1 : Sl) (h : H) : cwp S tab impl_setOf_M [] (bodyOf Try.f85) (kFun tab Try.f85.results.toList K) (fr0 Try.f85 [.int .i64 x0, .sl x1]) h = impl_setOf_main S K x0 x1 h := by kernel_rfl
theorem impl_setOf_call (x0 : Int) (x1 : Sl) (h : H) (K : AVal → H → Prop) (hm : impl_setOf_main (Sat Try.prog) (fun v h' => K v h') x0 x1 h) : callV (Sat Try.prog) i_impl_setOf [.int .i64 x0, .sl x1] h K := by
  have := Sat.ex tok mixed impl_setOf_M Try.func85 (c := bodyOf Try.f85) (by kernel_rfl) (calls_of Try.func85 (c := bodyOf Try.f85) (by kernel_rfl) (by decide)) ((impl_setOf_main_link _ _ x0 x1 h).mpr hm)
  exact this

/-! ### loop.example/g01354/impl.limited -/
def impl_limited_M : Nat → List Nat := fun i => []
def impl_limited_main (S : SatT) (K : AVal → H → Prop) (x0 : Int) (x1 : Sl) (h : H) : Prop :=
 newO [.int .i64 (0), .sl Sl.nil] h fun p0 h1 =>
 callV S i_impl_setOf [.int .i64 x0, .sl x1] h1 fun v3 h2 =>
 viaT v3 fun vs4 =>
 exA vs4 0 fun cs5 =>
 viaT v3 fun vs6 =>
 exB vs6 1 fun b7 =>
 newO [.int .i64 (0), .sl Sl.nil] h2 fun p8 h9 =>
 stN p8 2 cs5 h9 fun h10 =>
 bif (!b7) then
 stN p0 2 [.int .i64 (0), .sl Sl.nil] h10 fun h11 =>
 ldA p0 2 h11 fun cs12 =>
 K (.tuple [.agg cs12, .int .i64 (3)]) h11
 else
 ldA p8 2 h10 fun cs13 =>
 stN p0 2 cs13 h10 fun h14 =>
 ldA p0 2 h14 fun cs15 =>
 K (.tuple [.agg cs15, .int .i64 (0)]) h14
theorem impl_limited_main_link (S : SatT) (K : AVal → H → Prop) (x0 : Int) (x1 : Sl) (h : H) : cwp S tab impl_limited_M [] (bodyOf Try.f65) (kFun tab Try.f65.results.toList K) (fr0 Try.f65 [.int .i64 x0, .sl x1]) h = impl_limited_main S K x0 x1 h := by kernel_rfl
theorem impl_limited_call (x0 : Int) (x1 : Sl) (h : H) (K : AVal → H → Prop) (hm : impl_limited_main (Sat Try.prog) (fun v h' => K v h') x0 x1 h) : callV (Sat Try.prog) i_impl_limited [.int .i64 x0, .sl x1] h K := by
  have := Sat.ex tok mixed impl_limited_M Try.func65 (c := bodyOf Try.f65) (by kernel_rfl) (calls_of Try.func65 (c := bodyOf Try.f65) (by kernel_rfl) (by decide)) ((impl_limited_main_link _ _ x0 x1 h).mpr hm)
  exact this

/-! ### cmp.Compare[int64] -/
def cmp_Compare_int64__M : Nat → List Nat := fun i => []
def cmp_Compare_int64__main (S : SatT) (K : AVal → H → Prop) (x0 : Int) (x1 : Int) (h : H) : Prop :=
 callB S i_cmp_isNaN_int64_ [.int .i64 x0] h fun b1 h0 =>
 callB S i_cmp_isNaN_int64_ [.int .i64 x1] h0 fun b3 h2 =>
 bif b1 then
 bif b3 then
 K (.int .i64 (0)) h2
 else
 K (.int .i64 (-1)) h2
 else
 bif b3 then
 K (.int .i64 (1)) h2
 else
 bif (decide (x0 < x1)) then
 K (.int .i64 (-1)) h2
 else
 bif (decide (x0 > x1)) then
 K (.int .i64 (1)) h2
 else
 K (.int .i64 (0)) h2
theorem cmp_Compare_int64__main_link (S : SatT) (K : AVal → H → Prop) (x0 : Int) (x1 : Int) (h : H) : cwp S tab cmp_Compare_int64__M [] (bodyOf Try.f91) (kFun tab Try.f91.results.toList K) (fr0 Try.f91 [.int .i64 x0, .int .i64 x1]) h = cmp_Compare_int64__main S K x0 x1 h := by kernel_rfl
theorem cmp_Compare_int64__call (x0 : Int) (x1 : Int) (h : H) (K : Int → H → Prop) (hm : cmp_Compare_int64__main (Sat Try.prog) (fun v h' => ∃ r, v = .int .i64 r ∧ K r h') x0 x1 h) : callI (Sat Try.prog) .i64 i_cmp_Compare_int64_ [.int .i64 x0, .int .i64 x1] h K := by
  have := Sat.ex tok mixed cmp_Compare_int64__M Try.func91 (c := bodyOf Try.f91) (by kernel_rfl) (calls_of Try.func91 (c := bodyOf Try.f91) (by kernel_rfl) (by decide)) ((cmp_Compare_int64__main_link _ _ x0 x1 h).mpr hm)
  obtain ⟨v, h2, h3, r, rfl, h4⟩ := this; exact ⟨r, h2, h3, h4⟩

/-! ### slices.ContainsFunc[[]int64,int64] -/
def slices_ContainsFunc_s_int64_int64__M : Nat → List Nat := fun i => []
def slices_ContainsFunc_s_int64_int64__main (S : SatT) (K : AVal → H → Prop) (x0 : Sl) (x1 : AVal) (h : H) : Prop :=
 callI S .i64 i_slices_IndexFunc_s_int64_int64_ [.sl x0, x1] h fun n1 h0 =>
 K (.bool (decide (n1 ≥ (0)))) h0
theorem slices_ContainsFunc_s_int64_int64__main_link (S : SatT) (K : AVal → H → Prop) (x0 : Sl) (x1 : AVal) (h : H) : cwp S tab slices_ContainsFunc_s_int64_int64__M [] (bodyOf Try.f92) (kFun tab Try.f92.results.toList K) (fr0 Try.f92 [.sl x0, x1]) h = slices_ContainsFunc_s_int64_int64__main S K x0 x1 h := by kernel_rfl
theorem slices_ContainsFunc_s_int64_int64__call (x0 : Sl) (x1 : AVal) (h : H) (K : Bool → H → Prop) (hm : slices_ContainsFunc_s_int64_int64__main (Sat Try.prog) (fun v h' => ∃ r, v = .bool r ∧ K r h') x0 x1 h) : callB (Sat Try.prog) i_slices_ContainsFunc_s_int64_int64_ [.sl x0, x1] h K := by
  have := Sat.ex tok mixed slices_ContainsFunc_s_int64_int64__M Try.func92 (c := bodyOf Try.f92) (by kernel_rfl) (calls_of Try.func92 (c := bodyOf Try.f92) (by kernel_rfl) (by decide)) ((slices_ContainsFunc_s_int64_int64__main_link _ _ x0 x1 h).mpr hm)
  obtain ⟨v, h2, h3, r, rfl, h4⟩ := this; exact ⟨r, h2, h3, h4⟩

/-! ### loop.example/g01354/impl.compare -/
def impl_compare_M : Nat → List Nat := fun i => []
def impl_compare_main (S : SatT) (K : AVal → H → Prop) (x0 : List AVal) (x1 : List AVal) (h : H) : Prop :=
 newK 4 x0 h fun p0 h1 =>
 newK 4 x1 h1 fun p2 h3 =>
 cutA p0 4 1 (0) ((4 : Nat) : Int) fun s4 =>
 cutA p2 4 1 (0) ((4 : Nat) : Int) fun s5 =>
 callI S .i64 i_slices_Compare_s_int64_int64_ [.sl s4, .sl s5] h3 fun n7 h6 =>
 K (.int .i64 n7) h6
theorem impl_compare_main_link (S : SatT) (K : AVal → H → Prop) (x0 : List AVal) (x1 : List AVal) (h : H) : cwp S tab impl_compare_M [] (bodyOf Try.f55) (kFun tab Try.f55.results.toList K) (fr0 Try.f55 [.agg x0, .agg x1]) h = impl_compare_main S K x0 x1 h := by kernel_rfl
theorem impl_compare_call (x0 : List AVal) (x1 : List AVal) (h : H) (K : Int → H → Prop) (hm : impl_compare_main (Sat Try.prog) (fun v h' => ∃ r, v = .int .i64 r ∧ K r h') x0 x1 h) : callI (Sat Try.prog) .i64 i_impl_compare [.agg x0, .agg x1] h K := by
  have := Sat.ex tok mixed impl_compare_M Try.func55 (c := bodyOf Try.f55) (by kernel_rfl) (calls_of Try.func55 (c := bodyOf Try.f55) (by kernel_rfl) (by decide)) ((impl_compare_main_link _ _ x0 x1 h).mpr hm)
  obtain ⟨v, h2, h3, r, rfl, h4⟩ := this; exact ⟨r, h2, h3, h4⟩

/-! ### loop.example/g01354/laws.heldSet -/
def laws_heldSet_M : Nat → List Nat := fun i => []
def laws_heldSet_main (S : SatT) (K : AVal → H → Prop) (x0 : List AVal) (x1 : Int) (h : H) : Prop :=
 newK 2 x0 h fun p0 h1 =>
 isPt p0 (
 ldS (Pt.add p0 1) h1 fun s2 =>
 callI S .i64 i_laws_heldTileS [.sl s2, .int .i64 x1] h1 fun n4 h3 =>
 bif (decide (n4 < (0))) then
 K (.int .i64 (-1)) h3
 else
 K (.int .i64 n4) h3)
theorem laws_heldSet_main_link (S : SatT) (K : AVal → H → Prop) (x0 : List AVal) (x1 : Int) (h : H) : cwp S tab laws_heldSet_M [] (bodyOf Try.f14) (kFun tab Try.f14.results.toList K) (fr0 Try.f14 [.agg x0, .int .i64 x1]) h = laws_heldSet_main S K x0 x1 h := by kernel_rfl
theorem laws_heldSet_call (x0 : List AVal) (x1 : Int) (h : H) (K : Int → H → Prop) (hm : laws_heldSet_main (Sat Try.prog) (fun v h' => ∃ r, v = .int .i64 r ∧ K r h') x0 x1 h) : callI (Sat Try.prog) .i64 i_laws_heldSet [.agg x0, .int .i64 x1] h K := by
  have := Sat.ex tok mixed laws_heldSet_M Try.func14 (c := bodyOf Try.f14) (by kernel_rfl) (calls_of Try.func14 (c := bodyOf Try.f14) (by kernel_rfl) (by decide)) ((laws_heldSet_main_link _ _ x0 x1 h).mpr hm)
  obtain ⟨v, h2, h3, r, rfl, h4⟩ := this; exact ⟨r, h2, h3, h4⟩

/-! ### loop.example/g01354/spec.l01Made -/
def spec_l01Made_M : Nat → List Nat := fun i => []
def spec_l01Made_main (S : SatT) (K : AVal → H → Prop) (x0 : Int) (x1 : Sl) (h : H) : Prop :=
 newO [.int .i64 (0), .sl Sl.nil] h fun p0 h1 =>
 callS S i_spec_l01Sort [.sl x1] h1 fun s3 h2 =>
 stN p0 2 [.int .i64 x0, .sl s3] h2 fun h4 =>
 ldA p0 2 h4 fun cs5 =>
 K (.agg cs5) h4
theorem spec_l01Made_main_link (S : SatT) (K : AVal → H → Prop) (x0 : Int) (x1 : Sl) (h : H) : cwp S tab spec_l01Made_M [] (bodyOf Try.f56) (kFun tab Try.f56.results.toList K) (fr0 Try.f56 [.int .i64 x0, .sl x1]) h = spec_l01Made_main S K x0 x1 h := by kernel_rfl
theorem spec_l01Made_call (x0 : Int) (x1 : Sl) (h : H) (K : List AVal → H → Prop) (hm : spec_l01Made_main (Sat Try.prog) (fun v h' => ∃ r, v = .agg r ∧ K r h') x0 x1 h) : callA (Sat Try.prog) i_spec_l01Made [.int .i64 x0, .sl x1] h K := by
  have := Sat.ex tok mixed spec_l01Made_M Try.func56 (c := bodyOf Try.f56) (by kernel_rfl) (calls_of Try.func56 (c := bodyOf Try.f56) (by kernel_rfl) (by decide)) ((spec_l01Made_main_link _ _ x0 x1 h).mpr hm)
  obtain ⟨v, h2, h3, r, rfl, h4⟩ := this; exact ⟨r, h2, h3, h4⟩

/-! ### loop.example/g01354/laws.szTileS -/
def laws_szTileS_M : Nat → List Nat := fun i => []
def laws_szTileS_main (S : SatT) (K : AVal → H → Prop) (x0 : Sl) (x1 : Int) (h : H) : Prop :=
 bif (decide ((w64 (x1 - (x0.len : Int))) < (0))) then
 K (.int .i64 (-1)) h
 else
 K (.int .i64 (w64 (x1 - (x0.len : Int)))) h
theorem laws_szTileS_main_link (S : SatT) (K : AVal → H → Prop) (x0 : Sl) (x1 : Int) (h : H) : cwp S tab laws_szTileS_M [] (bodyOf Try.f27) (kFun tab Try.f27.results.toList K) (fr0 Try.f27 [.sl x0, .int .i64 x1]) h = laws_szTileS_main S K x0 x1 h := by kernel_rfl
theorem laws_szTileS_call (x0 : Sl) (x1 : Int) (h : H) (K : Int → H → Prop) (hm : laws_szTileS_main (Sat Try.prog) (fun v h' => ∃ r, v = .int .i64 r ∧ K r h') x0 x1 h) : callI (Sat Try.prog) .i64 i_laws_szTileS [.sl x0, .int .i64 x1] h K := by
  have := Sat.ex tok mixed laws_szTileS_M Try.func27 (c := bodyOf Try.f27) (by kernel_rfl) (calls_of Try.func27 (c := bodyOf Try.f27) (by kernel_rfl) (by decide)) ((laws_szTileS_main_link _ _ x0 x1 h).mpr hm)
  obtain ⟨v, h2, h3, r, rfl, h4⟩ := this; exact ⟨r, h2, h3, h4⟩

/-! ### loop.example/g01354/impl.PowerOf$1 -/
def impl_PowerOf_1_M : Nat → List Nat := fun i => []
def impl_PowerOf_1_main (S : SatT) (K : AVal → H → Prop) (x0 : Pt) (h : H) : Prop :=
 ldI .i64 x0 h fun n0 =>
 callB S i_impl_within [.int .i64 n0, .int .i64 (1), .int .i64 (4)] h fun b2 h1 =>
 K (.bool b2) h1
theorem impl_PowerOf_1_main_link (S : SatT) (K : AVal → H → Prop) (x0 : Pt) (h : H) : cwp S tab impl_PowerOf_1_M [] (bodyOf Try.f46) (kFun tab Try.f46.results.toList K) (fr0 Try.f46 [.ptr x0]) h = impl_PowerOf_1_main S K x0 h := by kernel_rfl
theorem impl_PowerOf_1_call (x0 : Pt) (h : H) (K : Bool → H → Prop) (hm : impl_PowerOf_1_main (Sat Try.prog) (fun v h' => ∃ r, v = .bool r ∧ K r h') x0 h) : callB (Sat Try.prog) i_impl_PowerOf_1 [.ptr x0] h K := by
  have := Sat.ex tok mixed impl_PowerOf_1_M Try.func46 (c := bodyOf Try.f46) (by kernel_rfl) (calls_of Try.func46 (c := bodyOf Try.f46) (by kernel_rfl) (by decide)) ((impl_PowerOf_1_main_link _ _ x0 h).mpr hm)
  obtain ⟨v, h2, h3, r, rfl, h4⟩ := this; exact ⟨r, h2, h3, h4⟩

/-! ### loop.example/g01354/spec.l04Stack -/
def spec_l04Stack_M : Nat → List Nat := fun i => bif i == 6 then [4, 6, 11, 14] else bif i == 4 then [4, 6, 7, 11, 12] else bif i == 2 then [2, 3, 4, 6, 7, 8, 9] else bif i == 0 then [2, 3, 4, 6, 7, 8] else []
def spec_l04Stack_ks2 (S : SatT) (K : AVal → H → Prop) : Kont := kSeq (cwp S tab spec_l04Stack_M [] (sub [1, 1, 1] (bodyOf Try.f75)) (kFun tab (Try.f75).results.toList K)) (kFun tab (Try.f75).results.toList K)
def spec_l04Stack_e0 (p2_ : Pt) (p3_ : Pt) (p4_ : Pt) (p6_ : Pt) (s7_ : Sl) (i8_ : Int) : Frame := [U, U, .ptr p2_, .ptr p3_, .ptr p4_, U, .ptr p6_, .sl s7_, .int .i64 i8_, U, U, U, U, U, U, U, U, U, U, U, U, U, U, U, U, U, U, U, U, U, U, U, U, U, U, U, U, U, U, U, U, U, U, U, U, U, U, U, U, U, U, U, U, U, U, U, U, U, U, U, U, U, U, U, U, U, U, U, U, U, U, U, U, U, U, U, U, U, U, U, U, U, U, U, U, U, U, U, U, U, U, U, U, U, U, U, U, U, U, U, U, U, U, U, U, U, U, U, U, U, U, U, U, U, U, U, U, U, U, U, U, U, U, U, U, U, U, U, U, U, U, U, U, U, U, U, U, U, U, U, U, U, U, U, U, U, U, U, U, U, U, U, U, U, U, U, U, U, U, U, U, U, U, U, U, U, U, U, U, U, U, U, U, U, U, U, U, U, U, U, U, U, U, U, U, U, U, U, U]
def spec_l04Stack_w0 (S : SatT) (K : AVal → H → Prop) : (Frame → H → Prop) → Frame → H → Prop := fun X fr h => cwp S tab spec_l04Stack_M (spec_l04Stack_M 0) (sub [1, 1, 0, 1, 0, 0] (bodyOf Try.f75)) (kSeq (fun fr h => X (mask (spec_l04Stack_M 0) fr) h) (kBlk 0 (spec_l04Stack_ks2 S K))) fr h
def spec_l04Stack_L0 (S : SatT) (K : AVal → H → Prop) (p2_ : Pt) (p3_ : Pt) (p4_ : Pt) (p6_ : Pt) (s7_ : Sl) (i8_ : Int) (h : H) : Prop := loopK (spec_l04Stack_w0 S K) (spec_l04Stack_e0 p2_ p3_ p4_ p6_ s7_ i8_) h
def spec_l04Stack_ks6 (S : SatT) (K : AVal → H → Prop) (X0 : Frame → H → Prop) : Kont := kSeq (cwp S tab spec_l04Stack_M (spec_l04Stack_M 0) (sub [1, 1, 0, 1, 0, 0, 1, 1] (bodyOf Try.f75)) (kSeq (fun fr h => X0 (mask (spec_l04Stack_M 0) fr) h) (kBlk 0 (spec_l04Stack_ks2 S K)))) (kSeq (fun fr h => X0 (mask (spec_l04Stack_M 0) fr) h) (kBlk 0 (spec_l04Stack_ks2 S K)))
def spec_l04Stack_e2 (p2_ : Pt) (p3_ : Pt) (p4_ : Pt) (p6_ : Pt) (s7_ : Sl) (i8_ : Int) (i9_ : Int) : Frame := [U, U, .ptr p2_, .ptr p3_, .ptr p4_, U, .ptr p6_, .sl s7_, .int .i64 i8_, .int .i64 i9_, U, U, U, U, U, U, U, U, U, U, U, U, U, U, U, U, U, U, U, U, U, U, U, U, U, U, U, U, U, U, U, U, U, U, U, U, U, U, U, U, U, U, U, U, U, U, U, U, U, U, U, U, U, U, U, U, U, U, U, U, U, U, U, U, U, U, U, U, U, U, U, U, U, U, U, U, U, U, U, U, U, U, U, U, U, U, U, U, U, U, U, U, U, U, U, U, U, U, U, U, U, U, U, U, U, U, U, U, U, U, U, U, U, U, U, U, U, U, U, U, U, U, U, U, U, U, U, U, U, U, U, U, U, U, U, U, U, U, U, U, U, U, U, U, U, U, U, U, U, U, U, U, U, U, U, U, U, U, U, U, U, U, U, U, U, U, U, U, U, U, U, U, U, U, U, U, U, U, U]
def spec_l04Stack_w2 (S : SatT) (K : AVal → H → Prop) (X0 : Frame → H → Prop) : (Frame → H → Prop) → Frame → H → Prop := fun X fr h => cwp S tab spec_l04Stack_M (spec_l04Stack_M 2) (sub [1, 1, 0, 1, 0, 0, 1, 0, 0, 1, 0, 0] (bodyOf Try.f75)) (kSeq (fun fr h => X (mask (spec_l04Stack_M 2) fr) h) (kBlk 2 (kBlk 1 (spec_l04Stack_ks6 S K X0)))) fr h
def spec_l04Stack_L2 (S : SatT) (K : AVal → H → Prop) (X0 : Frame → H → Prop) (p2_ : Pt) (p3_ : Pt) (p4_ : Pt) (p6_ : Pt) (s7_ : Sl) (i8_ : Int) (i9_ : Int) (h : H) : Prop := loopK (spec_l04Stack_w2 S K X0) (spec_l04Stack_e2 p2_ p3_ p4_ p6_ s7_ i8_ i9_) h
def spec_l04Stack_C1 (S : SatT) (K : AVal → H → Prop) (X0 : Frame → H → Prop) (p2_ : Pt) (p3_ : Pt) (p4_ : Pt) (p6_ : Pt) (s7_ : Sl) (i8_ : Int) (h : H) : Prop :=
 X0 (spec_l04Stack_e0 p2_ p3_ p4_ p6_ s7_ (w64 (i8_ + (1)))) h
def spec_l04Stack_C2 (S : SatT) (K : AVal → H → Prop) (X0 : Frame → H → Prop) (p2_ : Pt) (p3_ : Pt) (p4_ : Pt) (p6_ : Pt) (s7_ : Sl) (i8_ : Int) (h : H) : Prop :=
 spec_l04Stack_C1 S K X0 p2_ p3_ p4_ p6_ s7_ i8_ h
def spec_l04Stack_b2 (S : SatT) (K : AVal → H → Prop) (X0 : Frame → H → Prop) (X2 : Frame → H → Prop) (p2_ : Pt) (p3_ : Pt) (p4_ : Pt) (p6_ : Pt) (s7_ : Sl) (i8_ : Int) (i9_ : Int) (h : H) : Prop :=
 isPt p3_ (
 ldS (Pt.add p3_ 1) h fun s0 =>
 bif (decide (i9_ < (s0.len : Int))) then
 isPt p2_ (
 ldS (Pt.add p2_ 0) h fun s1 =>
 ixS s1 1 i8_ fun p2 =>
 ldS p2 h fun s3 =>
 ixS s3 1 (3) fun p4 =>
 ldI .i64 p4 h fun n5 =>
 isPt p3_ (
 ldS (Pt.add p3_ 1) h fun s6 =>
 ixS s6 4 i9_ fun p7 =>
 ixA p7 4 1 (1) fun p8 =>
 ldI .i64 p8 h fun n9 =>
 bif (n5 != n9) then
 X2 (spec_l04Stack_e2 p2_ p3_ p4_ p6_ s7_ i8_ (w64 (i9_ + (1)))) h
 else
 isPt p6_ (
 ldS (Pt.add p6_ 0) h fun s10 =>
 bif ((s10.len : Int) == (3000)) then
 ldA p6_ 1 h fun cs11 =>
 stN p4_ 1 cs11 h fun h12 =>
 ldA p4_ 1 h12 fun cs13 =>
 K (.tuple [.agg cs13, .bool false]) h12
 else
 isPt p2_ (
 ldS (Pt.add p2_ 0) h fun s14 =>
 ixS s14 1 i8_ fun p15 =>
 ldS p15 h fun s16 =>
 ixS s16 1 (0) fun p17 =>
 ldI .i64 p17 h fun n18 =>
 isPt p3_ (
 ldS (Pt.add p3_ 1) h fun s19 =>
 ixS s19 4 i9_ fun p20 =>
 ixA p20 4 1 (0) fun p21 =>
 ldI .i64 p21 h fun n22 =>
 isPt p2_ (
 ldS (Pt.add p2_ 0) h fun s23 =>
 ixS s23 1 i8_ fun p24 =>
 ldS p24 h fun s25 =>
 ixS s25 1 (1) fun p26 =>
 ldI .i64 p26 h fun n27 =>
 isPt p2_ (
 ldS (Pt.add p2_ 0) h fun s28 =>
 ixS s28 1 i8_ fun p29 =>
 ldS p29 h fun s30 =>
 ixS s30 1 (2) fun p31 =>
 ldI .i64 p31 h fun n32 =>
 isPt p3_ (
 ldS (Pt.add p3_ 1) h fun s33 =>
 ixS s33 4 i9_ fun p34 =>
 ixA p34 4 1 (2) fun p35 =>
 ldI .i64 p35 h fun n36 =>
 isPt p3_ (
 ldS (Pt.add p3_ 1) h fun s37 =>
 ixS s37 4 i9_ fun p38 =>
 ixA p38 4 1 (3) fun p39 =>
 ldI .i64 p39 h fun n40 =>
 newS 4 1 [.int .i64 (w64 ((w64 ((16) * n18)) + n22)), .int .i64 n27, .int .i64 (w64 ((w64 ((16) * n32)) + n36)), .int .i64 n40] h fun s41 h42 =>
 isPt p6_ (
 ldS (Pt.add p6_ 0) h42 fun s43 =>
 newS 1 1 [.sl s41] h42 fun s44 h45 =>
 app s43 s44 1 h45 fun s46 h47 =>
 isPt p6_ (
 st1 (Pt.add p6_ 0) (.sl s46) h47 fun h48 =>
 ixS s41 1 (0) fun p49 =>
 ldI .i64 p49 h48 fun n50 =>
 ixS s41 1 (2) fun p51 =>
 ldI .i64 p51 h48 fun n52 =>
 newS 2 1 [.int .i64 n50, .int .i64 n52] h48 fun s53 h54 =>
 app s7_ s53 1 h54 fun s55 h56 =>
 X2 (spec_l04Stack_e2 p2_ p3_ p4_ p6_ s55 i8_ (w64 (i9_ + (1)))) h56)))))))))))
 else
 spec_l04Stack_C2 S K X0 p2_ p3_ p4_ p6_ s7_ i8_ h)
theorem spec_l04Stack_link2 (S : SatT) (K : AVal → H → Prop) (X0 : Frame → H → Prop) (X2 : Frame → H → Prop) (p2_ : Pt) (p3_ : Pt) (p4_ : Pt) (p6_ : Pt) (s7_ : Sl) (i8_ : Int) (i9_ : Int) (h : H) : spec_l04Stack_w2 S K X0 X2 (spec_l04Stack_e2 p2_ p3_ p4_ p6_ s7_ i8_ i9_) h = spec_l04Stack_b2 S K X0 X2 p2_ p3_ p4_ p6_ s7_ i8_ i9_ h := by kernel_rfl
theorem spec_l04Stack_rule2 (S : SatT) (K : AVal → H → Prop) (X0 : Frame → H → Prop) (p2_ : Pt) (p3_ : Pt) (p4_ : Pt) (p6_ : Pt) (i8_ : Int) (I_ : Sl → Int → H → Prop) (m_ : Sl → Int → H → Nat)
    (hs : ∀ (X2 : Frame → H → Prop) (s7_ : Sl) (i9_ : Int) (h : H), I_ s7_ i9_ h → (∀ (s7_' : Sl) (i9_' : Int) (h' : H), I_ s7_' i9_' h' → m_ s7_' i9_' h' < m_ s7_ i9_ h → X2 (spec_l04Stack_e2 p2_ p3_ p4_ p6_ s7_' i8_ i9_') h') → spec_l04Stack_b2 S K X0 X2 p2_ p3_ p4_ p6_ s7_ i8_ i9_ h) (s7_ : Sl) (i9_ : Int) {h : H} (h0 : I_ s7_ i9_ h) : spec_l04Stack_L2 S K X0 p2_ p3_ p4_ p6_ s7_ i8_ i9_ h :=
  loop_rule (σ := (Sl) × (Int)) (fun s_ => spec_l04Stack_e2 p2_ p3_ p4_ p6_ (s_.1) i8_ (s_.2)) (fun s_ h => I_ (s_.1) (s_.2) h) (fun s_ h => m_ (s_.1) (s_.2) h)
    (fun X s_ h hi hx => (spec_l04Stack_link2 S K X0 X p2_ p3_ p4_ p6_ (s_.1) i8_ (s_.2) h).mpr (hs X (s_.1) (s_.2) h hi fun s7_' i9_' h' hi' hm' => hx (s7_', i9_') h' hi' hm')) (s7_, i9_) h0
theorem spec_l04Stack_unroll2 (S : SatT) (K : AVal → H → Prop) (X0 : Frame → H → Prop) (p2_ : Pt) (p3_ : Pt) (p4_ : Pt) (p6_ : Pt) (s7_ : Sl) (i8_ : Int) (i9_ : Int) (h : H) (hb : spec_l04Stack_b2 S K X0 (fun fr h => loopK (spec_l04Stack_w2 S K X0) fr h) p2_ p3_ p4_ p6_ s7_ i8_ i9_ h) : spec_l04Stack_L2 S K X0 p2_ p3_ p4_ p6_ s7_ i8_ i9_ h := loop_unroll ((spec_l04Stack_link2 S K X0 _ p2_ p3_ p4_ p6_ s7_ i8_ i9_ h).mpr hb)
def spec_l04Stack_ks20 (S : SatT) (K : AVal → H → Prop) : Kont := kSeq (cwp S tab spec_l04Stack_M [] (sub [1, 1, 1, 1, 1, 1] (bodyOf Try.f75)) (kFun tab (Try.f75).results.toList K)) (kFun tab (Try.f75).results.toList K)
def spec_l04Stack_e4 (p4_ : Pt) (p6_ : Pt) (s7_ : Sl) (s11_ : Sl) (i12_ : Int) : Frame := [U, U, U, U, .ptr p4_, U, .ptr p6_, .sl s7_, U, U, U, .sl s11_, .int .i64 i12_, U, U, U, U, U, U, U, U, U, U, U, U, U, U, U, U, U, U, U, U, U, U, U, U, U, U, U, U, U, U, U, U, U, U, U, U, U, U, U, U, U, U, U, U, U, U, U, U, U, U, U, U, U, U, U, U, U, U, U, U, U, U, U, U, U, U, U, U, U, U, U, U, U, U, U, U, U, U, U, U, U, U, U, U, U, U, U, U, U, U, U, U, U, U, U, U, U, U, U, U, U, U, U, U, U, U, U, U, U, U, U, U, U, U, U, U, U, U, U, U, U, U, U, U, U, U, U, U, U, U, U, U, U, U, U, U, U, U, U, U, U, U, U, U, U, U, U, U, U, U, U, U, U, U, U, U, U, U, U, U, U, U, U, U, U, U, U, U, U, U, U, U, U, U, U, U]
def spec_l04Stack_w4 (S : SatT) (K : AVal → H → Prop) : (Frame → H → Prop) → Frame → H → Prop := fun X fr h => cwp S tab spec_l04Stack_M (spec_l04Stack_M 4) (sub [1, 1, 1, 1, 1, 0, 1, 0, 0] (bodyOf Try.f75)) (kSeq (fun fr h => X (mask (spec_l04Stack_M 4) fr) h) (kBlk 4 (spec_l04Stack_ks20 S K))) fr h
def spec_l04Stack_L4 (S : SatT) (K : AVal → H → Prop) (p4_ : Pt) (p6_ : Pt) (s7_ : Sl) (s11_ : Sl) (i12_ : Int) (h : H) : Prop := loopK (spec_l04Stack_w4 S K) (spec_l04Stack_e4 p4_ p6_ s7_ s11_ i12_) h
def spec_l04Stack_ks28 (S : SatT) (K : AVal → H → Prop) : Kont := kSeq (cwp S tab spec_l04Stack_M [] (sub [1, 1, 1, 1, 1, 1, 1, 1, 1] (bodyOf Try.f75)) (kFun tab (Try.f75).results.toList K)) (kFun tab (Try.f75).results.toList K)
def spec_l04Stack_e6 (p4_ : Pt) (p6_ : Pt) (s11_ : Sl) (i14_ : Int) : Frame := [U, U, U, U, .ptr p4_, U, .ptr p6_, U, U, U, U, .sl s11_, U, U, .int .i64 i14_, U, U, U, U, U, U, U, U, U, U, U, U, U, U, U, U, U, U, U, U, U, U, U, U, U, U, U, U, U, U, U, U, U, U, U, U, U, U, U, U, U, U, U, U, U, U, U, U, U, U, U, U, U, U, U, U, U, U, U, U, U, U, U, U, U, U, U, U, U, U, U, U, U, U, U, U, U, U, U, U, U, U, U, U, U, U, U, U, U, U, U, U, U, U, U, U, U, U, U, U, U, U, U, U, U, U, U, U, U, U, U, U, U, U, U, U, U, U, U, U, U, U, U, U, U, U, U, U, U, U, U, U, U, U, U, U, U, U, U, U, U, U, U, U, U, U, U, U, U, U, U, U, U, U, U, U, U, U, U, U, U, U, U, U, U, U, U, U, U, U, U, U, U, U]
def spec_l04Stack_w6 (S : SatT) (K : AVal → H → Prop) : (Frame → H → Prop) → Frame → H → Prop := fun X fr h => cwp S tab spec_l04Stack_M (spec_l04Stack_M 6) (sub [1, 1, 1, 1, 1, 1, 1, 1, 0, 1, 0, 0] (bodyOf Try.f75)) (kSeq (fun fr h => X (mask (spec_l04Stack_M 6) fr) h) (kBlk 6 (spec_l04Stack_ks28 S K))) fr h
def spec_l04Stack_L6 (S : SatT) (K : AVal → H → Prop) (p4_ : Pt) (p6_ : Pt) (s11_ : Sl) (i14_ : Int) (h : H) : Prop := loopK (spec_l04Stack_w6 S K) (spec_l04Stack_e6 p4_ p6_ s11_ i14_) h
def spec_l04Stack_C6 (S : SatT) (K : AVal → H → Prop) (p4_ : Pt) (p6_ : Pt) (h : H) : Prop :=
 ldA p6_ 1 h fun cs0 =>
 stN p4_ 1 cs0 h fun h1 =>
 ldA p4_ 1 h1 fun cs2 =>
 K (.tuple [.agg cs2, .bool true]) h1
def spec_l04Stack_b6 (S : SatT) (K : AVal → H → Prop) (X6 : Frame → H → Prop) (p4_ : Pt) (p6_ : Pt) (s11_ : Sl) (i14_ : Int) (h : H) : Prop :=
 bif (decide (i14_ < (s11_.len : Int))) then
 ixS s11_ 1 i14_ fun p0 =>
 ldI .i64 p0 h fun n1 =>
 nz (6) (
 nz (10000) (
 isPt p6_ (
 ldS (Pt.add p6_ 0) h fun s2 =>
 nz (6) (
 nz (6) (
 ixS s11_ 1 i14_ fun p3 =>
 ldI .i64 p3 h fun n4 =>
 nz (6) (
 nz (10000) (
 ixS s11_ 1 i14_ fun p5 =>
 ldI .i64 p5 h fun n6 =>
 nz (6) (
 newS 4 1 [.int .i64 (w64 (Int.tdiv (w64 (Int.tdiv (w64 (Int.tdiv n1 (6))) (10000))) (6))), .int .i64 (Int.tmod (w64 (Int.tdiv (w64 (Int.tdiv n1 (6))) (10000))) (6)), .int .i64 (Int.tmod (w64 (Int.tdiv n4 (6))) (10000)), .int .i64 (Int.tmod n6 (6))] h fun s7 h8 =>
(cell h8 (Pt.add p6_ 0) = cell h (Pt.add p6_ 0)) ∧ (
 newS 1 1 [.sl s7] h8 fun s9 h10 =>
(cell h10 (Pt.add p6_ 0) = cell h (Pt.add p6_ 0)) ∧ (
 app s2 s9 1 h10 fun s11 h12 =>
 isPt p6_ (
 st1 (Pt.add p6_ 0) (.sl s11) h12 fun h13 =>
 X6 (spec_l04Stack_e6 p4_ p6_ s11_ (w64 (i14_ + (1)))) h13)))))))))))
 else
 spec_l04Stack_C6 S K p4_ p6_ h
theorem spec_l04Stack_link6 (S : SatT) (K : AVal → H → Prop) (X6 : Frame → H → Prop) (p4_ : Pt) (p6_ : Pt) (s11_ : Sl) (i14_ : Int) (h : H) : spec_l04Stack_w6 S K X6 (spec_l04Stack_e6 p4_ p6_ s11_ i14_) h = spec_l04Stack_b6 S K X6 p4_ p6_ s11_ i14_ h := by kernel_rfl
theorem spec_l04Stack_rule6 (S : SatT) (K : AVal → H → Prop) (p4_ : Pt) (p6_ : Pt) (s11_ : Sl) (I_ : Int → H → Prop) (m_ : Int → H → Nat)
    (hs : ∀ (X6 : Frame → H → Prop) (i14_ : Int) (h : H), I_ i14_ h → (∀ (i14_' : Int) (h' : H), I_ i14_' h' → m_ i14_' h' < m_ i14_ h → X6 (spec_l04Stack_e6 p4_ p6_ s11_ i14_') h') → spec_l04Stack_b6 S K X6 p4_ p6_ s11_ i14_ h) (i14_ : Int) {h : H} (h0 : I_ i14_ h) : spec_l04Stack_L6 S K p4_ p6_ s11_ i14_ h :=
  loop_rule (σ := (Int)) (fun s_ => spec_l04Stack_e6 p4_ p6_ s11_ (s_)) (fun s_ h => I_ (s_) h) (fun s_ h => m_ (s_) h)
    (fun X s_ h hi hx => (spec_l04Stack_link6 S K X p4_ p6_ s11_ (s_) h).mpr (hs X (s_) h hi fun i14_' h' hi' hm' => hx (i14_') h' hi' hm')) (i14_) h0
theorem spec_l04Stack_unroll6 (S : SatT) (K : AVal → H → Prop) (p4_ : Pt) (p6_ : Pt) (s11_ : Sl) (i14_ : Int) (h : H) (hb : spec_l04Stack_b6 S K (fun fr h => loopK (spec_l04Stack_w6 S K) fr h) p4_ p6_ s11_ i14_ h) : spec_l04Stack_L6 S K p4_ p6_ s11_ i14_ h := loop_unroll ((spec_l04Stack_link6 S K _ p4_ p6_ s11_ i14_ h).mpr hb)
def spec_l04Stack_C4 (S : SatT) (K : AVal → H → Prop) (p4_ : Pt) (p6_ : Pt) (s11_ : Sl) (h : H) : Prop :=
 callS S i_spec_l04Sorted [.sl s11_] h fun s1 h0 =>
 newS 0 1 [] h0 fun s2 h3 =>
 isPt p6_ (
 st1 (Pt.add p6_ 0) (.sl s2) h3 fun h4 =>
 spec_l04Stack_L6 S K p4_ p6_ s1 (0) h4)
def spec_l04Stack_b4 (S : SatT) (K : AVal → H → Prop) (X4 : Frame → H → Prop) (p4_ : Pt) (p6_ : Pt) (s7_ : Sl) (s11_ : Sl) (i12_ : Int) (h : H) : Prop :=
 isPt p6_ (
 ldS (Pt.add p6_ 0) h fun s0 =>
 bif (decide (i12_ < (s0.len : Int))) then
 isPt p6_ (
 ldS (Pt.add p6_ 0) h fun s1 =>
 ixS s1 1 i12_ fun p2 =>
 ldS p2 h fun s3 =>
 ixS s3 1 (0) fun p4 =>
 ldI .i64 p4 h fun n5 =>
 callI S .i64 i_spec_l04Find [.sl s7_, .int .i64 n5] h fun n7 h6 =>
 ixS s3 1 (1) fun p8 =>
 ldI .i64 p8 h6 fun n9 =>
(cell h p8 = cell h6 p8) ∧ (
 ixS s3 1 (2) fun p10 =>
 ldI .i64 p10 h6 fun n11 =>
(cell h p10 = cell h6 p10) ∧ (
 callI S .i64 i_spec_l04Find [.sl s7_, .int .i64 n11] h6 fun n13 h12 =>
(cell h12 p8 = cell h6 p8) ∧ (
 ixS s3 1 (3) fun p14 =>
 ldI .i64 p14 h12 fun n15 =>
(cell h6 p14 = cell h12 p14) ∧ (
(cell h p14 = cell h12 p14) ∧ (
 newS 1 1 [.int .i64 (w64 ((w64 ((w64 ((w64 ((w64 ((w64 (n7 * (6))) + n9)) * (10000))) + n13)) * (6))) + n15))] h12 fun s16 h17 =>
 app s11_ s16 1 h17 fun s18 h19 =>
 X4 (spec_l04Stack_e4 p4_ p6_ s7_ s18 (w64 (i12_ + (1)))) h19))))))
 else
 spec_l04Stack_C4 S K p4_ p6_ s11_ h)
theorem spec_l04Stack_link4 (S : SatT) (K : AVal → H → Prop) (X4 : Frame → H → Prop) (p4_ : Pt) (p6_ : Pt) (s7_ : Sl) (s11_ : Sl) (i12_ : Int) (h : H) : spec_l04Stack_w4 S K X4 (spec_l04Stack_e4 p4_ p6_ s7_ s11_ i12_) h = spec_l04Stack_b4 S K X4 p4_ p6_ s7_ s11_ i12_ h := by kernel_rfl
theorem spec_l04Stack_rule4 (S : SatT) (K : AVal → H → Prop) (p4_ : Pt) (p6_ : Pt) (s7_ : Sl) (I_ : Sl → Int → H → Prop) (m_ : Sl → Int → H → Nat)
    (hs : ∀ (X4 : Frame → H → Prop) (s11_ : Sl) (i12_ : Int) (h : H), I_ s11_ i12_ h → (∀ (s11_' : Sl) (i12_' : Int) (h' : H), I_ s11_' i12_' h' → m_ s11_' i12_' h' < m_ s11_ i12_ h → X4 (spec_l04Stack_e4 p4_ p6_ s7_ s11_' i12_') h') → spec_l04Stack_b4 S K X4 p4_ p6_ s7_ s11_ i12_ h) (s11_ : Sl) (i12_ : Int) {h : H} (h0 : I_ s11_ i12_ h) : spec_l04Stack_L4 S K p4_ p6_ s7_ s11_ i12_ h :=
  loop_rule (σ := (Sl) × (Int)) (fun s_ => spec_l04Stack_e4 p4_ p6_ s7_ (s_.1) (s_.2)) (fun s_ h => I_ (s_.1) (s_.2) h) (fun s_ h => m_ (s_.1) (s_.2) h)
    (fun X s_ h hi hx => (spec_l04Stack_link4 S K X p4_ p6_ s7_ (s_.1) (s_.2) h).mpr (hs X (s_.1) (s_.2) h hi fun s11_' i12_' h' hi' hm' => hx (s11_', i12_') h' hi' hm')) (s11_, i12_) h0
theorem spec_l04Stack_unroll4 (S : SatT) (K : AVal → H → Prop) (p4_ : Pt) (p6_ : Pt) (s7_ : Sl) (s11_ : Sl) (i12_ : Int) (h : H) (hb : spec_l04Stack_b4 S K (fun fr h => loopK (spec_l04Stack_w4 S K) fr h) p4_ p6_ s7_ s11_ i12_ h) : spec_l04Stack_L4 S K p4_ p6_ s7_ s11_ i12_ h := loop_unroll ((spec_l04Stack_link4 S K _ p4_ p6_ s7_ s11_ i12_ h).mpr hb)
def spec_l04Stack_C0 (S : SatT) (K : AVal → H → Prop) (p4_ : Pt) (p6_ : Pt) (s7_ : Sl) (h : H) : Prop :=
 callS S i_spec_l04Sorted [.sl s7_] h fun s1 h0 =>
 newS 0 1 [] h0 fun s2 h3 =>
 spec_l04Stack_L4 S K p4_ p6_ s1 s2 (0) h3
def spec_l04Stack_b0 (S : SatT) (K : AVal → H → Prop) (X0 : Frame → H → Prop) (p2_ : Pt) (p3_ : Pt) (p4_ : Pt) (p6_ : Pt) (s7_ : Sl) (i8_ : Int) (h : H) : Prop :=
 isPt p2_ (
 ldS (Pt.add p2_ 0) h fun s0 =>
 bif (decide (i8_ < (s0.len : Int))) then
 spec_l04Stack_L2 S K X0 p2_ p3_ p4_ p6_ s7_ i8_ (0) h
 else
 spec_l04Stack_C0 S K p4_ p6_ s7_ h)
theorem spec_l04Stack_link0 (S : SatT) (K : AVal → H → Prop) (X0 : Frame → H → Prop) (p2_ : Pt) (p3_ : Pt) (p4_ : Pt) (p6_ : Pt) (s7_ : Sl) (i8_ : Int) (h : H) : spec_l04Stack_w0 S K X0 (spec_l04Stack_e0 p2_ p3_ p4_ p6_ s7_ i8_) h = spec_l04Stack_b0 S K X0 p2_ p3_ p4_ p6_ s7_ i8_ h := by kernel_rfl
theorem spec_l04Stack_rule0 (S : SatT) (K : AVal → H → Prop) (p2_ : Pt) (p3_ : Pt) (p4_ : Pt) (p6_ : Pt) (I_ : Sl → Int → H → Prop) (m_ : Sl → Int → H → Nat)
    (hs : ∀ (X0 : Frame → H → Prop) (s7_ : Sl) (i8_ : Int) (h : H), I_ s7_ i8_ h → (∀ (s7_' : Sl) (i8_' : Int) (h' : H), I_ s7_' i8_' h' → m_ s7_' i8_' h' < m_ s7_ i8_ h → X0 (spec_l04Stack_e0 p2_ p3_ p4_ p6_ s7_' i8_') h') → spec_l04Stack_b0 S K X0 p2_ p3_ p4_ p6_ s7_ i8_ h) (s7_ : Sl) (i8_ : Int) {h : H} (h0 : I_ s7_ i8_ h) : spec_l04Stack_L0 S K p2_ p3_ p4_ p6_ s7_ i8_ h :=
  loop_rule (σ := (Sl) × (Int)) (fun s_ => spec_l04Stack_e0 p2_ p3_ p4_ p6_ (s_.1) (s_.2)) (fun s_ h => I_ (s_.1) (s_.2) h) (fun s_ h => m_ (s_.1) (s_.2) h)
    (fun X s_ h hi hx => (spec_l04Stack_link0 S K X p2_ p3_ p4_ p6_ (s_.1) (s_.2) h).mpr (hs X (s_.1) (s_.2) h hi fun s7_' i8_' h' hi' hm' => hx (s7_', i8_') h' hi' hm')) (s7_, i8_) h0
theorem spec_l04Stack_unroll0 (S : SatT) (K : AVal → H → Prop) (p2_ : Pt) (p3_ : Pt) (p4_ : Pt) (p6_ : Pt) (s7_ : Sl) (i8_ : Int) (h : H) (hb : spec_l04Stack_b0 S K (fun fr h => loopK (spec_l04Stack_w0 S K) fr h) p2_ p3_ p4_ p6_ s7_ i8_ h) : spec_l04Stack_L0 S K p2_ p3_ p4_ p6_ s7_ i8_ h := loop_unroll ((spec_l04Stack_link0 S K _ p2_ p3_ p4_ p6_ s7_ i8_ h).mpr hb)
def spec_l04Stack_main (S : SatT) (K : AVal → H → Prop) (x0 : List AVal) (x1 : List AVal) (h : H) : Prop :=
 newK 1 x0 h fun p0 h1 =>
 newK 2 x1 h1 fun p2 h3 =>
 newO [.sl Sl.nil] h3 fun p4 h5 =>
 newS 0 1 [] h5 fun s6 h7 =>
 newS 0 1 [] h7 fun s8 h9 =>
 newO [.sl Sl.nil] h9 fun p10 h11 =>
 stN p10 1 [.sl s6] h11 fun h12 =>
 spec_l04Stack_L0 S K p0 p2 p4 p10 s8 (0) h12
theorem spec_l04Stack_main_link (S : SatT) (K : AVal → H → Prop) (x0 : List AVal) (x1 : List AVal) (h : H) : cwp S tab spec_l04Stack_M [] (bodyOf Try.f75) (kFun tab Try.f75.results.toList K) (fr0 Try.f75 [.agg x0, .agg x1]) h = spec_l04Stack_main S K x0 x1 h := by kernel_rfl
theorem spec_l04Stack_call (x0 : List AVal) (x1 : List AVal) (h : H) (K : AVal → H → Prop) (hm : spec_l04Stack_main (Sat Try.prog) (fun v h' => K v h') x0 x1 h) : callV (Sat Try.prog) i_spec_l04Stack [.agg x0, .agg x1] h K := by
  have := Sat.ex tok mixed spec_l04Stack_M Try.func75 (c := bodyOf Try.f75) (by kernel_rfl) (calls_of Try.func75 (c := bodyOf Try.f75) (by kernel_rfl) (by decide)) ((spec_l04Stack_main_link _ _ x0 x1 h).mpr hm)
  exact this

/-! ### loop.example/g01354/impl.stackTiles -/
def impl_stackTiles_M : Nat → List Nat := fun i => bif i == 2 then [0, 1, 6, 7, 10, 33, 34, 35] else bif i == 0 then [0, 1, 6, 7, 19, 20, 21] else []
def impl_stackTiles_ks2 (S : SatT) (K : AVal → H → Prop) : Kont := kSeq (cwp S tab impl_stackTiles_M [] (sub [1, 1, 1] (bodyOf Try.f41)) (kFun tab (Try.f41).results.toList K)) (kFun tab (Try.f41).results.toList K)
def impl_stackTiles_e0 (s0_ : Sl) (s1_ : Sl) (f6_ : AVal) (s7_ : Sl) (s19_ : Sl) (i20_ : Int) (i21_ : Int) : Frame := [.sl s0_, .sl s1_, U, U, U, U, f6_, .sl s7_, U, U, U, U, U, U, U, U, U, U, U, .sl s19_, .int .i64 i20_, .int .i64 i21_, U, U, U, U, U, U, U, U, U, U, U, U, U, U, U, U, U, U, U, U, U, U, U, U, U, U, U, U, U, U, U, U, U, U, U, U, U, U, U, U, U, U, U, U, U, U, U, U, U]
def impl_stackTiles_w0 (S : SatT) (K : AVal → H → Prop) : (Frame → H → Prop) → Frame → H → Prop := fun X fr h => cwp S tab impl_stackTiles_M (impl_stackTiles_M 0) (sub [1, 1, 0, 1, 0, 0] (bodyOf Try.f41)) (kSeq (fun fr h => X (mask (impl_stackTiles_M 0) fr) h) (kBlk 0 (impl_stackTiles_ks2 S K))) fr h
def impl_stackTiles_L0 (S : SatT) (K : AVal → H → Prop) (s0_ : Sl) (s1_ : Sl) (f6_ : AVal) (s7_ : Sl) (s19_ : Sl) (i20_ : Int) (i21_ : Int) (h : H) : Prop := loopK (impl_stackTiles_w0 S K) (impl_stackTiles_e0 s0_ s1_ f6_ s7_ s19_ i20_ i21_) h
def impl_stackTiles_ks9 (S : SatT) (K : AVal → H → Prop) : Kont := kSeq (cwp S tab impl_stackTiles_M [] (sub [1, 1, 1, 1, 1] (bodyOf Try.f41)) (kFun tab (Try.f41).results.toList K)) (kFun tab (Try.f41).results.toList K)
def impl_stackTiles_e2 (s0_ : Sl) (s1_ : Sl) (f6_ : AVal) (s7_ : Sl) (s10_ : Sl) (s33_ : Sl) (i34_ : Int) (i35_ : Int) : Frame := [.sl s0_, .sl s1_, U, U, U, U, f6_, .sl s7_, U, U, .sl s10_, U, U, U, U, U, U, U, U, U, U, U, U, U, U, U, U, U, U, U, U, U, U, .sl s33_, .int .i64 i34_, .int .i64 i35_, U, U, U, U, U, U, U, U, U, U, U, U, U, U, U, U, U, U, U, U, U, U, U, U, U, U, U, U, U, U, U, U, U, U, U]
def impl_stackTiles_w2 (S : SatT) (K : AVal → H → Prop) : (Frame → H → Prop) → Frame → H → Prop := fun X fr h => cwp S tab impl_stackTiles_M (impl_stackTiles_M 2) (sub [1, 1, 1, 1, 0, 1, 0, 0] (bodyOf Try.f41)) (kSeq (fun fr h => X (mask (impl_stackTiles_M 2) fr) h) (kBlk 2 (impl_stackTiles_ks9 S K))) fr h
def impl_stackTiles_L2 (S : SatT) (K : AVal → H → Prop) (s0_ : Sl) (s1_ : Sl) (f6_ : AVal) (s7_ : Sl) (s10_ : Sl) (s33_ : Sl) (i34_ : Int) (i35_ : Int) (h : H) : Prop := loopK (impl_stackTiles_w2 S K) (impl_stackTiles_e2 s0_ s1_ f6_ s7_ s10_ s33_ i34_ i35_) h
def impl_stackTiles_C2 (S : SatT) (K : AVal → H → Prop) (s7_ : Sl) (s10_ : Sl) (h : H) : Prop :=
 K (.tuple [.sl s10_, .int .i64 (s7_.len : Int)]) h
def impl_stackTiles_b2 (S : SatT) (K : AVal → H → Prop) (X2 : Frame → H → Prop) (s0_ : Sl) (s1_ : Sl) (f6_ : AVal) (s7_ : Sl) (s10_ : Sl) (s33_ : Sl) (i34_ : Int) (i35_ : Int) (h : H) : Prop :=
 bif (decide (i35_ < i34_)) then
 ixS s33_ 2 i35_ fun p0 =>
 ldA p0 2 h fun cs1 =>
 newO [.int .i64 (0), .int .i64 (0)] h fun p2 h3 =>
 stN p2 2 cs1 h3 fun h4 =>
 slotK 14 h4 fun h5 =>
 ixA p2 2 1 (0) fun p6 =>
 ldI .i64 p6 h5 fun n7 =>
 ixS s0_ 4 n7 fun p8 =>
 ldA p8 4 h5 fun cs9 =>
 ixA p2 2 1 (1) fun p10 =>
 ldI .i64 p10 h5 fun n11 =>
 ixS s1_ 4 n11 fun p12 =>
 ldA p12 4 h5 fun cs13 =>
 newOat [.int .i64 (0), .int .i64 (0), .int .i64 (0), .int .i64 (0)] h5 (h4.length + 10) fun p14 h15 =>
(range h15 p12.o p12.n p12.off 4 = range h5 p12.o p12.n p12.off 4) ∧ (
(cell h15 p10 = cell h5 p10) ∧ (
(range h15 p8.o p8.n p8.off 4 = range h5 p8.o p8.n p8.off 4) ∧ (
(cell h15 p6 = cell h5 p6) ∧ (
 newOat [.int .i64 (0), .int .i64 (0), .int .i64 (0), .int .i64 (0)] h15 (h4.length + 11) fun p16 h17 =>
(range h17 p12.o p12.n p12.off 4 = range h5 p12.o p12.n p12.off 4) ∧ (
(cell h17 p10 = cell h5 p10) ∧ (
(range h17 p8.o p8.n p8.off 4 = range h5 p8.o p8.n p8.off 4) ∧ (
(cell h17 p6 = cell h5 p6) ∧ (
 stN p14 4 cs9 h17 fun h18 =>
(range h18 p12.o p12.n p12.off 4 = range h5 p12.o p12.n p12.off 4) ∧ (
(cell h18 p10 = cell h5 p10) ∧ (
 stN p16 4 cs13 h18 fun h19 =>
 ldA p14 4 h19 fun cs20 =>
 ldA p16 4 h19 fun cs21 =>
 callA S i_impl_pairOf [.agg cs20, .agg cs21, .int .i64 (0)] h19 fun cs23 h22 =>
 keyA 2 cs23 (
 mgetI .i64 f6_ (.agg cs23) h22 fun n24 =>
 ixA p14 4 1 (1) fun p25 =>
 ldI .i64 p25 h22 fun n26 =>
(cell h19 p25 = cell h22 p25) ∧ (
 ldA p14 4 h22 fun cs27 =>
(range h19 p14.o p14.n p14.off 4 = range h22 p14.o p14.n p14.off 4) ∧ (
 ldA p16 4 h22 fun cs28 =>
(range h19 p16.o p16.n p16.off 4 = range h22 p16.o p16.n p16.off 4) ∧ (
 callA S i_impl_pairOf [.agg cs27, .agg cs28, .int .i64 (2)] h22 fun cs30 h29 =>
(cell h29 p25 = cell h22 p25) ∧ (
 sameM f6_ h22 h29 ∧ (
 keyA 2 cs30 (
 mgetI .i64 f6_ (.agg cs30) h29 fun n31 =>
 ixA p16 4 1 (3) fun p32 =>
 ldI .i64 p32 h29 fun n33 =>
(cell h22 p32 = cell h29 p32) ∧ (
(cell h19 p32 = cell h29 p32) ∧ (
 lenA [.int .i64 n24, .int .i64 n26, .int .i64 n31, .int .i64 n33] 4 (
 newS 1 4 (spl [.int .i64 (0), .int .i64 (0), .int .i64 (0), .int .i64 (0)] 0 4 [.int .i64 n24, .int .i64 n26, .int .i64 n31, .int .i64 n33]) h29 fun s34 h35 =>
 app s10_ s34 4 h35 fun s36 h37 =>
 X2 (impl_stackTiles_e2 s0_ s1_ f6_ s7_ s36 s33_ i34_ (w64 (i35_ + (1)))) h37))))))))))))))))))))
 else
 impl_stackTiles_C2 S K s7_ s10_ h
theorem impl_stackTiles_link2 (S : SatT) (K : AVal → H → Prop) (X2 : Frame → H → Prop) (s0_ : Sl) (s1_ : Sl) (f6_ : AVal) (s7_ : Sl) (s10_ : Sl) (s33_ : Sl) (i34_ : Int) (i35_ : Int) (h : H) : impl_stackTiles_w2 S K X2 (impl_stackTiles_e2 s0_ s1_ f6_ s7_ s10_ s33_ i34_ i35_) h = impl_stackTiles_b2 S K X2 s0_ s1_ f6_ s7_ s10_ s33_ i34_ i35_ h := by kernel_rfl
theorem impl_stackTiles_rule2 (S : SatT) (K : AVal → H → Prop) (s0_ : Sl) (s1_ : Sl) (f6_ : AVal) (s7_ : Sl) (s33_ : Sl) (i34_ : Int) (I_ : Sl → Int → H → Prop) (m_ : Sl → Int → H → Nat)
    (hs : ∀ (X2 : Frame → H → Prop) (s10_ : Sl) (i35_ : Int) (h : H), I_ s10_ i35_ h → (∀ (s10_' : Sl) (i35_' : Int) (h' : H), I_ s10_' i35_' h' → m_ s10_' i35_' h' < m_ s10_ i35_ h → X2 (impl_stackTiles_e2 s0_ s1_ f6_ s7_ s10_' s33_ i34_ i35_') h') → impl_stackTiles_b2 S K X2 s0_ s1_ f6_ s7_ s10_ s33_ i34_ i35_ h) (s10_ : Sl) (i35_ : Int) {h : H} (h0 : I_ s10_ i35_ h) : impl_stackTiles_L2 S K s0_ s1_ f6_ s7_ s10_ s33_ i34_ i35_ h :=
  loop_rule (σ := (Sl) × (Int)) (fun s_ => impl_stackTiles_e2 s0_ s1_ f6_ s7_ (s_.1) s33_ i34_ (s_.2)) (fun s_ h => I_ (s_.1) (s_.2) h) (fun s_ h => m_ (s_.1) (s_.2) h)
    (fun X s_ h hi hx => (impl_stackTiles_link2 S K X s0_ s1_ f6_ s7_ (s_.1) s33_ i34_ (s_.2) h).mpr (hs X (s_.1) (s_.2) h hi fun s10_' i35_' h' hi' hm' => hx (s10_', i35_') h' hi' hm')) (s10_, i35_) h0
theorem impl_stackTiles_unroll2 (S : SatT) (K : AVal → H → Prop) (s0_ : Sl) (s1_ : Sl) (f6_ : AVal) (s7_ : Sl) (s10_ : Sl) (s33_ : Sl) (i34_ : Int) (i35_ : Int) (h : H) (hb : impl_stackTiles_b2 S K (fun fr h => loopK (impl_stackTiles_w2 S K) fr h) s0_ s1_ f6_ s7_ s10_ s33_ i34_ i35_ h) : impl_stackTiles_L2 S K s0_ s1_ f6_ s7_ s10_ s33_ i34_ i35_ h := loop_unroll ((impl_stackTiles_link2 S K _ s0_ s1_ f6_ s7_ s10_ s33_ i34_ i35_ h).mpr hb)
def impl_stackTiles_C0 (S : SatT) (K : AVal → H → Prop) (s0_ : Sl) (s1_ : Sl) (f6_ : AVal) (s7_ : Sl) (h : H) : Prop :=
 newS 0 4 [] h fun s0 h1 =>
 callS S i_impl_stacked [.sl s0_, .sl s1_] h1 fun s3 h2 =>
 impl_stackTiles_L2 S K s0_ s1_ f6_ s7_ s0 s3 (s3.len : Int) (0) h2
def impl_stackTiles_b0 (S : SatT) (K : AVal → H → Prop) (X0 : Frame → H → Prop) (s0_ : Sl) (s1_ : Sl) (f6_ : AVal) (s7_ : Sl) (s19_ : Sl) (i20_ : Int) (i21_ : Int) (h : H) : Prop :=
 bif (decide (i21_ < i20_)) then
 ixS s19_ 2 i21_ fun p0 =>
 ldA p0 2 h fun cs1 =>
 newO [.int .i64 (0), .int .i64 (0)] h fun p2 h3 =>
 stN p2 2 cs1 h3 fun h4 =>
 ldA p2 2 h4 fun cs5 =>
 keyA 2 cs5 (
 mput f6_ (.agg cs5) (.int .i64 i21_) h4 fun h6 =>
 X0 (impl_stackTiles_e0 s0_ s1_ f6_ s7_ s19_ i20_ (w64 (i21_ + (1)))) h6)
 else
 impl_stackTiles_C0 S K s0_ s1_ f6_ s7_ h
theorem impl_stackTiles_link0 (S : SatT) (K : AVal → H → Prop) (X0 : Frame → H → Prop) (s0_ : Sl) (s1_ : Sl) (f6_ : AVal) (s7_ : Sl) (s19_ : Sl) (i20_ : Int) (i21_ : Int) (h : H) : impl_stackTiles_w0 S K X0 (impl_stackTiles_e0 s0_ s1_ f6_ s7_ s19_ i20_ i21_) h = impl_stackTiles_b0 S K X0 s0_ s1_ f6_ s7_ s19_ i20_ i21_ h := by kernel_rfl
theorem impl_stackTiles_rule0 (S : SatT) (K : AVal → H → Prop) (s0_ : Sl) (s1_ : Sl) (f6_ : AVal) (s7_ : Sl) (s19_ : Sl) (i20_ : Int) (I_ : Int → H → Prop) (m_ : Int → H → Nat)
    (hs : ∀ (X0 : Frame → H → Prop) (i21_ : Int) (h : H), I_ i21_ h → (∀ (i21_' : Int) (h' : H), I_ i21_' h' → m_ i21_' h' < m_ i21_ h → X0 (impl_stackTiles_e0 s0_ s1_ f6_ s7_ s19_ i20_ i21_') h') → impl_stackTiles_b0 S K X0 s0_ s1_ f6_ s7_ s19_ i20_ i21_ h) (i21_ : Int) {h : H} (h0 : I_ i21_ h) : impl_stackTiles_L0 S K s0_ s1_ f6_ s7_ s19_ i20_ i21_ h :=
  loop_rule (σ := (Int)) (fun s_ => impl_stackTiles_e0 s0_ s1_ f6_ s7_ s19_ i20_ (s_)) (fun s_ h => I_ (s_) h) (fun s_ h => m_ (s_) h)
    (fun X s_ h hi hx => (impl_stackTiles_link0 S K X s0_ s1_ f6_ s7_ s19_ i20_ (s_) h).mpr (hs X (s_) h hi fun i21_' h' hi' hm' => hx (i21_') h' hi' hm')) (i21_) h0
theorem impl_stackTiles_unroll0 (S : SatT) (K : AVal → H → Prop) (s0_ : Sl) (s1_ : Sl) (f6_ : AVal) (s7_ : Sl) (s19_ : Sl) (i20_ : Int) (i21_ : Int) (h : H) (hb : impl_stackTiles_b0 S K (fun fr h => loopK (impl_stackTiles_w0 S K) fr h) s0_ s1_ f6_ s7_ s19_ i20_ i21_ h) : impl_stackTiles_L0 S K s0_ s1_ f6_ s7_ s19_ i20_ i21_ h := loop_unroll ((impl_stackTiles_link0 S K _ s0_ s1_ f6_ s7_ s19_ i20_ i21_ h).mpr hb)
def impl_stackTiles_main (S : SatT) (K : AVal → H → Prop) (x0 : Sl) (x1 : Sl) (h : H) : Prop :=
 newM h fun v0 h1 =>
 callS S i_impl_pairs [.sl x0, .sl x1] h1 fun s3 h2 =>
 impl_stackTiles_L0 S K x0 x1 v0 s3 s3 (s3.len : Int) (0) h2
theorem impl_stackTiles_main_link (S : SatT) (K : AVal → H → Prop) (x0 : Sl) (x1 : Sl) (h : H) : cwp S tab impl_stackTiles_M [] (bodyOf Try.f41) (kFun tab Try.f41.results.toList K) (fr0 Try.f41 [.sl x0, .sl x1]) h = impl_stackTiles_main S K x0 x1 h := by kernel_rfl
theorem impl_stackTiles_call (x0 : Sl) (x1 : Sl) (h : H) (K : AVal → H → Prop) (hm : impl_stackTiles_main (Sat Try.prog) (fun v h' => K v h') x0 x1 h) : callV (Sat Try.prog) i_impl_stackTiles [.sl x0, .sl x1] h K := by
  have := Sat.ex tok mixed impl_stackTiles_M Try.func41 (c := bodyOf Try.f41) (by kernel_rfl) (calls_of Try.func41 (c := bodyOf Try.f41) (by kernel_rfl) (by decide)) ((impl_stackTiles_main_link _ _ x0 x1 h).mpr hm)
  exact this

/-! ### loop.example/g01354/impl.pairs -/
def impl_pairs_M : Nat → List Nat := fun i => bif i == 2 then [0, 1, 5, 6, 8, 16, 17, 18, 22, 23] else bif i == 0 then [0, 1, 5, 6, 16, 17, 18] else []
def impl_pairs_ks2 (S : SatT) (K : AVal → H → Prop) : Kont := kSeq (cwp S tab impl_pairs_M [] (sub [1, 1, 1] (bodyOf Try.f70)) (kFun tab (Try.f70).results.toList K)) (kFun tab (Try.f70).results.toList K)
def impl_pairs_e0 (s0_ : Sl) (s1_ : Sl) (f5_ : AVal) (s6_ : Sl) (s16_ : Sl) (i17_ : Int) (i18_ : Int) : Frame := [.sl s0_, .sl s1_, U, U, U, f5_, .sl s6_, U, U, U, U, U, U, U, U, U, .sl s16_, .int .i64 i17_, .int .i64 i18_, U, U, U, U, U, U, U, U, U, U, U, U, U, U, U, U, U, U, U, U, U, U, U, U, U, U, U, U, U, U, U, U, U, U]
def impl_pairs_w0 (S : SatT) (K : AVal → H → Prop) : (Frame → H → Prop) → Frame → H → Prop := fun X fr h => cwp S tab impl_pairs_M (impl_pairs_M 0) (sub [1, 1, 0, 1, 0, 0] (bodyOf Try.f70)) (kSeq (fun fr h => X (mask (impl_pairs_M 0) fr) h) (kBlk 0 (impl_pairs_ks2 S K))) fr h
def impl_pairs_L0 (S : SatT) (K : AVal → H → Prop) (s0_ : Sl) (s1_ : Sl) (f5_ : AVal) (s6_ : Sl) (s16_ : Sl) (i17_ : Int) (i18_ : Int) (h : H) : Prop := loopK (impl_pairs_w0 S K) (impl_pairs_e0 s0_ s1_ f5_ s6_ s16_ i17_ i18_) h
def impl_pairs_ks6 (S : SatT) (K : AVal → H → Prop) (X0 : Frame → H → Prop) : Kont := kSeq (cwp S tab impl_pairs_M (impl_pairs_M 0) (sub [1, 1, 0, 1, 0, 0, 1, 1, 1] (bodyOf Try.f70)) (kSeq (fun fr h => X0 (mask (impl_pairs_M 0) fr) h) (kBlk 0 (impl_pairs_ks2 S K)))) (kSeq (fun fr h => X0 (mask (impl_pairs_M 0) fr) h) (kBlk 0 (impl_pairs_ks2 S K)))
def impl_pairs_e2 (s0_ : Sl) (s1_ : Sl) (f5_ : AVal) (s6_ : Sl) (p8_ : Pt) (s16_ : Sl) (i17_ : Int) (i18_ : Int) (a22_ : List AVal) (i23_ : Int) : Frame := [.sl s0_, .sl s1_, U, U, U, f5_, .sl s6_, U, .ptr p8_, U, U, U, U, U, U, U, .sl s16_, .int .i64 i17_, .int .i64 i18_, U, U, U, .agg a22_, .int .i64 i23_, U, U, U, U, U, U, U, U, U, U, U, U, U, U, U, U, U, U, U, U, U, U, U, U, U, U, U, U, U]
def impl_pairs_w2 (S : SatT) (K : AVal → H → Prop) (X0 : Frame → H → Prop) : (Frame → H → Prop) → Frame → H → Prop := fun X fr h => cwp S tab impl_pairs_M (impl_pairs_M 2) (sub [1, 1, 0, 1, 0, 0, 1, 1, 0, 0, 1, 1, 0, 0] (bodyOf Try.f70)) (kSeq (fun fr h => X (mask (impl_pairs_M 2) fr) h) (kBlk 2 (kBlk 1 (impl_pairs_ks6 S K X0)))) fr h
def impl_pairs_L2 (S : SatT) (K : AVal → H → Prop) (X0 : Frame → H → Prop) (s0_ : Sl) (s1_ : Sl) (f5_ : AVal) (s6_ : Sl) (p8_ : Pt) (s16_ : Sl) (i17_ : Int) (i18_ : Int) (a22_ : List AVal) (i23_ : Int) (h : H) : Prop := loopK (impl_pairs_w2 S K X0) (impl_pairs_e2 s0_ s1_ f5_ s6_ p8_ s16_ i17_ i18_ a22_ i23_) h
def impl_pairs_C1 (S : SatT) (K : AVal → H → Prop) (X0 : Frame → H → Prop) (s0_ : Sl) (s1_ : Sl) (f5_ : AVal) (s6_ : Sl) (s16_ : Sl) (i17_ : Int) (i18_ : Int) (h : H) : Prop :=
 X0 (impl_pairs_e0 s0_ s1_ f5_ s6_ s16_ i17_ (w64 (i18_ + (1)))) h
def impl_pairs_C2 (S : SatT) (K : AVal → H → Prop) (X0 : Frame → H → Prop) (s0_ : Sl) (s1_ : Sl) (f5_ : AVal) (s6_ : Sl) (s16_ : Sl) (i17_ : Int) (i18_ : Int) (h : H) : Prop :=
 impl_pairs_C1 S K X0 s0_ s1_ f5_ s6_ s16_ i17_ i18_ h
def impl_pairs_b2 (S : SatT) (K : AVal → H → Prop) (X0 : Frame → H → Prop) (X2 : Frame → H → Prop) (s0_ : Sl) (s1_ : Sl) (f5_ : AVal) (s6_ : Sl) (p8_ : Pt) (s16_ : Sl) (i17_ : Int) (i18_ : Int) (a22_ : List AVal) (i23_ : Int) (h : H) : Prop :=
 bif (decide (i23_ < (2))) then
 lenA a22_ 2 (
 partI .i64 a22_ i23_ fun n0 =>
 slotK 14 h fun h1 =>
 ixA p8_ 2 1 (0) fun p2 =>
 ldI .i64 p2 h1 fun n3 =>
 ixS s0_ 4 n3 fun p4 =>
 ldA p4 4 h1 fun cs5 =>
 ixA p8_ 2 1 (1) fun p6 =>
 ldI .i64 p6 h1 fun n7 =>
 ixS s1_ 4 n7 fun p8 =>
 ldA p8 4 h1 fun cs9 =>
 callA S i_impl_pairOf [.agg cs5, .agg cs9, .int .i64 n0] h1 fun cs11 h10 =>
 newOat [.int .i64 (0), .int .i64 (0)] h10 (h.length + 12) fun p12 h13 =>
(range h10 p8.o p8.n p8.off 4 = range h1 p8.o p8.n p8.off 4) ∧ (
(cell h10 p6 = cell h1 p6) ∧ (
(range h10 p4.o p4.n p4.off 4 = range h1 p4.o p4.n p4.off 4) ∧ (
(cell h10 p2 = cell h1 p2) ∧ (
(range h13 p8.o p8.n p8.off 4 = range h1 p8.o p8.n p8.off 4) ∧ (
(cell h13 p6 = cell h1 p6) ∧ (
(range h13 p4.o p4.n p4.off 4 = range h1 p4.o p4.n p4.off 4) ∧ (
(cell h13 p2 = cell h1 p2) ∧ (
 stN p12 2 cs11 h13 fun h14 =>
 ldA p12 2 h14 fun cs15 =>
 keyA 2 cs15 (
 mgetB f5_ (.agg cs15) h14 fun b16 =>
 bif (!b16) then
 ldA p12 2 h14 fun cs17 =>
 keyA 2 cs17 (
 mput f5_ (.agg cs17) (.bool true) h14 fun h18 =>
 ldA p12 2 h18 fun cs19 =>
 lenA cs19 2 (
 newS 1 2 (spl [.int .i64 (0), .int .i64 (0)] 0 2 cs19) h18 fun s20 h21 =>
 app s6_ s20 2 h21 fun s22 h23 =>
 X2 (impl_pairs_e2 s0_ s1_ f5_ s22 p8_ s16_ i17_ i18_ a22_ (w64 (i23_ + (1)))) h23))
 else
 X2 (impl_pairs_e2 s0_ s1_ f5_ s6_ p8_ s16_ i17_ i18_ a22_ (w64 (i23_ + (1)))) h14))))))))))
 else
 impl_pairs_C2 S K X0 s0_ s1_ f5_ s6_ s16_ i17_ i18_ h
theorem impl_pairs_link2 (S : SatT) (K : AVal → H → Prop) (X0 : Frame → H → Prop) (X2 : Frame → H → Prop) (s0_ : Sl) (s1_ : Sl) (f5_ : AVal) (s6_ : Sl) (p8_ : Pt) (s16_ : Sl) (i17_ : Int) (i18_ : Int) (a22_ : List AVal) (i23_ : Int) (h : H) : impl_pairs_w2 S K X0 X2 (impl_pairs_e2 s0_ s1_ f5_ s6_ p8_ s16_ i17_ i18_ a22_ i23_) h = impl_pairs_b2 S K X0 X2 s0_ s1_ f5_ s6_ p8_ s16_ i17_ i18_ a22_ i23_ h := by kernel_rfl
theorem impl_pairs_rule2 (S : SatT) (K : AVal → H → Prop) (X0 : Frame → H → Prop) (s0_ : Sl) (s1_ : Sl) (f5_ : AVal) (p8_ : Pt) (s16_ : Sl) (i17_ : Int) (i18_ : Int) (a22_ : List AVal) (I_ : Sl → Int → H → Prop) (m_ : Sl → Int → H → Nat)
    (hs : ∀ (X2 : Frame → H → Prop) (s6_ : Sl) (i23_ : Int) (h : H), I_ s6_ i23_ h → (∀ (s6_' : Sl) (i23_' : Int) (h' : H), I_ s6_' i23_' h' → m_ s6_' i23_' h' < m_ s6_ i23_ h → X2 (impl_pairs_e2 s0_ s1_ f5_ s6_' p8_ s16_ i17_ i18_ a22_ i23_') h') → impl_pairs_b2 S K X0 X2 s0_ s1_ f5_ s6_ p8_ s16_ i17_ i18_ a22_ i23_ h) (s6_ : Sl) (i23_ : Int) {h : H} (h0 : I_ s6_ i23_ h) : impl_pairs_L2 S K X0 s0_ s1_ f5_ s6_ p8_ s16_ i17_ i18_ a22_ i23_ h :=
  loop_rule (σ := (Sl) × (Int)) (fun s_ => impl_pairs_e2 s0_ s1_ f5_ (s_.1) p8_ s16_ i17_ i18_ a22_ (s_.2)) (fun s_ h => I_ (s_.1) (s_.2) h) (fun s_ h => m_ (s_.1) (s_.2) h)
    (fun X s_ h hi hx => (impl_pairs_link2 S K X0 X s0_ s1_ f5_ (s_.1) p8_ s16_ i17_ i18_ a22_ (s_.2) h).mpr (hs X (s_.1) (s_.2) h hi fun s6_' i23_' h' hi' hm' => hx (s6_', i23_') h' hi' hm')) (s6_, i23_) h0
theorem impl_pairs_unroll2 (S : SatT) (K : AVal → H → Prop) (X0 : Frame → H → Prop) (s0_ : Sl) (s1_ : Sl) (f5_ : AVal) (s6_ : Sl) (p8_ : Pt) (s16_ : Sl) (i17_ : Int) (i18_ : Int) (a22_ : List AVal) (i23_ : Int) (h : H) (hb : impl_pairs_b2 S K X0 (fun fr h => loopK (impl_pairs_w2 S K X0) fr h) s0_ s1_ f5_ s6_ p8_ s16_ i17_ i18_ a22_ i23_ h) : impl_pairs_L2 S K X0 s0_ s1_ f5_ s6_ p8_ s16_ i17_ i18_ a22_ i23_ h := loop_unroll ((impl_pairs_link2 S K X0 _ s0_ s1_ f5_ s6_ p8_ s16_ i17_ i18_ a22_ i23_ h).mpr hb)
def impl_pairs_C0 (S : SatT) (K : AVal → H → Prop) (s6_ : Sl) (h : H) : Prop :=
 callV S i_slices_SortFunc_s__2_int64__2_int64_ [.sl s6_, .func 87 []] h fun v1 h0 =>
 K (.sl s6_) h0
def impl_pairs_b0 (S : SatT) (K : AVal → H → Prop) (X0 : Frame → H → Prop) (s0_ : Sl) (s1_ : Sl) (f5_ : AVal) (s6_ : Sl) (s16_ : Sl) (i17_ : Int) (i18_ : Int) (h : H) : Prop :=
 bif (decide (i18_ < i17_)) then
 ixS s16_ 2 i18_ fun p0 =>
 ldA p0 2 h fun cs1 =>
 newO [.int .i64 (0), .int .i64 (0)] h fun p2 h3 =>
 stN p2 2 cs1 h3 fun h4 =>
 impl_pairs_L2 S K X0 s0_ s1_ f5_ s6_ p2 s16_ i17_ i18_ [.int .i64 (0), .int .i64 (2)] (0) h4
 else
 impl_pairs_C0 S K s6_ h
theorem impl_pairs_link0 (S : SatT) (K : AVal → H → Prop) (X0 : Frame → H → Prop) (s0_ : Sl) (s1_ : Sl) (f5_ : AVal) (s6_ : Sl) (s16_ : Sl) (i17_ : Int) (i18_ : Int) (h : H) : impl_pairs_w0 S K X0 (impl_pairs_e0 s0_ s1_ f5_ s6_ s16_ i17_ i18_) h = impl_pairs_b0 S K X0 s0_ s1_ f5_ s6_ s16_ i17_ i18_ h := by kernel_rfl
theorem impl_pairs_rule0 (S : SatT) (K : AVal → H → Prop) (s0_ : Sl) (s1_ : Sl) (f5_ : AVal) (s16_ : Sl) (i17_ : Int) (I_ : Sl → Int → H → Prop) (m_ : Sl → Int → H → Nat)
    (hs : ∀ (X0 : Frame → H → Prop) (s6_ : Sl) (i18_ : Int) (h : H), I_ s6_ i18_ h → (∀ (s6_' : Sl) (i18_' : Int) (h' : H), I_ s6_' i18_' h' → m_ s6_' i18_' h' < m_ s6_ i18_ h → X0 (impl_pairs_e0 s0_ s1_ f5_ s6_' s16_ i17_ i18_') h') → impl_pairs_b0 S K X0 s0_ s1_ f5_ s6_ s16_ i17_ i18_ h) (s6_ : Sl) (i18_ : Int) {h : H} (h0 : I_ s6_ i18_ h) : impl_pairs_L0 S K s0_ s1_ f5_ s6_ s16_ i17_ i18_ h :=
  loop_rule (σ := (Sl) × (Int)) (fun s_ => impl_pairs_e0 s0_ s1_ f5_ (s_.1) s16_ i17_ (s_.2)) (fun s_ h => I_ (s_.1) (s_.2) h) (fun s_ h => m_ (s_.1) (s_.2) h)
    (fun X s_ h hi hx => (impl_pairs_link0 S K X s0_ s1_ f5_ (s_.1) s16_ i17_ (s_.2) h).mpr (hs X (s_.1) (s_.2) h hi fun s6_' i18_' h' hi' hm' => hx (s6_', i18_') h' hi' hm')) (s6_, i18_) h0
theorem impl_pairs_unroll0 (S : SatT) (K : AVal → H → Prop) (s0_ : Sl) (s1_ : Sl) (f5_ : AVal) (s6_ : Sl) (s16_ : Sl) (i17_ : Int) (i18_ : Int) (h : H) (hb : impl_pairs_b0 S K (fun fr h => loopK (impl_pairs_w0 S K) fr h) s0_ s1_ f5_ s6_ s16_ i17_ i18_ h) : impl_pairs_L0 S K s0_ s1_ f5_ s6_ s16_ i17_ i18_ h := loop_unroll ((impl_pairs_link0 S K _ s0_ s1_ f5_ s6_ s16_ i17_ i18_ h).mpr hb)
def impl_pairs_main (S : SatT) (K : AVal → H → Prop) (x0 : Sl) (x1 : Sl) (h : H) : Prop :=
 newM h fun v0 h1 =>
 newS 0 2 [] h1 fun s2 h3 =>
 callS S i_impl_stacked [.sl x0, .sl x1] h3 fun s5 h4 =>
 impl_pairs_L0 S K x0 x1 v0 s2 s5 (s5.len : Int) (0) h4
theorem impl_pairs_main_link (S : SatT) (K : AVal → H → Prop) (x0 : Sl) (x1 : Sl) (h : H) : cwp S tab impl_pairs_M [] (bodyOf Try.f70) (kFun tab Try.f70.results.toList K) (fr0 Try.f70 [.sl x0, .sl x1]) h = impl_pairs_main S K x0 x1 h := by kernel_rfl
theorem impl_pairs_call (x0 : Sl) (x1 : Sl) (h : H) (K : Sl → H → Prop) (hm : impl_pairs_main (Sat Try.prog) (fun v h' => ∃ r, v = .sl r ∧ K r h') x0 x1 h) : callS (Sat Try.prog) i_impl_pairs [.sl x0, .sl x1] h K := by
  have := Sat.ex tok mixed impl_pairs_M Try.func70 (c := bodyOf Try.f70) (by kernel_rfl) (calls_of Try.func70 (c := bodyOf Try.f70) (by kernel_rfl) (by decide)) ((impl_pairs_main_link _ _ x0 x1 h).mpr hm)
  obtain ⟨v, h2, h3, r, rfl, h4⟩ := this; exact ⟨r, h2, h3, h4⟩

/-! ### loop.example/g01354/laws.markTileS -/
def laws_markTileS_M : Nat → List Nat := fun i => bif i == 2 then [0, 1, 5, 6] else bif i == 0 then [0, 1, 5] else []
def laws_markTileS_ks1 (S : SatT) (K : AVal → H → Prop) : Kont := kSeq (cwp S tab laws_markTileS_M [] (sub [1, 1] (bodyOf Try.f34)) (kFun tab (Try.f34).results.toList K)) (kFun tab (Try.f34).results.toList K)
def laws_markTileS_e0 (s0_ : Sl) (i1_ : Int) (i5_ : Int) : Frame := [.sl s0_, .int .i64 i1_, U, U, U, .int .i64 i5_, U, U, U, U, U, U, U, U, U, U, U, U, U, U, U, U, U, U, U, U]
def laws_markTileS_w0 (S : SatT) (K : AVal → H → Prop) : (Frame → H → Prop) → Frame → H → Prop := fun X fr h => cwp S tab laws_markTileS_M (laws_markTileS_M 0) (sub [1, 0, 1, 0, 0] (bodyOf Try.f34)) (kSeq (fun fr h => X (mask (laws_markTileS_M 0) fr) h) (kBlk 0 (laws_markTileS_ks1 S K))) fr h
def laws_markTileS_L0 (S : SatT) (K : AVal → H → Prop) (s0_ : Sl) (i1_ : Int) (i5_ : Int) (h : H) : Prop := loopK (laws_markTileS_w0 S K) (laws_markTileS_e0 s0_ i1_ i5_) h
def laws_markTileS_ks5 (S : SatT) (K : AVal → H → Prop) (X0 : Frame → H → Prop) : Kont := kSeq (cwp S tab laws_markTileS_M (laws_markTileS_M 0) (sub [1, 0, 1, 0, 0, 1, 1] (bodyOf Try.f34)) (kSeq (fun fr h => X0 (mask (laws_markTileS_M 0) fr) h) (kBlk 0 (laws_markTileS_ks1 S K)))) (kSeq (fun fr h => X0 (mask (laws_markTileS_M 0) fr) h) (kBlk 0 (laws_markTileS_ks1 S K)))
def laws_markTileS_e2 (s0_ : Sl) (i1_ : Int) (i5_ : Int) (i6_ : Int) : Frame := [.sl s0_, .int .i64 i1_, U, U, U, .int .i64 i5_, .int .i64 i6_, U, U, U, U, U, U, U, U, U, U, U, U, U, U, U, U, U, U, U]
def laws_markTileS_w2 (S : SatT) (K : AVal → H → Prop) (X0 : Frame → H → Prop) : (Frame → H → Prop) → Frame → H → Prop := fun X fr h => cwp S tab laws_markTileS_M (laws_markTileS_M 2) (sub [1, 0, 1, 0, 0, 1, 0, 0, 1, 0, 0] (bodyOf Try.f34)) (kSeq (fun fr h => X (mask (laws_markTileS_M 2) fr) h) (kBlk 2 (kBlk 1 (laws_markTileS_ks5 S K X0)))) fr h
def laws_markTileS_L2 (S : SatT) (K : AVal → H → Prop) (X0 : Frame → H → Prop) (s0_ : Sl) (i1_ : Int) (i5_ : Int) (i6_ : Int) (h : H) : Prop := loopK (laws_markTileS_w2 S K X0) (laws_markTileS_e2 s0_ i1_ i5_ i6_) h
def laws_markTileS_C1 (S : SatT) (K : AVal → H → Prop) (X0 : Frame → H → Prop) (s0_ : Sl) (i1_ : Int) (i5_ : Int) (h : H) : Prop :=
 X0 (laws_markTileS_e0 s0_ i1_ (w64 (i5_ + (1)))) h
def laws_markTileS_C2 (S : SatT) (K : AVal → H → Prop) (X0 : Frame → H → Prop) (s0_ : Sl) (i1_ : Int) (i5_ : Int) (h : H) : Prop :=
 laws_markTileS_C1 S K X0 s0_ i1_ i5_ h
def laws_markTileS_b2 (S : SatT) (K : AVal → H → Prop) (X0 : Frame → H → Prop) (X2 : Frame → H → Prop) (s0_ : Sl) (i1_ : Int) (i5_ : Int) (i6_ : Int) (h : H) : Prop :=
 bif (decide (i6_ < (4))) then
 ixS s0_ 4 i5_ fun p0 =>
 ixA p0 4 1 i6_ fun p1 =>
 st1 p1 (.int .i64 i1_) h fun h2 =>
 X2 (laws_markTileS_e2 s0_ (w64 (i1_ + (1))) i5_ (w64 (i6_ + (1)))) h2
 else
 laws_markTileS_C2 S K X0 s0_ i1_ i5_ h
theorem laws_markTileS_link2 (S : SatT) (K : AVal → H → Prop) (X0 : Frame → H → Prop) (X2 : Frame → H → Prop) (s0_ : Sl) (i1_ : Int) (i5_ : Int) (i6_ : Int) (h : H) : laws_markTileS_w2 S K X0 X2 (laws_markTileS_e2 s0_ i1_ i5_ i6_) h = laws_markTileS_b2 S K X0 X2 s0_ i1_ i5_ i6_ h := by kernel_rfl
theorem laws_markTileS_rule2 (S : SatT) (K : AVal → H → Prop) (X0 : Frame → H → Prop) (s0_ : Sl) (i5_ : Int) (I_ : Int → Int → H → Prop) (m_ : Int → Int → H → Nat)
    (hs : ∀ (X2 : Frame → H → Prop) (i1_ : Int) (i6_ : Int) (h : H), I_ i1_ i6_ h → (∀ (i1_' : Int) (i6_' : Int) (h' : H), I_ i1_' i6_' h' → m_ i1_' i6_' h' < m_ i1_ i6_ h → X2 (laws_markTileS_e2 s0_ i1_' i5_ i6_') h') → laws_markTileS_b2 S K X0 X2 s0_ i1_ i5_ i6_ h) (i1_ : Int) (i6_ : Int) {h : H} (h0 : I_ i1_ i6_ h) : laws_markTileS_L2 S K X0 s0_ i1_ i5_ i6_ h :=
  loop_rule (σ := (Int) × (Int)) (fun s_ => laws_markTileS_e2 s0_ (s_.1) i5_ (s_.2)) (fun s_ h => I_ (s_.1) (s_.2) h) (fun s_ h => m_ (s_.1) (s_.2) h)
    (fun X s_ h hi hx => (laws_markTileS_link2 S K X0 X s0_ (s_.1) i5_ (s_.2) h).mpr (hs X (s_.1) (s_.2) h hi fun i1_' i6_' h' hi' hm' => hx (i1_', i6_') h' hi' hm')) (i1_, i6_) h0
theorem laws_markTileS_unroll2 (S : SatT) (K : AVal → H → Prop) (X0 : Frame → H → Prop) (s0_ : Sl) (i1_ : Int) (i5_ : Int) (i6_ : Int) (h : H) (hb : laws_markTileS_b2 S K X0 (fun fr h => loopK (laws_markTileS_w2 S K X0) fr h) s0_ i1_ i5_ i6_ h) : laws_markTileS_L2 S K X0 s0_ i1_ i5_ i6_ h := loop_unroll ((laws_markTileS_link2 S K X0 _ s0_ i1_ i5_ i6_ h).mpr hb)
def laws_markTileS_C0 (S : SatT) (K : AVal → H → Prop) (i1_ : Int) (h : H) : Prop :=
 K (.int .i64 i1_) h
def laws_markTileS_b0 (S : SatT) (K : AVal → H → Prop) (X0 : Frame → H → Prop) (s0_ : Sl) (i1_ : Int) (i5_ : Int) (h : H) : Prop :=
 bif (decide (i5_ < (s0_.len : Int))) then
 laws_markTileS_L2 S K X0 s0_ i1_ i5_ (0) h
 else
 laws_markTileS_C0 S K i1_ h
theorem laws_markTileS_link0 (S : SatT) (K : AVal → H → Prop) (X0 : Frame → H → Prop) (s0_ : Sl) (i1_ : Int) (i5_ : Int) (h : H) : laws_markTileS_w0 S K X0 (laws_markTileS_e0 s0_ i1_ i5_) h = laws_markTileS_b0 S K X0 s0_ i1_ i5_ h := by kernel_rfl
theorem laws_markTileS_rule0 (S : SatT) (K : AVal → H → Prop) (s0_ : Sl) (I_ : Int → Int → H → Prop) (m_ : Int → Int → H → Nat)
    (hs : ∀ (X0 : Frame → H → Prop) (i1_ : Int) (i5_ : Int) (h : H), I_ i1_ i5_ h → (∀ (i1_' : Int) (i5_' : Int) (h' : H), I_ i1_' i5_' h' → m_ i1_' i5_' h' < m_ i1_ i5_ h → X0 (laws_markTileS_e0 s0_ i1_' i5_') h') → laws_markTileS_b0 S K X0 s0_ i1_ i5_ h) (i1_ : Int) (i5_ : Int) {h : H} (h0 : I_ i1_ i5_ h) : laws_markTileS_L0 S K s0_ i1_ i5_ h :=
  loop_rule (σ := (Int) × (Int)) (fun s_ => laws_markTileS_e0 s0_ (s_.1) (s_.2)) (fun s_ h => I_ (s_.1) (s_.2) h) (fun s_ h => m_ (s_.1) (s_.2) h)
    (fun X s_ h hi hx => (laws_markTileS_link0 S K X s0_ (s_.1) (s_.2) h).mpr (hs X (s_.1) (s_.2) h hi fun i1_' i5_' h' hi' hm' => hx (i1_', i5_') h' hi' hm')) (i1_, i5_) h0
theorem laws_markTileS_unroll0 (S : SatT) (K : AVal → H → Prop) (s0_ : Sl) (i1_ : Int) (i5_ : Int) (h : H) (hb : laws_markTileS_b0 S K (fun fr h => loopK (laws_markTileS_w0 S K) fr h) s0_ i1_ i5_ h) : laws_markTileS_L0 S K s0_ i1_ i5_ h := loop_unroll ((laws_markTileS_link0 S K _ s0_ i1_ i5_ h).mpr hb)
def laws_markTileS_main (S : SatT) (K : AVal → H → Prop) (x0 : Sl) (x1 : Int) (h : H) : Prop :=
 laws_markTileS_L0 S K x0 x1 (0) h
theorem laws_markTileS_main_link (S : SatT) (K : AVal → H → Prop) (x0 : Sl) (x1 : Int) (h : H) : cwp S tab laws_markTileS_M [] (bodyOf Try.f34) (kFun tab Try.f34.results.toList K) (fr0 Try.f34 [.sl x0, .int .i64 x1]) h = laws_markTileS_main S K x0 x1 h := by kernel_rfl
theorem laws_markTileS_call (x0 : Sl) (x1 : Int) (h : H) (K : Int → H → Prop) (hm : laws_markTileS_main (Sat Try.prog) (fun v h' => ∃ r, v = .int .i64 r ∧ K r h') x0 x1 h) : callI (Sat Try.prog) .i64 i_laws_markTileS [.sl x0, .int .i64 x1] h K := by
  have := Sat.ex tok mixed laws_markTileS_M Try.func34 (c := bodyOf Try.f34) (by kernel_rfl) (calls_of Try.func34 (c := bodyOf Try.f34) (by kernel_rfl) (by decide)) ((laws_markTileS_main_link _ _ x0 x1 h).mpr hm)
  obtain ⟨v, h2, h3, r, rfl, h4⟩ := this; exact ⟨r, h2, h3, h4⟩

/-! ### loop.example/g01354/impl.PowerOf -/
def impl_PowerOf_M : Nat → List Nat := fun i => bif i == 0 then [2, 4, 7, 24, 25] else []
def impl_PowerOf_ks6 (S : SatT) (K : AVal → H → Prop) : Kont := kSeq (cwp S tab impl_PowerOf_M [] (sub [1, 1, 1, 1] (bodyOf Try.f22)) (kFun tab (Try.f22).results.toList K)) (kFun tab (Try.f22).results.toList K)
def impl_PowerOf_e0 (p2_ : Pt) (p4_ : Pt) (p7_ : Pt) (i24_ : Int) (i25_ : Int) : Frame := [U, U, .ptr p2_, U, .ptr p4_, U, U, .ptr p7_, U, U, U, U, U, U, U, U, U, U, U, U, U, U, U, U, .int .i64 i24_, .int .i64 i25_, U, U, U, U, U, U, U, U, U, U, U, U, U, U, U, U, U, U, U]
def impl_PowerOf_w0 (S : SatT) (K : AVal → H → Prop) : (Frame → H → Prop) → Frame → H → Prop := fun X fr h => cwp S tab impl_PowerOf_M (impl_PowerOf_M 0) (sub [1, 1, 1, 0, 1, 0, 0] (bodyOf Try.f22)) (kSeq (fun fr h => X (mask (impl_PowerOf_M 0) fr) h) (kBlk 0 (impl_PowerOf_ks6 S K))) fr h
def impl_PowerOf_L0 (S : SatT) (K : AVal → H → Prop) (p2_ : Pt) (p4_ : Pt) (p7_ : Pt) (i24_ : Int) (i25_ : Int) (h : H) : Prop := loopK (impl_PowerOf_w0 S K) (impl_PowerOf_e0 p2_ p4_ p7_ i24_ i25_) h
def impl_PowerOf_C0 (S : SatT) (K : AVal → H → Prop) (p4_ : Pt) (p7_ : Pt) (h : H) : Prop :=
 ldA p7_ 2 h fun cs0 =>
 stN p4_ 2 cs0 h fun h1 =>
 ldA p4_ 2 h1 fun cs2 =>
 K (.tuple [.agg cs2, .int .i64 (0)]) h1
def impl_PowerOf_b0 (S : SatT) (K : AVal → H → Prop) (X0 : Frame → H → Prop) (p2_ : Pt) (p4_ : Pt) (p7_ : Pt) (i24_ : Int) (i25_ : Int) (h : H) : Prop :=
 bif (decide (i25_ < i24_)) then
 ldA p7_ 2 h fun cs0 =>
 ldA p2_ 2 h fun cs1 =>
 callV S i_impl_stack [.agg cs0, .agg cs1] h fun v3 h2 =>
 viaT v3 fun vs4 =>
 exA vs4 0 fun cs5 =>
 viaT v3 fun vs6 =>
 exI .i64 vs6 1 fun n7 =>
 newO [.int .i64 (0), .sl Sl.nil] h2 fun p8 h9 =>
 stN p8 2 cs5 h9 fun h10 =>
 bif (n7 != (0)) then
 stN p4_ 2 [.int .i64 (0), .sl Sl.nil] h10 fun h11 =>
 ldA p4_ 2 h11 fun cs12 =>
 K (.tuple [.agg cs12, .int .i64 n7]) h11
 else
 isPt p8 (
 ldI .i64 (Pt.add p8 0) h10 fun n13 =>
 isPt p8 (
 ldS (Pt.add p8 1) h10 fun s14 =>
 callS S i_impl_kept [.sl s14] h10 fun s16 h15 =>
(cell h15 (Pt.add p8 0) = cell h10 (Pt.add p8 0)) ∧ (
 stN p7_ 2 [.int .i64 n13, .sl s16] h15 fun h17 =>
 X0 (impl_PowerOf_e0 p2_ p4_ p7_ i24_ (w64 (i25_ + (1)))) h17)))
 else
 impl_PowerOf_C0 S K p4_ p7_ h
theorem impl_PowerOf_link0 (S : SatT) (K : AVal → H → Prop) (X0 : Frame → H → Prop) (p2_ : Pt) (p4_ : Pt) (p7_ : Pt) (i24_ : Int) (i25_ : Int) (h : H) : impl_PowerOf_w0 S K X0 (impl_PowerOf_e0 p2_ p4_ p7_ i24_ i25_) h = impl_PowerOf_b0 S K X0 p2_ p4_ p7_ i24_ i25_ h := by kernel_rfl
theorem impl_PowerOf_rule0 (S : SatT) (K : AVal → H → Prop) (p2_ : Pt) (p4_ : Pt) (p7_ : Pt) (i24_ : Int) (I_ : Int → H → Prop) (m_ : Int → H → Nat)
    (hs : ∀ (X0 : Frame → H → Prop) (i25_ : Int) (h : H), I_ i25_ h → (∀ (i25_' : Int) (h' : H), I_ i25_' h' → m_ i25_' h' < m_ i25_ h → X0 (impl_PowerOf_e0 p2_ p4_ p7_ i24_ i25_') h') → impl_PowerOf_b0 S K X0 p2_ p4_ p7_ i24_ i25_ h) (i25_ : Int) {h : H} (h0 : I_ i25_ h) : impl_PowerOf_L0 S K p2_ p4_ p7_ i24_ i25_ h :=
  loop_rule (σ := (Int)) (fun s_ => impl_PowerOf_e0 p2_ p4_ p7_ i24_ (s_)) (fun s_ h => I_ (s_) h) (fun s_ h => m_ (s_) h)
    (fun X s_ h hi hx => (impl_PowerOf_link0 S K X p2_ p4_ p7_ i24_ (s_) h).mpr (hs X (s_) h hi fun i25_' h' hi' hm' => hx (i25_') h' hi' hm')) (i25_) h0
theorem impl_PowerOf_unroll0 (S : SatT) (K : AVal → H → Prop) (p2_ : Pt) (p4_ : Pt) (p7_ : Pt) (i24_ : Int) (i25_ : Int) (h : H) (hb : impl_PowerOf_b0 S K (fun fr h => loopK (impl_PowerOf_w0 S K) fr h) p2_ p4_ p7_ i24_ i25_ h) : impl_PowerOf_L0 S K p2_ p4_ p7_ i24_ i25_ h := loop_unroll ((impl_PowerOf_link0 S K _ p2_ p4_ p7_ i24_ i25_ h).mpr hb)
def impl_PowerOf_main (S : SatT) (K : AVal → H → Prop) (x0 : List AVal) (x1 : Int) (h : H) : Prop :=
 newK 2 x0 h fun p0 h1 =>
 newO [.int .i64 x1] h1 fun p2 h3 =>
 newO [.int .i64 (0), .sl Sl.nil] h3 fun p4 h5 =>
 ldA p0 2 h5 fun cs6 =>
 callI S .i64 i_impl_setCode [.agg cs6, .func 46 [.ptr p2]] h5 fun n8 h7 =>
 bif (n8 != (0)) then
 stN p4 2 [.int .i64 (0), .sl Sl.nil] h7 fun h9 =>
 ldA p4 2 h9 fun cs10 =>
 K (.tuple [.agg cs10, .int .i64 n8]) h9
 else
 slotK 8 h7 fun h11 =>
 isPt p0 (
 ldI .i64 (Pt.add p0 0) h11 fun n12 =>
 isPt p0 (
 ldS (Pt.add p0 1) h11 fun s13 =>
 callS S i_impl_kept [.sl s13] h11 fun s15 h14 =>
(cell h14 (Pt.add p0 0) = cell h11 (Pt.add p0 0)) ∧ (
 newOat [.int .i64 (0), .sl Sl.nil] h14 (h7.length + 6) fun p16 h17 =>
(cell h14 (Pt.add p0 1) = cell h11 (Pt.add p0 1)) ∧ (
(cell h17 (Pt.add p0 1) = cell h11 (Pt.add p0 1)) ∧ (
(cell h17 (Pt.add p0 0) = cell h11 (Pt.add p0 0)) ∧ (
 stN p16 2 [.int .i64 n12, .sl s15] h17 fun h18 =>
 ldI .i64 p2 h18 fun n19 =>
 impl_PowerOf_L0 S K p0 p4 p16 (w64 (n19 - (1))) (0) h18))))))
theorem impl_PowerOf_main_link (S : SatT) (K : AVal → H → Prop) (x0 : List AVal) (x1 : Int) (h : H) : cwp S tab impl_PowerOf_M [] (bodyOf Try.f22) (kFun tab Try.f22.results.toList K) (fr0 Try.f22 [.agg x0, .int .i64 x1]) h = impl_PowerOf_main S K x0 x1 h := by kernel_rfl
theorem impl_PowerOf_call (x0 : List AVal) (x1 : Int) (h : H) (K : AVal → H → Prop) (hm : impl_PowerOf_main (Sat Try.prog) (fun v h' => K v h') x0 x1 h) : callV (Sat Try.prog) i_impl_PowerOf [.agg x0, .int .i64 x1] h K := by
  have := Sat.ex tok mixed impl_PowerOf_M Try.func22 (c := bodyOf Try.f22) (by kernel_rfl) (calls_of Try.func22 (c := bodyOf Try.f22) (by kernel_rfl) (by decide)) ((impl_PowerOf_main_link _ _ x0 x1 h).mpr hm)
  exact this

/-! ### slices.IndexFunc[[]loop.example/g01354/impl.Set,loop.example/g01354/impl.Set] -/
def slices_IndexFunc_s_impl_Set_impl_Set__M : Nat → List Nat := fun i => bif i == 0 then [0, 1, 7, 8] else []
def slices_IndexFunc_s_impl_Set_impl_Set__ks1 (S : SatT) (K : AVal → H → Prop) : Kont := kSeq (cwp S tab slices_IndexFunc_s_impl_Set_impl_Set__M [] (sub [1, 1] (bodyOf Try.f83)) (kFun tab (Try.f83).results.toList K)) (kFun tab (Try.f83).results.toList K)
def slices_IndexFunc_s_impl_Set_impl_Set__e0 (s0_ : Sl) (f1_ : AVal) (i7_ : Int) (i8_ : Int) : Frame := [.sl s0_, f1_, U, U, U, U, U, .int .i64 i7_, .int .i64 i8_, U, U, U, U, U, U, U, U, U, U]
def slices_IndexFunc_s_impl_Set_impl_Set__w0 (S : SatT) (K : AVal → H → Prop) : (Frame → H → Prop) → Frame → H → Prop := fun X fr h => cwp S tab slices_IndexFunc_s_impl_Set_impl_Set__M (slices_IndexFunc_s_impl_Set_impl_Set__M 0) (sub [1, 0, 1, 0, 0] (bodyOf Try.f83)) (kSeq (fun fr h => X (mask (slices_IndexFunc_s_impl_Set_impl_Set__M 0) fr) h) (kBlk 0 (slices_IndexFunc_s_impl_Set_impl_Set__ks1 S K))) fr h
def slices_IndexFunc_s_impl_Set_impl_Set__L0 (S : SatT) (K : AVal → H → Prop) (s0_ : Sl) (f1_ : AVal) (i7_ : Int) (i8_ : Int) (h : H) : Prop := loopK (slices_IndexFunc_s_impl_Set_impl_Set__w0 S K) (slices_IndexFunc_s_impl_Set_impl_Set__e0 s0_ f1_ i7_ i8_) h
def slices_IndexFunc_s_impl_Set_impl_Set__C0 (S : SatT) (K : AVal → H → Prop) (h : H) : Prop :=
 K (.int .i64 (-1)) h
def slices_IndexFunc_s_impl_Set_impl_Set__b0 (S : SatT) (K : AVal → H → Prop) (X0 : Frame → H → Prop) (s0_ : Sl) (f1_ : AVal) (i7_ : Int) (i8_ : Int) (h : H) : Prop :=
 bif (decide (i8_ < i7_)) then
 ixS s0_ 2 i8_ fun p0 =>
 ldA p0 2 h fun cs1 =>
 viaF f1_ [.agg cs1] fun g2 ys3 =>
 callB S g2 ys3 h fun b5 h4 =>
 bif b5 then
 K (.int .i64 i8_) h4
 else
 X0 (slices_IndexFunc_s_impl_Set_impl_Set__e0 s0_ f1_ i7_ (w64 (i8_ + (1)))) h4
 else
 slices_IndexFunc_s_impl_Set_impl_Set__C0 S K h
theorem slices_IndexFunc_s_impl_Set_impl_Set__link0 (S : SatT) (K : AVal → H → Prop) (X0 : Frame → H → Prop) (s0_ : Sl) (f1_ : AVal) (i7_ : Int) (i8_ : Int) (h : H) : slices_IndexFunc_s_impl_Set_impl_Set__w0 S K X0 (slices_IndexFunc_s_impl_Set_impl_Set__e0 s0_ f1_ i7_ i8_) h = slices_IndexFunc_s_impl_Set_impl_Set__b0 S K X0 s0_ f1_ i7_ i8_ h := by kernel_rfl
theorem slices_IndexFunc_s_impl_Set_impl_Set__rule0 (S : SatT) (K : AVal → H → Prop) (s0_ : Sl) (f1_ : AVal) (i7_ : Int) (I_ : Int → H → Prop) (m_ : Int → H → Nat)
    (hs : ∀ (X0 : Frame → H → Prop) (i8_ : Int) (h : H), I_ i8_ h → (∀ (i8_' : Int) (h' : H), I_ i8_' h' → m_ i8_' h' < m_ i8_ h → X0 (slices_IndexFunc_s_impl_Set_impl_Set__e0 s0_ f1_ i7_ i8_') h') → slices_IndexFunc_s_impl_Set_impl_Set__b0 S K X0 s0_ f1_ i7_ i8_ h) (i8_ : Int) {h : H} (h0 : I_ i8_ h) : slices_IndexFunc_s_impl_Set_impl_Set__L0 S K s0_ f1_ i7_ i8_ h :=
  loop_rule (σ := (Int)) (fun s_ => slices_IndexFunc_s_impl_Set_impl_Set__e0 s0_ f1_ i7_ (s_)) (fun s_ h => I_ (s_) h) (fun s_ h => m_ (s_) h)
    (fun X s_ h hi hx => (slices_IndexFunc_s_impl_Set_impl_Set__link0 S K X s0_ f1_ i7_ (s_) h).mpr (hs X (s_) h hi fun i8_' h' hi' hm' => hx (i8_') h' hi' hm')) (i8_) h0
theorem slices_IndexFunc_s_impl_Set_impl_Set__unroll0 (S : SatT) (K : AVal → H → Prop) (s0_ : Sl) (f1_ : AVal) (i7_ : Int) (i8_ : Int) (h : H) (hb : slices_IndexFunc_s_impl_Set_impl_Set__b0 S K (fun fr h => loopK (slices_IndexFunc_s_impl_Set_impl_Set__w0 S K) fr h) s0_ f1_ i7_ i8_ h) : slices_IndexFunc_s_impl_Set_impl_Set__L0 S K s0_ f1_ i7_ i8_ h := loop_unroll ((slices_IndexFunc_s_impl_Set_impl_Set__link0 S K _ s0_ f1_ i7_ i8_ h).mpr hb)
def slices_IndexFunc_s_impl_Set_impl_Set__main (S : SatT) (K : AVal → H → Prop) (x0 : Sl) (x1 : AVal) (h : H) : Prop :=
 slices_IndexFunc_s_impl_Set_impl_Set__L0 S K x0 x1 (x0.len : Int) (0) h
theorem slices_IndexFunc_s_impl_Set_impl_Set__main_link (S : SatT) (K : AVal → H → Prop) (x0 : Sl) (x1 : AVal) (h : H) : cwp S tab slices_IndexFunc_s_impl_Set_impl_Set__M [] (bodyOf Try.f83) (kFun tab Try.f83.results.toList K) (fr0 Try.f83 [.sl x0, x1]) h = slices_IndexFunc_s_impl_Set_impl_Set__main S K x0 x1 h := by kernel_rfl
theorem slices_IndexFunc_s_impl_Set_impl_Set__call (x0 : Sl) (x1 : AVal) (h : H) (K : Int → H → Prop) (hm : slices_IndexFunc_s_impl_Set_impl_Set__main (Sat Try.prog) (fun v h' => ∃ r, v = .int .i64 r ∧ K r h') x0 x1 h) : callI (Sat Try.prog) .i64 i_slices_IndexFunc_s_impl_Set_impl_Set_ [.sl x0, x1] h K := by
  have := Sat.ex tok mixed slices_IndexFunc_s_impl_Set_impl_Set__M Try.func83 (c := bodyOf Try.f83) (by kernel_rfl) (calls_of Try.func83 (c := bodyOf Try.f83) (by kernel_rfl) (by decide)) ((slices_IndexFunc_s_impl_Set_impl_Set__main_link _ _ x0 x1 h).mpr hm)
  obtain ⟨v, h2, h3, r, rfl, h4⟩ := this; exact ⟨r, h2, h3, h4⟩

/-! ### loop.example/g01354/spec.l04Failing -/
def spec_l04Failing_M : Nat → List Nat := fun i => bif i == 0 then [1, 2, 6, 7] else []
def spec_l04Failing_ks2 (S : SatT) (K : AVal → H → Prop) : Kont := kSeq (cwp S tab spec_l04Failing_M [] (sub [1, 1, 1] (bodyOf Try.f50)) (kFun tab (Try.f50).results.toList K)) (kFun tab (Try.f50).results.toList K)
def spec_l04Failing_e0 (i1_ : Int) (p2_ : Pt) (p6_ : Pt) (i7_ : Int) : Frame := [U, .int .i64 i1_, .ptr p2_, U, U, U, .ptr p6_, .int .i64 i7_, U, U, U, U, U, U, U, U, U, U, U, U, U, U, U, U, U, U, U, U, U, U, U, U, U, U, U]
def spec_l04Failing_w0 (S : SatT) (K : AVal → H → Prop) : (Frame → H → Prop) → Frame → H → Prop := fun X fr h => cwp S tab spec_l04Failing_M (spec_l04Failing_M 0) (sub [1, 1, 0, 1, 0, 0] (bodyOf Try.f50)) (kSeq (fun fr h => X (mask (spec_l04Failing_M 0) fr) h) (kBlk 0 (spec_l04Failing_ks2 S K))) fr h
def spec_l04Failing_L0 (S : SatT) (K : AVal → H → Prop) (i1_ : Int) (p2_ : Pt) (p6_ : Pt) (i7_ : Int) (h : H) : Prop := loopK (spec_l04Failing_w0 S K) (spec_l04Failing_e0 i1_ p2_ p6_ i7_) h
def spec_l04Failing_C0 (S : SatT) (K : AVal → H → Prop) (h : H) : Prop :=
 K (.tuple [.int .i64 (0), .int .i64 (4)]) h
def spec_l04Failing_b0 (S : SatT) (K : AVal → H → Prop) (X0 : Frame → H → Prop) (i1_ : Int) (p2_ : Pt) (p6_ : Pt) (i7_ : Int) (h : H) : Prop :=
 bif (decide (i7_ ≤ i1_)) then
 bif (decide (i7_ > (1))) then
 ldA p6_ 1 h fun cs0 =>
 ldA p2_ 2 h fun cs1 =>
 callV S i_spec_l04Stack [.agg cs0, .agg cs1] h fun v3 h2 =>
 viaT v3 fun vs4 =>
 exA vs4 0 fun cs5 =>
 viaT v3 fun vs6 =>
 exB vs6 1 fun b7 =>
 newO [.sl Sl.nil] h2 fun p8 h9 =>
 stN p8 1 cs5 h9 fun h10 =>
 bif (!b7) then
 K (.tuple [.int .i64 (0), .int .i64 (3)]) h10
 else
 ldA p8 1 h10 fun cs11 =>
 callA S i_spec_l04Keep [.agg cs11] h10 fun cs13 h12 =>
 stN p6_ 1 cs13 h12 fun h14 =>
 isPt p6_ (
 ldS (Pt.add p6_ 0) h14 fun s15 =>
 bif ((s15.len : Int) == (0)) then
 K (.tuple [.int .i64 i7_, .int .i64 (0)]) h14
 else
 X0 (spec_l04Failing_e0 i1_ p2_ p6_ (w64 (i7_ + (1)))) h14)
 else
 isPt p6_ (
 ldS (Pt.add p6_ 0) h fun s16 =>
 bif ((s16.len : Int) == (0)) then
 K (.tuple [.int .i64 i7_, .int .i64 (0)]) h
 else
 X0 (spec_l04Failing_e0 i1_ p2_ p6_ (w64 (i7_ + (1)))) h)
 else
 spec_l04Failing_C0 S K h
theorem spec_l04Failing_link0 (S : SatT) (K : AVal → H → Prop) (X0 : Frame → H → Prop) (i1_ : Int) (p2_ : Pt) (p6_ : Pt) (i7_ : Int) (h : H) : spec_l04Failing_w0 S K X0 (spec_l04Failing_e0 i1_ p2_ p6_ i7_) h = spec_l04Failing_b0 S K X0 i1_ p2_ p6_ i7_ h := by kernel_rfl
theorem spec_l04Failing_rule0 (S : SatT) (K : AVal → H → Prop) (i1_ : Int) (p2_ : Pt) (p6_ : Pt) (I_ : Int → H → Prop) (m_ : Int → H → Nat)
    (hs : ∀ (X0 : Frame → H → Prop) (i7_ : Int) (h : H), I_ i7_ h → (∀ (i7_' : Int) (h' : H), I_ i7_' h' → m_ i7_' h' < m_ i7_ h → X0 (spec_l04Failing_e0 i1_ p2_ p6_ i7_') h') → spec_l04Failing_b0 S K X0 i1_ p2_ p6_ i7_ h) (i7_ : Int) {h : H} (h0 : I_ i7_ h) : spec_l04Failing_L0 S K i1_ p2_ p6_ i7_ h :=
  loop_rule (σ := (Int)) (fun s_ => spec_l04Failing_e0 i1_ p2_ p6_ (s_)) (fun s_ h => I_ (s_) h) (fun s_ h => m_ (s_) h)
    (fun X s_ h hi hx => (spec_l04Failing_link0 S K X i1_ p2_ p6_ (s_) h).mpr (hs X (s_) h hi fun i7_' h' hi' hm' => hx (i7_') h' hi' hm')) (i7_) h0
theorem spec_l04Failing_unroll0 (S : SatT) (K : AVal → H → Prop) (i1_ : Int) (p2_ : Pt) (p6_ : Pt) (i7_ : Int) (h : H) (hb : spec_l04Failing_b0 S K (fun fr h => loopK (spec_l04Failing_w0 S K) fr h) i1_ p2_ p6_ i7_ h) : spec_l04Failing_L0 S K i1_ p2_ p6_ i7_ h := loop_unroll ((spec_l04Failing_link0 S K _ i1_ p2_ p6_ i7_ h).mpr hb)
def spec_l04Failing_main (S : SatT) (K : AVal → H → Prop) (x0 : List AVal) (x1 : Int) (h : H) : Prop :=
 newK 2 x0 h fun p0 h1 =>
 ldA p0 2 h1 fun cs2 =>
 callA S i_spec_l04Open [.agg cs2] h1 fun cs4 h3 =>
 callA S i_spec_l04Keep [.agg cs4] h3 fun cs6 h5 =>
 newO [.sl Sl.nil] h5 fun p7 h8 =>
 stN p7 1 cs6 h8 fun h9 =>
 spec_l04Failing_L0 S K x1 p0 p7 (1) h9
theorem spec_l04Failing_main_link (S : SatT) (K : AVal → H → Prop) (x0 : List AVal) (x1 : Int) (h : H) : cwp S tab spec_l04Failing_M [] (bodyOf Try.f50) (kFun tab Try.f50.results.toList K) (fr0 Try.f50 [.agg x0, .int .i64 x1]) h = spec_l04Failing_main S K x0 x1 h := by kernel_rfl
theorem spec_l04Failing_call (x0 : List AVal) (x1 : Int) (h : H) (K : AVal → H → Prop) (hm : spec_l04Failing_main (Sat Try.prog) (fun v h' => K v h') x0 x1 h) : callV (Sat Try.prog) i_spec_l04Failing [.agg x0, .int .i64 x1] h K := by
  have := Sat.ex tok mixed spec_l04Failing_M Try.func50 (c := bodyOf Try.f50) (by kernel_rfl) (calls_of Try.func50 (c := bodyOf Try.f50) (by kernel_rfl) (by decide)) ((spec_l04Failing_main_link _ _ x0 x1 h).mpr hm)
  exact this

/-! ### slices.IndexFunc[[]int64,int64] -/
def slices_IndexFunc_s_int64_int64__M : Nat → List Nat := fun i => bif i == 0 then [0, 1, 7, 8] else []
def slices_IndexFunc_s_int64_int64__ks1 (S : SatT) (K : AVal → H → Prop) : Kont := kSeq (cwp S tab slices_IndexFunc_s_int64_int64__M [] (sub [1, 1] (bodyOf Try.f106)) (kFun tab (Try.f106).results.toList K)) (kFun tab (Try.f106).results.toList K)
def slices_IndexFunc_s_int64_int64__e0 (s0_ : Sl) (f1_ : AVal) (i7_ : Int) (i8_ : Int) : Frame := [.sl s0_, f1_, U, U, U, U, U, .int .i64 i7_, .int .i64 i8_, U, U, U, U, U, U, U, U, U, U]
def slices_IndexFunc_s_int64_int64__w0 (S : SatT) (K : AVal → H → Prop) : (Frame → H → Prop) → Frame → H → Prop := fun X fr h => cwp S tab slices_IndexFunc_s_int64_int64__M (slices_IndexFunc_s_int64_int64__M 0) (sub [1, 0, 1, 0, 0] (bodyOf Try.f106)) (kSeq (fun fr h => X (mask (slices_IndexFunc_s_int64_int64__M 0) fr) h) (kBlk 0 (slices_IndexFunc_s_int64_int64__ks1 S K))) fr h
def slices_IndexFunc_s_int64_int64__L0 (S : SatT) (K : AVal → H → Prop) (s0_ : Sl) (f1_ : AVal) (i7_ : Int) (i8_ : Int) (h : H) : Prop := loopK (slices_IndexFunc_s_int64_int64__w0 S K) (slices_IndexFunc_s_int64_int64__e0 s0_ f1_ i7_ i8_) h
def slices_IndexFunc_s_int64_int64__C0 (S : SatT) (K : AVal → H → Prop) (h : H) : Prop :=
 K (.int .i64 (-1)) h
def slices_IndexFunc_s_int64_int64__b0 (S : SatT) (K : AVal → H → Prop) (X0 : Frame → H → Prop) (s0_ : Sl) (f1_ : AVal) (i7_ : Int) (i8_ : Int) (h : H) : Prop :=
 bif (decide (i8_ < i7_)) then
 ixS s0_ 1 i8_ fun p0 =>
 ldI .i64 p0 h fun n1 =>
 viaF f1_ [.int .i64 n1] fun g2 ys3 =>
 callB S g2 ys3 h fun b5 h4 =>
 bif b5 then
 K (.int .i64 i8_) h4
 else
 X0 (slices_IndexFunc_s_int64_int64__e0 s0_ f1_ i7_ (w64 (i8_ + (1)))) h4
 else
 slices_IndexFunc_s_int64_int64__C0 S K h
theorem slices_IndexFunc_s_int64_int64__link0 (S : SatT) (K : AVal → H → Prop) (X0 : Frame → H → Prop) (s0_ : Sl) (f1_ : AVal) (i7_ : Int) (i8_ : Int) (h : H) : slices_IndexFunc_s_int64_int64__w0 S K X0 (slices_IndexFunc_s_int64_int64__e0 s0_ f1_ i7_ i8_) h = slices_IndexFunc_s_int64_int64__b0 S K X0 s0_ f1_ i7_ i8_ h := by kernel_rfl
theorem slices_IndexFunc_s_int64_int64__rule0 (S : SatT) (K : AVal → H → Prop) (s0_ : Sl) (f1_ : AVal) (i7_ : Int) (I_ : Int → H → Prop) (m_ : Int → H → Nat)
    (hs : ∀ (X0 : Frame → H → Prop) (i8_ : Int) (h : H), I_ i8_ h → (∀ (i8_' : Int) (h' : H), I_ i8_' h' → m_ i8_' h' < m_ i8_ h → X0 (slices_IndexFunc_s_int64_int64__e0 s0_ f1_ i7_ i8_') h') → slices_IndexFunc_s_int64_int64__b0 S K X0 s0_ f1_ i7_ i8_ h) (i8_ : Int) {h : H} (h0 : I_ i8_ h) : slices_IndexFunc_s_int64_int64__L0 S K s0_ f1_ i7_ i8_ h :=
  loop_rule (σ := (Int)) (fun s_ => slices_IndexFunc_s_int64_int64__e0 s0_ f1_ i7_ (s_)) (fun s_ h => I_ (s_) h) (fun s_ h => m_ (s_) h)
    (fun X s_ h hi hx => (slices_IndexFunc_s_int64_int64__link0 S K X s0_ f1_ i7_ (s_) h).mpr (hs X (s_) h hi fun i8_' h' hi' hm' => hx (i8_') h' hi' hm')) (i8_) h0
theorem slices_IndexFunc_s_int64_int64__unroll0 (S : SatT) (K : AVal → H → Prop) (s0_ : Sl) (f1_ : AVal) (i7_ : Int) (i8_ : Int) (h : H) (hb : slices_IndexFunc_s_int64_int64__b0 S K (fun fr h => loopK (slices_IndexFunc_s_int64_int64__w0 S K) fr h) s0_ f1_ i7_ i8_ h) : slices_IndexFunc_s_int64_int64__L0 S K s0_ f1_ i7_ i8_ h := loop_unroll ((slices_IndexFunc_s_int64_int64__link0 S K _ s0_ f1_ i7_ i8_ h).mpr hb)
def slices_IndexFunc_s_int64_int64__main (S : SatT) (K : AVal → H → Prop) (x0 : Sl) (x1 : AVal) (h : H) : Prop :=
 slices_IndexFunc_s_int64_int64__L0 S K x0 x1 (x0.len : Int) (0) h
theorem slices_IndexFunc_s_int64_int64__main_link (S : SatT) (K : AVal → H → Prop) (x0 : Sl) (x1 : AVal) (h : H) : cwp S tab slices_IndexFunc_s_int64_int64__M [] (bodyOf Try.f106) (kFun tab Try.f106.results.toList K) (fr0 Try.f106 [.sl x0, x1]) h = slices_IndexFunc_s_int64_int64__main S K x0 x1 h := by kernel_rfl
theorem slices_IndexFunc_s_int64_int64__call (x0 : Sl) (x1 : AVal) (h : H) (K : Int → H → Prop) (hm : slices_IndexFunc_s_int64_int64__main (Sat Try.prog) (fun v h' => ∃ r, v = .int .i64 r ∧ K r h') x0 x1 h) : callI (Sat Try.prog) .i64 i_slices_IndexFunc_s_int64_int64_ [.sl x0, x1] h K := by
  have := Sat.ex tok mixed slices_IndexFunc_s_int64_int64__M Try.func106 (c := bodyOf Try.f106) (by kernel_rfl) (calls_of Try.func106 (c := bodyOf Try.f106) (by kernel_rfl) (by decide)) ((slices_IndexFunc_s_int64_int64__main_link _ _ x0 x1 h).mpr hm)
  obtain ⟨v, h2, h3, r, rfl, h4⟩ := this; exact ⟨r, h2, h3, h4⟩

/-! ### loop.example/g01354/spec.l02Row -/
def spec_l02Row_M : Nat → List Nat := fun i => bif i == 0 then [1, 2, 5] else []
def spec_l02Row_ks5 (S : SatT) (K : AVal → H → Prop) : Kont := kSeq (cwp S tab spec_l02Row_M [] (sub [1, 1, 1] (bodyOf Try.f36)) (kFun tab (Try.f36).results.toList K)) (kFun tab (Try.f36).results.toList K)
def spec_l02Row_e0 (s1_ : Sl) (p2_ : Pt) (i5_ : Int) : Frame := [U, .sl s1_, .ptr p2_, U, U, .int .i64 i5_, U, U, U, U, U, U, U, U, U, U, U, U, U, U, U, U, U, U, U, U, U, U, U, U, U, U, U, U, U, U, U, U, U, U, U, U, U, U, U, U, U, U, U, U, U, U, U, U]
def spec_l02Row_w0 (S : SatT) (K : AVal → H → Prop) : (Frame → H → Prop) → Frame → H → Prop := fun X fr h => cwp S tab spec_l02Row_M (spec_l02Row_M 0) (sub [1, 1, 0, 1, 0, 0] (bodyOf Try.f36)) (kSeq (fun fr h => X (mask (spec_l02Row_M 0) fr) h) (kBlk 0 (spec_l02Row_ks5 S K))) fr h
def spec_l02Row_L0 (S : SatT) (K : AVal → H → Prop) (s1_ : Sl) (p2_ : Pt) (i5_ : Int) (h : H) : Prop := loopK (spec_l02Row_w0 S K) (spec_l02Row_e0 s1_ p2_ i5_) h
def spec_l02Row_C0 (S : SatT) (K : AVal → H → Prop) (h : H) : Prop :=
 K (.bool true) h
def spec_l02Row_b0 (S : SatT) (K : AVal → H → Prop) (X0 : Frame → H → Prop) (s1_ : Sl) (p2_ : Pt) (i5_ : Int) (h : H) : Prop :=
 bif (decide (i5_ < (s1_.len : Int))) then
 ixS s1_ 1 i5_ fun p0 =>
 ldI .i64 p0 h fun n1 =>
 isPt p2_ (
 ldS (Pt.add p2_ 1) h fun s2 =>
 callB S i_spec_l01In [.int .i64 n1, .int .i64 (0), .int .i64 (w64 ((s2.len : Int) - (1)))] h fun b4 h3 =>
 bif (!b4) then
 K (.bool false) h3
 else
 bif (decide (i5_ > (0))) then
 isPt p2_ (
 ldS (Pt.add p2_ 1) h3 fun s5 =>
 ixS s1_ 1 (w64 (i5_ - (1))) fun p6 =>
 ldI .i64 p6 h3 fun n7 =>
 ixS s5 4 n7 fun p8 =>
 ixA p8 4 1 (2) fun p9 =>
 ldI .i64 p9 h3 fun n10 =>
 isPt p2_ (
 ldS (Pt.add p2_ 1) h3 fun s11 =>
 ixS s1_ 1 i5_ fun p12 =>
 ldI .i64 p12 h3 fun n13 =>
 ixS s11 4 n13 fun p14 =>
 ixA p14 4 1 (0) fun p15 =>
 ldI .i64 p15 h3 fun n16 =>
 bif (n10 != n16) then
 K (.bool false) h3
 else
 X0 (spec_l02Row_e0 s1_ p2_ (w64 (i5_ + (1)))) h3))
 else
 X0 (spec_l02Row_e0 s1_ p2_ (w64 (i5_ + (1)))) h3)
 else
 spec_l02Row_C0 S K h
theorem spec_l02Row_link0 (S : SatT) (K : AVal → H → Prop) (X0 : Frame → H → Prop) (s1_ : Sl) (p2_ : Pt) (i5_ : Int) (h : H) : spec_l02Row_w0 S K X0 (spec_l02Row_e0 s1_ p2_ i5_) h = spec_l02Row_b0 S K X0 s1_ p2_ i5_ h := by kernel_rfl
theorem spec_l02Row_rule0 (S : SatT) (K : AVal → H → Prop) (s1_ : Sl) (p2_ : Pt) (I_ : Int → H → Prop) (m_ : Int → H → Nat)
    (hs : ∀ (X0 : Frame → H → Prop) (i5_ : Int) (h : H), I_ i5_ h → (∀ (i5_' : Int) (h' : H), I_ i5_' h' → m_ i5_' h' < m_ i5_ h → X0 (spec_l02Row_e0 s1_ p2_ i5_') h') → spec_l02Row_b0 S K X0 s1_ p2_ i5_ h) (i5_ : Int) {h : H} (h0 : I_ i5_ h) : spec_l02Row_L0 S K s1_ p2_ i5_ h :=
  loop_rule (σ := (Int)) (fun s_ => spec_l02Row_e0 s1_ p2_ (s_)) (fun s_ h => I_ (s_) h) (fun s_ h => m_ (s_) h)
    (fun X s_ h hi hx => (spec_l02Row_link0 S K X s1_ p2_ (s_) h).mpr (hs X (s_) h hi fun i5_' h' hi' hm' => hx (i5_') h' hi' hm')) (i5_) h0
theorem spec_l02Row_unroll0 (S : SatT) (K : AVal → H → Prop) (s1_ : Sl) (p2_ : Pt) (i5_ : Int) (h : H) (hb : spec_l02Row_b0 S K (fun fr h => loopK (spec_l02Row_w0 S K) fr h) s1_ p2_ i5_ h) : spec_l02Row_L0 S K s1_ p2_ i5_ h := loop_unroll ((spec_l02Row_link0 S K _ s1_ p2_ i5_ h).mpr hb)
def spec_l02Row_main (S : SatT) (K : AVal → H → Prop) (x0 : List AVal) (x1 : Sl) (h : H) : Prop :=
 newK 2 x0 h fun p0 h1 =>
 bif (decide ((x1.len : Int) < (1))) then
 K (.bool false) h1
 else
 bif (decide ((x1.len : Int) > (20))) then
 K (.bool false) h1
 else
 spec_l02Row_L0 S K x1 p0 (0) h1
theorem spec_l02Row_main_link (S : SatT) (K : AVal → H → Prop) (x0 : List AVal) (x1 : Sl) (h : H) : cwp S tab spec_l02Row_M [] (bodyOf Try.f36) (kFun tab Try.f36.results.toList K) (fr0 Try.f36 [.agg x0, .sl x1]) h = spec_l02Row_main S K x0 x1 h := by kernel_rfl
theorem spec_l02Row_call (x0 : List AVal) (x1 : Sl) (h : H) (K : Bool → H → Prop) (hm : spec_l02Row_main (Sat Try.prog) (fun v h' => ∃ r, v = .bool r ∧ K r h') x0 x1 h) : callB (Sat Try.prog) i_spec_l02Row [.agg x0, .sl x1] h K := by
  have := Sat.ex tok mixed spec_l02Row_M Try.func36 (c := bodyOf Try.f36) (by kernel_rfl) (calls_of Try.func36 (c := bodyOf Try.f36) (by kernel_rfl) (by decide)) ((spec_l02Row_main_link _ _ x0 x1 h).mpr hm)
  obtain ⟨v, h2, h3, r, rfl, h4⟩ := this; exact ⟨r, h2, h3, h4⟩

/-! ### loop.example/g01354/laws.toTile -/
def laws_toTile_M : Nat → List Nat := fun i => bif i == 0 then [1, 2, 3, 4] else []
def laws_toTile_ks2 (S : SatT) (K : AVal → H → Prop) : Kont := kSeq (cwp S tab laws_toTile_M [] (sub [1, 1, 1] (bodyOf Try.f61)) (kFun tab (Try.f61).results.toList K)) (kFun tab (Try.f61).results.toList K)
def laws_toTile_e0 (p1_ : Pt) (p2_ : Pt) (p3_ : Pt) (i4_ : Int) : Frame := [U, .ptr p1_, .ptr p2_, .ptr p3_, .int .i64 i4_, U, U, U, U, U, U, U, U, U, U]
def laws_toTile_w0 (S : SatT) (K : AVal → H → Prop) : (Frame → H → Prop) → Frame → H → Prop := fun X fr h => cwp S tab laws_toTile_M (laws_toTile_M 0) (sub [1, 1, 0, 1, 0, 0] (bodyOf Try.f61)) (kSeq (fun fr h => X (mask (laws_toTile_M 0) fr) h) (kBlk 0 (laws_toTile_ks2 S K))) fr h
def laws_toTile_L0 (S : SatT) (K : AVal → H → Prop) (p1_ : Pt) (p2_ : Pt) (p3_ : Pt) (i4_ : Int) (h : H) : Prop := loopK (laws_toTile_w0 S K) (laws_toTile_e0 p1_ p2_ p3_ i4_) h
def laws_toTile_C0 (S : SatT) (K : AVal → H → Prop) (p2_ : Pt) (p3_ : Pt) (h : H) : Prop :=
 ldA p3_ 4 h fun cs0 =>
 stN p2_ 4 cs0 h fun h1 =>
 ldA p2_ 4 h1 fun cs2 =>
 K (.agg cs2) h1
def laws_toTile_b0 (S : SatT) (K : AVal → H → Prop) (X0 : Frame → H → Prop) (p1_ : Pt) (p2_ : Pt) (p3_ : Pt) (i4_ : Int) (h : H) : Prop :=
 bif (decide (i4_ < (4))) then
 ixA p1_ 4 1 i4_ fun p0 =>
 ldI .i64 p0 h fun n1 =>
 ixA p3_ 4 1 i4_ fun p2 =>
 st1 p2 (.int .i64 n1) h fun h3 =>
 X0 (laws_toTile_e0 p1_ p2_ p3_ (w64 (i4_ + (1)))) h3
 else
 laws_toTile_C0 S K p2_ p3_ h
theorem laws_toTile_link0 (S : SatT) (K : AVal → H → Prop) (X0 : Frame → H → Prop) (p1_ : Pt) (p2_ : Pt) (p3_ : Pt) (i4_ : Int) (h : H) : laws_toTile_w0 S K X0 (laws_toTile_e0 p1_ p2_ p3_ i4_) h = laws_toTile_b0 S K X0 p1_ p2_ p3_ i4_ h := by kernel_rfl
theorem laws_toTile_rule0 (S : SatT) (K : AVal → H → Prop) (p1_ : Pt) (p2_ : Pt) (p3_ : Pt) (I_ : Int → H → Prop) (m_ : Int → H → Nat)
    (hs : ∀ (X0 : Frame → H → Prop) (i4_ : Int) (h : H), I_ i4_ h → (∀ (i4_' : Int) (h' : H), I_ i4_' h' → m_ i4_' h' < m_ i4_ h → X0 (laws_toTile_e0 p1_ p2_ p3_ i4_') h') → laws_toTile_b0 S K X0 p1_ p2_ p3_ i4_ h) (i4_ : Int) {h : H} (h0 : I_ i4_ h) : laws_toTile_L0 S K p1_ p2_ p3_ i4_ h :=
  loop_rule (σ := (Int)) (fun s_ => laws_toTile_e0 p1_ p2_ p3_ (s_)) (fun s_ h => I_ (s_) h) (fun s_ h => m_ (s_) h)
    (fun X s_ h hi hx => (laws_toTile_link0 S K X p1_ p2_ p3_ (s_) h).mpr (hs X (s_) h hi fun i4_' h' hi' hm' => hx (i4_') h' hi' hm')) (i4_) h0
theorem laws_toTile_unroll0 (S : SatT) (K : AVal → H → Prop) (p1_ : Pt) (p2_ : Pt) (p3_ : Pt) (i4_ : Int) (h : H) (hb : laws_toTile_b0 S K (fun fr h => loopK (laws_toTile_w0 S K) fr h) p1_ p2_ p3_ i4_ h) : laws_toTile_L0 S K p1_ p2_ p3_ i4_ h := loop_unroll ((laws_toTile_link0 S K _ p1_ p2_ p3_ i4_ h).mpr hb)
def laws_toTile_main (S : SatT) (K : AVal → H → Prop) (x0 : List AVal) (h : H) : Prop :=
 newK 4 x0 h fun p0 h1 =>
 newO [.int .i64 (0), .int .i64 (0), .int .i64 (0), .int .i64 (0)] h1 fun p2 h3 =>
 newO [.int .i64 (0), .int .i64 (0), .int .i64 (0), .int .i64 (0)] h3 fun p4 h5 =>
 laws_toTile_L0 S K p0 p2 p4 (0) h5
theorem laws_toTile_main_link (S : SatT) (K : AVal → H → Prop) (x0 : List AVal) (h : H) : cwp S tab laws_toTile_M [] (bodyOf Try.f61) (kFun tab Try.f61.results.toList K) (fr0 Try.f61 [.agg x0]) h = laws_toTile_main S K x0 h := by kernel_rfl
theorem laws_toTile_call (x0 : List AVal) (h : H) (K : List AVal → H → Prop) (hm : laws_toTile_main (Sat Try.prog) (fun v h' => ∃ r, v = .agg r ∧ K r h') x0 h) : callA (Sat Try.prog) i_laws_toTile [.agg x0] h K := by
  have := Sat.ex tok mixed laws_toTile_M Try.func61 (c := bodyOf Try.f61) (by kernel_rfl) (calls_of Try.func61 (c := bodyOf Try.f61) (by kernel_rfl) (by decide)) ((laws_toTile_main_link _ _ x0 h).mpr hm)
  obtain ⟨v, h2, h3, r, rfl, h4⟩ := this; exact ⟨r, h2, h3, h4⟩

/-! ### loop.example/g01354/laws.eqInt64S -/
def laws_eqInt64S_M : Nat → List Nat := fun i => bif i == 0 then [0, 1, 5] else []
def laws_eqInt64S_ks4 (S : SatT) (K : AVal → H → Prop) : Kont := kSeq (cwp S tab laws_eqInt64S_M [] (sub [1, 1, 1] (bodyOf Try.f18)) (kFun tab (Try.f18).results.toList K)) (kFun tab (Try.f18).results.toList K)
def laws_eqInt64S_e0 (s0_ : Sl) (s1_ : Sl) (i5_ : Int) : Frame := [.sl s0_, .sl s1_, U, U, U, .int .i64 i5_, U, U, U, U, U, U, U, U, U, U, U, U, U, U, U, U, U, U, U, U]
def laws_eqInt64S_w0 (S : SatT) (K : AVal → H → Prop) : (Frame → H → Prop) → Frame → H → Prop := fun X fr h => cwp S tab laws_eqInt64S_M (laws_eqInt64S_M 0) (sub [1, 1, 0, 1, 0, 0] (bodyOf Try.f18)) (kSeq (fun fr h => X (mask (laws_eqInt64S_M 0) fr) h) (kBlk 0 (laws_eqInt64S_ks4 S K))) fr h
def laws_eqInt64S_L0 (S : SatT) (K : AVal → H → Prop) (s0_ : Sl) (s1_ : Sl) (i5_ : Int) (h : H) : Prop := loopK (laws_eqInt64S_w0 S K) (laws_eqInt64S_e0 s0_ s1_ i5_) h
def laws_eqInt64S_C0 (S : SatT) (K : AVal → H → Prop) (h : H) : Prop :=
 K (.bool true) h
def laws_eqInt64S_b0 (S : SatT) (K : AVal → H → Prop) (X0 : Frame → H → Prop) (s0_ : Sl) (s1_ : Sl) (i5_ : Int) (h : H) : Prop :=
 bif (decide (i5_ < (s0_.len : Int))) then
 ixS s0_ 1 i5_ fun p0 =>
 ldI .i64 p0 h fun n1 =>
 ixS s1_ 1 i5_ fun p2 =>
 ldI .i64 p2 h fun n3 =>
 bif (n1 != n3) then
 K (.bool false) h
 else
 X0 (laws_eqInt64S_e0 s0_ s1_ (w64 (i5_ + (1)))) h
 else
 laws_eqInt64S_C0 S K h
theorem laws_eqInt64S_link0 (S : SatT) (K : AVal → H → Prop) (X0 : Frame → H → Prop) (s0_ : Sl) (s1_ : Sl) (i5_ : Int) (h : H) : laws_eqInt64S_w0 S K X0 (laws_eqInt64S_e0 s0_ s1_ i5_) h = laws_eqInt64S_b0 S K X0 s0_ s1_ i5_ h := by kernel_rfl
theorem laws_eqInt64S_rule0 (S : SatT) (K : AVal → H → Prop) (s0_ : Sl) (s1_ : Sl) (I_ : Int → H → Prop) (m_ : Int → H → Nat)
    (hs : ∀ (X0 : Frame → H → Prop) (i5_ : Int) (h : H), I_ i5_ h → (∀ (i5_' : Int) (h' : H), I_ i5_' h' → m_ i5_' h' < m_ i5_ h → X0 (laws_eqInt64S_e0 s0_ s1_ i5_') h') → laws_eqInt64S_b0 S K X0 s0_ s1_ i5_ h) (i5_ : Int) {h : H} (h0 : I_ i5_ h) : laws_eqInt64S_L0 S K s0_ s1_ i5_ h :=
  loop_rule (σ := (Int)) (fun s_ => laws_eqInt64S_e0 s0_ s1_ (s_)) (fun s_ h => I_ (s_) h) (fun s_ h => m_ (s_) h)
    (fun X s_ h hi hx => (laws_eqInt64S_link0 S K X s0_ s1_ (s_) h).mpr (hs X (s_) h hi fun i5_' h' hi' hm' => hx (i5_') h' hi' hm')) (i5_) h0
theorem laws_eqInt64S_unroll0 (S : SatT) (K : AVal → H → Prop) (s0_ : Sl) (s1_ : Sl) (i5_ : Int) (h : H) (hb : laws_eqInt64S_b0 S K (fun fr h => loopK (laws_eqInt64S_w0 S K) fr h) s0_ s1_ i5_ h) : laws_eqInt64S_L0 S K s0_ s1_ i5_ h := loop_unroll ((laws_eqInt64S_link0 S K _ s0_ s1_ i5_ h).mpr hb)
def laws_eqInt64S_main (S : SatT) (K : AVal → H → Prop) (x0 : Sl) (x1 : Sl) (h : H) : Prop :=
 bif ((x0.len : Int) != (x1.len : Int)) then
 K (.bool false) h
 else
 laws_eqInt64S_L0 S K x0 x1 (0) h
theorem laws_eqInt64S_main_link (S : SatT) (K : AVal → H → Prop) (x0 : Sl) (x1 : Sl) (h : H) : cwp S tab laws_eqInt64S_M [] (bodyOf Try.f18) (kFun tab Try.f18.results.toList K) (fr0 Try.f18 [.sl x0, .sl x1]) h = laws_eqInt64S_main S K x0 x1 h := by kernel_rfl
theorem laws_eqInt64S_call (x0 : Sl) (x1 : Sl) (h : H) (K : Bool → H → Prop) (hm : laws_eqInt64S_main (Sat Try.prog) (fun v h' => ∃ r, v = .bool r ∧ K r h') x0 x1 h) : callB (Sat Try.prog) i_laws_eqInt64S [.sl x0, .sl x1] h K := by
  have := Sat.ex tok mixed laws_eqInt64S_M Try.func18 (c := bodyOf Try.f18) (by kernel_rfl) (calls_of Try.func18 (c := bodyOf Try.f18) (by kernel_rfl) (by decide)) ((laws_eqInt64S_main_link _ _ x0 x1 h).mpr hm)
  obtain ⟨v, h2, h3, r, rfl, h4⟩ := this; exact ⟨r, h2, h3, h4⟩

/-! ### loop.example/g01354/laws.toInt64S -/
def laws_toInt64S_M : Nat → List Nat := fun i => bif i == 0 then [0, 3, 4] else []
def laws_toInt64S_ks2 (S : SatT) (K : AVal → H → Prop) : Kont := kSeq (cwp S tab laws_toInt64S_M [] (sub [1, 1, 1] (bodyOf Try.f16)) (kFun tab (Try.f16).results.toList K)) (kFun tab (Try.f16).results.toList K)
def laws_toInt64S_e0 (s0_ : Sl) (s3_ : Sl) (i4_ : Int) : Frame := [.sl s0_, U, U, .sl s3_, .int .i64 i4_, U, U, U, U, U, U, U, U, U, U, U, U, U, U, U, U, U]
def laws_toInt64S_w0 (S : SatT) (K : AVal → H → Prop) : (Frame → H → Prop) → Frame → H → Prop := fun X fr h => cwp S tab laws_toInt64S_M (laws_toInt64S_M 0) (sub [1, 1, 0, 1, 0, 0] (bodyOf Try.f16)) (kSeq (fun fr h => X (mask (laws_toInt64S_M 0) fr) h) (kBlk 0 (laws_toInt64S_ks2 S K))) fr h
def laws_toInt64S_L0 (S : SatT) (K : AVal → H → Prop) (s0_ : Sl) (s3_ : Sl) (i4_ : Int) (h : H) : Prop := loopK (laws_toInt64S_w0 S K) (laws_toInt64S_e0 s0_ s3_ i4_) h
def laws_toInt64S_C0 (S : SatT) (K : AVal → H → Prop) (s3_ : Sl) (h : H) : Prop :=
 K (.sl s3_) h
def laws_toInt64S_b0 (S : SatT) (K : AVal → H → Prop) (X0 : Frame → H → Prop) (s0_ : Sl) (s3_ : Sl) (i4_ : Int) (h : H) : Prop :=
 bif (decide (i4_ < (s0_.len : Int))) then
 ixS s0_ 1 i4_ fun p0 =>
 ldI .i64 p0 h fun n1 =>
 ixS s3_ 1 i4_ fun p2 =>
 st1 p2 (.int .i64 n1) h fun h3 =>
 X0 (laws_toInt64S_e0 s0_ s3_ (w64 (i4_ + (1)))) h3
 else
 laws_toInt64S_C0 S K s3_ h
theorem laws_toInt64S_link0 (S : SatT) (K : AVal → H → Prop) (X0 : Frame → H → Prop) (s0_ : Sl) (s3_ : Sl) (i4_ : Int) (h : H) : laws_toInt64S_w0 S K X0 (laws_toInt64S_e0 s0_ s3_ i4_) h = laws_toInt64S_b0 S K X0 s0_ s3_ i4_ h := by kernel_rfl
theorem laws_toInt64S_rule0 (S : SatT) (K : AVal → H → Prop) (s0_ : Sl) (s3_ : Sl) (I_ : Int → H → Prop) (m_ : Int → H → Nat)
    (hs : ∀ (X0 : Frame → H → Prop) (i4_ : Int) (h : H), I_ i4_ h → (∀ (i4_' : Int) (h' : H), I_ i4_' h' → m_ i4_' h' < m_ i4_ h → X0 (laws_toInt64S_e0 s0_ s3_ i4_') h') → laws_toInt64S_b0 S K X0 s0_ s3_ i4_ h) (i4_ : Int) {h : H} (h0 : I_ i4_ h) : laws_toInt64S_L0 S K s0_ s3_ i4_ h :=
  loop_rule (σ := (Int)) (fun s_ => laws_toInt64S_e0 s0_ s3_ (s_)) (fun s_ h => I_ (s_) h) (fun s_ h => m_ (s_) h)
    (fun X s_ h hi hx => (laws_toInt64S_link0 S K X s0_ s3_ (s_) h).mpr (hs X (s_) h hi fun i4_' h' hi' hm' => hx (i4_') h' hi' hm')) (i4_) h0
theorem laws_toInt64S_unroll0 (S : SatT) (K : AVal → H → Prop) (s0_ : Sl) (s3_ : Sl) (i4_ : Int) (h : H) (hb : laws_toInt64S_b0 S K (fun fr h => loopK (laws_toInt64S_w0 S K) fr h) s0_ s3_ i4_ h) : laws_toInt64S_L0 S K s0_ s3_ i4_ h := loop_unroll ((laws_toInt64S_link0 S K _ s0_ s3_ i4_ h).mpr hb)
def laws_toInt64S_main (S : SatT) (K : AVal → H → Prop) (x0 : Sl) (h : H) : Prop :=
 mkS (x0.len : Int) [.int .i64 (0)] h fun s0 h1 =>
 laws_toInt64S_L0 S K x0 s0 (0) h1
theorem laws_toInt64S_main_link (S : SatT) (K : AVal → H → Prop) (x0 : Sl) (h : H) : cwp S tab laws_toInt64S_M [] (bodyOf Try.f16) (kFun tab Try.f16.results.toList K) (fr0 Try.f16 [.sl x0]) h = laws_toInt64S_main S K x0 h := by kernel_rfl
theorem laws_toInt64S_call (x0 : Sl) (h : H) (K : Sl → H → Prop) (hm : laws_toInt64S_main (Sat Try.prog) (fun v h' => ∃ r, v = .sl r ∧ K r h') x0 h) : callS (Sat Try.prog) i_laws_toInt64S [.sl x0] h K := by
  have := Sat.ex tok mixed laws_toInt64S_M Try.func16 (c := bodyOf Try.f16) (by kernel_rfl) (calls_of Try.func16 (c := bodyOf Try.f16) (by kernel_rfl) (by decide)) ((laws_toInt64S_main_link _ _ x0 h).mpr hm)
  obtain ⟨v, h2, h3, r, rfl, h4⟩ := this; exact ⟨r, h2, h3, h4⟩

/-! ### loop.example/g01354/spec.l04Tile -/
def spec_l04Tile_M : Nat → List Nat := fun i => []
def spec_l04Tile_main (S : SatT) (K : AVal → H → Prop) (x0 : List AVal) (x1 : List AVal) (x2 : Sl) (h : H) : Prop :=
 newK 4 x0 h fun p0 h1 =>
 newK 4 x1 h1 fun p2 h3 =>
 newO [.int .i64 (0), .int .i64 (0), .int .i64 (0), .int .i64 (0)] h3 fun p4 h5 =>
 ixA p0 4 1 (0) fun p6 =>
 ldI .i64 p6 h5 fun n7 =>
 ixA p2 4 1 (0) fun p8 =>
 ldI .i64 p8 h5 fun n9 =>
 callI S .i64 i_spec_l04Find [.sl x2, .int .i64 (w64 ((w64 ((16) * n7)) + n9))] h5 fun n11 h10 =>
 ixA p0 4 1 (1) fun p12 =>
 ldI .i64 p12 h10 fun n13 =>
(cell h5 p12 = cell h10 p12) ∧ (
 ixA p0 4 1 (2) fun p14 =>
 ldI .i64 p14 h10 fun n15 =>
(cell h5 p14 = cell h10 p14) ∧ (
 ixA p2 4 1 (2) fun p16 =>
 ldI .i64 p16 h10 fun n17 =>
(cell h5 p16 = cell h10 p16) ∧ (
 callI S .i64 i_spec_l04Find [.sl x2, .int .i64 (w64 ((w64 ((16) * n15)) + n17))] h10 fun n19 h18 =>
(cell h18 p12 = cell h10 p12) ∧ (
 ixA p2 4 1 (3) fun p20 =>
 ldI .i64 p20 h18 fun n21 =>
(cell h10 p20 = cell h18 p20) ∧ (
(cell h5 p20 = cell h18 p20) ∧ (
 stN p4 4 [.int .i64 n11, .int .i64 n13, .int .i64 n19, .int .i64 n21] h18 fun h22 =>
 ldA p4 4 h22 fun cs23 =>
 K (.agg cs23) h22))))))
theorem spec_l04Tile_main_link (S : SatT) (K : AVal → H → Prop) (x0 : List AVal) (x1 : List AVal) (x2 : Sl) (h : H) : cwp S tab spec_l04Tile_M [] (bodyOf Try.f38) (kFun tab Try.f38.results.toList K) (fr0 Try.f38 [.agg x0, .agg x1, .sl x2]) h = spec_l04Tile_main S K x0 x1 x2 h := by kernel_rfl
theorem spec_l04Tile_call (x0 : List AVal) (x1 : List AVal) (x2 : Sl) (h : H) (K : List AVal → H → Prop) (hm : spec_l04Tile_main (Sat Try.prog) (fun v h' => ∃ r, v = .agg r ∧ K r h') x0 x1 x2 h) : callA (Sat Try.prog) i_spec_l04Tile [.agg x0, .agg x1, .sl x2] h K := by
  have := Sat.ex tok mixed spec_l04Tile_M Try.func38 (c := bodyOf Try.f38) (by kernel_rfl) (calls_of Try.func38 (c := bodyOf Try.f38) (by kernel_rfl) (by decide)) ((spec_l04Tile_main_link _ _ x0 x1 x2 h).mpr hm)
  obtain ⟨v, h2, h3, r, rfl, h4⟩ := this; exact ⟨r, h2, h3, h4⟩

/-! ### slices.ContainsFunc[[]loop.example/g01354/impl.Set,loop.example/g01354/impl.Set] -/
def slices_ContainsFunc_s_impl_Set_impl_Set__M : Nat → List Nat := fun i => []
def slices_ContainsFunc_s_impl_Set_impl_Set__main (S : SatT) (K : AVal → H → Prop) (x0 : Sl) (x1 : AVal) (h : H) : Prop :=
 callI S .i64 i_slices_IndexFunc_s_impl_Set_impl_Set_ [.sl x0, x1] h fun n1 h0 =>
 K (.bool (decide (n1 ≥ (0)))) h0
theorem slices_ContainsFunc_s_impl_Set_impl_Set__main_link (S : SatT) (K : AVal → H → Prop) (x0 : Sl) (x1 : AVal) (h : H) : cwp S tab slices_ContainsFunc_s_impl_Set_impl_Set__M [] (bodyOf Try.f62) (kFun tab Try.f62.results.toList K) (fr0 Try.f62 [.sl x0, x1]) h = slices_ContainsFunc_s_impl_Set_impl_Set__main S K x0 x1 h := by kernel_rfl
theorem slices_ContainsFunc_s_impl_Set_impl_Set__call (x0 : Sl) (x1 : AVal) (h : H) (K : Bool → H → Prop) (hm : slices_ContainsFunc_s_impl_Set_impl_Set__main (Sat Try.prog) (fun v h' => ∃ r, v = .bool r ∧ K r h') x0 x1 h) : callB (Sat Try.prog) i_slices_ContainsFunc_s_impl_Set_impl_Set_ [.sl x0, x1] h K := by
  have := Sat.ex tok mixed slices_ContainsFunc_s_impl_Set_impl_Set__M Try.func62 (c := bodyOf Try.f62) (by kernel_rfl) (calls_of Try.func62 (c := bodyOf Try.f62) (by kernel_rfl) (by decide)) ((slices_ContainsFunc_s_impl_Set_impl_Set__main_link _ _ x0 x1 h).mpr hm)
  obtain ⟨v, h2, h3, r, rfl, h4⟩ := this; exact ⟨r, h2, h3, h4⟩

/-! ### loop.example/g01354/impl.pairOf -/
def impl_pairOf_M : Nat → List Nat := fun i => []
def impl_pairOf_main (S : SatT) (K : AVal → H → Prop) (x0 : List AVal) (x1 : List AVal) (x2 : Int) (h : H) : Prop :=
 newK 4 x0 h fun p0 h1 =>
 newK 4 x1 h1 fun p2 h3 =>
 newO [.int .i64 (0), .int .i64 (0)] h3 fun p4 h5 =>
 ixA p0 4 1 x2 fun p6 =>
 ldI .i64 p6 h5 fun n7 =>
 ixA p2 4 1 x2 fun p8 =>
 ldI .i64 p8 h5 fun n9 =>
 stN p4 2 [.int .i64 n7, .int .i64 n9] h5 fun h10 =>
 ldA p4 2 h10 fun cs11 =>
 K (.agg cs11) h10
theorem impl_pairOf_main_link (S : SatT) (K : AVal → H → Prop) (x0 : List AVal) (x1 : List AVal) (x2 : Int) (h : H) : cwp S tab impl_pairOf_M [] (bodyOf Try.f71) (kFun tab Try.f71.results.toList K) (fr0 Try.f71 [.agg x0, .agg x1, .int .i64 x2]) h = impl_pairOf_main S K x0 x1 x2 h := by kernel_rfl
theorem impl_pairOf_call (x0 : List AVal) (x1 : List AVal) (x2 : Int) (h : H) (K : List AVal → H → Prop) (hm : impl_pairOf_main (Sat Try.prog) (fun v h' => ∃ r, v = .agg r ∧ K r h') x0 x1 x2 h) : callA (Sat Try.prog) i_impl_pairOf [.agg x0, .agg x1, .int .i64 x2] h K := by
  have := Sat.ex tok mixed impl_pairOf_M Try.func71 (c := bodyOf Try.f71) (by kernel_rfl) (calls_of Try.func71 (c := bodyOf Try.f71) (by kernel_rfl) (by decide)) ((impl_pairOf_main_link _ _ x0 x1 x2 h).mpr hm)
  obtain ⟨v, h2, h3, r, rfl, h4⟩ := this; exact ⟨r, h2, h3, h4⟩

/-! ### loop.example/g01354/spec.l04Code -/
def spec_l04Code_M : Nat → List Nat := fun i => []
def spec_l04Code_main (S : SatT) (K : AVal → H → Prop) (x0 : List AVal) (x1 : Int) (h : H) : Prop :=
 newK 2 x0 h fun p0 h1 =>
 ldA p0 2 h1 fun cs2 =>
 callB S i_spec_l01Is [.agg cs2] h1 fun b4 h3 =>
 bif (!b4) then
 K (.int .i64 (1)) h3
 else
 callB S i_spec_l01In [.int .i64 x1, .int .i64 (1), .int .i64 (6)] h3 fun b6 h5 =>
 bif (!b6) then
 K (.int .i64 (2)) h5
 else
 K (.int .i64 (0)) h5
theorem spec_l04Code_main_link (S : SatT) (K : AVal → H → Prop) (x0 : List AVal) (x1 : Int) (h : H) : cwp S tab spec_l04Code_M [] (bodyOf Try.f49) (kFun tab Try.f49.results.toList K) (fr0 Try.f49 [.agg x0, .int .i64 x1]) h = spec_l04Code_main S K x0 x1 h := by kernel_rfl
theorem spec_l04Code_call (x0 : List AVal) (x1 : Int) (h : H) (K : Int → H → Prop) (hm : spec_l04Code_main (Sat Try.prog) (fun v h' => ∃ r, v = .int .i64 r ∧ K r h') x0 x1 h) : callI (Sat Try.prog) .i64 i_spec_l04Code [.agg x0, .int .i64 x1] h K := by
  have := Sat.ex tok mixed spec_l04Code_M Try.func49 (c := bodyOf Try.f49) (by kernel_rfl) (calls_of Try.func49 (c := bodyOf Try.f49) (by kernel_rfl) (by decide)) ((spec_l04Code_main_link _ _ x0 x1 h).mpr hm)
  obtain ⟨v, h2, h3, r, rfl, h4⟩ := this; exact ⟨r, h2, h3, h4⟩

/-! ### loop.example/g01354/impl.pairs$1 -/
def impl_pairs_1_M : Nat → List Nat := fun i => []
def impl_pairs_1_main (S : SatT) (K : AVal → H → Prop) (x0 : List AVal) (x1 : List AVal) (h : H) : Prop :=
 newK 2 x0 h fun p0 h1 =>
 newK 2 x1 h1 fun p2 h3 =>
 cutA p0 2 1 (0) ((2 : Nat) : Int) fun s4 =>
 cutA p2 2 1 (0) ((2 : Nat) : Int) fun s5 =>
 callI S .i64 i_slices_Compare_s_int64_int64_ [.sl s4, .sl s5] h3 fun n7 h6 =>
 K (.int .i64 n7) h6
theorem impl_pairs_1_main_link (S : SatT) (K : AVal → H → Prop) (x0 : List AVal) (x1 : List AVal) (h : H) : cwp S tab impl_pairs_1_M [] (bodyOf Try.f87) (kFun tab Try.f87.results.toList K) (fr0 Try.f87 [.agg x0, .agg x1]) h = impl_pairs_1_main S K x0 x1 h := by kernel_rfl
theorem impl_pairs_1_call (x0 : List AVal) (x1 : List AVal) (h : H) (K : Int → H → Prop) (hm : impl_pairs_1_main (Sat Try.prog) (fun v h' => ∃ r, v = .int .i64 r ∧ K r h') x0 x1 h) : callI (Sat Try.prog) .i64 i_impl_pairs_1 [.agg x0, .agg x1] h K := by
  have := Sat.ex tok mixed impl_pairs_1_M Try.func87 (c := bodyOf Try.f87) (by kernel_rfl) (calls_of Try.func87 (c := bodyOf Try.f87) (by kernel_rfl) (by decide)) ((impl_pairs_1_main_link _ _ x0 x1 h).mpr hm)
  obtain ⟨v, h2, h3, r, rfl, h4⟩ := this; exact ⟨r, h2, h3, h4⟩

/-! ### loop.example/g01354/impl.isTile -/
def impl_isTile_M : Nat → List Nat := fun i => []
def impl_isTile_main (S : SatT) (K : AVal → H → Prop) (x0 : List AVal) (x1 : Int) (h : H) : Prop :=
 newK 4 x0 h fun p0 h1 =>
 newO [.int .i64 x1] h1 fun p2 h3 =>
 cutA p0 4 1 (0) ((4 : Nat) : Int) fun s4 =>
 callB S i_slices_ContainsFunc_s_int64_int64_ [.sl s4, .func 93 [.ptr p2]] h3 fun b6 h5 =>
 K (.bool (!b6)) h5
theorem impl_isTile_main_link (S : SatT) (K : AVal → H → Prop) (x0 : List AVal) (x1 : Int) (h : H) : cwp S tab impl_isTile_M [] (bodyOf Try.f84) (kFun tab Try.f84.results.toList K) (fr0 Try.f84 [.agg x0, .int .i64 x1]) h = impl_isTile_main S K x0 x1 h := by kernel_rfl
theorem impl_isTile_call (x0 : List AVal) (x1 : Int) (h : H) (K : Bool → H → Prop) (hm : impl_isTile_main (Sat Try.prog) (fun v h' => ∃ r, v = .bool r ∧ K r h') x0 x1 h) : callB (Sat Try.prog) i_impl_isTile [.agg x0, .int .i64 x1] h K := by
  have := Sat.ex tok mixed impl_isTile_M Try.func84 (c := bodyOf Try.f84) (by kernel_rfl) (calls_of Try.func84 (c := bodyOf Try.f84) (by kernel_rfl) (by decide)) ((impl_isTile_main_link _ _ x0 x1 h).mpr hm)
  obtain ⟨v, h2, h3, r, rfl, h4⟩ := this; exact ⟨r, h2, h3, h4⟩

/-! ### loop.example/g01354/laws.markSet -/
def laws_markSet_M : Nat → List Nat := fun i => []
def laws_markSet_main (S : SatT) (K : AVal → H → Prop) (x0 : List AVal) (x1 : Int) (h : H) : Prop :=
 newK 2 x0 h fun p0 h1 =>
 isPt p0 (
 ldS (Pt.add p0 1) h1 fun s2 =>
 callI S .i64 i_laws_markTileS [.sl s2, .int .i64 x1] h1 fun n4 h3 =>
 K (.int .i64 n4) h3)
theorem laws_markSet_main_link (S : SatT) (K : AVal → H → Prop) (x0 : List AVal) (x1 : Int) (h : H) : cwp S tab laws_markSet_M [] (bodyOf Try.f13) (kFun tab Try.f13.results.toList K) (fr0 Try.f13 [.agg x0, .int .i64 x1]) h = laws_markSet_main S K x0 x1 h := by kernel_rfl
theorem laws_markSet_call (x0 : List AVal) (x1 : Int) (h : H) (K : Int → H → Prop) (hm : laws_markSet_main (Sat Try.prog) (fun v h' => ∃ r, v = .int .i64 r ∧ K r h') x0 x1 h) : callI (Sat Try.prog) .i64 i_laws_markSet [.agg x0, .int .i64 x1] h K := by
  have := Sat.ex tok mixed laws_markSet_M Try.func13 (c := bodyOf Try.f13) (by kernel_rfl) (calls_of Try.func13 (c := bodyOf Try.f13) (by kernel_rfl) (by decide)) ((laws_markSet_main_link _ _ x0 x1 h).mpr hm)
  obtain ⟨v, h2, h3, r, rfl, h4⟩ := this; exact ⟨r, h2, h3, h4⟩

/-! ### slices.Collect[loop.example/g01354/impl.Tile] -/
def slices_Collect_impl_Tile__M : Nat → List Nat := fun i => []
def slices_Collect_impl_Tile__main (S : SatT) (K : AVal → H → Prop) (x0 : AVal) (h : H) : Prop :=
 callS S i_slices_AppendSeq_s_impl_Tile_impl_Tile_ [.sl Sl.nil, x0] h fun s1 h0 =>
 K (.sl s1) h0
theorem slices_Collect_impl_Tile__main_link (S : SatT) (K : AVal → H → Prop) (x0 : AVal) (h : H) : cwp S tab slices_Collect_impl_Tile__M [] (bodyOf Try.f76) (kFun tab Try.f76.results.toList K) (fr0 Try.f76 [x0]) h = slices_Collect_impl_Tile__main S K x0 h := by kernel_rfl
theorem slices_Collect_impl_Tile__call (x0 : AVal) (h : H) (K : Sl → H → Prop) (hm : slices_Collect_impl_Tile__main (Sat Try.prog) (fun v h' => ∃ r, v = .sl r ∧ K r h') x0 h) : callS (Sat Try.prog) i_slices_Collect_impl_Tile_ [x0] h K := by
  have := Sat.ex tok mixed slices_Collect_impl_Tile__M Try.func76 (c := bodyOf Try.f76) (by kernel_rfl) (calls_of Try.func76 (c := bodyOf Try.f76) (by kernel_rfl) (by decide)) ((slices_Collect_impl_Tile__main_link _ _ x0 h).mpr hm)
  obtain ⟨v, h2, h3, r, rfl, h4⟩ := this; exact ⟨r, h2, h3, h4⟩

/-! ### loop.example/g01354/impl.FailingHeight$1 -/
def impl_FailingHeight_1_M : Nat → List Nat := fun i => []
def impl_FailingHeight_1_main (S : SatT) (K : AVal → H → Prop) (x0 : Pt) (h : H) : Prop :=
 ldI .i64 x0 h fun n0 =>
 callB S i_impl_within [.int .i64 n0, .int .i64 (1), .int .i64 (6)] h fun b2 h1 =>
 K (.bool b2) h1
theorem impl_FailingHeight_1_main_link (S : SatT) (K : AVal → H → Prop) (x0 : Pt) (h : H) : cwp S tab impl_FailingHeight_1_M [] (bodyOf Try.f51) (kFun tab Try.f51.results.toList K) (fr0 Try.f51 [.ptr x0]) h = impl_FailingHeight_1_main S K x0 h := by kernel_rfl
theorem impl_FailingHeight_1_call (x0 : Pt) (h : H) (K : Bool → H → Prop) (hm : impl_FailingHeight_1_main (Sat Try.prog) (fun v h' => ∃ r, v = .bool r ∧ K r h') x0 h) : callB (Sat Try.prog) i_impl_FailingHeight_1 [.ptr x0] h K := by
  have := Sat.ex tok mixed impl_FailingHeight_1_M Try.func51 (c := bodyOf Try.f51) (by kernel_rfl) (calls_of Try.func51 (c := bodyOf Try.f51) (by kernel_rfl) (by decide)) ((impl_FailingHeight_1_main_link _ _ x0 h).mpr hm)
  obtain ⟨v, h2, h3, r, rfl, h4⟩ := this; exact ⟨r, h2, h3, h4⟩

/-! ### loop.example/g01354/impl.areSets -/
def impl_areSets_M : Nat → List Nat := fun i => []
def impl_areSets_main (S : SatT) (K : AVal → H → Prop) (x0 : Sl) (h : H) : Prop :=
 callB S i_slices_ContainsFunc_s_impl_Set_impl_Set_ [.sl x0, .func 63 []] h fun b1 h0 =>
 K (.bool (!b1)) h0
theorem impl_areSets_main_link (S : SatT) (K : AVal → H → Prop) (x0 : Sl) (h : H) : cwp S tab impl_areSets_M [] (bodyOf Try.f31) (kFun tab Try.f31.results.toList K) (fr0 Try.f31 [.sl x0]) h = impl_areSets_main S K x0 h := by kernel_rfl
theorem impl_areSets_call (x0 : Sl) (h : H) (K : Bool → H → Prop) (hm : impl_areSets_main (Sat Try.prog) (fun v h' => ∃ r, v = .bool r ∧ K r h') x0 h) : callB (Sat Try.prog) i_impl_areSets [.sl x0] h K := by
  have := Sat.ex tok mixed impl_areSets_M Try.func31 (c := bodyOf Try.f31) (by kernel_rfl) (calls_of Try.func31 (c := bodyOf Try.f31) (by kernel_rfl) (by decide)) ((impl_areSets_main_link _ _ x0 h).mpr hm)
  obtain ⟨v, h2, h3, r, rfl, h4⟩ := this; exact ⟨r, h2, h3, h4⟩

/-! ### loop.example/g01354/spec.l04Made -/
def spec_l04Made_M : Nat → List Nat := fun i => bif i == 2 then [2, 3, 4, 6, 7, 8, 9] else bif i == 0 then [2, 3, 4, 6, 7, 8] else []
def spec_l04Made_ks2 (S : SatT) (K : AVal → H → Prop) : Kont := kSeq (cwp S tab spec_l04Made_M [] (sub [1, 1, 1] (bodyOf Try.f29)) (kFun tab (Try.f29).results.toList K)) (kFun tab (Try.f29).results.toList K)
def spec_l04Made_e0 (p2_ : Pt) (p3_ : Pt) (p4_ : Pt) (s6_ : Sl) (s7_ : Sl) (i8_ : Int) : Frame := [U, U, .ptr p2_, .ptr p3_, .ptr p4_, U, .sl s6_, .sl s7_, .int .i64 i8_, U, U, U, U, U, U, U, U, U, U, U, U, U, U, U, U, U, U, U, U, U, U, U, U, U, U, U, U, U, U, U, U, U, U, U, U, U, U, U, U, U, U, U, U, U, U, U, U, U, U, U, U, U, U, U, U, U, U, U, U, U, U, U, U, U, U, U, U]
def spec_l04Made_w0 (S : SatT) (K : AVal → H → Prop) : (Frame → H → Prop) → Frame → H → Prop := fun X fr h => cwp S tab spec_l04Made_M (spec_l04Made_M 0) (sub [1, 1, 0, 1, 0, 0] (bodyOf Try.f29)) (kSeq (fun fr h => X (mask (spec_l04Made_M 0) fr) h) (kBlk 0 (spec_l04Made_ks2 S K))) fr h
def spec_l04Made_L0 (S : SatT) (K : AVal → H → Prop) (p2_ : Pt) (p3_ : Pt) (p4_ : Pt) (s6_ : Sl) (s7_ : Sl) (i8_ : Int) (h : H) : Prop := loopK (spec_l04Made_w0 S K) (spec_l04Made_e0 p2_ p3_ p4_ s6_ s7_ i8_) h
def spec_l04Made_ks6 (S : SatT) (K : AVal → H → Prop) (X0 : Frame → H → Prop) : Kont := kSeq (cwp S tab spec_l04Made_M (spec_l04Made_M 0) (sub [1, 1, 0, 1, 0, 0, 1, 1] (bodyOf Try.f29)) (kSeq (fun fr h => X0 (mask (spec_l04Made_M 0) fr) h) (kBlk 0 (spec_l04Made_ks2 S K)))) (kSeq (fun fr h => X0 (mask (spec_l04Made_M 0) fr) h) (kBlk 0 (spec_l04Made_ks2 S K)))
def spec_l04Made_e2 (p2_ : Pt) (p3_ : Pt) (p4_ : Pt) (s6_ : Sl) (s7_ : Sl) (i8_ : Int) (i9_ : Int) : Frame := [U, U, .ptr p2_, .ptr p3_, .ptr p4_, U, .sl s6_, .sl s7_, .int .i64 i8_, .int .i64 i9_, U, U, U, U, U, U, U, U, U, U, U, U, U, U, U, U, U, U, U, U, U, U, U, U, U, U, U, U, U, U, U, U, U, U, U, U, U, U, U, U, U, U, U, U, U, U, U, U, U, U, U, U, U, U, U, U, U, U, U, U, U, U, U, U, U, U, U]
def spec_l04Made_w2 (S : SatT) (K : AVal → H → Prop) (X0 : Frame → H → Prop) : (Frame → H → Prop) → Frame → H → Prop := fun X fr h => cwp S tab spec_l04Made_M (spec_l04Made_M 2) (sub [1, 1, 0, 1, 0, 0, 1, 0, 0, 1, 0, 0] (bodyOf Try.f29)) (kSeq (fun fr h => X (mask (spec_l04Made_M 2) fr) h) (kBlk 2 (kBlk 1 (spec_l04Made_ks6 S K X0)))) fr h
def spec_l04Made_L2 (S : SatT) (K : AVal → H → Prop) (X0 : Frame → H → Prop) (p2_ : Pt) (p3_ : Pt) (p4_ : Pt) (s6_ : Sl) (s7_ : Sl) (i8_ : Int) (i9_ : Int) (h : H) : Prop := loopK (spec_l04Made_w2 S K X0) (spec_l04Made_e2 p2_ p3_ p4_ s6_ s7_ i8_ i9_) h
def spec_l04Made_C1 (S : SatT) (K : AVal → H → Prop) (X0 : Frame → H → Prop) (p2_ : Pt) (p3_ : Pt) (p4_ : Pt) (s6_ : Sl) (s7_ : Sl) (i8_ : Int) (h : H) : Prop :=
 X0 (spec_l04Made_e0 p2_ p3_ p4_ s6_ s7_ (w64 (i8_ + (1)))) h
def spec_l04Made_C2 (S : SatT) (K : AVal → H → Prop) (X0 : Frame → H → Prop) (p2_ : Pt) (p3_ : Pt) (p4_ : Pt) (s6_ : Sl) (s7_ : Sl) (i8_ : Int) (h : H) : Prop :=
 spec_l04Made_C1 S K X0 p2_ p3_ p4_ s6_ s7_ i8_ h
def spec_l04Made_b2 (S : SatT) (K : AVal → H → Prop) (X0 : Frame → H → Prop) (X2 : Frame → H → Prop) (p2_ : Pt) (p3_ : Pt) (p4_ : Pt) (s6_ : Sl) (s7_ : Sl) (i8_ : Int) (i9_ : Int) (h : H) : Prop :=
 isPt p3_ (
 ldS (Pt.add p3_ 1) h fun s0 =>
 bif (decide (i9_ < (s0.len : Int))) then
 isPt p2_ (
 ldS (Pt.add p2_ 1) h fun s1 =>
 ixS s1 4 i8_ fun p2 =>
 ixA p2 4 1 (3) fun p3 =>
 ldI .i64 p3 h fun n4 =>
 isPt p3_ (
 ldS (Pt.add p3_ 1) h fun s5 =>
 ixS s5 4 i9_ fun p6 =>
 ixA p6 4 1 (1) fun p7 =>
 ldI .i64 p7 h fun n8 =>
 bif (n4 == n8) then
 isPt p2_ (
 ldS (Pt.add p2_ 1) h fun s9 =>
 ixS s9 4 i8_ fun p10 =>
 ldA p10 4 h fun cs11 =>
 isPt p3_ (
 ldS (Pt.add p3_ 1) h fun s12 =>
 ixS s12 4 i9_ fun p13 =>
 ldA p13 4 h fun cs14 =>
 callA S i_spec_l04Tile [.agg cs11, .agg cs14, .sl s6_] h fun cs16 h15 =>
 lenA cs16 4 (
 newS 1 4 (spl [.int .i64 (0), .int .i64 (0), .int .i64 (0), .int .i64 (0)] 0 4 cs16) h15 fun s17 h18 =>
 app s7_ s17 4 h18 fun s19 h20 =>
 X2 (spec_l04Made_e2 p2_ p3_ p4_ s6_ s19 i8_ (w64 (i9_ + (1)))) h20)))
 else
 X2 (spec_l04Made_e2 p2_ p3_ p4_ s6_ s7_ i8_ (w64 (i9_ + (1)))) h))
 else
 spec_l04Made_C2 S K X0 p2_ p3_ p4_ s6_ s7_ i8_ h)
theorem spec_l04Made_link2 (S : SatT) (K : AVal → H → Prop) (X0 : Frame → H → Prop) (X2 : Frame → H → Prop) (p2_ : Pt) (p3_ : Pt) (p4_ : Pt) (s6_ : Sl) (s7_ : Sl) (i8_ : Int) (i9_ : Int) (h : H) : spec_l04Made_w2 S K X0 X2 (spec_l04Made_e2 p2_ p3_ p4_ s6_ s7_ i8_ i9_) h = spec_l04Made_b2 S K X0 X2 p2_ p3_ p4_ s6_ s7_ i8_ i9_ h := by kernel_rfl
theorem spec_l04Made_rule2 (S : SatT) (K : AVal → H → Prop) (X0 : Frame → H → Prop) (p2_ : Pt) (p3_ : Pt) (p4_ : Pt) (s6_ : Sl) (i8_ : Int) (I_ : Sl → Int → H → Prop) (m_ : Sl → Int → H → Nat)
    (hs : ∀ (X2 : Frame → H → Prop) (s7_ : Sl) (i9_ : Int) (h : H), I_ s7_ i9_ h → (∀ (s7_' : Sl) (i9_' : Int) (h' : H), I_ s7_' i9_' h' → m_ s7_' i9_' h' < m_ s7_ i9_ h → X2 (spec_l04Made_e2 p2_ p3_ p4_ s6_ s7_' i8_ i9_') h') → spec_l04Made_b2 S K X0 X2 p2_ p3_ p4_ s6_ s7_ i8_ i9_ h) (s7_ : Sl) (i9_ : Int) {h : H} (h0 : I_ s7_ i9_ h) : spec_l04Made_L2 S K X0 p2_ p3_ p4_ s6_ s7_ i8_ i9_ h :=
  loop_rule (σ := (Sl) × (Int)) (fun s_ => spec_l04Made_e2 p2_ p3_ p4_ s6_ (s_.1) i8_ (s_.2)) (fun s_ h => I_ (s_.1) (s_.2) h) (fun s_ h => m_ (s_.1) (s_.2) h)
    (fun X s_ h hi hx => (spec_l04Made_link2 S K X0 X p2_ p3_ p4_ s6_ (s_.1) i8_ (s_.2) h).mpr (hs X (s_.1) (s_.2) h hi fun s7_' i9_' h' hi' hm' => hx (s7_', i9_') h' hi' hm')) (s7_, i9_) h0
theorem spec_l04Made_unroll2 (S : SatT) (K : AVal → H → Prop) (X0 : Frame → H → Prop) (p2_ : Pt) (p3_ : Pt) (p4_ : Pt) (s6_ : Sl) (s7_ : Sl) (i8_ : Int) (i9_ : Int) (h : H) (hb : spec_l04Made_b2 S K X0 (fun fr h => loopK (spec_l04Made_w2 S K X0) fr h) p2_ p3_ p4_ s6_ s7_ i8_ i9_ h) : spec_l04Made_L2 S K X0 p2_ p3_ p4_ s6_ s7_ i8_ i9_ h := loop_unroll ((spec_l04Made_link2 S K X0 _ p2_ p3_ p4_ s6_ s7_ i8_ i9_ h).mpr hb)
def spec_l04Made_C0 (S : SatT) (K : AVal → H → Prop) (p2_ : Pt) (p3_ : Pt) (p4_ : Pt) (s6_ : Sl) (s7_ : Sl) (h : H) : Prop :=
 isPt p2_ (
 ldI .i64 (Pt.add p2_ 0) h fun n0 =>
 isPt p3_ (
 ldI .i64 (Pt.add p3_ 0) h fun n1 =>
 callS S i_spec_l01Sort [.sl s7_] h fun s3 h2 =>
 bif (decide ((mxI (mxI (s6_.len : Int) n0) n1) > (6))) then
 stN p4_ 2 [.int .i64 (0), .sl Sl.nil] h2 fun h4 =>
 ldA p4_ 2 h4 fun cs5 =>
 K (.tuple [.agg cs5, .int .i64 (3)]) h4
 else
 bif (decide ((s3.len : Int) > (16))) then
 stN p4_ 2 [.int .i64 (0), .sl Sl.nil] h2 fun h6 =>
 ldA p4_ 2 h6 fun cs7 =>
 K (.tuple [.agg cs7, .int .i64 (3)]) h6
 else
 callA S i_spec_l01Made [.int .i64 (mxI (mxI (s6_.len : Int) n0) n1), .sl s3] h2 fun cs9 h8 =>
 stN p4_ 2 cs9 h8 fun h10 =>
 ldA p4_ 2 h10 fun cs11 =>
 K (.tuple [.agg cs11, .int .i64 (0)]) h10))
def spec_l04Made_b0 (S : SatT) (K : AVal → H → Prop) (X0 : Frame → H → Prop) (p2_ : Pt) (p3_ : Pt) (p4_ : Pt) (s6_ : Sl) (s7_ : Sl) (i8_ : Int) (h : H) : Prop :=
 isPt p2_ (
 ldS (Pt.add p2_ 1) h fun s0 =>
 bif (decide (i8_ < (s0.len : Int))) then
 spec_l04Made_L2 S K X0 p2_ p3_ p4_ s6_ s7_ i8_ (0) h
 else
 spec_l04Made_C0 S K p2_ p3_ p4_ s6_ s7_ h)
theorem spec_l04Made_link0 (S : SatT) (K : AVal → H → Prop) (X0 : Frame → H → Prop) (p2_ : Pt) (p3_ : Pt) (p4_ : Pt) (s6_ : Sl) (s7_ : Sl) (i8_ : Int) (h : H) : spec_l04Made_w0 S K X0 (spec_l04Made_e0 p2_ p3_ p4_ s6_ s7_ i8_) h = spec_l04Made_b0 S K X0 p2_ p3_ p4_ s6_ s7_ i8_ h := by kernel_rfl
theorem spec_l04Made_rule0 (S : SatT) (K : AVal → H → Prop) (p2_ : Pt) (p3_ : Pt) (p4_ : Pt) (s6_ : Sl) (I_ : Sl → Int → H → Prop) (m_ : Sl → Int → H → Nat)
    (hs : ∀ (X0 : Frame → H → Prop) (s7_ : Sl) (i8_ : Int) (h : H), I_ s7_ i8_ h → (∀ (s7_' : Sl) (i8_' : Int) (h' : H), I_ s7_' i8_' h' → m_ s7_' i8_' h' < m_ s7_ i8_ h → X0 (spec_l04Made_e0 p2_ p3_ p4_ s6_ s7_' i8_') h') → spec_l04Made_b0 S K X0 p2_ p3_ p4_ s6_ s7_ i8_ h) (s7_ : Sl) (i8_ : Int) {h : H} (h0 : I_ s7_ i8_ h) : spec_l04Made_L0 S K p2_ p3_ p4_ s6_ s7_ i8_ h :=
  loop_rule (σ := (Sl) × (Int)) (fun s_ => spec_l04Made_e0 p2_ p3_ p4_ s6_ (s_.1) (s_.2)) (fun s_ h => I_ (s_.1) (s_.2) h) (fun s_ h => m_ (s_.1) (s_.2) h)
    (fun X s_ h hi hx => (spec_l04Made_link0 S K X p2_ p3_ p4_ s6_ (s_.1) (s_.2) h).mpr (hs X (s_.1) (s_.2) h hi fun s7_' i8_' h' hi' hm' => hx (s7_', i8_') h' hi' hm')) (s7_, i8_) h0
theorem spec_l04Made_unroll0 (S : SatT) (K : AVal → H → Prop) (p2_ : Pt) (p3_ : Pt) (p4_ : Pt) (s6_ : Sl) (s7_ : Sl) (i8_ : Int) (h : H) (hb : spec_l04Made_b0 S K (fun fr h => loopK (spec_l04Made_w0 S K) fr h) p2_ p3_ p4_ s6_ s7_ i8_ h) : spec_l04Made_L0 S K p2_ p3_ p4_ s6_ s7_ i8_ h := loop_unroll ((spec_l04Made_link0 S K _ p2_ p3_ p4_ s6_ s7_ i8_ h).mpr hb)
def spec_l04Made_main (S : SatT) (K : AVal → H → Prop) (x0 : List AVal) (x1 : List AVal) (h : H) : Prop :=
 newK 2 x0 h fun p0 h1 =>
 newK 2 x1 h1 fun p2 h3 =>
 newO [.int .i64 (0), .sl Sl.nil] h3 fun p4 h5 =>
 ldA p0 2 h5 fun cs6 =>
 ldA p2 2 h5 fun cs7 =>
 callS S i_spec_l04Pairs [.agg cs6, .agg cs7] h5 fun s9 h8 =>
 newS 0 4 [] h8 fun s10 h11 =>
 spec_l04Made_L0 S K p0 p2 p4 s9 s10 (0) h11
theorem spec_l04Made_main_link (S : SatT) (K : AVal → H → Prop) (x0 : List AVal) (x1 : List AVal) (h : H) : cwp S tab spec_l04Made_M [] (bodyOf Try.f29) (kFun tab Try.f29.results.toList K) (fr0 Try.f29 [.agg x0, .agg x1]) h = spec_l04Made_main S K x0 x1 h := by kernel_rfl
theorem spec_l04Made_call (x0 : List AVal) (x1 : List AVal) (h : H) (K : AVal → H → Prop) (hm : spec_l04Made_main (Sat Try.prog) (fun v h' => K v h') x0 x1 h) : callV (Sat Try.prog) i_spec_l04Made [.agg x0, .agg x1] h K := by
  have := Sat.ex tok mixed spec_l04Made_M Try.func29 (c := bodyOf Try.f29) (by kernel_rfl) (calls_of Try.func29 (c := bodyOf Try.f29) (by kernel_rfl) (by decide)) ((spec_l04Made_main_link _ _ x0 x1 h).mpr hm)
  exact this

/-! ### loop.example/g01354/spec.l04Sorted -/
def spec_l04Sorted_M : Nat → List Nat := fun i => bif i == 0 then [4, 5, 6, 7, 8] else []
def spec_l04Sorted_ks6 (S : SatT) (K : AVal → H → Prop) : Kont := kSeq (cwp S tab spec_l04Sorted_M [] (sub [1, 1, 1, 1, 1] (bodyOf Try.f67)) (kFun tab (Try.f67).results.toList K)) (kFun tab (Try.f67).results.toList K)
def spec_l04Sorted_e0 (s4_ : Sl) (s5_ : Sl) (s6_ : Sl) (i7_ : Int) (i8_ : Int) : Frame := [U, U, U, U, .sl s4_, .sl s5_, .sl s6_, .int .i64 i7_, .int .i64 i8_, U, U, U, U, U, U, U, U, U, U, U, U, U, U, U, U, U, U, U, U, U, U, U, U, U, U, U, U, U, U, U, U, U, U, U, U, U, U, U, U, U, U, U, U, U, U, U, U, U, U, U, U, U, U, U, U, U, U, U, U, U, U, U, U, U, U, U, U, U, U, U, U, U, U, U, U, U, U, U, U, U, U, U, U, U]
def spec_l04Sorted_w0 (S : SatT) (K : AVal → H → Prop) : (Frame → H → Prop) → Frame → H → Prop := fun X fr h => cwp S tab spec_l04Sorted_M (spec_l04Sorted_M 0) (sub [1, 1, 1, 1, 0, 1, 0, 0] (bodyOf Try.f67)) (kSeq (fun fr h => X (mask (spec_l04Sorted_M 0) fr) h) (kBlk 0 (spec_l04Sorted_ks6 S K))) fr h
def spec_l04Sorted_L0 (S : SatT) (K : AVal → H → Prop) (s4_ : Sl) (s5_ : Sl) (s6_ : Sl) (i7_ : Int) (i8_ : Int) (h : H) : Prop := loopK (spec_l04Sorted_w0 S K) (spec_l04Sorted_e0 s4_ s5_ s6_ i7_ i8_) h
def spec_l04Sorted_C0 (S : SatT) (K : AVal → H → Prop) (s6_ : Sl) (h : H) : Prop :=
 K (.sl s6_) h
def spec_l04Sorted_b0 (S : SatT) (K : AVal → H → Prop) (X0 : Frame → H → Prop) (s4_ : Sl) (s5_ : Sl) (s6_ : Sl) (i7_ : Int) (i8_ : Int) (h : H) : Prop :=
 bif (decide (i7_ < (s4_.len : Int))) then
 bif (i8_ == (s5_.len : Int)) then
 ixS s4_ 1 i7_ fun p0 =>
 ldI .i64 p0 h fun n1 =>
 newS 1 1 [.int .i64 n1] h fun s2 h3 =>
 app s6_ s2 1 h3 fun s4 h5 =>
 X0 (spec_l04Sorted_e0 s4_ s5_ s4 (w64 (i7_ + (1))) i8_) h5
 else
 bif (decide (i7_ < (s4_.len : Int))) then
 ixS s4_ 1 i7_ fun p6 =>
 ldI .i64 p6 h fun n7 =>
 ixS s5_ 1 i8_ fun p8 =>
 ldI .i64 p8 h fun n9 =>
 bif (decide (n7 < n9)) then
 ixS s4_ 1 i7_ fun p10 =>
 ldI .i64 p10 h fun n11 =>
 newS 1 1 [.int .i64 n11] h fun s12 h13 =>
 app s6_ s12 1 h13 fun s14 h15 =>
 X0 (spec_l04Sorted_e0 s4_ s5_ s14 (w64 (i7_ + (1))) i8_) h15
 else
 bif (i7_ == (s4_.len : Int)) then
 ixS s5_ 1 i8_ fun p16 =>
 ldI .i64 p16 h fun n17 =>
 newS 1 1 [.int .i64 n17] h fun s18 h19 =>
 app s6_ s18 1 h19 fun s20 h21 =>
 X0 (spec_l04Sorted_e0 s4_ s5_ s20 i7_ (w64 (i8_ + (1)))) h21
 else
 ixS s5_ 1 i8_ fun p22 =>
 ldI .i64 p22 h fun n23 =>
 ixS s4_ 1 i7_ fun p24 =>
 ldI .i64 p24 h fun n25 =>
 bif (decide (n23 < n25)) then
 ixS s5_ 1 i8_ fun p26 =>
 ldI .i64 p26 h fun n27 =>
 newS 1 1 [.int .i64 n27] h fun s28 h29 =>
 app s6_ s28 1 h29 fun s30 h31 =>
 X0 (spec_l04Sorted_e0 s4_ s5_ s30 i7_ (w64 (i8_ + (1)))) h31
 else
 X0 (spec_l04Sorted_e0 s4_ s5_ s6_ (w64 (i7_ + (1))) i8_) h
 else
 bif (i7_ == (s4_.len : Int)) then
 ixS s5_ 1 i8_ fun p32 =>
 ldI .i64 p32 h fun n33 =>
 newS 1 1 [.int .i64 n33] h fun s34 h35 =>
 app s6_ s34 1 h35 fun s36 h37 =>
 X0 (spec_l04Sorted_e0 s4_ s5_ s36 i7_ (w64 (i8_ + (1)))) h37
 else
 ixS s5_ 1 i8_ fun p38 =>
 ldI .i64 p38 h fun n39 =>
 ixS s4_ 1 i7_ fun p40 =>
 ldI .i64 p40 h fun n41 =>
 bif (decide (n39 < n41)) then
 ixS s5_ 1 i8_ fun p42 =>
 ldI .i64 p42 h fun n43 =>
 newS 1 1 [.int .i64 n43] h fun s44 h45 =>
 app s6_ s44 1 h45 fun s46 h47 =>
 X0 (spec_l04Sorted_e0 s4_ s5_ s46 i7_ (w64 (i8_ + (1)))) h47
 else
 X0 (spec_l04Sorted_e0 s4_ s5_ s6_ (w64 (i7_ + (1))) i8_) h
 else
 bif (decide (i8_ < (s5_.len : Int))) then
 bif (i8_ == (s5_.len : Int)) then
 ixS s4_ 1 i7_ fun p48 =>
 ldI .i64 p48 h fun n49 =>
 newS 1 1 [.int .i64 n49] h fun s50 h51 =>
 app s6_ s50 1 h51 fun s52 h53 =>
 X0 (spec_l04Sorted_e0 s4_ s5_ s52 (w64 (i7_ + (1))) i8_) h53
 else
 bif (decide (i7_ < (s4_.len : Int))) then
 ixS s4_ 1 i7_ fun p54 =>
 ldI .i64 p54 h fun n55 =>
 ixS s5_ 1 i8_ fun p56 =>
 ldI .i64 p56 h fun n57 =>
 bif (decide (n55 < n57)) then
 ixS s4_ 1 i7_ fun p58 =>
 ldI .i64 p58 h fun n59 =>
 newS 1 1 [.int .i64 n59] h fun s60 h61 =>
 app s6_ s60 1 h61 fun s62 h63 =>
 X0 (spec_l04Sorted_e0 s4_ s5_ s62 (w64 (i7_ + (1))) i8_) h63
 else
 bif (i7_ == (s4_.len : Int)) then
 ixS s5_ 1 i8_ fun p64 =>
 ldI .i64 p64 h fun n65 =>
 newS 1 1 [.int .i64 n65] h fun s66 h67 =>
 app s6_ s66 1 h67 fun s68 h69 =>
 X0 (spec_l04Sorted_e0 s4_ s5_ s68 i7_ (w64 (i8_ + (1)))) h69
 else
 ixS s5_ 1 i8_ fun p70 =>
 ldI .i64 p70 h fun n71 =>
 ixS s4_ 1 i7_ fun p72 =>
 ldI .i64 p72 h fun n73 =>
 bif (decide (n71 < n73)) then
 ixS s5_ 1 i8_ fun p74 =>
 ldI .i64 p74 h fun n75 =>
 newS 1 1 [.int .i64 n75] h fun s76 h77 =>
 app s6_ s76 1 h77 fun s78 h79 =>
 X0 (spec_l04Sorted_e0 s4_ s5_ s78 i7_ (w64 (i8_ + (1)))) h79
 else
 X0 (spec_l04Sorted_e0 s4_ s5_ s6_ (w64 (i7_ + (1))) i8_) h
 else
 bif (i7_ == (s4_.len : Int)) then
 ixS s5_ 1 i8_ fun p80 =>
 ldI .i64 p80 h fun n81 =>
 newS 1 1 [.int .i64 n81] h fun s82 h83 =>
 app s6_ s82 1 h83 fun s84 h85 =>
 X0 (spec_l04Sorted_e0 s4_ s5_ s84 i7_ (w64 (i8_ + (1)))) h85
 else
 ixS s5_ 1 i8_ fun p86 =>
 ldI .i64 p86 h fun n87 =>
 ixS s4_ 1 i7_ fun p88 =>
 ldI .i64 p88 h fun n89 =>
 bif (decide (n87 < n89)) then
 ixS s5_ 1 i8_ fun p90 =>
 ldI .i64 p90 h fun n91 =>
 newS 1 1 [.int .i64 n91] h fun s92 h93 =>
 app s6_ s92 1 h93 fun s94 h95 =>
 X0 (spec_l04Sorted_e0 s4_ s5_ s94 i7_ (w64 (i8_ + (1)))) h95
 else
 X0 (spec_l04Sorted_e0 s4_ s5_ s6_ (w64 (i7_ + (1))) i8_) h
 else
 spec_l04Sorted_C0 S K s6_ h
theorem spec_l04Sorted_link0 (S : SatT) (K : AVal → H → Prop) (X0 : Frame → H → Prop) (s4_ : Sl) (s5_ : Sl) (s6_ : Sl) (i7_ : Int) (i8_ : Int) (h : H) : spec_l04Sorted_w0 S K X0 (spec_l04Sorted_e0 s4_ s5_ s6_ i7_ i8_) h = spec_l04Sorted_b0 S K X0 s4_ s5_ s6_ i7_ i8_ h := by kernel_rfl
theorem spec_l04Sorted_rule0 (S : SatT) (K : AVal → H → Prop) (s4_ : Sl) (s5_ : Sl) (I_ : Sl → Int → Int → H → Prop) (m_ : Sl → Int → Int → H → Nat)
    (hs : ∀ (X0 : Frame → H → Prop) (s6_ : Sl) (i7_ : Int) (i8_ : Int) (h : H), I_ s6_ i7_ i8_ h → (∀ (s6_' : Sl) (i7_' : Int) (i8_' : Int) (h' : H), I_ s6_' i7_' i8_' h' → m_ s6_' i7_' i8_' h' < m_ s6_ i7_ i8_ h → X0 (spec_l04Sorted_e0 s4_ s5_ s6_' i7_' i8_') h') → spec_l04Sorted_b0 S K X0 s4_ s5_ s6_ i7_ i8_ h) (s6_ : Sl) (i7_ : Int) (i8_ : Int) {h : H} (h0 : I_ s6_ i7_ i8_ h) : spec_l04Sorted_L0 S K s4_ s5_ s6_ i7_ i8_ h :=
  loop_rule (σ := (Sl) × (Int) × (Int)) (fun s_ => spec_l04Sorted_e0 s4_ s5_ (s_.1) (s_.2.1) (s_.2.2)) (fun s_ h => I_ (s_.1) (s_.2.1) (s_.2.2) h) (fun s_ h => m_ (s_.1) (s_.2.1) (s_.2.2) h)
    (fun X s_ h hi hx => (spec_l04Sorted_link0 S K X s4_ s5_ (s_.1) (s_.2.1) (s_.2.2) h).mpr (hs X (s_.1) (s_.2.1) (s_.2.2) h hi fun s6_' i7_' i8_' h' hi' hm' => hx (s6_', i7_', i8_') h' hi' hm')) (s6_, i7_, i8_) h0
theorem spec_l04Sorted_unroll0 (S : SatT) (K : AVal → H → Prop) (s4_ : Sl) (s5_ : Sl) (s6_ : Sl) (i7_ : Int) (i8_ : Int) (h : H) (hb : spec_l04Sorted_b0 S K (fun fr h => loopK (spec_l04Sorted_w0 S K) fr h) s4_ s5_ s6_ i7_ i8_ h) : spec_l04Sorted_L0 S K s4_ s5_ s6_ i7_ i8_ h := loop_unroll ((spec_l04Sorted_link0 S K _ s4_ s5_ s6_ i7_ i8_ h).mpr hb)
def spec_l04Sorted_main (S : SatT) (K : AVal → H → Prop) (x0 : Sl) (h : H) : Prop :=
 bif (decide ((x0.len : Int) < (2))) then
 K (.sl x0) h
 else
 nz (2) (
 slotK 12 h fun h0 =>
 cut x0 1 (0) (w64 (Int.tdiv (x0.len : Int) (2))) h0 fun s1 =>
 callS S i_spec_l04Sorted [.sl s1] h0 fun s3 h2 =>
 cut x0 1 (w64 (Int.tdiv (x0.len : Int) (2))) (x0.len : Int) h2 fun s4 =>
 okS h0 x0 ∧ (
 callS S i_spec_l04Sorted [.sl s4] h2 fun s6 h5 =>
 newSat 0 1 [] h5 (h.length + 8) fun s7 h8 =>
 okS h5 x0 ∧ (
 okS h5 x0 ∧ (
 okS h8 x0 ∧ (
 okS h8 x0 ∧ (
 spec_l04Sorted_L0 S K s3 s6 s7 (0) (0) h8))))))
theorem spec_l04Sorted_main_link (S : SatT) (K : AVal → H → Prop) (x0 : Sl) (h : H) : cwp S tab spec_l04Sorted_M [] (bodyOf Try.f67) (kFun tab Try.f67.results.toList K) (fr0 Try.f67 [.sl x0]) h = spec_l04Sorted_main S K x0 h := by kernel_rfl
theorem spec_l04Sorted_call (x0 : Sl) (h : H) (K : Sl → H → Prop) (hm : spec_l04Sorted_main (Sat Try.prog) (fun v h' => ∃ r, v = .sl r ∧ K r h') x0 h) : callS (Sat Try.prog) i_spec_l04Sorted [.sl x0] h K := by
  have := Sat.ex tok mixed spec_l04Sorted_M Try.func67 (c := bodyOf Try.f67) (by kernel_rfl) (calls_of Try.func67 (c := bodyOf Try.f67) (by kernel_rfl) (by decide)) ((spec_l04Sorted_main_link _ _ x0 h).mpr hm)
  obtain ⟨v, h2, h3, r, rfl, h4⟩ := this; exact ⟨r, h2, h3, h4⟩

/-! ### loop.example/g01354/impl.SplitRow -/
def impl_SplitRow_M : Nat → List Nat := fun i => bif i == 1 then [9, 11, 12, 13, 14, 54, 55, 56] else []
def impl_SplitRow_ks12 (S : SatT) (K : AVal → H → Prop) : Kont := kSeq (cwp S tab impl_SplitRow_M [] (sub [1, 1, 1, 1, 1, 1, 1] (bodyOf Try.f17)) (kFun tab (Try.f17).results.toList K)) (kFun tab (Try.f17).results.toList K)
def impl_SplitRow_e1 (p9_ : Pt) (s11_ : Sl) (s12_ : Sl) (s13_ : Sl) (s14_ : Sl) (s54_ : Sl) (i55_ : Int) (i56_ : Int) : Frame := [U, U, U, U, U, U, U, U, U, .ptr p9_, U, .sl s11_, .sl s12_, .sl s13_, .sl s14_, U, U, U, U, U, U, U, U, U, U, U, U, U, U, U, U, U, U, U, U, U, U, U, U, U, U, U, U, U, U, U, U, U, U, U, U, U, U, U, .sl s54_, .int .i64 i55_, .int .i64 i56_, U, U, U, U, U, U, U, U, U, U, U, U, U, U, U, U, U, U, U, U, U, U, U, U, U, U]
def impl_SplitRow_w1 (S : SatT) (K : AVal → H → Prop) : (Frame → H → Prop) → Frame → H → Prop := fun X fr h => cwp S tab impl_SplitRow_M (impl_SplitRow_M 1) (sub [1, 1, 1, 1, 1, 1, 0, 1, 0, 0] (bodyOf Try.f17)) (kSeq (fun fr h => X (mask (impl_SplitRow_M 1) fr) h) (kBlk 1 (impl_SplitRow_ks12 S K))) fr h
def impl_SplitRow_L1 (S : SatT) (K : AVal → H → Prop) (p9_ : Pt) (s11_ : Sl) (s12_ : Sl) (s13_ : Sl) (s14_ : Sl) (s54_ : Sl) (i55_ : Int) (i56_ : Int) (h : H) : Prop := loopK (impl_SplitRow_w1 S K) (impl_SplitRow_e1 p9_ s11_ s12_ s13_ s14_ s54_ i55_ i56_) h
def impl_SplitRow_C1 (S : SatT) (K : AVal → H → Prop) (s11_ : Sl) (s12_ : Sl) (h : H) : Prop :=
 K (.tuple [.sl s11_, .sl s12_, .int .i64 (0)]) h
def impl_SplitRow_b1 (S : SatT) (K : AVal → H → Prop) (X1 : Frame → H → Prop) (p9_ : Pt) (s11_ : Sl) (s12_ : Sl) (s13_ : Sl) (s14_ : Sl) (s54_ : Sl) (i55_ : Int) (i56_ : Int) (h : H) : Prop :=
 bif (decide (i56_ < i55_)) then
 ixS s54_ 1 i56_ fun p0 =>
 ldI .i64 p0 h fun n1 =>
 isPt p9_ (
 ldS (Pt.add p9_ 1) h fun s2 =>
 ixS s2 4 n1 fun p3 =>
 ldA p3 4 h fun cs4 =>
 callI S .i64 i_slices_Index_s_impl_Tile_impl_Tile_ [.sl s14_, .agg cs4] h fun n6 h5 =>
 ixS s13_ 2 n6 fun p7 =>
 ldA p7 2 h5 fun cs8 =>
 newO [.int .i64 (0), .int .i64 (0)] h5 fun p9 h10 =>
 stN p9 2 cs8 h10 fun h11 =>
 slotK 12 h11 fun h12 =>
 ixA p9 2 1 (0) fun p13 =>
 ldI .i64 p13 h12 fun n14 =>
 ixA p9 2 1 (1) fun p15 =>
 ldI .i64 p15 h12 fun n16 =>
 newSat 1 1 [.int .i64 n14] h12 (h11.length + 3) fun s17 h18 =>
(cell h18 p15 = cell h12 p15) ∧ (
 app s11_ s17 1 h18 fun s19 h20 =>
(cell h20 p15 = cell h12 p15) ∧ (
 newSat 1 1 [.int .i64 n16] h20 (h11.length + 8) fun s21 h22 =>
(cell h20 p13 = cell h12 p13) ∧ (
(cell h22 p13 = cell h12 p13) ∧ (
 app s12_ s21 1 h22 fun s23 h24 =>
 X1 (impl_SplitRow_e1 p9_ s19 s23 s13_ s14_ s54_ i55_ (w64 (i56_ + (1)))) h24)))))
 else
 impl_SplitRow_C1 S K s11_ s12_ h
theorem impl_SplitRow_link1 (S : SatT) (K : AVal → H → Prop) (X1 : Frame → H → Prop) (p9_ : Pt) (s11_ : Sl) (s12_ : Sl) (s13_ : Sl) (s14_ : Sl) (s54_ : Sl) (i55_ : Int) (i56_ : Int) (h : H) : impl_SplitRow_w1 S K X1 (impl_SplitRow_e1 p9_ s11_ s12_ s13_ s14_ s54_ i55_ i56_) h = impl_SplitRow_b1 S K X1 p9_ s11_ s12_ s13_ s14_ s54_ i55_ i56_ h := by kernel_rfl
theorem impl_SplitRow_rule1 (S : SatT) (K : AVal → H → Prop) (p9_ : Pt) (s13_ : Sl) (s14_ : Sl) (s54_ : Sl) (i55_ : Int) (I_ : Sl → Sl → Int → H → Prop) (m_ : Sl → Sl → Int → H → Nat)
    (hs : ∀ (X1 : Frame → H → Prop) (s11_ : Sl) (s12_ : Sl) (i56_ : Int) (h : H), I_ s11_ s12_ i56_ h → (∀ (s11_' : Sl) (s12_' : Sl) (i56_' : Int) (h' : H), I_ s11_' s12_' i56_' h' → m_ s11_' s12_' i56_' h' < m_ s11_ s12_ i56_ h → X1 (impl_SplitRow_e1 p9_ s11_' s12_' s13_ s14_ s54_ i55_ i56_') h') → impl_SplitRow_b1 S K X1 p9_ s11_ s12_ s13_ s14_ s54_ i55_ i56_ h) (s11_ : Sl) (s12_ : Sl) (i56_ : Int) {h : H} (h0 : I_ s11_ s12_ i56_ h) : impl_SplitRow_L1 S K p9_ s11_ s12_ s13_ s14_ s54_ i55_ i56_ h :=
  loop_rule (σ := (Sl) × (Sl) × (Int)) (fun s_ => impl_SplitRow_e1 p9_ (s_.1) (s_.2.1) s13_ s14_ s54_ i55_ (s_.2.2)) (fun s_ h => I_ (s_.1) (s_.2.1) (s_.2.2) h) (fun s_ h => m_ (s_.1) (s_.2.1) (s_.2.2) h)
    (fun X s_ h hi hx => (impl_SplitRow_link1 S K X p9_ (s_.1) (s_.2.1) s13_ s14_ s54_ i55_ (s_.2.2) h).mpr (hs X (s_.1) (s_.2.1) (s_.2.2) h hi fun s11_' s12_' i56_' h' hi' hm' => hx (s11_', s12_', i56_') h' hi' hm')) (s11_, s12_, i56_) h0
theorem impl_SplitRow_unroll1 (S : SatT) (K : AVal → H → Prop) (p9_ : Pt) (s11_ : Sl) (s12_ : Sl) (s13_ : Sl) (s14_ : Sl) (s54_ : Sl) (i55_ : Int) (i56_ : Int) (h : H) (hb : impl_SplitRow_b1 S K (fun fr h => loopK (impl_SplitRow_w1 S K) fr h) p9_ s11_ s12_ s13_ s14_ s54_ i55_ i56_ h) : impl_SplitRow_L1 S K p9_ s11_ s12_ s13_ s14_ s54_ i55_ i56_ h := loop_unroll ((impl_SplitRow_link1 S K _ p9_ s11_ s12_ s13_ s14_ s54_ i55_ i56_ h).mpr hb)
def impl_SplitRow_main (S : SatT) (K : AVal → H → Prop) (x0 : List AVal) (x1 : List AVal) (x2 : Sl) (h : H) : Prop :=
 newK 2 x0 h fun p0 h1 =>
 newK 2 x1 h1 fun p2 h3 =>
 ldA p0 2 h3 fun cs4 =>
 ldA p2 2 h3 fun cs5 =>
 lenA cs4 2 (
 lenA cs5 2 (
 newS 2 2 (spl (spl [.int .i64 (0), .sl Sl.nil, .int .i64 (0), .sl Sl.nil] 0 2 cs4) 2 2 cs5) h3 fun s6 h7 =>
 callB S i_impl_areSets [.sl s6] h7 fun b9 h8 =>
 bif (!b9) then
 K (.tuple [.sl Sl.nil, .sl Sl.nil, .int .i64 (1)]) h8
 else
 ldA p0 2 h8 fun cs10 =>
 ldA p2 2 h8 fun cs11 =>
 callV S i_impl_stack [.agg cs10, .agg cs11] h8 fun v13 h12 =>
 viaT v13 fun vs14 =>
 exA vs14 0 fun cs15 =>
 viaT v13 fun vs16 =>
 exI .i64 vs16 1 fun n17 =>
 newO [.int .i64 (0), .sl Sl.nil] h12 fun p18 h19 =>
 stN p18 2 cs15 h19 fun h20 =>
 bif (n17 != (0)) then
 K (.tuple [.sl Sl.nil, .sl Sl.nil, .int .i64 n17]) h20
 else
 ldA p18 2 h20 fun cs21 =>
 callB S i_impl_Set_isRow [.agg cs21, .sl x2] h20 fun b23 h22 =>
 bif (!b23) then
 K (.tuple [.sl Sl.nil, .sl Sl.nil, .int .i64 (2)]) h22
 else
 newS 0 1 [] h22 fun s24 h25 =>
 newS 0 1 [] h25 fun s26 h27 =>
 isPt p0 (
 ldS (Pt.add p0 1) h27 fun s28 =>
 isPt p2 (
 ldS (Pt.add p2 1) h27 fun s29 =>
 callS S i_impl_stacked [.sl s28, .sl s29] h27 fun s31 h30 =>
 isPt p0 (
 ldS (Pt.add p0 1) h30 fun s32 =>
 isPt p2 (
 ldS (Pt.add p2 1) h30 fun s33 =>
 callV S i_impl_stackTiles [.sl s32, .sl s33] h30 fun v35 h34 =>
 viaT v35 fun vs36 =>
 exS vs36 0 fun s37 =>
 viaT v35 fun vs38 =>
 exI .i64 vs38 1 fun n39 =>
 impl_SplitRow_L1 S K p18 s24 s26 s31 s37 x2 (x2.len : Int) (0) h34))))))
theorem impl_SplitRow_main_link (S : SatT) (K : AVal → H → Prop) (x0 : List AVal) (x1 : List AVal) (x2 : Sl) (h : H) : cwp S tab impl_SplitRow_M [] (bodyOf Try.f17) (kFun tab Try.f17.results.toList K) (fr0 Try.f17 [.agg x0, .agg x1, .sl x2]) h = impl_SplitRow_main S K x0 x1 x2 h := by kernel_rfl
theorem impl_SplitRow_call (x0 : List AVal) (x1 : List AVal) (x2 : Sl) (h : H) (K : AVal → H → Prop) (hm : impl_SplitRow_main (Sat Try.prog) (fun v h' => K v h') x0 x1 x2 h) : callV (Sat Try.prog) i_impl_SplitRow [.agg x0, .agg x1, .sl x2] h K := by
  have := Sat.ex tok mixed impl_SplitRow_M Try.func17 (c := bodyOf Try.f17) (by kernel_rfl) (calls_of Try.func17 (c := bodyOf Try.f17) (by kernel_rfl) (by decide)) ((impl_SplitRow_main_link _ _ x0 x1 x2 h).mpr hm)
  exact this

/-! ### loop.example/g01354/impl.changed -/
def impl_changed_M : Nat → List Nat := fun i => bif i == 0 then [1, 2, 4, 6, 15, 16, 17] else []
def impl_changed_ks5 (S : SatT) (K : AVal → H → Prop) : Kont := kSeq (cwp S tab impl_changed_M [] (sub [1, 1, 1, 1] (bodyOf Try.f80)) (kFun tab (Try.f80).results.toList K)) (kFun tab (Try.f80).results.toList K)
def impl_changed_e0 (f1_ : AVal) (p2_ : Pt) (p4_ : Pt) (s6_ : Sl) (s15_ : Sl) (i16_ : Int) (i17_ : Int) : Frame := [U, f1_, .ptr p2_, U, .ptr p4_, U, .sl s6_, U, U, U, U, U, U, U, U, .sl s15_, .int .i64 i16_, .int .i64 i17_, U, U, U, U, U, U, U, U, U, U, U, U, U, U, U, U]
def impl_changed_w0 (S : SatT) (K : AVal → H → Prop) : (Frame → H → Prop) → Frame → H → Prop := fun X fr h => cwp S tab impl_changed_M (impl_changed_M 0) (sub [1, 1, 1, 0, 1, 0, 0] (bodyOf Try.f80)) (kSeq (fun fr h => X (mask (impl_changed_M 0) fr) h) (kBlk 0 (impl_changed_ks5 S K))) fr h
def impl_changed_L0 (S : SatT) (K : AVal → H → Prop) (f1_ : AVal) (p2_ : Pt) (p4_ : Pt) (s6_ : Sl) (s15_ : Sl) (i16_ : Int) (i17_ : Int) (h : H) : Prop := loopK (impl_changed_w0 S K) (impl_changed_e0 f1_ p2_ p4_ s6_ s15_ i16_ i17_) h
def impl_changed_C0 (S : SatT) (K : AVal → H → Prop) (p2_ : Pt) (p4_ : Pt) (s6_ : Sl) (h : H) : Prop :=
 isPt p2_ (
 ldI .i64 (Pt.add p2_ 0) h fun n0 =>
 callV S i_impl_limited [.int .i64 n0, .sl s6_] h fun v2 h1 =>
 viaT v2 fun vs3 =>
 exA vs3 0 fun cs4 =>
 viaT v2 fun vs5 =>
 exI .i64 vs5 1 fun n6 =>
 stN p4_ 2 cs4 h1 fun h7 =>
 ldA p4_ 2 h7 fun cs8 =>
 K (.tuple [.agg cs8, .int .i64 n6]) h7)
def impl_changed_b0 (S : SatT) (K : AVal → H → Prop) (X0 : Frame → H → Prop) (f1_ : AVal) (p2_ : Pt) (p4_ : Pt) (s6_ : Sl) (s15_ : Sl) (i16_ : Int) (i17_ : Int) (h : H) : Prop :=
 bif (decide (i17_ < i16_)) then
 ixS s15_ 4 i17_ fun p0 =>
 ldA p0 4 h fun cs1 =>
 newO [.int .i64 (0), .int .i64 (0), .int .i64 (0), .int .i64 (0)] h fun p2 h3 =>
 stN p2 4 cs1 h3 fun h4 =>
 ldA p2 4 h4 fun cs5 =>
 viaF f1_ [.agg cs5] fun g6 ys7 =>
 callA S g6 ys7 h4 fun cs9 h8 =>
 lenA cs9 4 (
 newS 1 4 (spl [.int .i64 (0), .int .i64 (0), .int .i64 (0), .int .i64 (0)] 0 4 cs9) h8 fun s10 h11 =>
 app s6_ s10 4 h11 fun s12 h13 =>
 X0 (impl_changed_e0 f1_ p2_ p4_ s12 s15_ i16_ (w64 (i17_ + (1)))) h13)
 else
 impl_changed_C0 S K p2_ p4_ s6_ h
theorem impl_changed_link0 (S : SatT) (K : AVal → H → Prop) (X0 : Frame → H → Prop) (f1_ : AVal) (p2_ : Pt) (p4_ : Pt) (s6_ : Sl) (s15_ : Sl) (i16_ : Int) (i17_ : Int) (h : H) : impl_changed_w0 S K X0 (impl_changed_e0 f1_ p2_ p4_ s6_ s15_ i16_ i17_) h = impl_changed_b0 S K X0 f1_ p2_ p4_ s6_ s15_ i16_ i17_ h := by kernel_rfl
theorem impl_changed_rule0 (S : SatT) (K : AVal → H → Prop) (f1_ : AVal) (p2_ : Pt) (p4_ : Pt) (s15_ : Sl) (i16_ : Int) (I_ : Sl → Int → H → Prop) (m_ : Sl → Int → H → Nat)
    (hs : ∀ (X0 : Frame → H → Prop) (s6_ : Sl) (i17_ : Int) (h : H), I_ s6_ i17_ h → (∀ (s6_' : Sl) (i17_' : Int) (h' : H), I_ s6_' i17_' h' → m_ s6_' i17_' h' < m_ s6_ i17_ h → X0 (impl_changed_e0 f1_ p2_ p4_ s6_' s15_ i16_ i17_') h') → impl_changed_b0 S K X0 f1_ p2_ p4_ s6_ s15_ i16_ i17_ h) (s6_ : Sl) (i17_ : Int) {h : H} (h0 : I_ s6_ i17_ h) : impl_changed_L0 S K f1_ p2_ p4_ s6_ s15_ i16_ i17_ h :=
  loop_rule (σ := (Sl) × (Int)) (fun s_ => impl_changed_e0 f1_ p2_ p4_ (s_.1) s15_ i16_ (s_.2)) (fun s_ h => I_ (s_.1) (s_.2) h) (fun s_ h => m_ (s_.1) (s_.2) h)
    (fun X s_ h hi hx => (impl_changed_link0 S K X f1_ p2_ p4_ (s_.1) s15_ i16_ (s_.2) h).mpr (hs X (s_.1) (s_.2) h hi fun s6_' i17_' h' hi' hm' => hx (s6_', i17_') h' hi' hm')) (s6_, i17_) h0
theorem impl_changed_unroll0 (S : SatT) (K : AVal → H → Prop) (f1_ : AVal) (p2_ : Pt) (p4_ : Pt) (s6_ : Sl) (s15_ : Sl) (i16_ : Int) (i17_ : Int) (h : H) (hb : impl_changed_b0 S K (fun fr h => loopK (impl_changed_w0 S K) fr h) f1_ p2_ p4_ s6_ s15_ i16_ i17_ h) : impl_changed_L0 S K f1_ p2_ p4_ s6_ s15_ i16_ i17_ h := loop_unroll ((impl_changed_link0 S K _ f1_ p2_ p4_ s6_ s15_ i16_ i17_ h).mpr hb)
def impl_changed_main (S : SatT) (K : AVal → H → Prop) (x0 : List AVal) (x1 : AVal) (h : H) : Prop :=
 newK 2 x0 h fun p0 h1 =>
 newO [.int .i64 (0), .sl Sl.nil] h1 fun p2 h3 =>
 ldA p0 2 h3 fun cs4 =>
 callB S i_impl_IsSet [.agg cs4] h3 fun b6 h5 =>
 bif (!b6) then
 stN p2 2 [.int .i64 (0), .sl Sl.nil] h5 fun h7 =>
 ldA p2 2 h7 fun cs8 =>
 K (.tuple [.agg cs8, .int .i64 (1)]) h7
 else
 newS 0 4 [] h5 fun s9 h10 =>
 isPt p0 (
 ldS (Pt.add p0 1) h10 fun s11 =>
 impl_changed_L0 S K x1 p0 p2 s9 s11 (s11.len : Int) (0) h10)
theorem impl_changed_main_link (S : SatT) (K : AVal → H → Prop) (x0 : List AVal) (x1 : AVal) (h : H) : cwp S tab impl_changed_M [] (bodyOf Try.f80) (kFun tab Try.f80.results.toList K) (fr0 Try.f80 [.agg x0, x1]) h = impl_changed_main S K x0 x1 h := by kernel_rfl
theorem impl_changed_call (x0 : List AVal) (x1 : AVal) (h : H) (K : AVal → H → Prop) (hm : impl_changed_main (Sat Try.prog) (fun v h' => K v h') x0 x1 h) : callV (Sat Try.prog) i_impl_changed [.agg x0, x1] h K := by
  have := Sat.ex tok mixed impl_changed_M Try.func80 (c := bodyOf Try.f80) (by kernel_rfl) (calls_of Try.func80 (c := bodyOf Try.f80) (by kernel_rfl) (by decide)) ((impl_changed_main_link _ _ x0 x1 h).mpr hm)
  exact this

/-! ### slices.Index[[]loop.example/g01354/impl.Tile,loop.example/g01354/impl.Tile] -/
def slices_Index_s_impl_Tile_impl_Tile__M : Nat → List Nat := fun i => bif i == 0 then [0, 3, 7, 8] else []
def slices_Index_s_impl_Tile_impl_Tile__ks1 (S : SatT) (K : AVal → H → Prop) : Kont := kSeq (cwp S tab slices_Index_s_impl_Tile_impl_Tile__M [] (sub [1, 1] (bodyOf Try.f42)) (kFun tab (Try.f42).results.toList K)) (kFun tab (Try.f42).results.toList K)
def slices_Index_s_impl_Tile_impl_Tile__e0 (s0_ : Sl) (p3_ : Pt) (i7_ : Int) (i8_ : Int) : Frame := [.sl s0_, U, U, .ptr p3_, U, U, U, .int .i64 i7_, .int .i64 i8_, U, U, U, U, U, U, U, U, U, U]
def slices_Index_s_impl_Tile_impl_Tile__w0 (S : SatT) (K : AVal → H → Prop) : (Frame → H → Prop) → Frame → H → Prop := fun X fr h => cwp S tab slices_Index_s_impl_Tile_impl_Tile__M (slices_Index_s_impl_Tile_impl_Tile__M 0) (sub [1, 0, 1, 0, 0] (bodyOf Try.f42)) (kSeq (fun fr h => X (mask (slices_Index_s_impl_Tile_impl_Tile__M 0) fr) h) (kBlk 0 (slices_Index_s_impl_Tile_impl_Tile__ks1 S K))) fr h
def slices_Index_s_impl_Tile_impl_Tile__L0 (S : SatT) (K : AVal → H → Prop) (s0_ : Sl) (p3_ : Pt) (i7_ : Int) (i8_ : Int) (h : H) : Prop := loopK (slices_Index_s_impl_Tile_impl_Tile__w0 S K) (slices_Index_s_impl_Tile_impl_Tile__e0 s0_ p3_ i7_ i8_) h
def slices_Index_s_impl_Tile_impl_Tile__C0 (S : SatT) (K : AVal → H → Prop) (h : H) : Prop :=
 K (.int .i64 (-1)) h
def slices_Index_s_impl_Tile_impl_Tile__b0 (S : SatT) (K : AVal → H → Prop) (X0 : Frame → H → Prop) (s0_ : Sl) (p3_ : Pt) (i7_ : Int) (i8_ : Int) (h : H) : Prop :=
 bif (decide (i8_ < i7_)) then
 ldA p3_ 4 h fun cs0 =>
 ixS s0_ 4 i8_ fun p1 =>
 ldA p1 4 h fun cs2 =>
 eqA .i64 4 cs0 cs2 fun b3 =>
 bif b3 then
 K (.int .i64 i8_) h
 else
 X0 (slices_Index_s_impl_Tile_impl_Tile__e0 s0_ p3_ i7_ (w64 (i8_ + (1)))) h
 else
 slices_Index_s_impl_Tile_impl_Tile__C0 S K h
theorem slices_Index_s_impl_Tile_impl_Tile__link0 (S : SatT) (K : AVal → H → Prop) (X0 : Frame → H → Prop) (s0_ : Sl) (p3_ : Pt) (i7_ : Int) (i8_ : Int) (h : H) : slices_Index_s_impl_Tile_impl_Tile__w0 S K X0 (slices_Index_s_impl_Tile_impl_Tile__e0 s0_ p3_ i7_ i8_) h = slices_Index_s_impl_Tile_impl_Tile__b0 S K X0 s0_ p3_ i7_ i8_ h := by kernel_rfl
theorem slices_Index_s_impl_Tile_impl_Tile__rule0 (S : SatT) (K : AVal → H → Prop) (s0_ : Sl) (p3_ : Pt) (i7_ : Int) (I_ : Int → H → Prop) (m_ : Int → H → Nat)
    (hs : ∀ (X0 : Frame → H → Prop) (i8_ : Int) (h : H), I_ i8_ h → (∀ (i8_' : Int) (h' : H), I_ i8_' h' → m_ i8_' h' < m_ i8_ h → X0 (slices_Index_s_impl_Tile_impl_Tile__e0 s0_ p3_ i7_ i8_') h') → slices_Index_s_impl_Tile_impl_Tile__b0 S K X0 s0_ p3_ i7_ i8_ h) (i8_ : Int) {h : H} (h0 : I_ i8_ h) : slices_Index_s_impl_Tile_impl_Tile__L0 S K s0_ p3_ i7_ i8_ h :=
  loop_rule (σ := (Int)) (fun s_ => slices_Index_s_impl_Tile_impl_Tile__e0 s0_ p3_ i7_ (s_)) (fun s_ h => I_ (s_) h) (fun s_ h => m_ (s_) h)
    (fun X s_ h hi hx => (slices_Index_s_impl_Tile_impl_Tile__link0 S K X s0_ p3_ i7_ (s_) h).mpr (hs X (s_) h hi fun i8_' h' hi' hm' => hx (i8_') h' hi' hm')) (i8_) h0
theorem slices_Index_s_impl_Tile_impl_Tile__unroll0 (S : SatT) (K : AVal → H → Prop) (s0_ : Sl) (p3_ : Pt) (i7_ : Int) (i8_ : Int) (h : H) (hb : slices_Index_s_impl_Tile_impl_Tile__b0 S K (fun fr h => loopK (slices_Index_s_impl_Tile_impl_Tile__w0 S K) fr h) s0_ p3_ i7_ i8_ h) : slices_Index_s_impl_Tile_impl_Tile__L0 S K s0_ p3_ i7_ i8_ h := loop_unroll ((slices_Index_s_impl_Tile_impl_Tile__link0 S K _ s0_ p3_ i7_ i8_ h).mpr hb)
def slices_Index_s_impl_Tile_impl_Tile__main (S : SatT) (K : AVal → H → Prop) (x0 : Sl) (x1 : List AVal) (h : H) : Prop :=
 newK 4 x1 h fun p0 h1 =>
 slices_Index_s_impl_Tile_impl_Tile__L0 S K x0 p0 (x0.len : Int) (0) h1
theorem slices_Index_s_impl_Tile_impl_Tile__main_link (S : SatT) (K : AVal → H → Prop) (x0 : Sl) (x1 : List AVal) (h : H) : cwp S tab slices_Index_s_impl_Tile_impl_Tile__M [] (bodyOf Try.f42) (kFun tab Try.f42.results.toList K) (fr0 Try.f42 [.sl x0, .agg x1]) h = slices_Index_s_impl_Tile_impl_Tile__main S K x0 x1 h := by kernel_rfl
theorem slices_Index_s_impl_Tile_impl_Tile__call (x0 : Sl) (x1 : List AVal) (h : H) (K : Int → H → Prop) (hm : slices_Index_s_impl_Tile_impl_Tile__main (Sat Try.prog) (fun v h' => ∃ r, v = .int .i64 r ∧ K r h') x0 x1 h) : callI (Sat Try.prog) .i64 i_slices_Index_s_impl_Tile_impl_Tile_ [.sl x0, .agg x1] h K := by
  have := Sat.ex tok mixed slices_Index_s_impl_Tile_impl_Tile__M Try.func42 (c := bodyOf Try.f42) (by kernel_rfl) (calls_of Try.func42 (c := bodyOf Try.f42) (by kernel_rfl) (by decide)) ((slices_Index_s_impl_Tile_impl_Tile__main_link _ _ x0 x1 h).mpr hm)
  obtain ⟨v, h2, h3, r, rfl, h4⟩ := this; exact ⟨r, h2, h3, h4⟩

/-! ### loop.example/g01354/spec.l04Open -/
def spec_l04Open_M : Nat → List Nat := fun i => bif i == 0 then [1, 2, 3, 4] else []
def spec_l04Open_ks2 (S : SatT) (K : AVal → H → Prop) : Kont := kSeq (cwp S tab spec_l04Open_M [] (sub [1, 1, 1] (bodyOf Try.f74)) (kFun tab (Try.f74).results.toList K)) (kFun tab (Try.f74).results.toList K)
def spec_l04Open_e0 (p1_ : Pt) (p2_ : Pt) (p3_ : Pt) (i4_ : Int) : Frame := [U, .ptr p1_, .ptr p2_, .ptr p3_, .int .i64 i4_, U, U, U, U, U, U, U, U, U, U, U, U, U, U, U, U, U, U, U, U, U, U, U, U, U, U, U, U, U, U]
def spec_l04Open_w0 (S : SatT) (K : AVal → H → Prop) : (Frame → H → Prop) → Frame → H → Prop := fun X fr h => cwp S tab spec_l04Open_M (spec_l04Open_M 0) (sub [1, 1, 0, 1, 0, 0] (bodyOf Try.f74)) (kSeq (fun fr h => X (mask (spec_l04Open_M 0) fr) h) (kBlk 0 (spec_l04Open_ks2 S K))) fr h
def spec_l04Open_L0 (S : SatT) (K : AVal → H → Prop) (p1_ : Pt) (p2_ : Pt) (p3_ : Pt) (i4_ : Int) (h : H) : Prop := loopK (spec_l04Open_w0 S K) (spec_l04Open_e0 p1_ p2_ p3_ i4_) h
def spec_l04Open_C0 (S : SatT) (K : AVal → H → Prop) (p2_ : Pt) (p3_ : Pt) (h : H) : Prop :=
 ldA p3_ 1 h fun cs0 =>
 stN p2_ 1 cs0 h fun h1 =>
 ldA p2_ 1 h1 fun cs2 =>
 K (.agg cs2) h1
def spec_l04Open_b0 (S : SatT) (K : AVal → H → Prop) (X0 : Frame → H → Prop) (p1_ : Pt) (p2_ : Pt) (p3_ : Pt) (i4_ : Int) (h : H) : Prop :=
 isPt p1_ (
 ldS (Pt.add p1_ 1) h fun s0 =>
 bif (decide (i4_ < (s0.len : Int))) then
 isPt p1_ (
 ldS (Pt.add p1_ 1) h fun s1 =>
 ixS s1 4 i4_ fun p2 =>
 ldA p2 4 h fun cs3 =>
 newO [.int .i64 (0), .int .i64 (0), .int .i64 (0), .int .i64 (0)] h fun p4 h5 =>
 stN p4 4 cs3 h5 fun h6 =>
 isPt p3_ (
 ldS (Pt.add p3_ 0) h6 fun s7 =>
 ixA p4 4 1 (0) fun p8 =>
 ldI .i64 p8 h6 fun n9 =>
 ixA p4 4 1 (1) fun p10 =>
 ldI .i64 p10 h6 fun n11 =>
 ixA p4 4 1 (2) fun p12 =>
 ldI .i64 p12 h6 fun n13 =>
 ixA p4 4 1 (3) fun p14 =>
 ldI .i64 p14 h6 fun n15 =>
 newS 4 1 [.int .i64 n9, .int .i64 n11, .int .i64 n13, .int .i64 n15] h6 fun s16 h17 =>
 newS 1 1 [.sl s16] h17 fun s18 h19 =>
 app s7 s18 1 h19 fun s20 h21 =>
 isPt p3_ (
 st1 (Pt.add p3_ 0) (.sl s20) h21 fun h22 =>
 X0 (spec_l04Open_e0 p1_ p2_ p3_ (w64 (i4_ + (1)))) h22)))
 else
 spec_l04Open_C0 S K p2_ p3_ h)
theorem spec_l04Open_link0 (S : SatT) (K : AVal → H → Prop) (X0 : Frame → H → Prop) (p1_ : Pt) (p2_ : Pt) (p3_ : Pt) (i4_ : Int) (h : H) : spec_l04Open_w0 S K X0 (spec_l04Open_e0 p1_ p2_ p3_ i4_) h = spec_l04Open_b0 S K X0 p1_ p2_ p3_ i4_ h := by kernel_rfl
theorem spec_l04Open_rule0 (S : SatT) (K : AVal → H → Prop) (p1_ : Pt) (p2_ : Pt) (p3_ : Pt) (I_ : Int → H → Prop) (m_ : Int → H → Nat)
    (hs : ∀ (X0 : Frame → H → Prop) (i4_ : Int) (h : H), I_ i4_ h → (∀ (i4_' : Int) (h' : H), I_ i4_' h' → m_ i4_' h' < m_ i4_ h → X0 (spec_l04Open_e0 p1_ p2_ p3_ i4_') h') → spec_l04Open_b0 S K X0 p1_ p2_ p3_ i4_ h) (i4_ : Int) {h : H} (h0 : I_ i4_ h) : spec_l04Open_L0 S K p1_ p2_ p3_ i4_ h :=
  loop_rule (σ := (Int)) (fun s_ => spec_l04Open_e0 p1_ p2_ p3_ (s_)) (fun s_ h => I_ (s_) h) (fun s_ h => m_ (s_) h)
    (fun X s_ h hi hx => (spec_l04Open_link0 S K X p1_ p2_ p3_ (s_) h).mpr (hs X (s_) h hi fun i4_' h' hi' hm' => hx (i4_') h' hi' hm')) (i4_) h0
theorem spec_l04Open_unroll0 (S : SatT) (K : AVal → H → Prop) (p1_ : Pt) (p2_ : Pt) (p3_ : Pt) (i4_ : Int) (h : H) (hb : spec_l04Open_b0 S K (fun fr h => loopK (spec_l04Open_w0 S K) fr h) p1_ p2_ p3_ i4_ h) : spec_l04Open_L0 S K p1_ p2_ p3_ i4_ h := loop_unroll ((spec_l04Open_link0 S K _ p1_ p2_ p3_ i4_ h).mpr hb)
def spec_l04Open_main (S : SatT) (K : AVal → H → Prop) (x0 : List AVal) (h : H) : Prop :=
 newK 2 x0 h fun p0 h1 =>
 newO [.sl Sl.nil] h1 fun p2 h3 =>
 newS 0 1 [] h3 fun s4 h5 =>
 newO [.sl Sl.nil] h5 fun p6 h7 =>
 stN p6 1 [.sl s4] h7 fun h8 =>
 spec_l04Open_L0 S K p0 p2 p6 (0) h8
theorem spec_l04Open_main_link (S : SatT) (K : AVal → H → Prop) (x0 : List AVal) (h : H) : cwp S tab spec_l04Open_M [] (bodyOf Try.f74) (kFun tab Try.f74.results.toList K) (fr0 Try.f74 [.agg x0]) h = spec_l04Open_main S K x0 h := by kernel_rfl
theorem spec_l04Open_call (x0 : List AVal) (h : H) (K : List AVal → H → Prop) (hm : spec_l04Open_main (Sat Try.prog) (fun v h' => ∃ r, v = .agg r ∧ K r h') x0 h) : callA (Sat Try.prog) i_spec_l04Open [.agg x0] h K := by
  have := Sat.ex tok mixed spec_l04Open_M Try.func74 (c := bodyOf Try.f74) (by kernel_rfl) (calls_of Try.func74 (c := bodyOf Try.f74) (by kernel_rfl) (by decide)) ((spec_l04Open_main_link _ _ x0 h).mpr hm)
  obtain ⟨v, h2, h3, r, rfl, h4⟩ := this; exact ⟨r, h2, h3, h4⟩

/-! ### loop.example/g01354/spec.l01Is -/
def spec_l01Is_M : Nat → List Nat := fun i => bif i == 0 then [1, 3] else []
def spec_l01Is_ks5 (S : SatT) (K : AVal → H → Prop) : Kont := kSeq (cwp S tab spec_l01Is_M [] (sub [1, 1, 1] (bodyOf Try.f28)) (kFun tab (Try.f28).results.toList K)) (kFun tab (Try.f28).results.toList K)
def spec_l01Is_e0 (p1_ : Pt) (i3_ : Int) : Frame := [U, .ptr p1_, U, .int .i64 i3_, U, U, U, U, U, U, U, U, U, U, U, U, U, U, U, U, U, U, U, U, U, U, U, U, U, U, U, U, U, U, U, U, U, U, U, U, U, U, U, U, U, U, U, U, U]
def spec_l01Is_w0 (S : SatT) (K : AVal → H → Prop) : (Frame → H → Prop) → Frame → H → Prop := fun X fr h => cwp S tab spec_l01Is_M (spec_l01Is_M 0) (sub [1, 1, 0, 1, 0, 0] (bodyOf Try.f28)) (kSeq (fun fr h => X (mask (spec_l01Is_M 0) fr) h) (kBlk 0 (spec_l01Is_ks5 S K))) fr h
def spec_l01Is_L0 (S : SatT) (K : AVal → H → Prop) (p1_ : Pt) (i3_ : Int) (h : H) : Prop := loopK (spec_l01Is_w0 S K) (spec_l01Is_e0 p1_ i3_) h
def spec_l01Is_C0 (S : SatT) (K : AVal → H → Prop) (h : H) : Prop :=
 K (.bool true) h
def spec_l01Is_b0 (S : SatT) (K : AVal → H → Prop) (X0 : Frame → H → Prop) (p1_ : Pt) (i3_ : Int) (h : H) : Prop :=
 isPt p1_ (
 ldS (Pt.add p1_ 1) h fun s0 =>
 bif (decide (i3_ < (s0.len : Int))) then
 isPt p1_ (
 ldI .i64 (Pt.add p1_ 0) h fun n1 =>
 isPt p1_ (
 ldS (Pt.add p1_ 1) h fun s2 =>
 ixS s2 4 i3_ fun p3 =>
 ldA p3 4 h fun cs4 =>
 callB S i_spec_l01Tile [.int .i64 n1, .agg cs4] h fun b6 h5 =>
 bif (!b6) then
 K (.bool false) h5
 else
 bif (decide (i3_ > (0))) then
 isPt p1_ (
 ldS (Pt.add p1_ 1) h5 fun s7 =>
 ixS s7 4 (w64 (i3_ - (1))) fun p8 =>
 ldA p8 4 h5 fun cs9 =>
 isPt p1_ (
 ldS (Pt.add p1_ 1) h5 fun s10 =>
 ixS s10 4 i3_ fun p11 =>
 ldA p11 4 h5 fun cs12 =>
 callB S i_spec_l01Before [.agg cs9, .agg cs12] h5 fun b14 h13 =>
 bif (!b14) then
 K (.bool false) h13
 else
 X0 (spec_l01Is_e0 p1_ (w64 (i3_ + (1)))) h13))
 else
 X0 (spec_l01Is_e0 p1_ (w64 (i3_ + (1)))) h5))
 else
 spec_l01Is_C0 S K h)
theorem spec_l01Is_link0 (S : SatT) (K : AVal → H → Prop) (X0 : Frame → H → Prop) (p1_ : Pt) (i3_ : Int) (h : H) : spec_l01Is_w0 S K X0 (spec_l01Is_e0 p1_ i3_) h = spec_l01Is_b0 S K X0 p1_ i3_ h := by kernel_rfl
theorem spec_l01Is_rule0 (S : SatT) (K : AVal → H → Prop) (p1_ : Pt) (I_ : Int → H → Prop) (m_ : Int → H → Nat)
    (hs : ∀ (X0 : Frame → H → Prop) (i3_ : Int) (h : H), I_ i3_ h → (∀ (i3_' : Int) (h' : H), I_ i3_' h' → m_ i3_' h' < m_ i3_ h → X0 (spec_l01Is_e0 p1_ i3_') h') → spec_l01Is_b0 S K X0 p1_ i3_ h) (i3_ : Int) {h : H} (h0 : I_ i3_ h) : spec_l01Is_L0 S K p1_ i3_ h :=
  loop_rule (σ := (Int)) (fun s_ => spec_l01Is_e0 p1_ (s_)) (fun s_ h => I_ (s_) h) (fun s_ h => m_ (s_) h)
    (fun X s_ h hi hx => (spec_l01Is_link0 S K X p1_ (s_) h).mpr (hs X (s_) h hi fun i3_' h' hi' hm' => hx (i3_') h' hi' hm')) (i3_) h0
theorem spec_l01Is_unroll0 (S : SatT) (K : AVal → H → Prop) (p1_ : Pt) (i3_ : Int) (h : H) (hb : spec_l01Is_b0 S K (fun fr h => loopK (spec_l01Is_w0 S K) fr h) p1_ i3_ h) : spec_l01Is_L0 S K p1_ i3_ h := loop_unroll ((spec_l01Is_link0 S K _ p1_ i3_ h).mpr hb)
def spec_l01Is_main (S : SatT) (K : AVal → H → Prop) (x0 : List AVal) (h : H) : Prop :=
 newK 2 x0 h fun p0 h1 =>
 isPt p0 (
 ldI .i64 (Pt.add p0 0) h1 fun n2 =>
 callB S i_spec_l01In [.int .i64 n2, .int .i64 (1), .int .i64 (6)] h1 fun b4 h3 =>
 bif (!b4) then
 K (.bool false) h3
 else
 isPt p0 (
 ldS (Pt.add p0 1) h3 fun s5 =>
 bif (decide ((s5.len : Int) > (16))) then
 K (.bool false) h3
 else
 spec_l01Is_L0 S K p0 (0) h3))
theorem spec_l01Is_main_link (S : SatT) (K : AVal → H → Prop) (x0 : List AVal) (h : H) : cwp S tab spec_l01Is_M [] (bodyOf Try.f28) (kFun tab Try.f28.results.toList K) (fr0 Try.f28 [.agg x0]) h = spec_l01Is_main S K x0 h := by kernel_rfl
theorem spec_l01Is_call (x0 : List AVal) (h : H) (K : Bool → H → Prop) (hm : spec_l01Is_main (Sat Try.prog) (fun v h' => ∃ r, v = .bool r ∧ K r h') x0 h) : callB (Sat Try.prog) i_spec_l01Is [.agg x0] h K := by
  have := Sat.ex tok mixed spec_l01Is_M Try.func28 (c := bodyOf Try.f28) (by kernel_rfl) (calls_of Try.func28 (c := bodyOf Try.f28) (by kernel_rfl) (by decide)) ((spec_l01Is_main_link _ _ x0 h).mpr hm)
  obtain ⟨v, h2, h3, r, rfl, h4⟩ := this; exact ⟨r, h2, h3, h4⟩

/-! ### loop.example/g01354/laws.eqTileS -/
def laws_eqTileS_M : Nat → List Nat := fun i => bif i == 0 then [0, 1, 5] else []
def laws_eqTileS_ks4 (S : SatT) (K : AVal → H → Prop) : Kont := kSeq (cwp S tab laws_eqTileS_M [] (sub [1, 1, 1] (bodyOf Try.f33)) (kFun tab (Try.f33).results.toList K)) (kFun tab (Try.f33).results.toList K)
def laws_eqTileS_e0 (s0_ : Sl) (s1_ : Sl) (i5_ : Int) : Frame := [.sl s0_, .sl s1_, U, U, U, .int .i64 i5_, U, U, U, U, U, U, U, U, U, U, U, U, U, U, U, U, U, U, U, U, U]
def laws_eqTileS_w0 (S : SatT) (K : AVal → H → Prop) : (Frame → H → Prop) → Frame → H → Prop := fun X fr h => cwp S tab laws_eqTileS_M (laws_eqTileS_M 0) (sub [1, 1, 0, 1, 0, 0] (bodyOf Try.f33)) (kSeq (fun fr h => X (mask (laws_eqTileS_M 0) fr) h) (kBlk 0 (laws_eqTileS_ks4 S K))) fr h
def laws_eqTileS_L0 (S : SatT) (K : AVal → H → Prop) (s0_ : Sl) (s1_ : Sl) (i5_ : Int) (h : H) : Prop := loopK (laws_eqTileS_w0 S K) (laws_eqTileS_e0 s0_ s1_ i5_) h
def laws_eqTileS_C0 (S : SatT) (K : AVal → H → Prop) (h : H) : Prop :=
 K (.bool true) h
def laws_eqTileS_b0 (S : SatT) (K : AVal → H → Prop) (X0 : Frame → H → Prop) (s0_ : Sl) (s1_ : Sl) (i5_ : Int) (h : H) : Prop :=
 bif (decide (i5_ < (s0_.len : Int))) then
 ixS s0_ 4 i5_ fun p0 =>
 ldA p0 4 h fun cs1 =>
 ixS s1_ 4 i5_ fun p2 =>
 ldA p2 4 h fun cs3 =>
 callB S i_laws_eqTile [.agg cs1, .agg cs3] h fun b5 h4 =>
 bif (!b5) then
 K (.bool false) h4
 else
 X0 (laws_eqTileS_e0 s0_ s1_ (w64 (i5_ + (1)))) h4
 else
 laws_eqTileS_C0 S K h
theorem laws_eqTileS_link0 (S : SatT) (K : AVal → H → Prop) (X0 : Frame → H → Prop) (s0_ : Sl) (s1_ : Sl) (i5_ : Int) (h : H) : laws_eqTileS_w0 S K X0 (laws_eqTileS_e0 s0_ s1_ i5_) h = laws_eqTileS_b0 S K X0 s0_ s1_ i5_ h := by kernel_rfl
theorem laws_eqTileS_rule0 (S : SatT) (K : AVal → H → Prop) (s0_ : Sl) (s1_ : Sl) (I_ : Int → H → Prop) (m_ : Int → H → Nat)
    (hs : ∀ (X0 : Frame → H → Prop) (i5_ : Int) (h : H), I_ i5_ h → (∀ (i5_' : Int) (h' : H), I_ i5_' h' → m_ i5_' h' < m_ i5_ h → X0 (laws_eqTileS_e0 s0_ s1_ i5_') h') → laws_eqTileS_b0 S K X0 s0_ s1_ i5_ h) (i5_ : Int) {h : H} (h0 : I_ i5_ h) : laws_eqTileS_L0 S K s0_ s1_ i5_ h :=
  loop_rule (σ := (Int)) (fun s_ => laws_eqTileS_e0 s0_ s1_ (s_)) (fun s_ h => I_ (s_) h) (fun s_ h => m_ (s_) h)
    (fun X s_ h hi hx => (laws_eqTileS_link0 S K X s0_ s1_ (s_) h).mpr (hs X (s_) h hi fun i5_' h' hi' hm' => hx (i5_') h' hi' hm')) (i5_) h0
theorem laws_eqTileS_unroll0 (S : SatT) (K : AVal → H → Prop) (s0_ : Sl) (s1_ : Sl) (i5_ : Int) (h : H) (hb : laws_eqTileS_b0 S K (fun fr h => loopK (laws_eqTileS_w0 S K) fr h) s0_ s1_ i5_ h) : laws_eqTileS_L0 S K s0_ s1_ i5_ h := loop_unroll ((laws_eqTileS_link0 S K _ s0_ s1_ i5_ h).mpr hb)
def laws_eqTileS_main (S : SatT) (K : AVal → H → Prop) (x0 : Sl) (x1 : Sl) (h : H) : Prop :=
 bif ((x0.len : Int) != (x1.len : Int)) then
 K (.bool false) h
 else
 laws_eqTileS_L0 S K x0 x1 (0) h
theorem laws_eqTileS_main_link (S : SatT) (K : AVal → H → Prop) (x0 : Sl) (x1 : Sl) (h : H) : cwp S tab laws_eqTileS_M [] (bodyOf Try.f33) (kFun tab Try.f33.results.toList K) (fr0 Try.f33 [.sl x0, .sl x1]) h = laws_eqTileS_main S K x0 x1 h := by kernel_rfl
theorem laws_eqTileS_call (x0 : Sl) (x1 : Sl) (h : H) (K : Bool → H → Prop) (hm : laws_eqTileS_main (Sat Try.prog) (fun v h' => ∃ r, v = .bool r ∧ K r h') x0 x1 h) : callB (Sat Try.prog) i_laws_eqTileS [.sl x0, .sl x1] h K := by
  have := Sat.ex tok mixed laws_eqTileS_M Try.func33 (c := bodyOf Try.f33) (by kernel_rfl) (calls_of Try.func33 (c := bodyOf Try.f33) (by kernel_rfl) (by decide)) ((laws_eqTileS_main_link _ _ x0 x1 h).mpr hm)
  obtain ⟨v, h2, h3, r, rfl, h4⟩ := this; exact ⟨r, h2, h3, h4⟩

/-! ### loop.example/g01354/laws.toTileS -/
def laws_toTileS_M : Nat → List Nat := fun i => bif i == 0 then [0, 3, 4] else []
def laws_toTileS_ks2 (S : SatT) (K : AVal → H → Prop) : Kont := kSeq (cwp S tab laws_toTileS_M [] (sub [1, 1, 1] (bodyOf Try.f30)) (kFun tab (Try.f30).results.toList K)) (kFun tab (Try.f30).results.toList K)
def laws_toTileS_e0 (s0_ : Sl) (s3_ : Sl) (i4_ : Int) : Frame := [.sl s0_, U, U, .sl s3_, .int .i64 i4_, U, U, U, U, U, U, U, U, U, U, U, U, U, U, U, U, U, U]
def laws_toTileS_w0 (S : SatT) (K : AVal → H → Prop) : (Frame → H → Prop) → Frame → H → Prop := fun X fr h => cwp S tab laws_toTileS_M (laws_toTileS_M 0) (sub [1, 1, 0, 1, 0, 0] (bodyOf Try.f30)) (kSeq (fun fr h => X (mask (laws_toTileS_M 0) fr) h) (kBlk 0 (laws_toTileS_ks2 S K))) fr h
def laws_toTileS_L0 (S : SatT) (K : AVal → H → Prop) (s0_ : Sl) (s3_ : Sl) (i4_ : Int) (h : H) : Prop := loopK (laws_toTileS_w0 S K) (laws_toTileS_e0 s0_ s3_ i4_) h
def laws_toTileS_C0 (S : SatT) (K : AVal → H → Prop) (s3_ : Sl) (h : H) : Prop :=
 K (.sl s3_) h
def laws_toTileS_b0 (S : SatT) (K : AVal → H → Prop) (X0 : Frame → H → Prop) (s0_ : Sl) (s3_ : Sl) (i4_ : Int) (h : H) : Prop :=
 bif (decide (i4_ < (s0_.len : Int))) then
 ixS s0_ 4 i4_ fun p0 =>
 ldA p0 4 h fun cs1 =>
 callA S i_laws_toTile [.agg cs1] h fun cs3 h2 =>
 ixS s3_ 4 i4_ fun p4 =>
 stN p4 4 cs3 h2 fun h5 =>
 X0 (laws_toTileS_e0 s0_ s3_ (w64 (i4_ + (1)))) h5
 else
 laws_toTileS_C0 S K s3_ h
theorem laws_toTileS_link0 (S : SatT) (K : AVal → H → Prop) (X0 : Frame → H → Prop) (s0_ : Sl) (s3_ : Sl) (i4_ : Int) (h : H) : laws_toTileS_w0 S K X0 (laws_toTileS_e0 s0_ s3_ i4_) h = laws_toTileS_b0 S K X0 s0_ s3_ i4_ h := by kernel_rfl
theorem laws_toTileS_rule0 (S : SatT) (K : AVal → H → Prop) (s0_ : Sl) (s3_ : Sl) (I_ : Int → H → Prop) (m_ : Int → H → Nat)
    (hs : ∀ (X0 : Frame → H → Prop) (i4_ : Int) (h : H), I_ i4_ h → (∀ (i4_' : Int) (h' : H), I_ i4_' h' → m_ i4_' h' < m_ i4_ h → X0 (laws_toTileS_e0 s0_ s3_ i4_') h') → laws_toTileS_b0 S K X0 s0_ s3_ i4_ h) (i4_ : Int) {h : H} (h0 : I_ i4_ h) : laws_toTileS_L0 S K s0_ s3_ i4_ h :=
  loop_rule (σ := (Int)) (fun s_ => laws_toTileS_e0 s0_ s3_ (s_)) (fun s_ h => I_ (s_) h) (fun s_ h => m_ (s_) h)
    (fun X s_ h hi hx => (laws_toTileS_link0 S K X s0_ s3_ (s_) h).mpr (hs X (s_) h hi fun i4_' h' hi' hm' => hx (i4_') h' hi' hm')) (i4_) h0
theorem laws_toTileS_unroll0 (S : SatT) (K : AVal → H → Prop) (s0_ : Sl) (s3_ : Sl) (i4_ : Int) (h : H) (hb : laws_toTileS_b0 S K (fun fr h => loopK (laws_toTileS_w0 S K) fr h) s0_ s3_ i4_ h) : laws_toTileS_L0 S K s0_ s3_ i4_ h := loop_unroll ((laws_toTileS_link0 S K _ s0_ s3_ i4_ h).mpr hb)
def laws_toTileS_main (S : SatT) (K : AVal → H → Prop) (x0 : Sl) (h : H) : Prop :=
 mkS (x0.len : Int) [.int .i64 (0), .int .i64 (0), .int .i64 (0), .int .i64 (0)] h fun s0 h1 =>
 laws_toTileS_L0 S K x0 s0 (0) h1
theorem laws_toTileS_main_link (S : SatT) (K : AVal → H → Prop) (x0 : Sl) (h : H) : cwp S tab laws_toTileS_M [] (bodyOf Try.f30) (kFun tab Try.f30.results.toList K) (fr0 Try.f30 [.sl x0]) h = laws_toTileS_main S K x0 h := by kernel_rfl
theorem laws_toTileS_call (x0 : Sl) (h : H) (K : Sl → H → Prop) (hm : laws_toTileS_main (Sat Try.prog) (fun v h' => ∃ r, v = .sl r ∧ K r h') x0 h) : callS (Sat Try.prog) i_laws_toTileS [.sl x0] h K := by
  have := Sat.ex tok mixed laws_toTileS_M Try.func30 (c := bodyOf Try.f30) (by kernel_rfl) (calls_of Try.func30 (c := bodyOf Try.f30) (by kernel_rfl) (by decide)) ((laws_toTileS_main_link _ _ x0 h).mpr hm)
  obtain ⟨v, h2, h3, r, rfl, h4⟩ := this; exact ⟨r, h2, h3, h4⟩

/-! ### loop.example/g01354/laws.FnExactFailingHeight -/
def laws_FnExactFailingHeight_M : Nat → List Nat := fun i => []
def laws_FnExactFailingHeight_main (S : SatT) (K : AVal → H → Prop) (x0 : List AVal) (x1 : Int) (h : H) : Prop :=
 newK 2 x0 h fun p0 h1 =>
 ldA p0 2 h1 fun cs2 =>
 callI S .i64 i_laws_szSet [.agg cs2, .int .i64 (1048576)] h1 fun n4 h3 =>
 bif (decide (n4 < (0))) then
 K (.bool true) h3
 else
 ldA p0 2 h3 fun cs5 =>
 callA S i_laws_toSet [.agg cs5] h3 fun cs7 h6 =>
 callV S i_spec_FailingHeight [.agg cs7, .int .i64 x1] h6 fun v9 h8 =>
 viaT v9 fun vs10 =>
 exI .i64 vs10 0 fun n11 =>
 viaT v9 fun vs12 =>
 exI .i64 vs12 1 fun n13 =>
 ldA p0 2 h8 fun cs14 =>
 callA S i_laws_toSet [.agg cs14] h8 fun cs16 h15 =>
 newO [.int .i64 (0), .sl Sl.nil] h15 fun p17 h18 =>
 stN p17 2 cs16 h18 fun h19 =>
 ldA p17 2 h19 fun cs20 =>
 callV S i_impl_FailingHeight [.agg cs20, .int .i64 x1] h19 fun v22 h21 =>
 viaT v22 fun vs23 =>
 exI .i64 vs23 0 fun n24 =>
 viaT v22 fun vs25 =>
 exI .i64 vs25 1 fun n26 =>
 bif (n24 != n11) then
 K (.bool false) h21
 else
 bif (n26 != n13) then
 K (.bool false) h21
 else
 ldA p17 2 h21 fun cs27 =>
 ldA p0 2 h21 fun cs28 =>
 callA S i_laws_toSet [.agg cs28] h21 fun cs30 h29 =>
(range h29 p17.o p17.n p17.off 2 = range h21 p17.o p17.n p17.off 2) ∧ (
 callB S i_laws_eqSet [.agg cs27, .agg cs30] h29 fun b32 h31 =>
 bif (!b32) then
 K (.bool false) h31
 else
 K (.bool true) h31)
theorem laws_FnExactFailingHeight_main_link (S : SatT) (K : AVal → H → Prop) (x0 : List AVal) (x1 : Int) (h : H) : cwp S tab laws_FnExactFailingHeight_M [] (bodyOf Try.f6) (kFun tab Try.f6.results.toList K) (fr0 Try.f6 [.agg x0, .int .i64 x1]) h = laws_FnExactFailingHeight_main S K x0 x1 h := by kernel_rfl
theorem laws_FnExactFailingHeight_call (x0 : List AVal) (x1 : Int) (h : H) (K : Bool → H → Prop) (hm : laws_FnExactFailingHeight_main (Sat Try.prog) (fun v h' => ∃ r, v = .bool r ∧ K r h') x0 x1 h) : callB (Sat Try.prog) i_laws_FnExactFailingHeight [.agg x0, .int .i64 x1] h K := by
  have := Sat.ex tok mixed laws_FnExactFailingHeight_M Try.func6 (c := bodyOf Try.f6) (by kernel_rfl) (calls_of Try.func6 (c := bodyOf Try.f6) (by kernel_rfl) (by decide)) ((laws_FnExactFailingHeight_main_link _ _ x0 x1 h).mpr hm)
  obtain ⟨v, h2, h3, r, rfl, h4⟩ := this; exact ⟨r, h2, h3, h4⟩

/-! ### loop.example/g01354/spec.StackSets -/
def spec_StackSets_M : Nat → List Nat := fun i => []
def spec_StackSets_main (S : SatT) (K : AVal → H → Prop) (x0 : List AVal) (x1 : List AVal) (h : H) : Prop :=
 newK 2 x0 h fun p0 h1 =>
 newK 2 x1 h1 fun p2 h3 =>
 newO [.int .i64 (0), .sl Sl.nil] h3 fun p4 h5 =>
 ldA p0 2 h5 fun cs6 =>
 callB S i_spec_l01Is [.agg cs6] h5 fun b8 h7 =>
 bif (!b8) then
 stN p4 2 [.int .i64 (0), .sl Sl.nil] h7 fun h9 =>
 ldA p4 2 h9 fun cs10 =>
 K (.tuple [.agg cs10, .int .i64 (1)]) h9
 else
 ldA p2 2 h7 fun cs11 =>
 callB S i_spec_l01Is [.agg cs11] h7 fun b13 h12 =>
 bif (!b13) then
 stN p4 2 [.int .i64 (0), .sl Sl.nil] h12 fun h14 =>
 ldA p4 2 h14 fun cs15 =>
 K (.tuple [.agg cs15, .int .i64 (1)]) h14
 else
 ldA p0 2 h12 fun cs16 =>
 ldA p2 2 h12 fun cs17 =>
 callV S i_spec_l04Made [.agg cs16, .agg cs17] h12 fun v19 h18 =>
 viaT v19 fun vs20 =>
 exA vs20 0 fun cs21 =>
 viaT v19 fun vs22 =>
 exI .i64 vs22 1 fun n23 =>
 newO [.int .i64 (0), .sl Sl.nil] h18 fun p24 h25 =>
 stN p24 2 cs21 h25 fun h26 =>
 ldA p24 2 h26 fun cs27 =>
 stN p4 2 cs27 h26 fun h28 =>
 ldA p4 2 h28 fun cs29 =>
 K (.tuple [.agg cs29, .int .i64 n23]) h28
theorem spec_StackSets_main_link (S : SatT) (K : AVal → H → Prop) (x0 : List AVal) (x1 : List AVal) (h : H) : cwp S tab spec_StackSets_M [] (bodyOf Try.f9) (kFun tab Try.f9.results.toList K) (fr0 Try.f9 [.agg x0, .agg x1]) h = spec_StackSets_main S K x0 x1 h := by kernel_rfl
theorem spec_StackSets_call (x0 : List AVal) (x1 : List AVal) (h : H) (K : AVal → H → Prop) (hm : spec_StackSets_main (Sat Try.prog) (fun v h' => K v h') x0 x1 h) : callV (Sat Try.prog) i_spec_StackSets [.agg x0, .agg x1] h K := by
  have := Sat.ex tok mixed spec_StackSets_M Try.func9 (c := bodyOf Try.f9) (by kernel_rfl) (calls_of Try.func9 (c := bodyOf Try.f9) (by kernel_rfl) (by decide)) ((spec_StackSets_main_link _ _ x0 x1 h).mpr hm)
  exact this

/-! ### (loop.example/g01354/impl.Tile).sides -/
def impl_Tile_sides_M : Nat → List Nat := fun i => []
def impl_Tile_sides_main (S : SatT) (K : AVal → H → Prop) (x0 : List AVal) (x1 : Int) (x2 : Int) (x3 : Int) (x4 : Int) (h : H) : Prop :=
 newK 4 x0 h fun p0 h1 =>
 newO [.int .i64 (0), .int .i64 (0), .int .i64 (0), .int .i64 (0)] h1 fun p2 h3 =>
 ixA p0 4 1 x1 fun p4 =>
 ldI .i64 p4 h3 fun n5 =>
 ixA p0 4 1 x2 fun p6 =>
 ldI .i64 p6 h3 fun n7 =>
 ixA p0 4 1 x3 fun p8 =>
 ldI .i64 p8 h3 fun n9 =>
 ixA p0 4 1 x4 fun p10 =>
 ldI .i64 p10 h3 fun n11 =>
 stN p2 4 [.int .i64 n5, .int .i64 n7, .int .i64 n9, .int .i64 n11] h3 fun h12 =>
 ldA p2 4 h12 fun cs13 =>
 K (.agg cs13) h12
theorem impl_Tile_sides_main_link (S : SatT) (K : AVal → H → Prop) (x0 : List AVal) (x1 : Int) (x2 : Int) (x3 : Int) (x4 : Int) (h : H) : cwp S tab impl_Tile_sides_M [] (bodyOf Try.f82) (kFun tab Try.f82.results.toList K) (fr0 Try.f82 [.agg x0, .int .i64 x1, .int .i64 x2, .int .i64 x3, .int .i64 x4]) h = impl_Tile_sides_main S K x0 x1 x2 x3 x4 h := by kernel_rfl
theorem impl_Tile_sides_call (x0 : List AVal) (x1 : Int) (x2 : Int) (x3 : Int) (x4 : Int) (h : H) (K : List AVal → H → Prop) (hm : impl_Tile_sides_main (Sat Try.prog) (fun v h' => ∃ r, v = .agg r ∧ K r h') x0 x1 x2 x3 x4 h) : callA (Sat Try.prog) i_impl_Tile_sides [.agg x0, .int .i64 x1, .int .i64 x2, .int .i64 x3, .int .i64 x4] h K := by
  have := Sat.ex tok mixed impl_Tile_sides_M Try.func82 (c := bodyOf Try.f82) (by kernel_rfl) (calls_of Try.func82 (c := bodyOf Try.f82) (by kernel_rfl) (by decide)) ((impl_Tile_sides_main_link _ _ x0 x1 x2 x3 x4 h).mpr hm)
  obtain ⟨v, h2, h3, r, rfl, h4⟩ := this; exact ⟨r, h2, h3, h4⟩

/-! ### loop.example/g01354/impl.stack -/
def impl_stack_M : Nat → List Nat := fun i => []
def impl_stack_main (S : SatT) (K : AVal → H → Prop) (x0 : List AVal) (x1 : List AVal) (h : H) : Prop :=
 newK 2 x0 h fun p0 h1 =>
 newK 2 x1 h1 fun p2 h3 =>
 newO [.int .i64 (0), .sl Sl.nil] h3 fun p4 h5 =>
 isPt p0 (
 ldS (Pt.add p0 1) h5 fun s6 =>
 isPt p2 (
 ldS (Pt.add p2 1) h5 fun s7 =>
 callV S i_impl_stackTiles [.sl s6, .sl s7] h5 fun v9 h8 =>
 viaT v9 fun vs10 =>
 exS vs10 0 fun s11 =>
 viaT v9 fun vs12 =>
 exI .i64 vs12 1 fun n13 =>
 isPt p0 (
 ldI .i64 (Pt.add p0 0) h8 fun n14 =>
 isPt p2 (
 ldI .i64 (Pt.add p2 0) h8 fun n15 =>
 callV S i_impl_limited [.int .i64 (mxI (mxI n13 n14) n15), .sl s11] h8 fun v17 h16 =>
 viaT v17 fun vs18 =>
 exA vs18 0 fun cs19 =>
 viaT v17 fun vs20 =>
 exI .i64 vs20 1 fun n21 =>
 stN p4 2 cs19 h16 fun h22 =>
 ldA p4 2 h22 fun cs23 =>
 K (.tuple [.agg cs23, .int .i64 n21]) h22))))
theorem impl_stack_main_link (S : SatT) (K : AVal → H → Prop) (x0 : List AVal) (x1 : List AVal) (h : H) : cwp S tab impl_stack_M [] (bodyOf Try.f32) (kFun tab Try.f32.results.toList K) (fr0 Try.f32 [.agg x0, .agg x1]) h = impl_stack_main S K x0 x1 h := by kernel_rfl
theorem impl_stack_call (x0 : List AVal) (x1 : List AVal) (h : H) (K : AVal → H → Prop) (hm : impl_stack_main (Sat Try.prog) (fun v h' => K v h') x0 x1 h) : callV (Sat Try.prog) i_impl_stack [.agg x0, .agg x1] h K := by
  have := Sat.ex tok mixed impl_stack_M Try.func32 (c := bodyOf Try.f32) (by kernel_rfl) (calls_of Try.func32 (c := bodyOf Try.f32) (by kernel_rfl) (by decide)) ((impl_stack_main_link _ _ x0 x1 h).mpr hm)
  exact this

/-! ### loop.example/g01354/spec.FailingHeight -/
def spec_FailingHeight_M : Nat → List Nat := fun i => []
def spec_FailingHeight_main (S : SatT) (K : AVal → H → Prop) (x0 : List AVal) (x1 : Int) (h : H) : Prop :=
 newK 2 x0 h fun p0 h1 =>
 ldA p0 2 h1 fun cs2 =>
 callI S .i64 i_spec_l04Code [.agg cs2, .int .i64 x1] h1 fun n4 h3 =>
 bif (n4 != (0)) then
 K (.tuple [.int .i64 (0), .int .i64 n4]) h3
 else
 ldA p0 2 h3 fun cs5 =>
 callV S i_spec_l04Failing [.agg cs5, .int .i64 x1] h3 fun v7 h6 =>
 viaT v7 fun vs8 =>
 exI .i64 vs8 0 fun n9 =>
 viaT v7 fun vs10 =>
 exI .i64 vs10 1 fun n11 =>
 K (.tuple [.int .i64 n9, .int .i64 n11]) h6
theorem spec_FailingHeight_main_link (S : SatT) (K : AVal → H → Prop) (x0 : List AVal) (x1 : Int) (h : H) : cwp S tab spec_FailingHeight_M [] (bodyOf Try.f23) (kFun tab Try.f23.results.toList K) (fr0 Try.f23 [.agg x0, .int .i64 x1]) h = spec_FailingHeight_main S K x0 x1 h := by kernel_rfl
theorem spec_FailingHeight_call (x0 : List AVal) (x1 : Int) (h : H) (K : AVal → H → Prop) (hm : spec_FailingHeight_main (Sat Try.prog) (fun v h' => K v h') x0 x1 h) : callV (Sat Try.prog) i_spec_FailingHeight [.agg x0, .int .i64 x1] h K := by
  have := Sat.ex tok mixed spec_FailingHeight_M Try.func23 (c := bodyOf Try.f23) (by kernel_rfl) (calls_of Try.func23 (c := bodyOf Try.f23) (by kernel_rfl) (by decide)) ((spec_FailingHeight_main_link _ _ x0 x1 h).mpr hm)
  exact this

/-! ### loop.example/g01354/laws.eqSet -/
def laws_eqSet_M : Nat → List Nat := fun i => []
def laws_eqSet_main (S : SatT) (K : AVal → H → Prop) (x0 : List AVal) (x1 : List AVal) (h : H) : Prop :=
 newK 2 x0 h fun p0 h1 =>
 newK 2 x1 h1 fun p2 h3 =>
 isPt p0 (
 ldI .i64 (Pt.add p0 0) h3 fun n4 =>
 isPt p2 (
 ldI .i64 (Pt.add p2 0) h3 fun n5 =>
 bif (n4 != n5) then
 K (.bool false) h3
 else
 isPt p0 (
 ldS (Pt.add p0 1) h3 fun s6 =>
 isPt p2 (
 ldS (Pt.add p2 1) h3 fun s7 =>
 callB S i_laws_eqTileS [.sl s6, .sl s7] h3 fun b9 h8 =>
 bif (!b9) then
 K (.bool false) h8
 else
 K (.bool true) h8))))
theorem laws_eqSet_main_link (S : SatT) (K : AVal → H → Prop) (x0 : List AVal) (x1 : List AVal) (h : H) : cwp S tab laws_eqSet_M [] (bodyOf Try.f12) (kFun tab Try.f12.results.toList K) (fr0 Try.f12 [.agg x0, .agg x1]) h = laws_eqSet_main S K x0 x1 h := by kernel_rfl
theorem laws_eqSet_call (x0 : List AVal) (x1 : List AVal) (h : H) (K : Bool → H → Prop) (hm : laws_eqSet_main (Sat Try.prog) (fun v h' => ∃ r, v = .bool r ∧ K r h') x0 x1 h) : callB (Sat Try.prog) i_laws_eqSet [.agg x0, .agg x1] h K := by
  have := Sat.ex tok mixed laws_eqSet_M Try.func12 (c := bodyOf Try.f12) (by kernel_rfl) (calls_of Try.func12 (c := bodyOf Try.f12) (by kernel_rfl) (by decide)) ((laws_eqSet_main_link _ _ x0 x1 h).mpr hm)
  obtain ⟨v, h2, h3, r, rfl, h4⟩ := this; exact ⟨r, h2, h3, h4⟩

/-! ### loop.example/g01354/impl.TransposedSet -/
def impl_TransposedSet_M : Nat → List Nat := fun i => []
def impl_TransposedSet_main (S : SatT) (K : AVal → H → Prop) (x0 : List AVal) (h : H) : Prop :=
 newK 2 x0 h fun p0 h1 =>
 newO [.int .i64 (0), .sl Sl.nil] h1 fun p2 h3 =>
 ldA p0 2 h3 fun cs4 =>
 callV S i_impl_changed [.agg cs4, .func 81 []] h3 fun v6 h5 =>
 viaT v6 fun vs7 =>
 exA vs7 0 fun cs8 =>
 viaT v6 fun vs9 =>
 exI .i64 vs9 1 fun n10 =>
 stN p2 2 cs8 h5 fun h11 =>
 ldA p2 2 h11 fun cs12 =>
 K (.tuple [.agg cs12, .int .i64 n10]) h11
theorem impl_TransposedSet_main_link (S : SatT) (K : AVal → H → Prop) (x0 : List AVal) (h : H) : cwp S tab impl_TransposedSet_M [] (bodyOf Try.f57) (kFun tab Try.f57.results.toList K) (fr0 Try.f57 [.agg x0]) h = impl_TransposedSet_main S K x0 h := by kernel_rfl
theorem impl_TransposedSet_call (x0 : List AVal) (h : H) (K : AVal → H → Prop) (hm : impl_TransposedSet_main (Sat Try.prog) (fun v h' => K v h') x0 h) : callV (Sat Try.prog) i_impl_TransposedSet [.agg x0] h K := by
  have := Sat.ex tok mixed impl_TransposedSet_M Try.func57 (c := bodyOf Try.f57) (by kernel_rfl) (calls_of Try.func57 (c := bodyOf Try.f57) (by kernel_rfl) (by decide)) ((impl_TransposedSet_main_link _ _ x0 h).mpr hm)
  exact this

/-! ### loop.example/g01354/impl.setCode -/
def impl_setCode_M : Nat → List Nat := fun i => []
def impl_setCode_main (S : SatT) (K : AVal → H → Prop) (x0 : List AVal) (x1 : AVal) (h : H) : Prop :=
 newK 2 x0 h fun p0 h1 =>
 ldA p0 2 h1 fun cs2 =>
 callB S i_impl_IsSet [.agg cs2] h1 fun b4 h3 =>
 bif (!b4) then
 K (.int .i64 (1)) h3
 else
 viaF x1 [] fun g5 ys6 =>
 callB S g5 ys6 h3 fun b8 h7 =>
 bif (!b8) then
 K (.int .i64 (2)) h7
 else
 K (.int .i64 (0)) h7
theorem impl_setCode_main_link (S : SatT) (K : AVal → H → Prop) (x0 : List AVal) (x1 : AVal) (h : H) : cwp S tab impl_setCode_M [] (bodyOf Try.f45) (kFun tab Try.f45.results.toList K) (fr0 Try.f45 [.agg x0, x1]) h = impl_setCode_main S K x0 x1 h := by kernel_rfl
theorem impl_setCode_call (x0 : List AVal) (x1 : AVal) (h : H) (K : Int → H → Prop) (hm : impl_setCode_main (Sat Try.prog) (fun v h' => ∃ r, v = .int .i64 r ∧ K r h') x0 x1 h) : callI (Sat Try.prog) .i64 i_impl_setCode [.agg x0, x1] h K := by
  have := Sat.ex tok mixed impl_setCode_M Try.func45 (c := bodyOf Try.f45) (by kernel_rfl) (calls_of Try.func45 (c := bodyOf Try.f45) (by kernel_rfl) (by decide)) ((impl_setCode_main_link _ _ x0 x1 h).mpr hm)
  obtain ⟨v, h2, h3, r, rfl, h4⟩ := this; exact ⟨r, h2, h3, h4⟩

/-! ### slices.Values[[]loop.example/g01354/impl.Tile,loop.example/g01354/impl.Tile] -/
def slices_Values_s_impl_Tile_impl_Tile__M : Nat → List Nat := fun i => []
def slices_Values_s_impl_Tile_impl_Tile__main (S : SatT) (K : AVal → H → Prop) (x0 : Sl) (h : H) : Prop :=
 newO [.sl x0] h fun p0 h1 =>
 K (.func 78 [.ptr p0]) h1
theorem slices_Values_s_impl_Tile_impl_Tile__main_link (S : SatT) (K : AVal → H → Prop) (x0 : Sl) (h : H) : cwp S tab slices_Values_s_impl_Tile_impl_Tile__M [] (bodyOf Try.f54) (kFun tab Try.f54.results.toList K) (fr0 Try.f54 [.sl x0]) h = slices_Values_s_impl_Tile_impl_Tile__main S K x0 h := by kernel_rfl
theorem slices_Values_s_impl_Tile_impl_Tile__call (x0 : Sl) (h : H) (K : AVal → H → Prop) (hm : slices_Values_s_impl_Tile_impl_Tile__main (Sat Try.prog) (fun v h' => K v h') x0 h) : callV (Sat Try.prog) i_slices_Values_s_impl_Tile_impl_Tile_ [.sl x0] h K := by
  have := Sat.ex tok mixed slices_Values_s_impl_Tile_impl_Tile__M Try.func54 (c := bodyOf Try.f54) (by kernel_rfl) (calls_of Try.func54 (c := bodyOf Try.f54) (by kernel_rfl) (by decide)) ((slices_Values_s_impl_Tile_impl_Tile__main_link _ _ x0 h).mpr hm)
  exact this

/-! ### loop.example/g01354/impl.within -/
def impl_within_M : Nat → List Nat := fun i => []
def impl_within_main (S : SatT) (K : AVal → H → Prop) (x0 : Int) (x1 : Int) (x2 : Int) (h : H) : Prop :=
 bif (decide (x0 ≥ x1)) then
 K (.bool (decide (x0 ≤ x2))) h
 else
 K (.bool false) h
theorem impl_within_main_link (S : SatT) (K : AVal → H → Prop) (x0 : Int) (x1 : Int) (x2 : Int) (h : H) : cwp S tab impl_within_M [] (bodyOf Try.f47) (kFun tab Try.f47.results.toList K) (fr0 Try.f47 [.int .i64 x0, .int .i64 x1, .int .i64 x2]) h = impl_within_main S K x0 x1 x2 h := by kernel_rfl
theorem impl_within_call (x0 : Int) (x1 : Int) (x2 : Int) (h : H) (K : Bool → H → Prop) (hm : impl_within_main (Sat Try.prog) (fun v h' => ∃ r, v = .bool r ∧ K r h') x0 x1 x2 h) : callB (Sat Try.prog) i_impl_within [.int .i64 x0, .int .i64 x1, .int .i64 x2] h K := by
  have := Sat.ex tok mixed impl_within_M Try.func47 (c := bodyOf Try.f47) (by kernel_rfl) (calls_of Try.func47 (c := bodyOf Try.f47) (by kernel_rfl) (by decide)) ((impl_within_main_link _ _ x0 x1 x2 h).mpr hm)
  obtain ⟨v, h2, h3, r, rfl, h4⟩ := this; exact ⟨r, h2, h3, h4⟩

/-! ### loop.example/g01354/spec.l01In -/
def spec_l01In_M : Nat → List Nat := fun i => []
def spec_l01In_main (S : SatT) (K : AVal → H → Prop) (x0 : Int) (x1 : Int) (x2 : Int) (h : H) : Prop :=
 bif (decide (x0 ≥ x1)) then
 K (.bool (decide (x0 ≤ x2))) h
 else
 K (.bool false) h
theorem spec_l01In_main_link (S : SatT) (K : AVal → H → Prop) (x0 : Int) (x1 : Int) (x2 : Int) (h : H) : cwp S tab spec_l01In_M [] (bodyOf Try.f43) (kFun tab Try.f43.results.toList K) (fr0 Try.f43 [.int .i64 x0, .int .i64 x1, .int .i64 x2]) h = spec_l01In_main S K x0 x1 x2 h := by kernel_rfl
theorem spec_l01In_call (x0 : Int) (x1 : Int) (x2 : Int) (h : H) (K : Bool → H → Prop) (hm : spec_l01In_main (Sat Try.prog) (fun v h' => ∃ r, v = .bool r ∧ K r h') x0 x1 x2 h) : callB (Sat Try.prog) i_spec_l01In [.int .i64 x0, .int .i64 x1, .int .i64 x2] h K := by
  have := Sat.ex tok mixed spec_l01In_M Try.func43 (c := bodyOf Try.f43) (by kernel_rfl) (calls_of Try.func43 (c := bodyOf Try.f43) (by kernel_rfl) (by decide)) ((spec_l01In_main_link _ _ x0 x1 x2 h).mpr hm)
  obtain ⟨v, h2, h3, r, rfl, h4⟩ := this; exact ⟨r, h2, h3, h4⟩

end Go.Proofs.Ytlbglfgienklfaa.Cl
