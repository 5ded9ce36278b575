/- Typed forms of functions, and their links. No claim is stated here. -/
import Derived.Test.YtcoampecbpiecaaFT
import Derived.Test.YtcoampecbpiecaaFG0
set_option linter.unusedVariables false
namespace Go.Proofs.Ytcoampecbpiecaa.Cl
open Go
def f72_M : Nat → List Nat := fun i => bif i == 8 then [3, 4, 8, 9, 10, 11] else bif i == 6 then [3, 4, 8, 9] else bif i == 4 then [3, 4, 8] else bif i == 2 then [0, 3, 4, 5, 6, 7] else bif i == 0 then [0, 3, 4, 5] else []
def f72_ks2 (S : SatT) (K : KT) : Kont := kSeq (cwp S tab f72_M [] (sub [1, 1, 1] (bodyOf Try.f74)) (kFun tab (Try.f74).results.toList K)) (kFun tab (Try.f74).results.toList K)
def f72_e0 (s0_ : Sl) (i3 : Int) (s4_ : Sl) (i5 : Int) : Frame := [.sl s0_, U, U, .int .i64 i3, .sl s4_, .int .i64 i5, U, U, U, U, U, U, U, U, U, U, U, U, U, U, U, U, U, U, U, U, U, U, U, U, U, U, U, U, U, U, U, U, U, U, U, U, U, U, U, U, U, U, U, U, U, U, U, U, U, U, U, U, U, U, U, U, U, U, U, U, U, U, U, U, U, U, U, U, U, U, U, U, U, U, U, U, U, U]
def f72_w0 (S : SatT) (K : KT) : (XT) → XT := fun X fr h => cwp S tab f72_M (f72_M 0) (sub [1, 1, 0, 1, 0, 0] (bodyOf Try.f74)) (kSeq (fun fr h => X (mask (f72_M 0) fr) h) (kBlk 0 (f72_ks2 S K))) fr h
def f72_L0 (S : SatT) (K : KT) (s0_ : Sl) (i3 : Int) (s4_ : Sl) (i5 : Int) (h : H) : Prop := loopK (f72_w0 S K) (f72_e0 s0_ i3 s4_ i5) h
def f72_ks6 (S : SatT) (K : KT) (X0 : XT) : Kont := kSeq (cwp S tab f72_M (f72_M 0) (sub [1, 1, 0, 1, 0, 0, 1, 1] (bodyOf Try.f74)) (kSeq (fun fr h => X0 (mask (f72_M 0) fr) h) (kBlk 0 (f72_ks2 S K)))) (kSeq (fun fr h => X0 (mask (f72_M 0) fr) h) (kBlk 0 (f72_ks2 S K)))
def f72_ks8 (S : SatT) (K : KT) (X0 : XT) : Kont := kSeq (cwp S tab f72_M (f72_M 1) (sub [1, 1, 0, 1, 0, 0, 1, 0, 0, 1, 1] (bodyOf Try.f74)) (kBlk 1 (f72_ks6 S K X0))) (kBlk 1 (f72_ks6 S K X0))
def f72_e2 (s0_ : Sl) (i3 : Int) (s4_ : Sl) (i5 : Int) (s6_ : Sl) (i7 : Int) : Frame := [.sl s0_, U, U, .int .i64 i3, .sl s4_, .int .i64 i5, .sl s6_, .int .i64 i7, U, U, U, U, U, U, U, U, U, U, U, U, U, U, U, U, U, U, U, U, U, U, U, U, U, U, U, U, U, U, U, U, U, U, U, U, U, U, U, U, U, U, U, U, U, U, U, U, U, U, U, U, U, U, U, U, U, U, U, U, U, U, U, U, U, U, U, U, U, U, U, U, U, U, U, U]
def f72_w2 (S : SatT) (K : KT) (X0 : XT) : (XT) → XT := fun X fr h => cwp S tab f72_M (f72_M 2) (sub [1, 1, 0, 1, 0, 0, 1, 0, 0, 1, 0, 1, 0, 0] (bodyOf Try.f74)) (kSeq (fun fr h => X (mask (f72_M 2) fr) h) (kBlk 2 (f72_ks8 S K X0))) fr h
def f72_L2 (S : SatT) (K : KT) (X0 : XT) (s0_ : Sl) (i3 : Int) (s4_ : Sl) (i5 : Int) (s6_ : Sl) (i7 : Int) (h : H) : Prop := loopK (f72_w2 S K X0) (f72_e2 s0_ i3 s4_ i5 s6_ i7) h
def f72_C1 (S : SatT) (K : KT) (X0 : XT) (s0_ : Sl) (i3 : Int) (s4_ : Sl) (i5 : Int) (h : H) : Prop :=
 X0 (f72_e0 s0_ i3 s4_ (w64 (i5 + (1)))) h
def f72_C2 (S : SatT) (K : KT) (X0 : XT) (s0_ : Sl) (i3 : Int) (s4_ : Sl) (i5 : Int) (s6_ : Sl) (h : H) : Prop :=
 newS 1 1 [.sl s6_] h fun s0 h1 =>
 app s4_ s0 1 h1 fun s2 h3 =>
 f72_C1 S K X0 s0_ i3 s2 i5 h3
def f72_b2 (S : SatT) (K : KT) (X0 X2 : XT) (s0_ : Sl) (i3 : Int) (s4_ : Sl) (i5 : Int) (s6_ : Sl) (i7 : Int) (h : H) : Prop :=
 bif (decide (i7 < i3)) then
 ixS s0_ 1 i5 fun p0 =>
 ldS p0 h fun s1 =>
 ixS s1 1 i7 fun p2 =>
 ldI .i64 p2 h fun n3 =>
 ixS s6_ 1 i7 fun p4 =>
 st1 p4 (.bool (decide (n3 > (0)))) h fun h5 =>
 X2 (f72_e2 s0_ i3 s4_ i5 s6_ (w64 (i7 + (1)))) h5
 else
 f72_C2 S K X0 s0_ i3 s4_ i5 s6_ h
theorem f72_link2 (S : SatT) (K : KT) (X0 X2 : XT) (s0_ : Sl) (i3 : Int) (s4_ : Sl) (i5 : Int) (s6_ : Sl) (i7 : Int) (h : H) : f72_w2 S K X0 X2 (f72_e2 s0_ i3 s4_ i5 s6_ i7) h = f72_b2 S K X0 X2 s0_ i3 s4_ i5 s6_ i7 h := by kernel_rfl
theorem f72_rule2 (S : SatT) (K : KT) (X0 : XT) (s0_ : Sl) (i3 : Int) (s4_ : Sl) (i5 : Int) (s6_ : Sl) (I_ : Int → H → Prop) (m_ : Int → H → Nat)
  (hs : ∀ (X2 : XT) (i7 : Int) (h : H), I_ i7 h → (∀ (i7' : Int) (h' : H), I_ i7' h' → m_ i7' h' < m_ i7 h → X2 (f72_e2 s0_ i3 s4_ i5 s6_ i7') h') → f72_b2 S K X0 X2 s0_ i3 s4_ i5 s6_ i7 h) (i7 : Int) {h : H} (h0 : I_ i7 h) : f72_L2 S K X0 s0_ i3 s4_ i5 s6_ i7 h :=
 loop_rule (σ := (Int)) (fun s_ => f72_e2 s0_ i3 s4_ i5 s6_ (s_)) (fun s_ h => I_ (s_) h) (fun s_ h => m_ (s_) h)
  (fun X s_ h hi hx => (f72_link2 S K X0 X s0_ i3 s4_ i5 s6_ (s_) h).mpr (hs X (s_) h hi fun i7' h' hi' hm' => hx (i7') h' hi' hm')) (i7) h0
def f72_ks13 (S : SatT) (K : KT) : Kont := kSeq (cwp S tab f72_M [] (sub [1, 1, 1, 1] (bodyOf Try.f74)) (kFun tab (Try.f74).results.toList K)) (kFun tab (Try.f74).results.toList K)
def f72_e4 (i3 : Int) (s4_ : Sl) (i8 : Int) : Frame := [U, U, U, .int .i64 i3, .sl s4_, U, U, U, .int .i64 i8, U, U, U, U, U, U, U, U, U, U, U, U, U, U, U, U, U, U, U, U, U, U, U, U, U, U, U, U, U, U, U, U, U, U, U, U, U, U, U, U, U, U, U, U, U, U, U, U, U, U, U, U, U, U, U, U, U, U, U, U, U, U, U, U, U, U, U, U, U, U, U, U, U, U, U]
def f72_w4 (S : SatT) (K : KT) : (XT) → XT := fun X fr h => cwp S tab f72_M (f72_M 4) (sub [1, 1, 1, 0, 1, 0, 0] (bodyOf Try.f74)) (kSeq (fun fr h => X (mask (f72_M 4) fr) h) (kBlk 4 (f72_ks13 S K))) fr h
def f72_L4 (S : SatT) (K : KT) (i3 : Int) (s4_ : Sl) (i8 : Int) (h : H) : Prop := loopK (f72_w4 S K) (f72_e4 i3 s4_ i8) h
def f72_ks17 (S : SatT) (K : KT) (X4 : XT) : Kont := kSeq (cwp S tab f72_M (f72_M 4) (sub [1, 1, 1, 0, 1, 0, 0, 1, 1] (bodyOf Try.f74)) (kSeq (fun fr h => X4 (mask (f72_M 4) fr) h) (kBlk 4 (f72_ks13 S K)))) (kSeq (fun fr h => X4 (mask (f72_M 4) fr) h) (kBlk 4 (f72_ks13 S K)))
def f72_e6 (i3 : Int) (s4_ : Sl) (i8 i9 : Int) : Frame := [U, U, U, .int .i64 i3, .sl s4_, U, U, U, .int .i64 i8, .int .i64 i9, U, U, U, U, U, U, U, U, U, U, U, U, U, U, U, U, U, U, U, U, U, U, U, U, U, U, U, U, U, U, U, U, U, U, U, U, U, U, U, U, U, U, U, U, U, U, U, U, U, U, U, U, U, U, U, U, U, U, U, U, U, U, U, U, U, U, U, U, U, U, U, U, U, U]
def f72_w6 (S : SatT) (K : KT) (X4 : XT) : (XT) → XT := fun X fr h => cwp S tab f72_M (f72_M 6) (sub [1, 1, 1, 0, 1, 0, 0, 1, 0, 0, 1, 0, 0] (bodyOf Try.f74)) (kSeq (fun fr h => X (mask (f72_M 6) fr) h) (kBlk 6 (kBlk 5 (f72_ks17 S K X4)))) fr h
def f72_L6 (S : SatT) (K : KT) (X4 : XT) (i3 : Int) (s4_ : Sl) (i8 i9 : Int) (h : H) : Prop := loopK (f72_w6 S K X4) (f72_e6 i3 s4_ i8 i9) h
def f72_ks21 (S : SatT) (K : KT) (X4 X6 : XT) : Kont := kSeq (cwp S tab f72_M (f72_M 6) (sub [1, 1, 1, 0, 1, 0, 0, 1, 0, 0, 1, 0, 0, 1, 1] (bodyOf Try.f74)) (kSeq (fun fr h => X6 (mask (f72_M 6) fr) h) (kBlk 6 (kBlk 5 (f72_ks17 S K X4))))) (kSeq (fun fr h => X6 (mask (f72_M 6) fr) h) (kBlk 6 (kBlk 5 (f72_ks17 S K X4))))
def f72_e8 (i3 : Int) (s4_ : Sl) (i8 i9 : Int) (s10_ : Sl) (i11 : Int) : Frame := [U, U, U, .int .i64 i3, .sl s4_, U, U, U, .int .i64 i8, .int .i64 i9, .sl s10_, .int .i64 i11, U, U, U, U, U, U, U, U, U, U, U, U, U, U, U, U, U, U, U, U, U, U, U, U, U, U, U, U, U, U, U, U, U, U, U, U, U, U, U, U, U, U, U, U, U, U, U, U, U, U, U, U, U, U, U, U, U, U, U, U, U, U, U, U, U, U, U, U, U, U, U, U]
def f72_w8 (S : SatT) (K : KT) (X4 X6 : XT) : (XT) → XT := fun X fr h => cwp S tab f72_M (f72_M 8) (sub [1, 1, 1, 0, 1, 0, 0, 1, 0, 0, 1, 0, 0, 1, 0, 0, 1, 1, 0, 0] (bodyOf Try.f74)) (kSeq (fun fr h => X (mask (f72_M 8) fr) h) (kBlk 8 (kBlk 7 (f72_ks21 S K X4 X6)))) fr h
def f72_L8 (S : SatT) (K : KT) (X4 X6 : XT) (i3 : Int) (s4_ : Sl) (i8 i9 : Int) (s10_ : Sl) (i11 : Int) (h : H) : Prop := loopK (f72_w8 S K X4 X6) (f72_e8 i3 s4_ i8 i9 s10_ i11) h
def f72_C7 (S : SatT) (K : KT) (X4 X6 : XT) (i3 : Int) (s4_ : Sl) (i8 i9 : Int) (h : H) : Prop :=
 X6 (f72_e6 i3 s4_ i8 (w64 (i9 + (1)))) h
def f72_C8 (S : SatT) (K : KT) (X4 X6 : XT) (i3 : Int) (s4_ : Sl) (i8 i9 : Int) (h : H) : Prop :=
 f72_C7 S K X4 X6 i3 s4_ i8 i9 h
def f72_b8 (S : SatT) (K : KT) (X4 X6 X8 : XT) (i3 : Int) (s4_ : Sl) (i8 i9 : Int) (s10_ : Sl) (i11 : Int) (h : H) : Prop :=
 bif (decide (i11 < i3)) then
 ixS s10_ 1 i8 fun p0 =>
 ldB p0 h fun b1 =>
 bif b1 then
 ixS s10_ 1 i11 fun p2 =>
 ldB p2 h fun b3 =>
 bif b3 then
 ixS s10_ 1 i11 fun p4 =>
 st1 p4 (.bool true) h fun h5 =>
 X8 (f72_e8 i3 s4_ i8 i9 s10_ (w64 (i11 + (1)))) h5
 else
 ixS s4_ 1 i8 fun p6 =>
 ldS p6 h fun s7 =>
 ixS s7 1 i11 fun p8 =>
 ldB p8 h fun b9 =>
 ixS s10_ 1 i11 fun p10 =>
 st1 p10 (.bool b9) h fun h11 =>
 X8 (f72_e8 i3 s4_ i8 i9 s10_ (w64 (i11 + (1)))) h11
 else
 f72_C8 S K X4 X6 i3 s4_ i8 i9 h
 else
 f72_C8 S K X4 X6 i3 s4_ i8 i9 h
theorem f72_link8 (S : SatT) (K : KT) (X4 X6 X8 : XT) (i3 : Int) (s4_ : Sl) (i8 i9 : Int) (s10_ : Sl) (i11 : Int) (h : H) : f72_w8 S K X4 X6 X8 (f72_e8 i3 s4_ i8 i9 s10_ i11) h = f72_b8 S K X4 X6 X8 i3 s4_ i8 i9 s10_ i11 h := by kernel_rfl
theorem f72_rule8 (S : SatT) (K : KT) (X4 X6 : XT) (i3 : Int) (s4_ : Sl) (i8 i9 : Int) (s10_ : Sl) (I_ : Int → H → Prop) (m_ : Int → H → Nat)
  (hs : ∀ (X8 : XT) (i11 : Int) (h : H), I_ i11 h → (∀ (i11' : Int) (h' : H), I_ i11' h' → m_ i11' h' < m_ i11 h → X8 (f72_e8 i3 s4_ i8 i9 s10_ i11') h') → f72_b8 S K X4 X6 X8 i3 s4_ i8 i9 s10_ i11 h) (i11 : Int) {h : H} (h0 : I_ i11 h) : f72_L8 S K X4 X6 i3 s4_ i8 i9 s10_ i11 h :=
 loop_rule (σ := (Int)) (fun s_ => f72_e8 i3 s4_ i8 i9 s10_ (s_)) (fun s_ h => I_ (s_) h) (fun s_ h => m_ (s_) h)
  (fun X s_ h hi hx => (f72_link8 S K X4 X6 X i3 s4_ i8 i9 s10_ (s_) h).mpr (hs X (s_) h hi fun i11' h' hi' hm' => hx (i11') h' hi' hm')) (i11) h0
def f72_C5 (S : SatT) (K : KT) (X4 : XT) (i3 : Int) (s4_ : Sl) (i8 : Int) (h : H) : Prop :=
 X4 (f72_e4 i3 s4_ (w64 (i8 + (1)))) h
def f72_C6 (S : SatT) (K : KT) (X4 : XT) (i3 : Int) (s4_ : Sl) (i8 : Int) (h : H) : Prop :=
 f72_C5 S K X4 i3 s4_ i8 h
def f72_b6 (S : SatT) (K : KT) (X4 X6 : XT) (i3 : Int) (s4_ : Sl) (i8 i9 : Int) (h : H) : Prop :=
 bif (decide (i9 < i3)) then
 ixS s4_ 1 i9 fun p0 =>
 ldS p0 h fun s1 =>
 f72_L8 S K X4 X6 i3 s4_ i8 i9 s1 (0) h
 else
 f72_C6 S K X4 i3 s4_ i8 h
theorem f72_link6 (S : SatT) (K : KT) (X4 X6 : XT) (i3 : Int) (s4_ : Sl) (i8 i9 : Int) (h : H) : f72_w6 S K X4 X6 (f72_e6 i3 s4_ i8 i9) h = f72_b6 S K X4 X6 i3 s4_ i8 i9 h := by kernel_rfl
theorem f72_rule6 (S : SatT) (K : KT) (X4 : XT) (i3 : Int) (s4_ : Sl) (i8 : Int) (I_ : Int → H → Prop) (m_ : Int → H → Nat)
  (hs : ∀ (X6 : XT) (i9 : Int) (h : H), I_ i9 h → (∀ (i9' : Int) (h' : H), I_ i9' h' → m_ i9' h' < m_ i9 h → X6 (f72_e6 i3 s4_ i8 i9') h') → f72_b6 S K X4 X6 i3 s4_ i8 i9 h) (i9 : Int) {h : H} (h0 : I_ i9 h) : f72_L6 S K X4 i3 s4_ i8 i9 h :=
 loop_rule (σ := (Int)) (fun s_ => f72_e6 i3 s4_ i8 (s_)) (fun s_ h => I_ (s_) h) (fun s_ h => m_ (s_) h)
  (fun X s_ h hi hx => (f72_link6 S K X4 X i3 s4_ i8 (s_) h).mpr (hs X (s_) h hi fun i9' h' hi' hm' => hx (i9') h' hi' hm')) (i9) h0
def f72_C4 (S : SatT) (K : KT) (s4_ : Sl) (h : H) : Prop :=
 K (.sl s4_) h
def f72_b4 (S : SatT) (K : KT) (X4 : XT) (i3 : Int) (s4_ : Sl) (i8 : Int) (h : H) : Prop :=
 bif (decide (i8 < i3)) then
 f72_L6 S K X4 i3 s4_ i8 (0) h
 else
 f72_C4 S K s4_ h
theorem f72_link4 (S : SatT) (K : KT) (X4 : XT) (i3 : Int) (s4_ : Sl) (i8 : Int) (h : H) : f72_w4 S K X4 (f72_e4 i3 s4_ i8) h = f72_b4 S K X4 i3 s4_ i8 h := by kernel_rfl
theorem f72_rule4 (S : SatT) (K : KT) (i3 : Int) (s4_ : Sl) (I_ : Int → H → Prop) (m_ : Int → H → Nat)
  (hs : ∀ (X4 : XT) (i8 : Int) (h : H), I_ i8 h → (∀ (i8' : Int) (h' : H), I_ i8' h' → m_ i8' h' < m_ i8 h → X4 (f72_e4 i3 s4_ i8') h') → f72_b4 S K X4 i3 s4_ i8 h) (i8 : Int) {h : H} (h0 : I_ i8 h) : f72_L4 S K i3 s4_ i8 h :=
 loop_rule (σ := (Int)) (fun s_ => f72_e4 i3 s4_ (s_)) (fun s_ h => I_ (s_) h) (fun s_ h => m_ (s_) h)
  (fun X s_ h hi hx => (f72_link4 S K X i3 s4_ (s_) h).mpr (hs X (s_) h hi fun i8' h' hi' hm' => hx (i8') h' hi' hm')) (i8) h0
def f72_C0 (S : SatT) (K : KT) (i3 : Int) (s4_ : Sl) (h : H) : Prop :=
 f72_L4 S K i3 s4_ (0) h
def f72_b0 (S : SatT) (K : KT) (X0 : XT) (s0_ : Sl) (i3 : Int) (s4_ : Sl) (i5 : Int) (h : H) : Prop :=
 bif (decide (i5 < i3)) then
 mkS i3 [.bool false] h fun s0 h1 =>
 f72_L2 S K X0 s0_ i3 s4_ i5 s0 (0) h1
 else
 f72_C0 S K i3 s4_ h
theorem f72_link0 (S : SatT) (K : KT) (X0 : XT) (s0_ : Sl) (i3 : Int) (s4_ : Sl) (i5 : Int) (h : H) : f72_w0 S K X0 (f72_e0 s0_ i3 s4_ i5) h = f72_b0 S K X0 s0_ i3 s4_ i5 h := by kernel_rfl
theorem f72_rule0 (S : SatT) (K : KT) (s0_ : Sl) (i3 : Int) (I_ : Sl → Int → H → Prop) (m_ : Sl → Int → H → Nat)
  (hs : ∀ (X0 : XT) (s4_ : Sl) (i5 : Int) (h : H), I_ s4_ i5 h → (∀ (s4_' : Sl) (i5' : Int) (h' : H), I_ s4_' i5' h' → m_ s4_' i5' h' < m_ s4_ i5 h → X0 (f72_e0 s0_ i3 s4_' i5') h') → f72_b0 S K X0 s0_ i3 s4_ i5 h) (s4_ : Sl) (i5 : Int) {h : H} (h0 : I_ s4_ i5 h) : f72_L0 S K s0_ i3 s4_ i5 h :=
 loop_rule (σ := (Sl) × (Int)) (fun s_ => f72_e0 s0_ i3 (s_.1) (s_.2)) (fun s_ h => I_ (s_.1) (s_.2) h) (fun s_ h => m_ (s_.1) (s_.2) h)
  (fun X s_ h hi hx => (f72_link0 S K X s0_ i3 (s_.1) (s_.2) h).mpr (hs X (s_.1) (s_.2) h hi fun s4_' i5' h' hi' hm' => hx (s4_', i5') h' hi' hm')) (s4_, i5) h0
def f72_main (S : SatT) (K : KT) (x0 : Sl) (h : H) : Prop :=
 newS 0 1 [] h fun s0 h1 =>
 f72_L0 S K x0 (x0.len : Int) s0 (0) h1
theorem f72_main_link (S : SatT) (K : KT) (x0 : Sl) (h : H) : cwp S tab f72_M [] (bodyOf Try.f74) (kFun tab Try.f74.results.toList K) (fr0 Try.f74 [.sl x0]) h = f72_main S K x0 h := by kernel_rfl
theorem f72_call (x0 : Sl) (h : H) (K : Sl → H → Prop) (hm : f72_main (Sat Try.prog) (fun v h' => ∃ r, v = .sl r ∧ K r h') x0 h) : callS (Sat Try.prog) i_f72 [.sl x0] h K := by
 have := Sat.ex tok mixed f72_M Try.func74 (c := bodyOf Try.f74) (by kernel_rfl) (calls_of Try.func74 (c := bodyOf Try.f74) (by kernel_rfl) (by decide)) ((f72_main_link _ _ x0 h).mpr hm)
 obtain ⟨v, h2, h3, r, rfl, h4⟩ := this; exact ⟨r, h2, h3, h4⟩
def f8_M : Nat → List Nat := fun i => bif i == 2 then [1, 6, 10, 12, 13, 14, 27, 28, 29] else bif i == 0 then [1, 6, 10, 27, 28, 29] else []
def f8_ks6 (S : SatT) (K : KT) : Kont := kSeq (cwp S tab f8_M [] (sub [1, 1, 1, 1, 1] (bodyOf Try.f10)) (kFun tab (Try.f10).results.toList K)) (kFun tab (Try.f10).results.toList K)
def f8_e0 (i1 : Int) (p6_ : Pt) (s10_ s27_ : Sl) (i28 i29 : Int) : Frame := [U, .int .i64 i1, U, U, U, U, .ptr p6_, U, U, U, .sl s10_, U, U, U, U, U, U, U, U, U, U, U, U, U, U, U, U, .sl s27_, .int .i64 i28, .int .i64 i29, U, U, U, U, U, U, U, U, U, U, U, U, U, U, U, U, U, U, U, U, U, U, U, U, U, U, U, U, U, U, U, U, U, U]
def f8_w0 (S : SatT) (K : KT) : (XT) → XT := fun X fr h => cwp S tab f8_M (f8_M 0) (sub [1, 1, 1, 1, 0, 1, 0, 0] (bodyOf Try.f10)) (kSeq (fun fr h => X (mask (f8_M 0) fr) h) (kBlk 0 (f8_ks6 S K))) fr h
def f8_L0 (S : SatT) (K : KT) (i1 : Int) (p6_ : Pt) (s10_ s27_ : Sl) (i28 i29 : Int) (h : H) : Prop := loopK (f8_w0 S K) (f8_e0 i1 p6_ s10_ s27_ i28 i29) h
def f8_ks10 (S : SatT) (K : KT) (X0 : XT) : Kont := kSeq (cwp S tab f8_M (f8_M 0) (sub [1, 1, 1, 1, 0, 1, 0, 0, 1, 1, 1] (bodyOf Try.f10)) (kSeq (fun fr h => X0 (mask (f8_M 0) fr) h) (kBlk 0 (f8_ks6 S K)))) (kSeq (fun fr h => X0 (mask (f8_M 0) fr) h) (kBlk 0 (f8_ks6 S K)))
def f8_ks13 (S : SatT) (K : KT) (X0 : XT) : Kont := kSeq (cwp S tab f8_M (f8_M 1) (sub [1, 1, 1, 1, 0, 1, 0, 0, 1, 1, 0, 0, 1, 1, 1] (bodyOf Try.f10)) (kBlk 1 (f8_ks10 S K X0))) (kBlk 1 (f8_ks10 S K X0))
def f8_e2 (i1 : Int) (p6_ : Pt) (s10_ : Sl) (i12 : Int) (s13_ : Sl) (i14 : Int) (s27_ : Sl) (i28 i29 : Int) : Frame := [U, .int .i64 i1, U, U, U, U, .ptr p6_, U, U, U, .sl s10_, U, .int .i64 i12, .sl s13_, .int .i64 i14, U, U, U, U, U, U, U, U, U, U, U, U, .sl s27_, .int .i64 i28, .int .i64 i29, U, U, U, U, U, U, U, U, U, U, U, U, U, U, U, U, U, U, U, U, U, U, U, U, U, U, U, U, U, U, U, U, U, U]
def f8_w2 (S : SatT) (K : KT) (X0 : XT) : (XT) → XT := fun X fr h => cwp S tab f8_M (f8_M 2) (sub [1, 1, 1, 1, 0, 1, 0, 0, 1, 1, 0, 0, 1, 1, 0, 1, 0, 0] (bodyOf Try.f10)) (kSeq (fun fr h => X (mask (f8_M 2) fr) h) (kBlk 2 (f8_ks13 S K X0))) fr h
def f8_L2 (S : SatT) (K : KT) (X0 : XT) (i1 : Int) (p6_ : Pt) (s10_ : Sl) (i12 : Int) (s13_ : Sl) (i14 : Int) (s27_ : Sl) (i28 i29 : Int) (h : H) : Prop := loopK (f8_w2 S K X0) (f8_e2 i1 p6_ s10_ i12 s13_ i14 s27_ i28 i29) h
def f8_C1 (S : SatT) (K : KT) (X0 : XT) (i1 : Int) (p6_ : Pt) (s10_ s27_ : Sl) (i28 i29 : Int) (h : H) : Prop :=
 X0 (f8_e0 i1 p6_ s10_ s27_ i28 (w64 (i29 + (1)))) h
def f8_C2 (S : SatT) (K : KT) (X0 : XT) (i1 : Int) (p6_ : Pt) (s10_ s13_ s27_ : Sl) (i28 i29 : Int) (h : H) : Prop :=
 newS 1 1 [.sl s13_] h fun s0 h1 =>
 app s10_ s0 1 h1 fun s2 h3 =>
 f8_C1 S K X0 i1 p6_ s2 s27_ i28 i29 h3
def f8_b2 (S : SatT) (K : KT) (X0 X2 : XT) (i1 : Int) (p6_ : Pt) (s10_ : Sl) (i12 : Int) (s13_ : Sl) (i14 : Int) (s27_ : Sl) (i28 i29 : Int) (h : H) : Prop :=
 bif (decide (i14 ≥ (0))) then
 nilC (.ptr p6_) (
 isPt p6_ (
 isPt (Pt.add p6_ 0) (
 ldI .i64 (Pt.add (Pt.add p6_ 0) 0) h fun n0 =>
 nz n0 (
 ixS s13_ 1 i14 fun p1 =>
 st1 p1 (.int .i64 (Int.tmod i12 n0)) h fun h2 =>
 nilC (.ptr p6_) (
 isPt p6_ (
 isPt (Pt.add p6_ 0) (
 ldI .i64 (Pt.add (Pt.add p6_ 0) 0) h2 fun n3 =>
 nz n3 (
 X2 (f8_e2 i1 p6_ s10_ (w64 (Int.tdiv i12 n3)) s13_ (w64 (i14 - (1))) s27_ i28 i29) h2))))))))
 else
 f8_C2 S K X0 i1 p6_ s10_ s13_ s27_ i28 i29 h
theorem f8_link2 (S : SatT) (K : KT) (X0 X2 : XT) (i1 : Int) (p6_ : Pt) (s10_ : Sl) (i12 : Int) (s13_ : Sl) (i14 : Int) (s27_ : Sl) (i28 i29 : Int) (h : H) : f8_w2 S K X0 X2 (f8_e2 i1 p6_ s10_ i12 s13_ i14 s27_ i28 i29) h = f8_b2 S K X0 X2 i1 p6_ s10_ i12 s13_ i14 s27_ i28 i29 h := by kernel_rfl
theorem f8_rule2 (S : SatT) (K : KT) (X0 : XT) (i1 : Int) (p6_ : Pt) (s10_ s13_ s27_ : Sl) (i28 i29 : Int) (I_ : Int → Int → H → Prop) (m_ : Int → Int → H → Nat)
  (hs : ∀ (X2 : XT) (i12 i14 : Int) (h : H), I_ i12 i14 h → (∀ (i12' i14' : Int) (h' : H), I_ i12' i14' h' → m_ i12' i14' h' < m_ i12 i14 h → X2 (f8_e2 i1 p6_ s10_ i12' s13_ i14' s27_ i28 i29) h') → f8_b2 S K X0 X2 i1 p6_ s10_ i12 s13_ i14 s27_ i28 i29 h) (i12 i14 : Int) {h : H} (h0 : I_ i12 i14 h) : f8_L2 S K X0 i1 p6_ s10_ i12 s13_ i14 s27_ i28 i29 h :=
 loop_rule (σ := (Int) × (Int)) (fun s_ => f8_e2 i1 p6_ s10_ (s_.1) s13_ (s_.2) s27_ i28 i29) (fun s_ h => I_ (s_.1) (s_.2) h) (fun s_ h => m_ (s_.1) (s_.2) h)
  (fun X s_ h hi hx => (f8_link2 S K X0 X i1 p6_ s10_ (s_.1) s13_ (s_.2) s27_ i28 i29 h).mpr (hs X (s_.1) (s_.2) h hi fun i12' i14' h' hi' hm' => hx (i12', i14') h' hi' hm')) (i12, i14) h0
def f8_C0 (S : SatT) (K : KT) (s10_ : Sl) (h : H) : Prop :=
 K (.tuple [.sl s10_, .int .i64 (0)]) h
def f8_b0 (S : SatT) (K : KT) (X0 : XT) (i1 : Int) (p6_ : Pt) (s10_ s27_ : Sl) (i28 i29 : Int) (h : H) : Prop :=
 bif (decide (i29 < i28)) then
 ixS s27_ 1 i29 fun p0 =>
 ldI .i64 p0 h fun n1 =>
 mkS i1 [.int .i64 (0)] h fun s2 h3 =>
 f8_L2 S K X0 i1 p6_ s10_ n1 s2 (w64 (i1 - (1))) s27_ i28 i29 h3
 else
 f8_C0 S K s10_ h
theorem f8_link0 (S : SatT) (K : KT) (X0 : XT) (i1 : Int) (p6_ : Pt) (s10_ s27_ : Sl) (i28 i29 : Int) (h : H) : f8_w0 S K X0 (f8_e0 i1 p6_ s10_ s27_ i28 i29) h = f8_b0 S K X0 i1 p6_ s10_ s27_ i28 i29 h := by kernel_rfl
theorem f8_rule0 (S : SatT) (K : KT) (i1 : Int) (p6_ : Pt) (s27_ : Sl) (i28 : Int) (I_ : Sl → Int → H → Prop) (m_ : Sl → Int → H → Nat)
  (hs : ∀ (X0 : XT) (s10_ : Sl) (i29 : Int) (h : H), I_ s10_ i29 h → (∀ (s10_' : Sl) (i29' : Int) (h' : H), I_ s10_' i29' h' → m_ s10_' i29' h' < m_ s10_ i29 h → X0 (f8_e0 i1 p6_ s10_' s27_ i28 i29') h') → f8_b0 S K X0 i1 p6_ s10_ s27_ i28 i29 h) (s10_ : Sl) (i29 : Int) {h : H} (h0 : I_ s10_ i29 h) : f8_L0 S K i1 p6_ s10_ s27_ i28 i29 h :=
 loop_rule (σ := (Sl) × (Int)) (fun s_ => f8_e0 i1 p6_ (s_.1) s27_ i28 (s_.2)) (fun s_ h => I_ (s_.1) (s_.2) h) (fun s_ h => m_ (s_.1) (s_.2) h)
  (fun X s_ h hi hx => (f8_link0 S K X i1 p6_ (s_.1) s27_ i28 (s_.2) h).mpr (hs X (s_.1) (s_.2) h hi fun s10_' i29' h' hi' hm' => hx (s10_', i29') h' hi' hm')) (s10_, i29) h0
def f8_main (S : SatT) (K : KT) (x0 : List AVal) (x1 : Int) (h : H) : Prop :=
 newK 2 x0 h fun p0 h1 =>
 ldA p0 2 h1 fun cs2 =>
 callV S i_f29 [.agg cs2, .int .i64 x1] h1 fun v4 h3 =>
 viaT v4 fun vs5 =>
 exP vs5 0 fun p6 =>
 viaT v4 fun vs7 =>
 exS vs7 1 fun s8 =>
 viaT v4 fun vs9 =>
 exS vs9 2 fun s10 =>
 viaT v4 fun vs11 =>
 exI .i64 vs11 3 fun n12 =>
 bif (n12 != (0)) then
 K (.tuple [.sl Sl.nil, .int .i64 n12]) h3
 else
 newS 0 1 [] h3 fun s13 h14 =>
 f8_L0 S K x1 p6 s13 s8 (s8.len : Int) (0) h14
theorem f8_main_link (S : SatT) (K : KT) (x0 : List AVal) (x1 : Int) (h : H) : cwp S tab f8_M [] (bodyOf Try.f10) (kFun tab Try.f10.results.toList K) (fr0 Try.f10 [.agg x0, .int .i64 x1]) h = f8_main S K x0 x1 h := by kernel_rfl
theorem f8_call (x0 : List AVal) (x1 : Int) (h : H) (K : KT) (hm : f8_main (Sat Try.prog) (fun v h' => K v h') x0 x1 h) : callV (Sat Try.prog) i_f8 [.agg x0, .int .i64 x1] h K := by
 have := Sat.ex tok mixed f8_M Try.func10 (c := bodyOf Try.f10) (by kernel_rfl) (calls_of Try.func10 (c := bodyOf Try.f10) (by kernel_rfl) (by decide)) ((f8_main_link _ _ x0 x1 h).mpr hm)
 exact this
def f84_M : Nat → List Nat := fun i => bif i == 0 then [0, 1, 2, 3, 4, 6, 7, 8, 39, 40, 41] else []
def f84_ks5 (S : SatT) (K : KT) : Kont := kSeq (cwp S tab f84_M [] (sub [1, 1, 1] (bodyOf Try.f86)) (kFun tab (Try.f86).results.toList K)) (kFun tab (Try.f86).results.toList K)
def f84_e0 (i0 i1 : Int) (i2 i3 i4 : Int) (p6_ p7_ p8_ : Pt) (s39_ : Sl) (i40 i41 : Int) : Frame := [.int .i64 i0, .int .i64 i1, .int .i64 i2, .int .i64 i3, .int .i64 i4, U, .ptr p6_, .ptr p7_, .ptr p8_, U, U, U, U, U, U, U, U, U, U, U, U, U, U, U, U, U, U, U, U, U, U, U, U, U, U, U, U, U, U, .sl s39_, .int .i64 i40, .int .i64 i41, U, U, U, U, U, U, U, U, U, U, U, U, U, U, U, U, U, U, U, U, U, U, U, U, U, U, U, U, U, U, U, U, U, U, U, U, U, U, U, U]
def f84_w0 (S : SatT) (K : KT) : (XT) → XT := fun X fr h => cwp S tab f84_M (f84_M 0) (sub [1, 1, 0, 1, 0, 0] (bodyOf Try.f86)) (kSeq (fun fr h => X (mask (f84_M 0) fr) h) (kBlk 0 (f84_ks5 S K))) fr h
def f84_L0 (S : SatT) (K : KT) (i0 i1 : Int) (i2 i3 i4 : Int) (p6_ p7_ p8_ : Pt) (s39_ : Sl) (i40 i41 : Int) (h : H) : Prop := loopK (f84_w0 S K) (f84_e0 i0 i1 i2 i3 i4 p6_ p7_ p8_ s39_ i40 i41) h
def f84_C0 (S : SatT) (K : KT) (h : H) : Prop :=
 K (.bool true) h
def f84_b0 (S : SatT) (K : KT) (X0 : XT) (i0 i1 : Int) (i2 i3 i4 : Int) (p6_ p7_ p8_ : Pt) (s39_ : Sl) (i40 i41 : Int) (h : H) : Prop :=
 bif (decide (i41 < i40)) then
 ixS s39_ 4 i41 fun p0 =>
 ldA p0 4 h fun cs1 =>
 newO [.int .i64 (0), .int .i64 (0), .int .i64 (0), .int .i64 (0)] h fun p2 h3 =>
 stN p2 4 cs1 h3 fun h4 =>
 ldI .i64 p7_ h4 fun n5 =>
 bif (decide (i4 < n5)) then
 ixA p2 4 1 (1) fun p6 =>
 ldI .i64 p6 h4 fun n7 =>
 bif (n7 != i1) then
 X0 (f84_e0 i0 i1 i2 i3 i4 p6_ p7_ p8_ s39_ i40 (w64 (i41 + (1)))) h4
 else
 ldI .i64 p7_ h4 fun n8 =>
 bif (i4 == n8) then
 ixA p2 4 1 (1) fun p9 =>
 ldI .i64 p9 h4 fun n10 =>
 ldV p8_ h4 fun v11 =>
 ixA p2 4 1 (3) fun p12 =>
 ldI .i64 p12 h4 fun n13 =>
 isPt p6_ (
 ldI .i64 (Pt.add p6_ 0) h4 fun n14 =>
 ixA p2 4 1 (0) fun p15 =>
 ldI .i64 p15 h4 fun n16 =>
 isPt p6_ (
 ldI .i64 (Pt.add p6_ 0) h4 fun n17 =>
 ixA p2 4 1 (2) fun p18 =>
 ldI .i64 p18 h4 fun n19 =>
 viaF v11 [.int .i64 n10, .int .i64 n13, .int .i64 (w64 ((w64 (i2 * n14)) + n16)), .int .i64 (w64 ((w64 (i3 * n17)) + n19)), .int .i64 (w64 (i4 - (1)))] fun g20 ys21 =>
 callB S g20 ys21 h4 fun b23 h22 =>
 bif (!b23) then
 K (.bool false) h22
 else
 X0 (f84_e0 n10 i1 i2 i3 i4 p6_ p7_ p8_ s39_ i40 (w64 (i41 + (1)))) h22))
 else
 ldV p8_ h4 fun v24 =>
 ixA p2 4 1 (3) fun p25 =>
 ldI .i64 p25 h4 fun n26 =>
 isPt p6_ (
 ldI .i64 (Pt.add p6_ 0) h4 fun n27 =>
 ixA p2 4 1 (0) fun p28 =>
 ldI .i64 p28 h4 fun n29 =>
 isPt p6_ (
 ldI .i64 (Pt.add p6_ 0) h4 fun n30 =>
 ixA p2 4 1 (2) fun p31 =>
 ldI .i64 p31 h4 fun n32 =>
 viaF v24 [.int .i64 i0, .int .i64 n26, .int .i64 (w64 ((w64 (i2 * n27)) + n29)), .int .i64 (w64 ((w64 (i3 * n30)) + n32)), .int .i64 (w64 (i4 - (1)))] fun g33 ys34 =>
 callB S g33 ys34 h4 fun b36 h35 =>
 bif (!b36) then
 K (.bool false) h35
 else
 X0 (f84_e0 i0 i1 i2 i3 i4 p6_ p7_ p8_ s39_ i40 (w64 (i41 + (1)))) h35))
 else
 ldI .i64 p7_ h4 fun n37 =>
 bif (i4 == n37) then
 ixA p2 4 1 (1) fun p38 =>
 ldI .i64 p38 h4 fun n39 =>
 ldV p8_ h4 fun v40 =>
 ixA p2 4 1 (3) fun p41 =>
 ldI .i64 p41 h4 fun n42 =>
 isPt p6_ (
 ldI .i64 (Pt.add p6_ 0) h4 fun n43 =>
 ixA p2 4 1 (0) fun p44 =>
 ldI .i64 p44 h4 fun n45 =>
 isPt p6_ (
 ldI .i64 (Pt.add p6_ 0) h4 fun n46 =>
 ixA p2 4 1 (2) fun p47 =>
 ldI .i64 p47 h4 fun n48 =>
 viaF v40 [.int .i64 n39, .int .i64 n42, .int .i64 (w64 ((w64 (i2 * n43)) + n45)), .int .i64 (w64 ((w64 (i3 * n46)) + n48)), .int .i64 (w64 (i4 - (1)))] fun g49 ys50 =>
 callB S g49 ys50 h4 fun b52 h51 =>
 bif (!b52) then
 K (.bool false) h51
 else
 X0 (f84_e0 n39 i1 i2 i3 i4 p6_ p7_ p8_ s39_ i40 (w64 (i41 + (1)))) h51))
 else
 ldV p8_ h4 fun v53 =>
 ixA p2 4 1 (3) fun p54 =>
 ldI .i64 p54 h4 fun n55 =>
 isPt p6_ (
 ldI .i64 (Pt.add p6_ 0) h4 fun n56 =>
 ixA p2 4 1 (0) fun p57 =>
 ldI .i64 p57 h4 fun n58 =>
 isPt p6_ (
 ldI .i64 (Pt.add p6_ 0) h4 fun n59 =>
 ixA p2 4 1 (2) fun p60 =>
 ldI .i64 p60 h4 fun n61 =>
 viaF v53 [.int .i64 i0, .int .i64 n55, .int .i64 (w64 ((w64 (i2 * n56)) + n58)), .int .i64 (w64 ((w64 (i3 * n59)) + n61)), .int .i64 (w64 (i4 - (1)))] fun g62 ys63 =>
 callB S g62 ys63 h4 fun b65 h64 =>
 bif (!b65) then
 K (.bool false) h64
 else
 X0 (f84_e0 i0 i1 i2 i3 i4 p6_ p7_ p8_ s39_ i40 (w64 (i41 + (1)))) h64))
 else
 f84_C0 S K h
theorem f84_link0 (S : SatT) (K : KT) (X0 : XT) (i0 i1 : Int) (i2 i3 i4 : Int) (p6_ p7_ p8_ : Pt) (s39_ : Sl) (i40 i41 : Int) (h : H) : f84_w0 S K X0 (f84_e0 i0 i1 i2 i3 i4 p6_ p7_ p8_ s39_ i40 i41) h = f84_b0 S K X0 i0 i1 i2 i3 i4 p6_ p7_ p8_ s39_ i40 i41 h := by kernel_rfl
theorem f84_rule0 (S : SatT) (K : KT) (i1 i2 : Int) (i3 i4 : Int) (p6_ p7_ p8_ : Pt) (s39_ : Sl) (i40 : Int) (I_ : Int → Int → H → Prop) (m_ : Int → Int → H → Nat)
  (hs : ∀ (X0 : XT) (i0 i41 : Int) (h : H), I_ i0 i41 h → (∀ (i0' i41' : Int) (h' : H), I_ i0' i41' h' → m_ i0' i41' h' < m_ i0 i41 h → X0 (f84_e0 i0' i1 i2 i3 i4 p6_ p7_ p8_ s39_ i40 i41') h') → f84_b0 S K X0 i0 i1 i2 i3 i4 p6_ p7_ p8_ s39_ i40 i41 h) (i0 i41 : Int) {h : H} (h0 : I_ i0 i41 h) : f84_L0 S K i0 i1 i2 i3 i4 p6_ p7_ p8_ s39_ i40 i41 h :=
 loop_rule (σ := (Int) × (Int)) (fun s_ => f84_e0 (s_.1) i1 i2 i3 i4 p6_ p7_ p8_ s39_ i40 (s_.2)) (fun s_ h => I_ (s_.1) (s_.2) h) (fun s_ h => m_ (s_.1) (s_.2) h)
  (fun X s_ h hi hx => (f84_link0 S K X (s_.1) i1 i2 i3 i4 p6_ p7_ p8_ s39_ i40 (s_.2) h).mpr (hs X (s_.1) (s_.2) h hi fun i0' i41' h' hi' hm' => hx (i0', i41') h' hi' hm')) (i0, i41) h0
def f84_main (S : SatT) (K : KT) (x0 x1 : Int) (x2 x3 x4 : Int) (x5 x6 : Pt) (x7 x8 : Pt) (h : H) : Prop :=
 bif (x4 == (0)) then
 ldP x5 h fun p0 =>
 ldP x5 h fun p1 =>
 nilC (.ptr p1) (
 isPt p1 (
 ldS (Pt.add p1 4) h fun s2 =>
 lenA [.int .i64 x2, .int .i64 x3, .int .i64 x0] 3 (
 newS 1 3 (spl [.int .i64 (0), .int .i64 (0), .int .i64 (0)] 0 3 [.int .i64 x2, .int .i64 x3, .int .i64 x0]) h fun s3 h4 =>
(cell h4 (Pt.add p1 4) = cell h (Pt.add p1 4)) ∧ (
(cell h4 x5 = cell h x5) ∧ (
(cell h4 x5 = cell h x5) ∧ (
 app s2 s3 3 h4 fun s5 h6 =>
(cell h6 x5 = cell h x5) ∧ (
 nilC (.ptr p0) (
 isPt p0 (
 st1 (Pt.add p0 4) (.sl s5) h6 fun h7 =>
 ldP x5 h7 fun p8 =>
 nilC (.ptr p8) (
 isPt p8 (
 ldS (Pt.add p8 4) h7 fun s9 =>
 K (.bool (decide ((s9.len : Int) ≤ (5000)))) h7)))))))))))
 else
 isPt x6 (
 ldS (Pt.add x6 1) h fun s10 =>
 f84_L0 S K x0 x1 x2 x3 x4 x6 x7 x8 s10 (s10.len : Int) (0) h)
theorem f84_main_link (S : SatT) (K : KT) (x0 x1 : Int) (x2 x3 x4 : Int) (x5 x6 : Pt) (x7 x8 : Pt) (h : H) : cwp S tab f84_M [] (bodyOf Try.f86) (kFun tab Try.f86.results.toList K) (fr0 Try.f86 [.int .i64 x0, .int .i64 x1, .int .i64 x2, .int .i64 x3, .int .i64 x4, .ptr x5, .ptr x6, .ptr x7, .ptr x8]) h = f84_main S K x0 x1 x2 x3 x4 x5 x6 x7 x8 h := by kernel_rfl
theorem f84_call (x0 x1 : Int) (x2 x3 x4 : Int) (x5 x6 : Pt) (x7 x8 : Pt) (h : H) (K : Bool → H → Prop) (hm : f84_main (Sat Try.prog) (fun v h' => ∃ r, v = .bool r ∧ K r h') x0 x1 x2 x3 x4 x5 x6 x7 x8 h) : callB (Sat Try.prog) i_f84 [.int .i64 x0, .int .i64 x1, .int .i64 x2, .int .i64 x3, .int .i64 x4, .ptr x5, .ptr x6, .ptr x7, .ptr x8] h K := by
 have := Sat.ex tok mixed f84_M Try.func86 (c := bodyOf Try.f86) (by kernel_rfl) (calls_of Try.func86 (c := bodyOf Try.f86) (by kernel_rfl) (by decide)) ((f84_main_link _ _ x0 x1 x2 x3 x4 x5 x6 x7 x8 h).mpr hm)
 obtain ⟨v, h2, h3, r, rfl, h4⟩ := this; exact ⟨r, h2, h3, h4⟩
def f109_M : Nat → List Nat := fun i => bif i == 2 then [0, 3, 4, 5] else bif i == 0 then [0, 3, 4] else []
def f109_ks2 (S : SatT) (K : KT) : Kont := kSeq (cwp S tab f109_M [] (sub [1, 1, 1] (bodyOf Try.f111)) (kFun tab (Try.f111).results.toList K)) (kFun tab (Try.f111).results.toList K)
def f109_e0 (s0_ s3_ : Sl) (i4 : Int) : Frame := [.sl s0_, U, U, .sl s3_, .int .i64 i4, U, U, U, U, U, U, U, U, U, U, U, U, U, U, U, U, U, U, U, U, U, U, U, U, U, U, U, U, U, U, U, U, U, U, U, U, U, U, U, U, U, U, U, U, U, U, U, U, U, U, U, U, U, U, U, U, U, U]
def f109_w0 (S : SatT) (K : KT) : (XT) → XT := fun X fr h => cwp S tab f109_M (f109_M 0) (sub [1, 1, 0, 1, 0, 0] (bodyOf Try.f111)) (kSeq (fun fr h => X (mask (f109_M 0) fr) h) (kBlk 0 (f109_ks2 S K))) fr h
def f109_L0 (S : SatT) (K : KT) (s0_ s3_ : Sl) (i4 : Int) (h : H) : Prop := loopK (f109_w0 S K) (f109_e0 s0_ s3_ i4) h
def f109_ks6 (S : SatT) (K : KT) (X0 : XT) : Kont := kSeq (cwp S tab f109_M (f109_M 0) (sub [1, 1, 0, 1, 0, 0, 1, 1] (bodyOf Try.f111)) (kSeq (fun fr h => X0 (mask (f109_M 0) fr) h) (kBlk 0 (f109_ks2 S K)))) (kSeq (fun fr h => X0 (mask (f109_M 0) fr) h) (kBlk 0 (f109_ks2 S K)))
def f109_ks8 (S : SatT) (K : KT) (X0 : XT) : Kont := kSeq (cwp S tab f109_M (f109_M 1) (sub [1, 1, 0, 1, 0, 0, 1, 0, 0, 1, 1] (bodyOf Try.f111)) (kBlk 1 (f109_ks6 S K X0))) (kBlk 1 (f109_ks6 S K X0))
def f109_e2 (s0_ s3_ : Sl) (i4 i5 : Int) : Frame := [.sl s0_, U, U, .sl s3_, .int .i64 i4, .int .i64 i5, U, U, U, U, U, U, U, U, U, U, U, U, U, U, U, U, U, U, U, U, U, U, U, U, U, U, U, U, U, U, U, U, U, U, U, U, U, U, U, U, U, U, U, U, U, U, U, U, U, U, U, U, U, U, U, U, U]
def f109_w2 (S : SatT) (K : KT) (X0 : XT) : (XT) → XT := fun X fr h => cwp S tab f109_M (f109_M 2) (sub [1, 1, 0, 1, 0, 0, 1, 0, 0, 1, 0, 0, 0] (bodyOf Try.f111)) (kSeq (fun fr h => X (mask (f109_M 2) fr) h) (kBlk 2 (f109_ks8 S K X0))) fr h
def f109_L2 (S : SatT) (K : KT) (X0 : XT) (s0_ s3_ : Sl) (i4 i5 : Int) (h : H) : Prop := loopK (f109_w2 S K X0) (f109_e2 s0_ s3_ i4 i5) h
def f109_C1 (S : SatT) (K : KT) (X0 : XT) (s0_ s3_ : Sl) (i4 : Int) (h : H) : Prop :=
 X0 (f109_e0 s0_ s3_ (w64 (i4 + (1)))) h
def f109_C2 (S : SatT) (K : KT) (X0 : XT) (s0_ s3_ : Sl) (i4 i5 : Int) (h : H) : Prop :=
 bif (decide (i5 > (0))) then
 ixS s3_ 4 (w64 (i5 - (1))) fun p0 =>
 ldA p0 4 h fun cs1 =>
 ixS s0_ 4 i4 fun p2 =>
 ldA p2 4 h fun cs3 =>
 eqA .i64 4 cs1 cs3 fun b4 =>
 bif b4 then
 f109_C1 S K X0 s0_ s3_ i4 h
 else
 ixS s0_ 4 i4 fun p5 =>
 ldA p5 4 h fun cs6 =>
 lenA cs6 4 (
 newS 1 4 (spl [.int .i64 (0), .int .i64 (0), .int .i64 (0), .int .i64 (0)] 0 4 cs6) h fun s7 h8 =>
 cut s3_ 4 i5 (s3_.len : Int) h8 fun s9 =>
 okS h s3_ ∧ (
 app s7 s9 4 h8 fun s10 h11 =>
 newS 0 4 [] h11 fun s12 h13 =>
 cut s3_ 4 (0) i5 h13 fun s14 =>
 app s12 s14 4 h13 fun s15 h16 =>
 app s15 s10 4 h16 fun s17 h18 =>
 f109_C1 S K X0 s0_ s17 i4 h18))
 else
 ixS s0_ 4 i4 fun p19 =>
 ldA p19 4 h fun cs20 =>
 lenA cs20 4 (
 newS 1 4 (spl [.int .i64 (0), .int .i64 (0), .int .i64 (0), .int .i64 (0)] 0 4 cs20) h fun s21 h22 =>
 cut s3_ 4 i5 (s3_.len : Int) h22 fun s23 =>
 okS h s3_ ∧ (
 app s21 s23 4 h22 fun s24 h25 =>
 newS 0 4 [] h25 fun s26 h27 =>
 cut s3_ 4 (0) i5 h27 fun s28 =>
 app s26 s28 4 h27 fun s29 h30 =>
 app s29 s24 4 h30 fun s31 h32 =>
 f109_C1 S K X0 s0_ s31 i4 h32))
def f109_b2 (S : SatT) (K : KT) (X0 X2 : XT) (s0_ s3_ : Sl) (i4 i5 : Int) (h : H) : Prop :=
 bif (decide (i5 > (0))) then
 ixS s0_ 4 i4 fun p0 =>
 ldA p0 4 h fun cs1 =>
 ixS s3_ 4 (w64 (i5 - (1))) fun p2 =>
 ldA p2 4 h fun cs3 =>
 callB S i_f86 [.agg cs1, .agg cs3] h fun b5 h4 =>
 bif b5 then
 X2 (f109_e2 s0_ s3_ i4 (w64 (i5 - (1)))) h4
 else
 f109_C2 S K X0 s0_ s3_ i4 i5 h4
 else
 f109_C2 S K X0 s0_ s3_ i4 i5 h
theorem f109_link2 (S : SatT) (K : KT) (X0 X2 : XT) (s0_ s3_ : Sl) (i4 i5 : Int) (h : H) : f109_w2 S K X0 X2 (f109_e2 s0_ s3_ i4 i5) h = f109_b2 S K X0 X2 s0_ s3_ i4 i5 h := by kernel_rfl
theorem f109_rule2 (S : SatT) (K : KT) (X0 : XT) (s0_ s3_ : Sl) (i4 : Int) (I_ : Int → H → Prop) (m_ : Int → H → Nat)
  (hs : ∀ (X2 : XT) (i5 : Int) (h : H), I_ i5 h → (∀ (i5' : Int) (h' : H), I_ i5' h' → m_ i5' h' < m_ i5 h → X2 (f109_e2 s0_ s3_ i4 i5') h') → f109_b2 S K X0 X2 s0_ s3_ i4 i5 h) (i5 : Int) {h : H} (h0 : I_ i5 h) : f109_L2 S K X0 s0_ s3_ i4 i5 h :=
 loop_rule (σ := (Int)) (fun s_ => f109_e2 s0_ s3_ i4 (s_)) (fun s_ h => I_ (s_) h) (fun s_ h => m_ (s_) h)
  (fun X s_ h hi hx => (f109_link2 S K X0 X s0_ s3_ i4 (s_) h).mpr (hs X (s_) h hi fun i5' h' hi' hm' => hx (i5') h' hi' hm')) (i5) h0
def f109_C0 (S : SatT) (K : KT) (s3_ : Sl) (h : H) : Prop :=
 K (.sl s3_) h
def f109_b0 (S : SatT) (K : KT) (X0 : XT) (s0_ s3_ : Sl) (i4 : Int) (h : H) : Prop :=
 bif (decide (i4 < (s0_.len : Int))) then
 f109_L2 S K X0 s0_ s3_ i4 (s3_.len : Int) h
 else
 f109_C0 S K s3_ h
theorem f109_link0 (S : SatT) (K : KT) (X0 : XT) (s0_ s3_ : Sl) (i4 : Int) (h : H) : f109_w0 S K X0 (f109_e0 s0_ s3_ i4) h = f109_b0 S K X0 s0_ s3_ i4 h := by kernel_rfl
theorem f109_rule0 (S : SatT) (K : KT) (s0_ : Sl) (I_ : Sl → Int → H → Prop) (m_ : Sl → Int → H → Nat)
  (hs : ∀ (X0 : XT) (s3_ : Sl) (i4 : Int) (h : H), I_ s3_ i4 h → (∀ (s3_' : Sl) (i4' : Int) (h' : H), I_ s3_' i4' h' → m_ s3_' i4' h' < m_ s3_ i4 h → X0 (f109_e0 s0_ s3_' i4') h') → f109_b0 S K X0 s0_ s3_ i4 h) (s3_ : Sl) (i4 : Int) {h : H} (h0 : I_ s3_ i4 h) : f109_L0 S K s0_ s3_ i4 h :=
 loop_rule (σ := (Sl) × (Int)) (fun s_ => f109_e0 s0_ (s_.1) (s_.2)) (fun s_ h => I_ (s_.1) (s_.2) h) (fun s_ h => m_ (s_.1) (s_.2) h)
  (fun X s_ h hi hx => (f109_link0 S K X s0_ (s_.1) (s_.2) h).mpr (hs X (s_.1) (s_.2) h hi fun s3_' i4' h' hi' hm' => hx (s3_', i4') h' hi' hm')) (s3_, i4) h0
def f109_main (S : SatT) (K : KT) (x0 : Sl) (h : H) : Prop :=
 newS 0 4 [] h fun s0 h1 =>
 f109_L0 S K x0 s0 (0) h1
theorem f109_main_link (S : SatT) (K : KT) (x0 : Sl) (h : H) : cwp S tab f109_M [] (bodyOf Try.f111) (kFun tab Try.f111.results.toList K) (fr0 Try.f111 [.sl x0]) h = f109_main S K x0 h := by kernel_rfl
theorem f109_call (x0 : Sl) (h : H) (K : Sl → H → Prop) (hm : f109_main (Sat Try.prog) (fun v h' => ∃ r, v = .sl r ∧ K r h') x0 h) : callS (Sat Try.prog) i_f109 [.sl x0] h K := by
 have := Sat.ex tok mixed f109_M Try.func111 (c := bodyOf Try.f111) (by kernel_rfl) (calls_of Try.func111 (c := bodyOf Try.f111) (by kernel_rfl) (by decide)) ((f109_main_link _ _ x0 h).mpr hm)
 obtain ⟨v, h2, h3, r, rfl, h4⟩ := this; exact ⟨r, h2, h3, h4⟩
def f26_M : Nat → List Nat := fun i => bif i == 0 then [6, 8, 25, 26, 27] else []
def f26_ks6 (S : SatT) (K : KT) : Kont := kSeq (cwp S tab f26_M [] (sub [1, 1, 1, 1, 1] (bodyOf Try.f28)) (kFun tab (Try.f28).results.toList K)) (kFun tab (Try.f28).results.toList K)
def f26_e0 (p6_ p8_ : Pt) (s25_ : Sl) (i26 i27 : Int) : Frame := [U, U, U, U, U, U, .ptr p6_, U, .ptr p8_, U, U, U, U, U, U, U, U, U, U, U, U, U, U, U, U, .sl s25_, .int .i64 i26, .int .i64 i27, U, U, U, U, U, U, U, U, U, U, U, U, U, U, U, U, U, U, U]
def f26_w0 (S : SatT) (K : KT) : (XT) → XT := fun X fr h => cwp S tab f26_M (f26_M 0) (sub [1, 1, 1, 1, 0, 1, 0, 0] (bodyOf Try.f28)) (kSeq (fun fr h => X (mask (f26_M 0) fr) h) (kBlk 0 (f26_ks6 S K))) fr h
def f26_L0 (S : SatT) (K : KT) (p6_ p8_ : Pt) (s25_ : Sl) (i26 i27 : Int) (h : H) : Prop := loopK (f26_w0 S K) (f26_e0 p6_ p8_ s25_ i26 i27) h
def f26_C0 (S : SatT) (K : KT) (p6_ p8_ : Pt) (h : H) : Prop :=
 ldV p8_ h fun v0 =>
 mlen v0 h fun n1 =>
 bif (decide (n1 > (40))) then
 K (.tuple [.sl Sl.nil, .int .i64 (3)]) h
 else
 newS 0 1 [] h fun s2 h3 =>
 newO [.sl Sl.nil] h3 fun p4 h5 =>
 st1 p4 (.sl s2) h5 fun h6 =>
 callV S i_f38 [.ptr p6_, .func 55 [], .func 56 [.ptr p4, .ptr p8_]] h6 fun v8 h7 =>
 ldS p4 h7 fun s9 =>
 callS S i_f55 [.sl s9] h7 fun s11 h10 =>
 K (.tuple [.sl s11, .int .i64 (0)]) h10
def f26_b0 (S : SatT) (K : KT) (X0 : XT) (p6_ p8_ : Pt) (s25_ : Sl) (i26 i27 : Int) (h : H) : Prop :=
 bif (decide (i27 < i26)) then
 ixS s25_ 3 i27 fun p0 =>
 ldA p0 3 h fun cs1 =>
 newO [.int .i64 (0), .int .i64 (0), .int .i64 (0)] h fun p2 h3 =>
 stN p2 3 cs1 h3 fun h4 =>
 ldV p8_ h4 fun v5 =>
 ixA p2 3 1 (0) fun p6 =>
 ldI .i64 p6 h4 fun n7 =>
 ldV p8_ h4 fun v8 =>
 ixA p2 3 1 (1) fun p9 =>
 ldI .i64 p9 h4 fun n10 =>
 mput v5 (.int .i64 n7) (.bool true) h4 fun h11 =>
(cell h11 p9 = cell h4 p9) ∧ (
(cell h11 p8_ = cell h4 p8_) ∧ (
 mput v8 (.int .i64 n10) (.bool true) h11 fun h12 =>
 X0 (f26_e0 p6_ p8_ s25_ i26 (w64 (i27 + (1)))) h12))
 else
 f26_C0 S K p6_ p8_ h
theorem f26_link0 (S : SatT) (K : KT) (X0 : XT) (p6_ p8_ : Pt) (s25_ : Sl) (i26 i27 : Int) (h : H) : f26_w0 S K X0 (f26_e0 p6_ p8_ s25_ i26 i27) h = f26_b0 S K X0 p6_ p8_ s25_ i26 i27 h := by kernel_rfl
theorem f26_rule0 (S : SatT) (K : KT) (p6_ p8_ : Pt) (s25_ : Sl) (i26 : Int) (I_ : Int → H → Prop) (m_ : Int → H → Nat)
  (hs : ∀ (X0 : XT) (i27 : Int) (h : H), I_ i27 h → (∀ (i27' : Int) (h' : H), I_ i27' h' → m_ i27' h' < m_ i27 h → X0 (f26_e0 p6_ p8_ s25_ i26 i27') h') → f26_b0 S K X0 p6_ p8_ s25_ i26 i27 h) (i27 : Int) {h : H} (h0 : I_ i27 h) : f26_L0 S K p6_ p8_ s25_ i26 i27 h :=
 loop_rule (σ := (Int)) (fun s_ => f26_e0 p6_ p8_ s25_ i26 (s_)) (fun s_ h => I_ (s_) h) (fun s_ h => m_ (s_) h)
  (fun X s_ h hi hx => (f26_link0 S K X p6_ p8_ s25_ i26 (s_) h).mpr (hs X (s_) h hi fun i27' h' hi' hm' => hx (i27') h' hi' hm')) (i27) h0
def f26_main (S : SatT) (K : KT) (x0 : List AVal) (x1 : Int) (h : H) : Prop :=
 newK 2 x0 h fun p0 h1 =>
 ldA p0 2 h1 fun cs2 =>
 callV S i_f32 [.agg cs2, .int .i64 x1] h1 fun v4 h3 =>
 viaT v4 fun vs5 =>
 exP vs5 0 fun p6 =>
 viaT v4 fun vs7 =>
 exI .i64 vs7 1 fun n8 =>
 bif (n8 != (0)) then
 K (.tuple [.sl Sl.nil, .int .i64 n8]) h3
 else
 newM h3 fun v9 h10 =>
 newO [.map none] h10 fun p11 h12 =>
 bif (AVal.isCell v9 && true) then
 st1 p11 v9 h12 fun h13 =>
 nilC (.ptr p6) (
 isPt p6 (
 ldS (Pt.add p6 4) h13 fun s14 =>
 f26_L0 S K p6 p11 s14 (s14.len : Int) (0) h13))
 else False
theorem f26_main_link (S : SatT) (K : KT) (x0 : List AVal) (x1 : Int) (h : H) : cwp S tab f26_M [] (bodyOf Try.f28) (kFun tab Try.f28.results.toList K) (fr0 Try.f28 [.agg x0, .int .i64 x1]) h = f26_main S K x0 x1 h := by kernel_rfl
theorem f26_call (x0 : List AVal) (x1 : Int) (h : H) (K : KT) (hm : f26_main (Sat Try.prog) (fun v h' => K v h') x0 x1 h) : callV (Sat Try.prog) i_f26 [.agg x0, .int .i64 x1] h K := by
 have := Sat.ex tok mixed f26_M Try.func28 (c := bodyOf Try.f28) (by kernel_rfl) (calls_of Try.func28 (c := bodyOf Try.f28) (by kernel_rfl) (by decide)) ((f26_main_link _ _ x0 x1 h).mpr hm)
 exact this
def f64_M : Nat → List Nat := fun i => bif i == 0 then [2, 3, 6, 12, 13] else []
def f64_ks2 (S : SatT) (K : KT) : Kont := kSeq (cwp S tab f64_M [] (sub [1, 1, 1] (bodyOf Try.f66)) (kFun tab (Try.f66).results.toList K)) (kFun tab (Try.f66).results.toList K)
def f64_e0 (p2_ p3_ p6_ : Pt) (i12 i13 : Int) : Frame := [U, U, .ptr p2_, .ptr p3_, U, U, .ptr p6_, U, U, U, U, U, .int .i64 i12, .int .i64 i13, U, U, U, U, U, U, U, U, U, U, U, U, U, U, U, U, U, U, U, U, U]
def f64_w0 (S : SatT) (K : KT) : (XT) → XT := fun X fr h => cwp S tab f64_M (f64_M 0) (sub [1, 1, 0, 1, 0, 0] (bodyOf Try.f66)) (kSeq (fun fr h => X (mask (f64_M 0) fr) h) (kBlk 0 (f64_ks2 S K))) fr h
def f64_L0 (S : SatT) (K : KT) (p2_ p3_ p6_ : Pt) (i12 i13 : Int) (h : H) : Prop := loopK (f64_w0 S K) (f64_e0 p2_ p3_ p6_ i12 i13) h
def f64_C0 (S : SatT) (K : KT) (p2_ p3_ p6_ : Pt) (h : H) : Prop :=
 ldP p6_ h fun p0 =>
 nilC (.ptr p0) (
 isPt p0 (
 ldI .i64 (Pt.add p0 3) h fun n1 =>
 bif (decide (n1 > (700))) then
 K (.tuple [.ptr Pt.nil, .bool false]) h
 else
 newO [.nilFunc] h fun p2 h3 =>
 st1 p2 (.func 86 [.ptr p6_, .ptr p2_, .ptr p3_, .ptr p2]) h3 fun h4 =>
 ldP p6_ h4 fun p5 =>
 ldV p2 h4 fun v6 =>
 ldI .i64 p3_ h4 fun n7 =>
 viaF v6 [.int .i64 (0), .int .i64 (0), .int .i64 (0), .int .i64 (0), .int .i64 n7] fun g8 ys9 =>
 callB S g8 ys9 h4 fun b11 h10 =>
(cell h10 p6_ = cell h4 p6_) ∧ (
 K (.tuple [.ptr p5, .bool b11]) h10)))
def f64_b0 (S : SatT) (K : KT) (X0 : XT) (p2_ p3_ p6_ : Pt) (i12 i13 : Int) (h : H) : Prop :=
 bif (decide (i13 < i12)) then
 ldP p6_ h fun p0 =>
 nilC (.ptr p0) (
 isPt p0 (
 ldI .i64 (Pt.add p0 3) h fun n1 =>
 isPt p2_ (
 ldI .i64 (Pt.add p2_ 0) h fun n2 =>
 nilC (.ptr p0) (
 isPt p0 (
 st1 (Pt.add p0 3) (.int .i64 (w64 (n1 * n2))) h fun h3 =>
 X0 (f64_e0 p2_ p3_ p6_ i12 (w64 (i13 + (1)))) h3)))))
 else
 f64_C0 S K p2_ p3_ p6_ h
theorem f64_link0 (S : SatT) (K : KT) (X0 : XT) (p2_ p3_ p6_ : Pt) (i12 i13 : Int) (h : H) : f64_w0 S K X0 (f64_e0 p2_ p3_ p6_ i12 i13) h = f64_b0 S K X0 p2_ p3_ p6_ i12 i13 h := by kernel_rfl
theorem f64_rule0 (S : SatT) (K : KT) (p2_ p3_ p6_ : Pt) (i12 : Int) (I_ : Int → H → Prop) (m_ : Int → H → Nat)
  (hs : ∀ (X0 : XT) (i13 : Int) (h : H), I_ i13 h → (∀ (i13' : Int) (h' : H), I_ i13' h' → m_ i13' h' < m_ i13 h → X0 (f64_e0 p2_ p3_ p6_ i12 i13') h') → f64_b0 S K X0 p2_ p3_ p6_ i12 i13 h) (i13 : Int) {h : H} (h0 : I_ i13 h) : f64_L0 S K p2_ p3_ p6_ i12 i13 h :=
 loop_rule (σ := (Int)) (fun s_ => f64_e0 p2_ p3_ p6_ i12 (s_)) (fun s_ h => I_ (s_) h) (fun s_ h => m_ (s_) h)
  (fun X s_ h hi hx => (f64_link0 S K X p2_ p3_ p6_ i12 (s_) h).mpr (hs X (s_) h hi fun i13' h' hi' hm' => hx (i13') h' hi' hm')) (i13) h0
def f64_main (S : SatT) (K : KT) (x0 : List AVal) (x1 : Int) (h : H) : Prop :=
 newK 2 x0 h fun p0 h1 =>
 newO [.int .i64 x1] h1 fun p2 h3 =>
 ldA p0 2 h3 fun cs4 =>
 ldI .i64 p2 h3 fun n5 =>
 lenA cs4 2 (
 newK 5 (spl (spl (spl [.int .i64 (0), .sl Sl.nil, .int .i64 (0), .int .i64 (0), .sl Sl.nil] 0 2 cs4) 2 1 [.int .i64 n5]) 3 1 [.int .i64 (1)]) h3 fun p6 h7 =>
 newO [.ptr Pt.nil] h7 fun p8 h9 =>
 st1 p8 (.ptr p6) h9 fun h10 =>
 ldI .i64 p2 h10 fun n11 =>
 f64_L0 S K p0 p2 p8 n11 (0) h10)
theorem f64_main_link (S : SatT) (K : KT) (x0 : List AVal) (x1 : Int) (h : H) : cwp S tab f64_M [] (bodyOf Try.f66) (kFun tab Try.f66.results.toList K) (fr0 Try.f66 [.agg x0, .int .i64 x1]) h = f64_main S K x0 x1 h := by kernel_rfl
theorem f64_call (x0 : List AVal) (x1 : Int) (h : H) (K : KT) (hm : f64_main (Sat Try.prog) (fun v h' => K v h') x0 x1 h) : callV (Sat Try.prog) i_f64 [.agg x0, .int .i64 x1] h K := by
 have := Sat.ex tok mixed f64_M Try.func66 (c := bodyOf Try.f66) (by kernel_rfl) (calls_of Try.func66 (c := bodyOf Try.f66) (by kernel_rfl) (by decide)) ((f64_main_link _ _ x0 x1 h).mpr hm)
 exact this
def f110_M : Nat → List Nat := fun i => bif i == 0 then [0, 1, 5, 6, 7] else []
def f110_ks3 (S : SatT) (K : KT) : Kont := kSeq (cwp S tab f110_M [] (sub [1, 1, 1, 1] (bodyOf Try.f112)) (kFun tab (Try.f112).results.toList K)) (kFun tab (Try.f112).results.toList K)
def f110_e0 (f0_ : AVal) (i1 : Int) (s5_ : Sl) (i6 i7 : Int) : Frame := [f0_, .int .u8 i1, U, U, U, .sl s5_, .int .i64 i6, .int .i64 i7, U, U, U, U, U, U, U, U, U, U, U, U, U, U, U, U, U, U, U, U, U, U, U, U, U, U, U]
def f110_w0 (S : SatT) (K : KT) : (XT) → XT := fun X fr h => cwp S tab f110_M (f110_M 0) (sub [1, 1, 1, 0, 1, 0, 0] (bodyOf Try.f112)) (kSeq (fun fr h => X (mask (f110_M 0) fr) h) (kBlk 0 (f110_ks3 S K))) fr h
def f110_L0 (S : SatT) (K : KT) (f0_ : AVal) (i1 : Int) (s5_ : Sl) (i6 i7 : Int) (h : H) : Prop := loopK (f110_w0 S K) (f110_e0 f0_ i1 s5_ i6 i7) h
def f110_C0 (S : SatT) (K : KT) (f0_ : AVal) (s5_ : Sl) (i6 : Int) (h : H) : Prop :=
 viaStr f0_ fun t0 =>
 cutStr t0 i6 (t0.size : Int) fun t1 =>
 newS 1 1 [.str t1] h fun s2 h3 =>
 app s5_ s2 1 h3 fun s4 h5 =>
 K (.sl s4) h5
def f110_b0 (S : SatT) (K : KT) (X0 : XT) (f0_ : AVal) (i1 : Int) (s5_ : Sl) (i6 i7 : Int) (h : H) : Prop :=
 viaStr f0_ fun t0 =>
 bif (decide (i7 < (t0.size : Int))) then
 viaStr f0_ fun t1 =>
 ixStr t1 i7 fun n2 =>
 bif (n2 == i1) then
 viaStr f0_ fun t3 =>
 cutStr t3 i6 i7 fun t4 =>
 newS 1 1 [.str t4] h fun s5 h6 =>
 app s5_ s5 1 h6 fun s7 h8 =>
 X0 (f110_e0 f0_ i1 s7 (w64 (i7 + (1))) (w64 (i7 + (1)))) h8
 else
 X0 (f110_e0 f0_ i1 s5_ i6 (w64 (i7 + (1)))) h
 else
 f110_C0 S K f0_ s5_ i6 h
theorem f110_link0 (S : SatT) (K : KT) (X0 : XT) (f0_ : AVal) (i1 : Int) (s5_ : Sl) (i6 i7 : Int) (h : H) : f110_w0 S K X0 (f110_e0 f0_ i1 s5_ i6 i7) h = f110_b0 S K X0 f0_ i1 s5_ i6 i7 h := by kernel_rfl
theorem f110_rule0 (S : SatT) (K : KT) (f0_ : AVal) (i1 : Int) (I_ : Sl → Int → Int → H → Prop) (m_ : Sl → Int → Int → H → Nat)
  (hs : ∀ (X0 : XT) (s5_ : Sl) (i6 i7 : Int) (h : H), I_ s5_ i6 i7 h → (∀ (s5_' : Sl) (i6' i7' : Int) (h' : H), I_ s5_' i6' i7' h' → m_ s5_' i6' i7' h' < m_ s5_ i6 i7 h → X0 (f110_e0 f0_ i1 s5_' i6' i7') h') → f110_b0 S K X0 f0_ i1 s5_ i6 i7 h) (s5_ : Sl) (i6 i7 : Int) {h : H} (h0 : I_ s5_ i6 i7 h) : f110_L0 S K f0_ i1 s5_ i6 i7 h :=
 loop_rule (σ := (Sl) × (Int) × (Int)) (fun s_ => f110_e0 f0_ i1 (s_.1) (s_.2.1) (s_.2.2)) (fun s_ h => I_ (s_.1) (s_.2.1) (s_.2.2) h) (fun s_ h => m_ (s_.1) (s_.2.1) (s_.2.2) h)
  (fun X s_ h hi hx => (f110_link0 S K X f0_ i1 (s_.1) (s_.2.1) (s_.2.2) h).mpr (hs X (s_.1) (s_.2.1) (s_.2.2) h hi fun s5_' i6' i7' h' hi' hm' => hx (s5_', i6', i7') h' hi' hm')) (s5_, i6, i7) h0
def f110_main (S : SatT) (K : KT) (x0 : AVal) (x1 : Int) (h : H) : Prop :=
 newS 0 1 [] h fun s0 h1 =>
 f110_L0 S K x0 x1 s0 (0) (0) h1
theorem f110_main_link (S : SatT) (K : KT) (x0 : AVal) (x1 : Int) (h : H) : cwp S tab f110_M [] (bodyOf Try.f112) (kFun tab Try.f112.results.toList K) (fr0 Try.f112 [x0, .int .u8 x1]) h = f110_main S K x0 x1 h := by kernel_rfl
theorem f110_call (x0 : AVal) (x1 : Int) (h : H) (K : Sl → H → Prop) (hm : f110_main (Sat Try.prog) (fun v h' => ∃ r, v = .sl r ∧ K r h') x0 x1 h) : callS (Sat Try.prog) i_f110 [x0, .int .u8 x1] h K := by
 have := Sat.ex tok mixed f110_M Try.func112 (c := bodyOf Try.f112) (by kernel_rfl) (calls_of Try.func112 (c := bodyOf Try.f112) (by kernel_rfl) (by decide)) ((f110_main_link _ _ x0 x1 h).mpr hm)
 obtain ⟨v, h2, h3, r, rfl, h4⟩ := this; exact ⟨r, h2, h3, h4⟩
def f96_M : Nat → List Nat := fun i => bif i == 0 then [0, 1, 6, 7, 8] else []
def f96_ks2 (S : SatT) (K : KT) : Kont := kSeq (cwp S tab f96_M [] (sub [1, 1, 1] (bodyOf Try.f98)) (kFun tab (Try.f98).results.toList K)) (kFun tab (Try.f98).results.toList K)
def f96_e0 (p0_ : Pt) (i1 : Int) (p6_ : Pt) (s7_ : Sl) (i8 : Int) : Frame := [.ptr p0_, .int .i64 i1, U, U, U, U, .ptr p6_, .sl s7_, .int .i64 i8, U, U, U, U, U, U, U, U, U, U, U, U, U, U, U]
def f96_w0 (S : SatT) (K : KT) : (XT) → XT := fun X fr h => cwp S tab f96_M (f96_M 0) (sub [1, 1, 0, 1, 0, 0] (bodyOf Try.f98)) (kSeq (fun fr h => X (mask (f96_M 0) fr) h) (kBlk 0 (f96_ks2 S K))) fr h
def f96_L0 (S : SatT) (K : KT) (p0_ : Pt) (i1 : Int) (p6_ : Pt) (s7_ : Sl) (i8 : Int) (h : H) : Prop := loopK (f96_w0 S K) (f96_e0 p0_ i1 p6_ s7_ i8) h
def f96_C0 (S : SatT) (K : KT) (i1 : Int) (p6_ : Pt) (s7_ : Sl) (h : H) : Prop :=
 callA S i_f105 [.int .i64 i1, .sl s7_] h fun cs1 h0 =>
 stN p6_ 2 cs1 h0 fun h2 =>
 ldA p6_ 2 h2 fun cs3 =>
 K (.agg cs3) h2
def f96_b0 (S : SatT) (K : KT) (X0 : XT) (p0_ : Pt) (i1 : Int) (p6_ : Pt) (s7_ : Sl) (i8 : Int) (h : H) : Prop :=
 bif (decide (i8 > (0))) then
 callA S i_f104 [.ptr p0_, .int .i64 i1] h fun cs1 h0 =>
 lenA cs1 4 (
 newS 1 4 (spl [.int .i64 (0), .int .i64 (0), .int .i64 (0), .int .i64 (0)] 0 4 cs1) h0 fun s2 h3 =>
 app s7_ s2 4 h3 fun s4 h5 =>
 X0 (f96_e0 p0_ i1 p6_ s4 (w64 (i8 - (1)))) h5)
 else
 f96_C0 S K i1 p6_ s7_ h
theorem f96_link0 (S : SatT) (K : KT) (X0 : XT) (p0_ : Pt) (i1 : Int) (p6_ : Pt) (s7_ : Sl) (i8 : Int) (h : H) : f96_w0 S K X0 (f96_e0 p0_ i1 p6_ s7_ i8) h = f96_b0 S K X0 p0_ i1 p6_ s7_ i8 h := by kernel_rfl
theorem f96_rule0 (S : SatT) (K : KT) (p0_ : Pt) (i1 : Int) (p6_ : Pt) (I_ : Sl → Int → H → Prop) (m_ : Sl → Int → H → Nat)
  (hs : ∀ (X0 : XT) (s7_ : Sl) (i8 : Int) (h : H), I_ s7_ i8 h → (∀ (s7_' : Sl) (i8' : Int) (h' : H), I_ s7_' i8' h' → m_ s7_' i8' h' < m_ s7_ i8 h → X0 (f96_e0 p0_ i1 p6_ s7_' i8') h') → f96_b0 S K X0 p0_ i1 p6_ s7_ i8 h) (s7_ : Sl) (i8 : Int) {h : H} (h0 : I_ s7_ i8 h) : f96_L0 S K p0_ i1 p6_ s7_ i8 h :=
 loop_rule (σ := (Sl) × (Int)) (fun s_ => f96_e0 p0_ i1 p6_ (s_.1) (s_.2)) (fun s_ h => I_ (s_.1) (s_.2) h) (fun s_ h => m_ (s_.1) (s_.2) h)
  (fun X s_ h hi hx => (f96_link0 S K X p0_ i1 p6_ (s_.1) (s_.2) h).mpr (hs X (s_.1) (s_.2) h hi fun s7_' i8' h' hi' hm' => hx (s7_', i8') h' hi' hm')) (s7_, i8) h0
def f96_main (S : SatT) (K : KT) (x0 : Pt) (x1 x2 : Int) (h : H) : Prop :=
 newO [.int .i64 (0), .sl Sl.nil] h fun p0 h1 =>
 newS 0 4 [] h1 fun s2 h3 =>
 f96_L0 S K x0 x1 p0 s2 x2 h3
theorem f96_main_link (S : SatT) (K : KT) (x0 : Pt) (x1 x2 : Int) (h : H) : cwp S tab f96_M [] (bodyOf Try.f98) (kFun tab Try.f98.results.toList K) (fr0 Try.f98 [.ptr x0, .int .i64 x1, .int .i64 x2]) h = f96_main S K x0 x1 x2 h := by kernel_rfl
theorem f96_call (x0 : Pt) (x1 x2 : Int) (h : H) (K : List AVal → H → Prop) (hm : f96_main (Sat Try.prog) (fun v h' => ∃ r, v = .agg r ∧ K r h') x0 x1 x2 h) : callA (Sat Try.prog) i_f96 [.ptr x0, .int .i64 x1, .int .i64 x2] h K := by
 have := Sat.ex tok mixed f96_M Try.func98 (c := bodyOf Try.f98) (by kernel_rfl) (calls_of Try.func98 (c := bodyOf Try.f98) (by kernel_rfl) (by decide)) ((f96_main_link _ _ x0 x1 x2 h).mpr hm)
 obtain ⟨v, h2, h3, r, rfl, h4⟩ := this; exact ⟨r, h2, h3, h4⟩
def f98_M : Nat → List Nat := fun i => bif i == 0 then [0, 1, 12, 13] else []
def f98_ks4 (S : SatT) (K : KT) : Kont := kSeq (cwp S tab f98_M [] (sub [1, 1, 1] (bodyOf Try.f100)) (kFun tab (Try.f100).results.toList K)) (kFun tab (Try.f100).results.toList K)
def f98_e0 (s0_ s1_ : Sl) (i12 i13 : Int) : Frame := [.sl s0_, .sl s1_, U, U, U, U, U, U, U, U, U, U, .int .i64 i12, .int .i64 i13, U, U, U, U, U, U, U, U, U, U, U, U]
def f98_w0 (S : SatT) (K : KT) : (XT) → XT := fun X fr h => cwp S tab f98_M (f98_M 0) (sub [1, 1, 0, 1, 0, 0] (bodyOf Try.f100)) (kSeq (fun fr h => X (mask (f98_M 0) fr) h) (kBlk 0 (f98_ks4 S K))) fr h
def f98_L0 (S : SatT) (K : KT) (s0_ s1_ : Sl) (i12 i13 : Int) (h : H) : Prop := loopK (f98_w0 S K) (f98_e0 s0_ s1_ i12 i13) h
def f98_C0 (S : SatT) (K : KT) (h : H) : Prop :=
 K (.bool true) h
def f98_b0 (S : SatT) (K : KT) (X0 : XT) (s0_ s1_ : Sl) (i12 i13 : Int) (h : H) : Prop :=
 bif (decide (i13 < i12)) then
 ixS s0_ 1 i13 fun p0 =>
 ldB p0 h fun b1 =>
 ixS s1_ 1 i13 fun p2 =>
 ldB p2 h fun b3 =>
 bif (b1 != b3) then
 K (.bool false) h
 else
 X0 (f98_e0 s0_ s1_ i12 (w64 (i13 + (1)))) h
 else
 f98_C0 S K h
theorem f98_link0 (S : SatT) (K : KT) (X0 : XT) (s0_ s1_ : Sl) (i12 i13 : Int) (h : H) : f98_w0 S K X0 (f98_e0 s0_ s1_ i12 i13) h = f98_b0 S K X0 s0_ s1_ i12 i13 h := by kernel_rfl
theorem f98_rule0 (S : SatT) (K : KT) (s0_ s1_ : Sl) (i12 : Int) (I_ : Int → H → Prop) (m_ : Int → H → Nat)
  (hs : ∀ (X0 : XT) (i13 : Int) (h : H), I_ i13 h → (∀ (i13' : Int) (h' : H), I_ i13' h' → m_ i13' h' < m_ i13 h → X0 (f98_e0 s0_ s1_ i12 i13') h') → f98_b0 S K X0 s0_ s1_ i12 i13 h) (i13 : Int) {h : H} (h0 : I_ i13 h) : f98_L0 S K s0_ s1_ i12 i13 h :=
 loop_rule (σ := (Int)) (fun s_ => f98_e0 s0_ s1_ i12 (s_)) (fun s_ h => I_ (s_) h) (fun s_ h => m_ (s_) h)
  (fun X s_ h hi hx => (f98_link0 S K X s0_ s1_ i12 (s_) h).mpr (hs X (s_) h hi fun i13' h' hi' hm' => hx (i13') h' hi' hm')) (i13) h0
def f98_main (S : SatT) (K : KT) (x0 x1 : Sl) (h : H) : Prop :=
 bif ((x0.len : Int) != (x1.len : Int)) then
 K (.bool false) h
 else
 f98_L0 S K x0 x1 (x0.len : Int) (0) h
theorem f98_main_link (S : SatT) (K : KT) (x0 x1 : Sl) (h : H) : cwp S tab f98_M [] (bodyOf Try.f100) (kFun tab Try.f100.results.toList K) (fr0 Try.f100 [.sl x0, .sl x1]) h = f98_main S K x0 x1 h := by kernel_rfl
theorem f98_call (x0 x1 : Sl) (h : H) (K : Bool → H → Prop) (hm : f98_main (Sat Try.prog) (fun v h' => ∃ r, v = .bool r ∧ K r h') x0 x1 h) : callB (Sat Try.prog) i_f98 [.sl x0, .sl x1] h K := by
 have := Sat.ex tok mixed f98_M Try.func100 (c := bodyOf Try.f100) (by kernel_rfl) (calls_of Try.func100 (c := bodyOf Try.f100) (by kernel_rfl) (by decide)) ((f98_main_link _ _ x0 x1 h).mpr hm)
 obtain ⟨v, h2, h3, r, rfl, h4⟩ := this; exact ⟨r, h2, h3, h4⟩
def f76_M : Nat → List Nat := fun i => bif i == 0 then [0, 3, 4] else []
def f76_ks2 (S : SatT) (K : KT) : Kont := kSeq (cwp S tab f76_M [] (sub [1, 1, 1] (bodyOf Try.f78)) (kFun tab (Try.f78).results.toList K)) (kFun tab (Try.f78).results.toList K)
def f76_e0 (i0 i3 i4 : Int) : Frame := [.int .i64 i0, U, U, .int .i64 i3, .int .i64 i4, U, U, U, U, U, U, U, U, U, U, U, U, U, U, U, U]
def f76_w0 (S : SatT) (K : KT) : (XT) → XT := fun X fr h => cwp S tab f76_M (f76_M 0) (sub [1, 1, 0, 1, 0, 0] (bodyOf Try.f78)) (kSeq (fun fr h => X (mask (f76_M 0) fr) h) (kBlk 0 (f76_ks2 S K))) fr h
def f76_L0 (S : SatT) (K : KT) (i0 i3 i4 : Int) (h : H) : Prop := loopK (f76_w0 S K) (f76_e0 i0 i3 i4) h
def f76_C0 (S : SatT) (K : KT) (i3 : Int) (h : H) : Prop :=
 K (.int .i64 i3) h
def f76_b0 (S : SatT) (K : KT) (X0 : XT) (i0 i3 i4 : Int) (h : H) : Prop :=
 bif (decide (i4 > (0))) then
 nz (2) (
 bif ((Int.tmod i4 (2)) == (1)) then
 nz (10007) (
 nz (10007) (
 nz (2) (
 X0 (f76_e0 (Int.tmod (w64 (i0 * i0)) (10007)) (Int.tmod (w64 (i3 * i0)) (10007)) (w64 (Int.tdiv i4 (2)))) h)))
 else
 nz (10007) (
 nz (2) (
 X0 (f76_e0 (Int.tmod (w64 (i0 * i0)) (10007)) i3 (w64 (Int.tdiv i4 (2)))) h)))
 else
 f76_C0 S K i3 h
theorem f76_link0 (S : SatT) (K : KT) (X0 : XT) (i0 i3 i4 : Int) (h : H) : f76_w0 S K X0 (f76_e0 i0 i3 i4) h = f76_b0 S K X0 i0 i3 i4 h := by kernel_rfl
theorem f76_rule0 (S : SatT) (K : KT) (I_ : Int → Int → Int → H → Prop) (m_ : Int → Int → Int → H → Nat)
  (hs : ∀ (X0 : XT) (i0 i3 i4 : Int) (h : H), I_ i0 i3 i4 h → (∀ (i0' i3' i4' : Int) (h' : H), I_ i0' i3' i4' h' → m_ i0' i3' i4' h' < m_ i0 i3 i4 h → X0 (f76_e0 i0' i3' i4') h') → f76_b0 S K X0 i0 i3 i4 h) (i0 i3 i4 : Int) {h : H} (h0 : I_ i0 i3 i4 h) : f76_L0 S K i0 i3 i4 h :=
 loop_rule (σ := (Int) × (Int) × (Int)) (fun s_ => f76_e0 (s_.1) (s_.2.1) (s_.2.2)) (fun s_ h => I_ (s_.1) (s_.2.1) (s_.2.2) h) (fun s_ h => m_ (s_.1) (s_.2.1) (s_.2.2) h)
  (fun X s_ h hi hx => (f76_link0 S K X (s_.1) (s_.2.1) (s_.2.2) h).mpr (hs X (s_.1) (s_.2.1) (s_.2.2) h hi fun i0' i3' i4' h' hi' hm' => hx (i0', i3', i4') h' hi' hm')) (i0, i3, i4) h0
def f76_main (S : SatT) (K : KT) (x0 : Int) (h : H) : Prop :=
 f76_L0 S K x0 (1) (10005) h
theorem f76_main_link (S : SatT) (K : KT) (x0 : Int) (h : H) : cwp S tab f76_M [] (bodyOf Try.f78) (kFun tab Try.f78.results.toList K) (fr0 Try.f78 [.int .i64 x0]) h = f76_main S K x0 h := by kernel_rfl
theorem f76_call (x0 : Int) (h : H) (K : Int → H → Prop) (hm : f76_main (Sat Try.prog) (fun v h' => ∃ r, v = .int .i64 r ∧ K r h') x0 h) : callI (Sat Try.prog) .i64 i_f76 [.int .i64 x0] h K := by
 have := Sat.ex tok mixed f76_M Try.func78 (c := bodyOf Try.f78) (by kernel_rfl) (calls_of Try.func78 (c := bodyOf Try.f78) (by kernel_rfl) (by decide)) ((f76_main_link _ _ x0 h).mpr hm)
 obtain ⟨v, h2, h3, r, rfl, h4⟩ := this; exact ⟨r, h2, h3, h4⟩
def f15_M : Nat → List Nat := fun i => bif i == 0 then [0, 1, 5] else []
def f15_ks4 (S : SatT) (K : KT) : Kont := kSeq (cwp S tab f15_M [] (sub [1, 1, 1] (bodyOf Try.f17)) (kFun tab (Try.f17).results.toList K)) (kFun tab (Try.f17).results.toList K)
def f15_e0 (s0_ s1_ : Sl) (i5 : Int) : Frame := [.sl s0_, .sl s1_, U, U, U, .int .i64 i5, U, U, U, U, U, U, U, U, U, U, U, U, U, U, U, U, U, U, U, U]
def f15_w0 (S : SatT) (K : KT) : (XT) → XT := fun X fr h => cwp S tab f15_M (f15_M 0) (sub [1, 1, 0, 1, 0, 0] (bodyOf Try.f17)) (kSeq (fun fr h => X (mask (f15_M 0) fr) h) (kBlk 0 (f15_ks4 S K))) fr h
def f15_L0 (S : SatT) (K : KT) (s0_ s1_ : Sl) (i5 : Int) (h : H) : Prop := loopK (f15_w0 S K) (f15_e0 s0_ s1_ i5) h
def f15_C0 (S : SatT) (K : KT) (h : H) : Prop :=
 K (.bool true) h
def f15_b0 (S : SatT) (K : KT) (X0 : XT) (s0_ s1_ : Sl) (i5 : Int) (h : H) : Prop :=
 bif (decide (i5 < (s0_.len : Int))) then
 ixS s0_ 1 i5 fun p0 =>
 ldI .i64 p0 h fun n1 =>
 ixS s1_ 1 i5 fun p2 =>
 ldI .i64 p2 h fun n3 =>
 bif (n1 != n3) then
 K (.bool false) h
 else
 X0 (f15_e0 s0_ s1_ (w64 (i5 + (1)))) h
 else
 f15_C0 S K h
theorem f15_link0 (S : SatT) (K : KT) (X0 : XT) (s0_ s1_ : Sl) (i5 : Int) (h : H) : f15_w0 S K X0 (f15_e0 s0_ s1_ i5) h = f15_b0 S K X0 s0_ s1_ i5 h := by kernel_rfl
theorem f15_rule0 (S : SatT) (K : KT) (s0_ s1_ : Sl) (I_ : Int → H → Prop) (m_ : Int → H → Nat)
  (hs : ∀ (X0 : XT) (i5 : Int) (h : H), I_ i5 h → (∀ (i5' : Int) (h' : H), I_ i5' h' → m_ i5' h' < m_ i5 h → X0 (f15_e0 s0_ s1_ i5') h') → f15_b0 S K X0 s0_ s1_ i5 h) (i5 : Int) {h : H} (h0 : I_ i5 h) : f15_L0 S K s0_ s1_ i5 h :=
 loop_rule (σ := (Int)) (fun s_ => f15_e0 s0_ s1_ (s_)) (fun s_ h => I_ (s_) h) (fun s_ h => m_ (s_) h)
  (fun X s_ h hi hx => (f15_link0 S K X s0_ s1_ (s_) h).mpr (hs X (s_) h hi fun i5' h' hi' hm' => hx (i5') h' hi' hm')) (i5) h0
def f15_main (S : SatT) (K : KT) (x0 x1 : Sl) (h : H) : Prop :=
 bif ((x0.len : Int) != (x1.len : Int)) then
 K (.bool false) h
 else
 f15_L0 S K x0 x1 (0) h
theorem f15_main_link (S : SatT) (K : KT) (x0 x1 : Sl) (h : H) : cwp S tab f15_M [] (bodyOf Try.f17) (kFun tab Try.f17.results.toList K) (fr0 Try.f17 [.sl x0, .sl x1]) h = f15_main S K x0 x1 h := by kernel_rfl
theorem f15_call (x0 x1 : Sl) (h : H) (K : Bool → H → Prop) (hm : f15_main (Sat Try.prog) (fun v h' => ∃ r, v = .bool r ∧ K r h') x0 x1 h) : callB (Sat Try.prog) i_f15 [.sl x0, .sl x1] h K := by
 have := Sat.ex tok mixed f15_M Try.func17 (c := bodyOf Try.f17) (by kernel_rfl) (calls_of Try.func17 (c := bodyOf Try.f17) (by kernel_rfl) (by decide)) ((f15_main_link _ _ x0 x1 h).mpr hm)
 obtain ⟨v, h2, h3, r, rfl, h4⟩ := this; exact ⟨r, h2, h3, h4⟩
def f40_M : Nat → List Nat := fun i => []
def f40_main (S : SatT) (K : KT) (x0 : Int) (x1 x2 x3 : Pt) (h : H) : Prop :=
 ldS x1 h fun s0 =>
 newS 1 1 [.int .i64 x0] h fun s1 h2 =>
(cell h2 x1 = cell h x1) ∧ (
 app s0 s1 1 h2 fun s3 h4 =>
 ldB x2 h4 fun b5 =>
(cell h2 x2 = cell h4 x2) ∧ (
(cell h x2 = cell h4 x2) ∧ (
 bif b5 then
 st1 x1 (.sl s3) h4 fun h6 =>
 st1 x2 (.bool (decide (x0 ≤ (1000000000000000)))) h6 fun h7 =>
 ldB x2 h7 fun b8 =>
 bif b8 then
 ldS x1 h7 fun s9 =>
 ldI .i64 x3 h7 fun n10 =>
 K (.bool (decide ((s9.len : Int) < n10))) h7
 else
 K (.bool false) h7
 else
 st1 x1 (.sl s3) h4 fun h11 =>
 st1 x2 (.bool false) h11 fun h12 =>
 ldB x2 h12 fun b13 =>
 bif b13 then
 ldS x1 h12 fun s14 =>
 ldI .i64 x3 h12 fun n15 =>
 K (.bool (decide ((s14.len : Int) < n15))) h12
 else
 K (.bool false) h12)))
theorem f40_main_link (S : SatT) (K : KT) (x0 : Int) (x1 x2 x3 : Pt) (h : H) : cwp S tab f40_M [] (bodyOf Try.f42) (kFun tab Try.f42.results.toList K) (fr0 Try.f42 [.int .i64 x0, .ptr x1, .ptr x2, .ptr x3]) h = f40_main S K x0 x1 x2 x3 h := by kernel_rfl
theorem f40_call (x0 : Int) (x1 x2 x3 : Pt) (h : H) (K : Bool → H → Prop) (hm : f40_main (Sat Try.prog) (fun v h' => ∃ r, v = .bool r ∧ K r h') x0 x1 x2 x3 h) : callB (Sat Try.prog) i_f40 [.int .i64 x0, .ptr x1, .ptr x2, .ptr x3] h K := by
 have := Sat.ex tok mixed f40_M Try.func42 (c := bodyOf Try.f42) (by kernel_rfl) (calls_of Try.func42 (c := bodyOf Try.f42) (by kernel_rfl) (by decide)) ((f40_main_link _ _ x0 x1 x2 x3 h).mpr hm)
 obtain ⟨v, h2, h3, r, rfl, h4⟩ := this; exact ⟨r, h2, h3, h4⟩
def f58_M : Nat → List Nat := fun i => []
def f58_main (S : SatT) (K : KT) (x0 : Pt) (h : H) : Prop :=
 newO [.int .i64 (0), .sl Sl.nil] h fun p0 h1 =>
 callI S .i64 i_f80 [.ptr x0, .int .i64 (6)] h1 fun n3 h2 =>
 bif (n3 == (0)) then
 callA S i_f81 [.ptr x0] h2 fun cs5 h4 =>
 callI S .i64 i_f80 [.ptr x0, .int .i64 (6)] h4 fun n7 h6 =>
 newS 4 1 [.int .i64 (1), .int .i64 (1), .int .i64 (2), .int .i64 n7] h6 fun s8 h9 =>
 callI S .i64 i_f67 [.ptr x0, .sl s8] h9 fun n11 h10 =>
 stN p0 2 cs5 h10 fun h12 =>
 ldA p0 2 h12 fun cs13 =>
 K (.tuple [.agg cs13, .int .i64 n11]) h12
 else
 callA S i_f82 [.ptr x0] h2 fun cs15 h14 =>
 newS 5 1 [.int .i64 (1), .int .i64 (2), .int .i64 (2), .int .i64 (3), .int .i64 (4)] h14 fun s16 h17 =>
 callI S .i64 i_f67 [.ptr x0, .sl s16] h17 fun n19 h18 =>
 stN p0 2 cs15 h18 fun h20 =>
 ldA p0 2 h20 fun cs21 =>
 K (.tuple [.agg cs21, .int .i64 n19]) h20
theorem f58_main_link (S : SatT) (K : KT) (x0 : Pt) (h : H) : cwp S tab f58_M [] (bodyOf Try.f60) (kFun tab Try.f60.results.toList K) (fr0 Try.f60 [.ptr x0]) h = f58_main S K x0 h := by kernel_rfl
theorem f58_call (x0 : Pt) (h : H) (K : KT) (hm : f58_main (Sat Try.prog) (fun v h' => K v h') x0 h) : callV (Sat Try.prog) i_f58 [.ptr x0] h K := by
 have := Sat.ex tok mixed f58_M Try.func60 (c := bodyOf Try.f60) (by kernel_rfl) (calls_of Try.func60 (c := bodyOf Try.f60) (by kernel_rfl) (by decide)) ((f58_main_link _ _ x0 h).mpr hm)
 exact this
def f104_M : Nat → List Nat := fun i => []
def f104_main (S : SatT) (K : KT) (x0 : Pt) (x1 : Int) (h : H) : Prop :=
 newO [.int .i64 (0), .int .i64 (0), .int .i64 (0), .int .i64 (0)] h fun p0 h1 =>
 callI S .i64 i_f80 [.ptr x0, .int .i64 x1] h1 fun n3 h2 =>
 callI S .i64 i_f80 [.ptr x0, .int .i64 x1] h2 fun n5 h4 =>
 callI S .i64 i_f80 [.ptr x0, .int .i64 x1] h4 fun n7 h6 =>
 callI S .i64 i_f80 [.ptr x0, .int .i64 x1] h6 fun n9 h8 =>
 stN p0 4 [.int .i64 n3, .int .i64 n5, .int .i64 n7, .int .i64 n9] h8 fun h10 =>
 ldA p0 4 h10 fun cs11 =>
 K (.agg cs11) h10
theorem f104_main_link (S : SatT) (K : KT) (x0 : Pt) (x1 : Int) (h : H) : cwp S tab f104_M [] (bodyOf Try.f106) (kFun tab Try.f106.results.toList K) (fr0 Try.f106 [.ptr x0, .int .i64 x1]) h = f104_main S K x0 x1 h := by kernel_rfl
theorem f104_call (x0 : Pt) (x1 : Int) (h : H) (K : List AVal → H → Prop) (hm : f104_main (Sat Try.prog) (fun v h' => ∃ r, v = .agg r ∧ K r h') x0 x1 h) : callA (Sat Try.prog) i_f104 [.ptr x0, .int .i64 x1] h K := by
 have := Sat.ex tok mixed f104_M Try.func106 (c := bodyOf Try.f106) (by kernel_rfl) (calls_of Try.func106 (c := bodyOf Try.f106) (by kernel_rfl) (by decide)) ((f104_main_link _ _ x0 x1 h).mpr hm)
 obtain ⟨v, h2, h3, r, rfl, h4⟩ := this; exact ⟨r, h2, h3, h4⟩
def f108_M : Nat → List Nat := fun i => []
def f108_main (S : SatT) (K : KT) (x0 x1 : Int) (h : H) : Prop :=
 callB S i_f112 [.int .i64 x0] h fun b1 h0 =>
 callB S i_f112 [.int .i64 x1] h0 fun b3 h2 =>
 bif b1 then
 bif b3 then
 K (.int .i64 (0)) h2
 else
 K (.int .i64 (-1)) h2
 else
 bif b3 then
 K (.int .i64 (1)) h2
 else
 bif (decide (x0 < x1)) then
 K (.int .i64 (-1)) h2
 else
 bif (decide (x0 > x1)) then
 K (.int .i64 (1)) h2
 else
 K (.int .i64 (0)) h2
theorem f108_main_link (S : SatT) (K : KT) (x0 x1 : Int) (h : H) : cwp S tab f108_M [] (bodyOf Try.f110) (kFun tab Try.f110.results.toList K) (fr0 Try.f110 [.int .i64 x0, .int .i64 x1]) h = f108_main S K x0 x1 h := by kernel_rfl
theorem f108_call (x0 x1 : Int) (h : H) (K : Int → H → Prop) (hm : f108_main (Sat Try.prog) (fun v h' => ∃ r, v = .int .i64 r ∧ K r h') x0 x1 h) : callI (Sat Try.prog) .i64 i_f108 [.int .i64 x0, .int .i64 x1] h K := by
 have := Sat.ex tok mixed f108_M Try.func110 (c := bodyOf Try.f110) (by kernel_rfl) (calls_of Try.func110 (c := bodyOf Try.f110) (by kernel_rfl) (by decide)) ((f108_main_link _ _ x0 x1 h).mpr hm)
 obtain ⟨v, h2, h3, r, rfl, h4⟩ := this; exact ⟨r, h2, h3, h4⟩
def f36_M : Nat → List Nat := fun i => []
def f36_main (S : SatT) (K : KT) (x0 x1 : Pt) (h : H) : Prop :=
 ldI .i64 x0 h fun n0 =>
 callB S i_f37 [.int .i64 n0, .int .i64 (1), .int .i64 (4)] h fun b2 h1 =>
 bif b2 then
 ldI .i64 x1 h1 fun n3 =>
 callB S i_f37 [.int .i64 n3, .int .i64 (1), .int .i64 (30)] h1 fun b5 h4 =>
 K (.bool b5) h4
 else
 K (.bool false) h1
theorem f36_main_link (S : SatT) (K : KT) (x0 x1 : Pt) (h : H) : cwp S tab f36_M [] (bodyOf Try.f38) (kFun tab Try.f38.results.toList K) (fr0 Try.f38 [.ptr x0, .ptr x1]) h = f36_main S K x0 x1 h := by kernel_rfl
theorem f36_call (x0 x1 : Pt) (h : H) (K : Bool → H → Prop) (hm : f36_main (Sat Try.prog) (fun v h' => ∃ r, v = .bool r ∧ K r h') x0 x1 h) : callB (Sat Try.prog) i_f36 [.ptr x0, .ptr x1] h K := by
 have := Sat.ex tok mixed f36_M Try.func38 (c := bodyOf Try.f38) (by kernel_rfl) (calls_of Try.func38 (c := bodyOf Try.f38) (by kernel_rfl) (by decide)) ((f36_main_link _ _ x0 x1 h).mpr hm)
 obtain ⟨v, h2, h3, r, rfl, h4⟩ := this; exact ⟨r, h2, h3, h4⟩
def f99_M : Nat → List Nat := fun i => []
def f99_main (S : SatT) (K : KT) (x0 : Sl) (x1 : AVal) (h : H) : Prop :=
 callI S .i64 i_f107 [.sl x0, x1] h fun n1 h0 =>
 K (.bool (decide (n1 ≥ (0)))) h0
theorem f99_main_link (S : SatT) (K : KT) (x0 : Sl) (x1 : AVal) (h : H) : cwp S tab f99_M [] (bodyOf Try.f101) (kFun tab Try.f101.results.toList K) (fr0 Try.f101 [.sl x0, x1]) h = f99_main S K x0 x1 h := by kernel_rfl
theorem f99_call (x0 : Sl) (x1 : AVal) (h : H) (K : Bool → H → Prop) (hm : f99_main (Sat Try.prog) (fun v h' => ∃ r, v = .bool r ∧ K r h') x0 x1 h) : callB (Sat Try.prog) i_f99 [.sl x0, x1] h K := by
 have := Sat.ex tok mixed f99_M Try.func101 (c := bodyOf Try.f101) (by kernel_rfl) (calls_of Try.func101 (c := bodyOf Try.f101) (by kernel_rfl) (by decide)) ((f99_main_link _ _ x0 x1 h).mpr hm)
 obtain ⟨v, h2, h3, r, rfl, h4⟩ := this; exact ⟨r, h2, h3, h4⟩
def f25_M : Nat → List Nat := fun i => []
def f25_main (S : SatT) (K : KT) (x0 : Sl) (h : H) : Prop :=
 newO [.int .i64 (0), .sl Sl.nil] h fun p0 h1 =>
 callV S i_f28 [.sl x0] h1 fun v3 h2 =>
 viaT v3 fun vs4 =>
 exA vs4 0 fun cs5 =>
 viaT v3 fun vs6 =>
 exI .i64 vs6 1 fun n7 =>
 stN p0 2 cs5 h2 fun h8 =>
 ldA p0 2 h8 fun cs9 =>
 K (.tuple [.agg cs9, .int .i64 n7]) h8
theorem f25_main_link (S : SatT) (K : KT) (x0 : Sl) (h : H) : cwp S tab f25_M [] (bodyOf Try.f27) (kFun tab Try.f27.results.toList K) (fr0 Try.f27 [.sl x0]) h = f25_main S K x0 h := by kernel_rfl
theorem f25_call (x0 : Sl) (h : H) (K : KT) (hm : f25_main (Sat Try.prog) (fun v h' => K v h') x0 h) : callV (Sat Try.prog) i_f25 [.sl x0] h K := by
 have := Sat.ex tok mixed f25_M Try.func27 (c := bodyOf Try.f27) (by kernel_rfl) (calls_of Try.func27 (c := bodyOf Try.f27) (by kernel_rfl) (by decide)) ((f25_main_link _ _ x0 h).mpr hm)
 exact this
def f100_M : Nat → List Nat := fun i => []
def f100_main (S : SatT) (K : KT) (x0 : Int) (x1 : Pt) (h : H) : Prop :=
 ldI .i64 x1 h fun n0 =>
 callB S i_f37 [.int .i64 x0, .int .i64 (0), .int .i64 (w64 (n0 - (1)))] h fun b2 h1 =>
 K (.bool (!b2)) h1
theorem f100_main_link (S : SatT) (K : KT) (x0 : Int) (x1 : Pt) (h : H) : cwp S tab f100_M [] (bodyOf Try.f102) (kFun tab Try.f102.results.toList K) (fr0 Try.f102 [.int .i64 x0, .ptr x1]) h = f100_main S K x0 x1 h := by kernel_rfl
theorem f100_call (x0 : Int) (x1 : Pt) (h : H) (K : Bool → H → Prop) (hm : f100_main (Sat Try.prog) (fun v h' => ∃ r, v = .bool r ∧ K r h') x0 x1 h) : callB (Sat Try.prog) i_f100 [.int .i64 x0, .ptr x1] h K := by
 have := Sat.ex tok mixed f100_M Try.func102 (c := bodyOf Try.f102) (by kernel_rfl) (calls_of Try.func102 (c := bodyOf Try.f102) (by kernel_rfl) (by decide)) ((f100_main_link _ _ x0 x1 h).mpr hm)
 obtain ⟨v, h2, h3, r, rfl, h4⟩ := this; exact ⟨r, h2, h3, h4⟩
def f67_M : Nat → List Nat := fun i => []
def f67_main (S : SatT) (K : KT) (x0 : Pt) (x1 : Sl) (h : H) : Prop :=
 callI S .i64 i_f80 [.ptr x0, .int .i64 (x1.len : Int)] h fun n1 h0 =>
 ixS x1 1 n1 fun p2 =>
 ldI .i64 p2 h0 fun n3 =>
 K (.int .i64 n3) h0
theorem f67_main_link (S : SatT) (K : KT) (x0 : Pt) (x1 : Sl) (h : H) : cwp S tab f67_M [] (bodyOf Try.f69) (kFun tab Try.f69.results.toList K) (fr0 Try.f69 [.ptr x0, .sl x1]) h = f67_main S K x0 x1 h := by kernel_rfl
theorem f67_call (x0 : Pt) (x1 : Sl) (h : H) (K : Int → H → Prop) (hm : f67_main (Sat Try.prog) (fun v h' => ∃ r, v = .int .i64 r ∧ K r h') x0 x1 h) : callI (Sat Try.prog) .i64 i_f67 [.ptr x0, .sl x1] h K := by
 have := Sat.ex tok mixed f67_M Try.func69 (c := bodyOf Try.f69) (by kernel_rfl) (calls_of Try.func69 (c := bodyOf Try.f69) (by kernel_rfl) (by decide)) ((f67_main_link _ _ x0 x1 h).mpr hm)
 obtain ⟨v, h2, h3, r, rfl, h4⟩ := this; exact ⟨r, h2, h3, h4⟩
def f75_M : Nat → List Nat := fun i => []
def f75_main (S : SatT) (K : KT) (x0 : Sl) (x1 : Int) (h : H) : Prop :=
 bif (decide (x1 < (0))) then
 K (.int .i64 (0)) h
 else
 ixS x0 1 x1 fun p0 =>
 ldI .i64 p0 h fun n1 =>
 K (.int .i64 n1) h
theorem f75_main_link (S : SatT) (K : KT) (x0 : Sl) (x1 : Int) (h : H) : cwp S tab f75_M [] (bodyOf Try.f77) (kFun tab Try.f77.results.toList K) (fr0 Try.f77 [.sl x0, .int .i64 x1]) h = f75_main S K x0 x1 h := by kernel_rfl
theorem f75_call (x0 : Sl) (x1 : Int) (h : H) (K : Int → H → Prop) (hm : f75_main (Sat Try.prog) (fun v h' => ∃ r, v = .int .i64 r ∧ K r h') x0 x1 h) : callI (Sat Try.prog) .i64 i_f75 [.sl x0, .int .i64 x1] h K := by
 have := Sat.ex tok mixed f75_M Try.func77 (c := bodyOf Try.f77) (by kernel_rfl) (calls_of Try.func77 (c := bodyOf Try.f77) (by kernel_rfl) (by decide)) ((f75_main_link _ _ x0 x1 h).mpr hm)
 obtain ⟨v, h2, h3, r, rfl, h4⟩ := this; exact ⟨r, h2, h3, h4⟩
def f3_M : Nat → List Nat := fun i => []
def f3_main (S : SatT) (K : KT) (x0 : Sl) (h : H) : Prop :=
 K (.bool (decide ((x0.len : Int) > (4096)))) h
theorem f3_main_link (S : SatT) (K : KT) (x0 : Sl) (h : H) : cwp S tab f3_M [] (bodyOf Try.f5) (kFun tab Try.f5.results.toList K) (fr0 Try.f5 [.sl x0]) h = f3_main S K x0 h := by kernel_rfl
theorem f3_call (x0 : Sl) (h : H) (K : Bool → H → Prop) (hm : f3_main (Sat Try.prog) (fun v h' => ∃ r, v = .bool r ∧ K r h') x0 h) : callB (Sat Try.prog) i_f3 [.sl x0] h K := by
 have := Sat.ex tok mixed f3_M Try.func5 (c := bodyOf Try.f5) (by kernel_rfl) (calls_of Try.func5 (c := bodyOf Try.f5) (by kernel_rfl) (by decide)) ((f3_main_link _ _ x0 h).mpr hm)
 obtain ⟨v, h2, h3, r, rfl, h4⟩ := this; exact ⟨r, h2, h3, h4⟩
def f71_M : Nat → List Nat := fun i => bif i == 8 then [3, 9, 10, 38, 39, 43, 44, 48, 49] else bif i == 6 then [3, 9, 38, 39, 43, 44] else bif i == 4 then [3, 38, 39] else bif i == 2 then [3, 6, 13, 14, 15, 20, 21, 22] else bif i == 0 then [3, 13, 14, 15] else []
def f71_ks2 (S : SatT) (K : KT) : Kont := kSeq (cwp S tab f71_M [] (sub [1, 1, 1] (bodyOf Try.f73)) (kFun tab (Try.f73).results.toList K)) (kFun tab (Try.f73).results.toList K)
def f71_e0 (s3_ s13_ : Sl) (i14 i15 : Int) : Frame := [U, U, U, .sl s3_, U, U, U, U, U, U, U, U, U, .sl s13_, .int .i64 i14, .int .i64 i15, U, U, U, U, U, U, U, U, U, U, U, U, U, U, U, U, U, U, U, U, U, U, U, U, U, U, U, U, U, U, U, U, U, U, U, U, U, U, U, U, U, U, U, U, U, U, U, U, U, U, U, U, U, U, U, U, U, U, U, U, U, U, U, U, U, U, U, U, U, U, U]
def f71_w0 (S : SatT) (K : KT) : (XT) → XT := fun X fr h => cwp S tab f71_M (f71_M 0) (sub [1, 1, 0, 1, 0, 0] (bodyOf Try.f73)) (kSeq (fun fr h => X (mask (f71_M 0) fr) h) (kBlk 0 (f71_ks2 S K))) fr h
def f71_L0 (S : SatT) (K : KT) (s3_ s13_ : Sl) (i14 i15 : Int) (h : H) : Prop := loopK (f71_w0 S K) (f71_e0 s3_ s13_ i14 i15) h
def f71_ks6 (S : SatT) (K : KT) (X0 : XT) : Kont := kSeq (cwp S tab f71_M (f71_M 0) (sub [1, 1, 0, 1, 0, 0, 1, 1, 1] (bodyOf Try.f73)) (kSeq (fun fr h => X0 (mask (f71_M 0) fr) h) (kBlk 0 (f71_ks2 S K)))) (kSeq (fun fr h => X0 (mask (f71_M 0) fr) h) (kBlk 0 (f71_ks2 S K)))
def f71_ks9 (S : SatT) (K : KT) (X0 : XT) : Kont := kSeq (cwp S tab f71_M (f71_M 1) (sub [1, 1, 0, 1, 0, 0, 1, 1, 0, 0, 1, 1, 1] (bodyOf Try.f73)) (kBlk 1 (f71_ks6 S K X0))) (kBlk 1 (f71_ks6 S K X0))
def f71_e2 (s3_ s6_ s13_ : Sl) (i14 i15 : Int) (s20_ : Sl) (i21 i22 : Int) : Frame := [U, U, U, .sl s3_, U, U, .sl s6_, U, U, U, U, U, U, .sl s13_, .int .i64 i14, .int .i64 i15, U, U, U, U, .sl s20_, .int .i64 i21, .int .i64 i22, U, U, U, U, U, U, U, U, U, U, U, U, U, U, U, U, U, U, U, U, U, U, U, U, U, U, U, U, U, U, U, U, U, U, U, U, U, U, U, U, U, U, U, U, U, U, U, U, U, U, U, U, U, U, U, U, U, U, U, U, U, U, U, U]
def f71_w2 (S : SatT) (K : KT) (X0 : XT) : (XT) → XT := fun X fr h => cwp S tab f71_M (f71_M 2) (sub [1, 1, 0, 1, 0, 0, 1, 1, 0, 0, 1, 1, 0, 1, 0, 0] (bodyOf Try.f73)) (kSeq (fun fr h => X (mask (f71_M 2) fr) h) (kBlk 2 (f71_ks9 S K X0))) fr h
def f71_L2 (S : SatT) (K : KT) (X0 : XT) (s3_ s6_ s13_ : Sl) (i14 i15 : Int) (s20_ : Sl) (i21 i22 : Int) (h : H) : Prop := loopK (f71_w2 S K X0) (f71_e2 s3_ s6_ s13_ i14 i15 s20_ i21 i22) h
def f71_C1 (S : SatT) (K : KT) (X0 : XT) (s3_ s13_ : Sl) (i14 i15 : Int) (h : H) : Prop :=
 X0 (f71_e0 s3_ s13_ i14 (w64 (i15 + (1)))) h
def f71_C2 (S : SatT) (K : KT) (X0 : XT) (s3_ s6_ s13_ : Sl) (i14 i15 : Int) (h : H) : Prop :=
 newS 1 1 [.sl s6_] h fun s0 h1 =>
 app s3_ s0 1 h1 fun s2 h3 =>
 f71_C1 S K X0 s2 s13_ i14 i15 h3
def f71_b2 (S : SatT) (K : KT) (X0 X2 : XT) (s3_ s6_ s13_ : Sl) (i14 i15 : Int) (s20_ : Sl) (i21 i22 : Int) (h : H) : Prop :=
 bif (decide (i22 < i21)) then
 ixS s20_ 1 i22 fun p0 =>
 ldI .i64 p0 h fun n1 =>
 newS 1 1 [.bool (decide (n1 > (0)))] h fun s2 h3 =>
 app s6_ s2 1 h3 fun s4 h5 =>
 X2 (f71_e2 s3_ s4 s13_ i14 i15 s20_ i21 (w64 (i22 + (1)))) h5
 else
 f71_C2 S K X0 s3_ s6_ s13_ i14 i15 h
theorem f71_link2 (S : SatT) (K : KT) (X0 X2 : XT) (s3_ s6_ s13_ : Sl) (i14 i15 : Int) (s20_ : Sl) (i21 i22 : Int) (h : H) : f71_w2 S K X0 X2 (f71_e2 s3_ s6_ s13_ i14 i15 s20_ i21 i22) h = f71_b2 S K X0 X2 s3_ s6_ s13_ i14 i15 s20_ i21 i22 h := by kernel_rfl
theorem f71_rule2 (S : SatT) (K : KT) (X0 : XT) (s3_ s13_ : Sl) (i14 i15 : Int) (s20_ : Sl) (i21 : Int) (I_ : Sl → Int → H → Prop) (m_ : Sl → Int → H → Nat)
  (hs : ∀ (X2 : XT) (s6_ : Sl) (i22 : Int) (h : H), I_ s6_ i22 h → (∀ (s6_' : Sl) (i22' : Int) (h' : H), I_ s6_' i22' h' → m_ s6_' i22' h' < m_ s6_ i22 h → X2 (f71_e2 s3_ s6_' s13_ i14 i15 s20_ i21 i22') h') → f71_b2 S K X0 X2 s3_ s6_ s13_ i14 i15 s20_ i21 i22 h) (s6_ : Sl) (i22 : Int) {h : H} (h0 : I_ s6_ i22 h) : f71_L2 S K X0 s3_ s6_ s13_ i14 i15 s20_ i21 i22 h :=
 loop_rule (σ := (Sl) × (Int)) (fun s_ => f71_e2 s3_ (s_.1) s13_ i14 i15 s20_ i21 (s_.2)) (fun s_ h => I_ (s_.1) (s_.2) h) (fun s_ h => m_ (s_.1) (s_.2) h)
  (fun X s_ h hi hx => (f71_link2 S K X0 X s3_ (s_.1) s13_ i14 i15 s20_ i21 (s_.2) h).mpr (hs X (s_.1) (s_.2) h hi fun s6_' i22' h' hi' hm' => hx (s6_', i22') h' hi' hm')) (s6_, i22) h0
def f71_ks15 (S : SatT) (K : KT) : Kont := kSeq (cwp S tab f71_M [] (sub [1, 1, 1, 1] (bodyOf Try.f73)) (kFun tab (Try.f73).results.toList K)) (kFun tab (Try.f73).results.toList K)
def f71_e4 (s3_ : Sl) (i38 i39 : Int) : Frame := [U, U, U, .sl s3_, U, U, U, U, U, U, U, U, U, U, U, U, U, U, U, U, U, U, U, U, U, U, U, U, U, U, U, U, U, U, U, U, U, U, .int .i64 i38, .int .i64 i39, U, U, U, U, U, U, U, U, U, U, U, U, U, U, U, U, U, U, U, U, U, U, U, U, U, U, U, U, U, U, U, U, U, U, U, U, U, U, U, U, U, U, U, U, U, U, U]
def f71_w4 (S : SatT) (K : KT) : (XT) → XT := fun X fr h => cwp S tab f71_M (f71_M 4) (sub [1, 1, 1, 0, 1, 0, 0] (bodyOf Try.f73)) (kSeq (fun fr h => X (mask (f71_M 4) fr) h) (kBlk 4 (f71_ks15 S K))) fr h
def f71_L4 (S : SatT) (K : KT) (s3_ : Sl) (i38 i39 : Int) (h : H) : Prop := loopK (f71_w4 S K) (f71_e4 s3_ i38 i39) h
def f71_ks19 (S : SatT) (K : KT) (X4 : XT) : Kont := kSeq (cwp S tab f71_M (f71_M 4) (sub [1, 1, 1, 0, 1, 0, 0, 1, 1, 1] (bodyOf Try.f73)) (kSeq (fun fr h => X4 (mask (f71_M 4) fr) h) (kBlk 4 (f71_ks15 S K)))) (kSeq (fun fr h => X4 (mask (f71_M 4) fr) h) (kBlk 4 (f71_ks15 S K)))
def f71_e6 (s3_ : Sl) (i9 i38 : Int) (i39 i43 i44 : Int) : Frame := [U, U, U, .sl s3_, U, U, U, U, U, .int .i64 i9, U, U, U, U, U, U, U, U, U, U, U, U, U, U, U, U, U, U, U, U, U, U, U, U, U, U, U, U, .int .i64 i38, .int .i64 i39, U, U, U, .int .i64 i43, .int .i64 i44, U, U, U, U, U, U, U, U, U, U, U, U, U, U, U, U, U, U, U, U, U, U, U, U, U, U, U, U, U, U, U, U, U, U, U, U, U, U, U, U, U, U]
def f71_w6 (S : SatT) (K : KT) (X4 : XT) : (XT) → XT := fun X fr h => cwp S tab f71_M (f71_M 6) (sub [1, 1, 1, 0, 1, 0, 0, 1, 1, 0, 0, 1, 1, 0, 0] (bodyOf Try.f73)) (kSeq (fun fr h => X (mask (f71_M 6) fr) h) (kBlk 6 (kBlk 5 (f71_ks19 S K X4)))) fr h
def f71_L6 (S : SatT) (K : KT) (X4 : XT) (s3_ : Sl) (i9 i38 : Int) (i39 i43 i44 : Int) (h : H) : Prop := loopK (f71_w6 S K X4) (f71_e6 s3_ i9 i38 i39 i43 i44) h
def f71_ks24 (S : SatT) (K : KT) (X4 X6 : XT) : Kont := kSeq (cwp S tab f71_M (f71_M 6) (sub [1, 1, 1, 0, 1, 0, 0, 1, 1, 0, 0, 1, 1, 0, 0, 1, 1, 1] (bodyOf Try.f73)) (kSeq (fun fr h => X6 (mask (f71_M 6) fr) h) (kBlk 6 (kBlk 5 (f71_ks19 S K X4))))) (kSeq (fun fr h => X6 (mask (f71_M 6) fr) h) (kBlk 6 (kBlk 5 (f71_ks19 S K X4))))
def f71_e8 (s3_ : Sl) (i9 i10 : Int) (i38 i39 : Int) (i43 i44 : Int) (i48 i49 : Int) : Frame := [U, U, U, .sl s3_, U, U, U, U, U, .int .i64 i9, .int .i64 i10, U, U, U, U, U, U, U, U, U, U, U, U, U, U, U, U, U, U, U, U, U, U, U, U, U, U, U, .int .i64 i38, .int .i64 i39, U, U, U, .int .i64 i43, .int .i64 i44, U, U, U, .int .i64 i48, .int .i64 i49, U, U, U, U, U, U, U, U, U, U, U, U, U, U, U, U, U, U, U, U, U, U, U, U, U, U, U, U, U, U, U, U, U, U, U, U, U]
def f71_w8 (S : SatT) (K : KT) (X4 X6 : XT) : (XT) → XT := fun X fr h => cwp S tab f71_M (f71_M 8) (sub [1, 1, 1, 0, 1, 0, 0, 1, 1, 0, 0, 1, 1, 0, 0, 1, 1, 0, 0, 1, 1, 0, 0] (bodyOf Try.f73)) (kSeq (fun fr h => X (mask (f71_M 8) fr) h) (kBlk 8 (kBlk 7 (f71_ks24 S K X4 X6)))) fr h
def f71_L8 (S : SatT) (K : KT) (X4 X6 : XT) (s3_ : Sl) (i9 i10 : Int) (i38 i39 : Int) (i43 i44 : Int) (i48 i49 : Int) (h : H) : Prop := loopK (f71_w8 S K X4 X6) (f71_e8 s3_ i9 i10 i38 i39 i43 i44 i48 i49) h
def f71_C7 (S : SatT) (K : KT) (X4 X6 : XT) (s3_ : Sl) (i9 i38 : Int) (i39 i43 i44 : Int) (h : H) : Prop :=
 X6 (f71_e6 s3_ i9 i38 i39 i43 (w64 (i44 + (1)))) h
def f71_C8 (S : SatT) (K : KT) (X4 X6 : XT) (s3_ : Sl) (i9 i38 : Int) (i39 i43 i44 : Int) (h : H) : Prop :=
 f71_C7 S K X4 X6 s3_ i9 i38 i39 i43 i44 h
def f71_b8 (S : SatT) (K : KT) (X4 X6 X8 : XT) (s3_ : Sl) (i9 i10 : Int) (i38 i39 : Int) (i43 i44 : Int) (i48 i49 : Int) (h : H) : Prop :=
 bif (decide (i49 < i48)) then
 ixS s3_ 1 i10 fun p0 =>
 ldS p0 h fun s1 =>
 ixS s3_ 1 i10 fun p2 =>
 ldS p2 h fun s3 =>
 ixS s3 1 i49 fun p4 =>
 ldB p4 h fun b5 =>
 bif b5 then
 ixS s1 1 i49 fun p6 =>
 st1 p6 (.bool true) h fun h7 =>
 X8 (f71_e8 s3_ i9 i10 i38 i39 i43 i44 i48 (w64 (i49 + (1)))) h7
 else
 ixS s3_ 1 i10 fun p8 =>
 ldS p8 h fun s9 =>
 ixS s9 1 i9 fun p10 =>
 ldB p10 h fun b11 =>
 bif b11 then
 ixS s3_ 1 i9 fun p12 =>
 ldS p12 h fun s13 =>
 ixS s13 1 i49 fun p14 =>
 ldB p14 h fun b15 =>
 ixS s1 1 i49 fun p16 =>
 st1 p16 (.bool b15) h fun h17 =>
 X8 (f71_e8 s3_ i9 i10 i38 i39 i43 i44 i48 (w64 (i49 + (1)))) h17
 else
 ixS s1 1 i49 fun p18 =>
 st1 p18 (.bool false) h fun h19 =>
 X8 (f71_e8 s3_ i9 i10 i38 i39 i43 i44 i48 (w64 (i49 + (1)))) h19
 else
 f71_C8 S K X4 X6 s3_ i9 i38 i39 i43 i44 h
theorem f71_link8 (S : SatT) (K : KT) (X4 X6 X8 : XT) (s3_ : Sl) (i9 i10 : Int) (i38 i39 : Int) (i43 i44 : Int) (i48 i49 : Int) (h : H) : f71_w8 S K X4 X6 X8 (f71_e8 s3_ i9 i10 i38 i39 i43 i44 i48 i49) h = f71_b8 S K X4 X6 X8 s3_ i9 i10 i38 i39 i43 i44 i48 i49 h := by kernel_rfl
theorem f71_rule8 (S : SatT) (K : KT) (X4 X6 : XT) (s3_ : Sl) (i9 i10 : Int) (i38 i39 : Int) (i43 i44 i48 : Int) (I_ : Int → H → Prop) (m_ : Int → H → Nat)
  (hs : ∀ (X8 : XT) (i49 : Int) (h : H), I_ i49 h → (∀ (i49' : Int) (h' : H), I_ i49' h' → m_ i49' h' < m_ i49 h → X8 (f71_e8 s3_ i9 i10 i38 i39 i43 i44 i48 i49') h') → f71_b8 S K X4 X6 X8 s3_ i9 i10 i38 i39 i43 i44 i48 i49 h) (i49 : Int) {h : H} (h0 : I_ i49 h) : f71_L8 S K X4 X6 s3_ i9 i10 i38 i39 i43 i44 i48 i49 h :=
 loop_rule (σ := (Int)) (fun s_ => f71_e8 s3_ i9 i10 i38 i39 i43 i44 i48 (s_)) (fun s_ h => I_ (s_) h) (fun s_ h => m_ (s_) h)
  (fun X s_ h hi hx => (f71_link8 S K X4 X6 X s3_ i9 i10 i38 i39 i43 i44 i48 (s_) h).mpr (hs X (s_) h hi fun i49' h' hi' hm' => hx (i49') h' hi' hm')) (i49) h0
def f71_C5 (S : SatT) (K : KT) (X4 : XT) (s3_ : Sl) (i38 i39 : Int) (h : H) : Prop :=
 X4 (f71_e4 s3_ i38 (w64 (i39 + (1)))) h
def f71_C6 (S : SatT) (K : KT) (X4 : XT) (s3_ : Sl) (i38 i39 : Int) (h : H) : Prop :=
 f71_C5 S K X4 s3_ i38 i39 h
def f71_b6 (S : SatT) (K : KT) (X4 X6 : XT) (s3_ : Sl) (i9 i38 : Int) (i39 i43 i44 : Int) (h : H) : Prop :=
 bif (decide (i44 < i43)) then
 f71_L8 S K X4 X6 s3_ i9 i44 i38 i39 i43 i44 (s3_.len : Int) (0) h
 else
 f71_C6 S K X4 s3_ i38 i39 h
theorem f71_link6 (S : SatT) (K : KT) (X4 X6 : XT) (s3_ : Sl) (i9 i38 : Int) (i39 i43 i44 : Int) (h : H) : f71_w6 S K X4 X6 (f71_e6 s3_ i9 i38 i39 i43 i44) h = f71_b6 S K X4 X6 s3_ i9 i38 i39 i43 i44 h := by kernel_rfl
theorem f71_rule6 (S : SatT) (K : KT) (X4 : XT) (s3_ : Sl) (i9 i38 : Int) (i39 i43 : Int) (I_ : Int → H → Prop) (m_ : Int → H → Nat)
  (hs : ∀ (X6 : XT) (i44 : Int) (h : H), I_ i44 h → (∀ (i44' : Int) (h' : H), I_ i44' h' → m_ i44' h' < m_ i44 h → X6 (f71_e6 s3_ i9 i38 i39 i43 i44') h') → f71_b6 S K X4 X6 s3_ i9 i38 i39 i43 i44 h) (i44 : Int) {h : H} (h0 : I_ i44 h) : f71_L6 S K X4 s3_ i9 i38 i39 i43 i44 h :=
 loop_rule (σ := (Int)) (fun s_ => f71_e6 s3_ i9 i38 i39 i43 (s_)) (fun s_ h => I_ (s_) h) (fun s_ h => m_ (s_) h)
  (fun X s_ h hi hx => (f71_link6 S K X4 X s3_ i9 i38 i39 i43 (s_) h).mpr (hs X (s_) h hi fun i44' h' hi' hm' => hx (i44') h' hi' hm')) (i44) h0
def f71_C4 (S : SatT) (K : KT) (s3_ : Sl) (h : H) : Prop :=
 K (.sl s3_) h
def f71_b4 (S : SatT) (K : KT) (X4 : XT) (s3_ : Sl) (i38 i39 : Int) (h : H) : Prop :=
 bif (decide (i39 < i38)) then
 f71_L6 S K X4 s3_ i39 i38 i39 (s3_.len : Int) (0) h
 else
 f71_C4 S K s3_ h
theorem f71_link4 (S : SatT) (K : KT) (X4 : XT) (s3_ : Sl) (i38 i39 : Int) (h : H) : f71_w4 S K X4 (f71_e4 s3_ i38 i39) h = f71_b4 S K X4 s3_ i38 i39 h := by kernel_rfl
theorem f71_rule4 (S : SatT) (K : KT) (s3_ : Sl) (i38 : Int) (I_ : Int → H → Prop) (m_ : Int → H → Nat)
  (hs : ∀ (X4 : XT) (i39 : Int) (h : H), I_ i39 h → (∀ (i39' : Int) (h' : H), I_ i39' h' → m_ i39' h' < m_ i39 h → X4 (f71_e4 s3_ i38 i39') h') → f71_b4 S K X4 s3_ i38 i39 h) (i39 : Int) {h : H} (h0 : I_ i39 h) : f71_L4 S K s3_ i38 i39 h :=
 loop_rule (σ := (Int)) (fun s_ => f71_e4 s3_ i38 (s_)) (fun s_ h => I_ (s_) h) (fun s_ h => m_ (s_) h)
  (fun X s_ h hi hx => (f71_link4 S K X s3_ i38 (s_) h).mpr (hs X (s_) h hi fun i39' h' hi' hm' => hx (i39') h' hi' hm')) (i39) h0
def f71_C0 (S : SatT) (K : KT) (s3_ : Sl) (h : H) : Prop :=
 f71_L4 S K s3_ (s3_.len : Int) (0) h
def f71_b0 (S : SatT) (K : KT) (X0 : XT) (s3_ s13_ : Sl) (i14 i15 : Int) (h : H) : Prop :=
 bif (decide (i15 < i14)) then
 ixS s13_ 1 i15 fun p0 =>
 ldS p0 h fun s1 =>
 newS 0 1 [] h fun s2 h3 =>
 f71_L2 S K X0 s3_ s2 s13_ i14 i15 s1 (s1.len : Int) (0) h3
 else
 f71_C0 S K s3_ h
theorem f71_link0 (S : SatT) (K : KT) (X0 : XT) (s3_ s13_ : Sl) (i14 i15 : Int) (h : H) : f71_w0 S K X0 (f71_e0 s3_ s13_ i14 i15) h = f71_b0 S K X0 s3_ s13_ i14 i15 h := by kernel_rfl
theorem f71_rule0 (S : SatT) (K : KT) (s13_ : Sl) (i14 : Int) (I_ : Sl → Int → H → Prop) (m_ : Sl → Int → H → Nat)
  (hs : ∀ (X0 : XT) (s3_ : Sl) (i15 : Int) (h : H), I_ s3_ i15 h → (∀ (s3_' : Sl) (i15' : Int) (h' : H), I_ s3_' i15' h' → m_ s3_' i15' h' < m_ s3_ i15 h → X0 (f71_e0 s3_' s13_ i14 i15') h') → f71_b0 S K X0 s3_ s13_ i14 i15 h) (s3_ : Sl) (i15 : Int) {h : H} (h0 : I_ s3_ i15 h) : f71_L0 S K s3_ s13_ i14 i15 h :=
 loop_rule (σ := (Sl) × (Int)) (fun s_ => f71_e0 (s_.1) s13_ i14 (s_.2)) (fun s_ h => I_ (s_.1) (s_.2) h) (fun s_ h => m_ (s_.1) (s_.2) h)
  (fun X s_ h hi hx => (f71_link0 S K X (s_.1) s13_ i14 (s_.2) h).mpr (hs X (s_.1) (s_.2) h hi fun s3_' i15' h' hi' hm' => hx (s3_', i15') h' hi' hm')) (s3_, i15) h0
def f71_main (S : SatT) (K : KT) (x0 : Sl) (h : H) : Prop :=
 newS 0 1 [] h fun s0 h1 =>
 f71_L0 S K s0 x0 (x0.len : Int) (0) h1
theorem f71_main_link (S : SatT) (K : KT) (x0 : Sl) (h : H) : cwp S tab f71_M [] (bodyOf Try.f73) (kFun tab Try.f73.results.toList K) (fr0 Try.f73 [.sl x0]) h = f71_main S K x0 h := by kernel_rfl
theorem f71_call (x0 : Sl) (h : H) (K : Sl → H → Prop) (hm : f71_main (Sat Try.prog) (fun v h' => ∃ r, v = .sl r ∧ K r h') x0 h) : callS (Sat Try.prog) i_f71 [.sl x0] h K := by
 have := Sat.ex tok mixed f71_M Try.func73 (c := bodyOf Try.f73) (by kernel_rfl) (calls_of Try.func73 (c := bodyOf Try.f73) (by kernel_rfl) (by decide)) ((f71_main_link _ _ x0 h).mpr hm)
 obtain ⟨v, h2, h3, r, rfl, h4⟩ := this; exact ⟨r, h2, h3, h4⟩
def f27_M : Nat → List Nat := fun i => bif i == 6 then [6, 8, 9, 11, 12, 13, 15, 17] else bif i == 4 then [6, 8, 9, 11, 12, 13, 14, 15, 16] else bif i == 2 then [6, 8, 9, 11, 12, 13] else bif i == 0 then [6, 8, 9, 10] else []
def f27_ks6 (S : SatT) (K : KT) : Kont := kSeq (cwp S tab f27_M [] (sub [1, 1, 1, 1, 1] (bodyOf Try.f29)) (kFun tab (Try.f29).results.toList K)) (kFun tab (Try.f29).results.toList K)
def f27_e0 (s6_ : Sl) (i8 : Int) (s9_ : Sl) (i10 : Int) : Frame := [U, U, U, U, U, U, .sl s6_, U, .int .i64 i8, .sl s9_, .int .i64 i10, U, U, U, U, U, U, U, U, U, U, U, U, U, U, U, U, U, U, U, U, U, U, U, U, U, U, U, U, U, U, U, U, U, U, U, U, U, U, U, U, U, U, U, U, U, U, U, U, U, U, U, U, U, U, U, U, U, U, U, U, U, U, U, U, U, U, U, U, U, U, U, U, U, U, U, U, U, U, U, U, U, U, U, U, U, U, U, U, U, U, U, U, U, U, U, U, U, U, U, U, U, U, U, U, U, U, U, U, U, U, U, U, U]
def f27_w0 (S : SatT) (K : KT) : (XT) → XT := fun X fr h => cwp S tab f27_M (f27_M 0) (sub [1, 1, 1, 1, 0, 1, 0, 0] (bodyOf Try.f29)) (kSeq (fun fr h => X (mask (f27_M 0) fr) h) (kBlk 0 (f27_ks6 S K))) fr h
def f27_L0 (S : SatT) (K : KT) (s6_ : Sl) (i8 : Int) (s9_ : Sl) (i10 : Int) (h : H) : Prop := loopK (f27_w0 S K) (f27_e0 s6_ i8 s9_ i10) h
def f27_ks16 (S : SatT) (K : KT) : Kont := kSeq (cwp S tab f27_M [] (sub [1, 1, 1, 1, 1, 1, 1, 1, 1] (bodyOf Try.f29)) (kFun tab (Try.f29).results.toList K)) (kFun tab (Try.f29).results.toList K)
def f27_e2 (s6_ : Sl) (i8 : Int) (s9_ s11_ s12_ : Sl) (i13 : Int) : Frame := [U, U, U, U, U, U, .sl s6_, U, .int .i64 i8, .sl s9_, U, .sl s11_, .sl s12_, .int .i64 i13, U, U, U, U, U, U, U, U, U, U, U, U, U, U, U, U, U, U, U, U, U, U, U, U, U, U, U, U, U, U, U, U, U, U, U, U, U, U, U, U, U, U, U, U, U, U, U, U, U, U, U, U, U, U, U, U, U, U, U, U, U, U, U, U, U, U, U, U, U, U, U, U, U, U, U, U, U, U, U, U, U, U, U, U, U, U, U, U, U, U, U, U, U, U, U, U, U, U, U, U, U, U, U, U, U, U, U, U, U, U]
def f27_w2 (S : SatT) (K : KT) : (XT) → XT := fun X fr h => cwp S tab f27_M (f27_M 2) (sub [1, 1, 1, 1, 1, 1, 1, 1, 0, 1, 0, 0] (bodyOf Try.f29)) (kSeq (fun fr h => X (mask (f27_M 2) fr) h) (kBlk 2 (f27_ks16 S K))) fr h
def f27_L2 (S : SatT) (K : KT) (s6_ : Sl) (i8 : Int) (s9_ s11_ s12_ : Sl) (i13 : Int) (h : H) : Prop := loopK (f27_w2 S K) (f27_e2 s6_ i8 s9_ s11_ s12_ i13) h
def f27_ks20 (S : SatT) (K : KT) (X2 : XT) : Kont := kSeq (cwp S tab f27_M (f27_M 2) (sub [1, 1, 1, 1, 1, 1, 1, 1, 0, 1, 0, 0, 1, 1] (bodyOf Try.f29)) (kSeq (fun fr h => X2 (mask (f27_M 2) fr) h) (kBlk 2 (f27_ks16 S K)))) (kSeq (fun fr h => X2 (mask (f27_M 2) fr) h) (kBlk 2 (f27_ks16 S K)))
def f27_ks22 (S : SatT) (K : KT) (X2 : XT) : Kont := kSeq (cwp S tab f27_M (f27_M 3) (sub [1, 1, 1, 1, 1, 1, 1, 1, 0, 1, 0, 0, 1, 0, 0, 1, 1] (bodyOf Try.f29)) (kBlk 3 (f27_ks20 S K X2))) (kBlk 3 (f27_ks20 S K X2))
def f27_e4 (s6_ : Sl) (i8 : Int) (s9_ s11_ s12_ : Sl) (i13 : Int) (s14_ : Sl) (i15 i16 : Int) : Frame := [U, U, U, U, U, U, .sl s6_, U, .int .i64 i8, .sl s9_, U, .sl s11_, .sl s12_, .int .i64 i13, .sl s14_, .int .i64 i15, .int .i64 i16, U, U, U, U, U, U, U, U, U, U, U, U, U, U, U, U, U, U, U, U, U, U, U, U, U, U, U, U, U, U, U, U, U, U, U, U, U, U, U, U, U, U, U, U, U, U, U, U, U, U, U, U, U, U, U, U, U, U, U, U, U, U, U, U, U, U, U, U, U, U, U, U, U, U, U, U, U, U, U, U, U, U, U, U, U, U, U, U, U, U, U, U, U, U, U, U, U, U, U, U, U, U, U, U, U, U, U]
def f27_w4 (S : SatT) (K : KT) (X2 : XT) : (XT) → XT := fun X fr h => cwp S tab f27_M (f27_M 4) (sub [1, 1, 1, 1, 1, 1, 1, 1, 0, 1, 0, 0, 1, 0, 0, 1, 0, 1, 0, 0] (bodyOf Try.f29)) (kSeq (fun fr h => X (mask (f27_M 4) fr) h) (kBlk 4 (f27_ks22 S K X2))) fr h
def f27_L4 (S : SatT) (K : KT) (X2 : XT) (s6_ : Sl) (i8 : Int) (s9_ s11_ s12_ : Sl) (i13 : Int) (s14_ : Sl) (i15 i16 : Int) (h : H) : Prop := loopK (f27_w4 S K X2) (f27_e4 s6_ i8 s9_ s11_ s12_ i13 s14_ i15 i16) h
def f27_ks28 (S : SatT) (K : KT) (X2 : XT) : Kont := kSeq (cwp S tab f27_M (f27_M 3) (sub [1, 1, 1, 1, 1, 1, 1, 1, 0, 1, 0, 0, 1, 0, 0, 1, 1, 1, 1] (bodyOf Try.f29)) (kBlk 3 (f27_ks20 S K X2))) (kBlk 3 (f27_ks20 S K X2))
def f27_e6 (s6_ : Sl) (i8 : Int) (s9_ s11_ s12_ : Sl) (i13 i15 i17 : Int) : Frame := [U, U, U, U, U, U, .sl s6_, U, .int .i64 i8, .sl s9_, U, .sl s11_, .sl s12_, .int .i64 i13, U, .int .i64 i15, U, .int .i64 i17, U, U, U, U, U, U, U, U, U, U, U, U, U, U, U, U, U, U, U, U, U, U, U, U, U, U, U, U, U, U, U, U, U, U, U, U, U, U, U, U, U, U, U, U, U, U, U, U, U, U, U, U, U, U, U, U, U, U, U, U, U, U, U, U, U, U, U, U, U, U, U, U, U, U, U, U, U, U, U, U, U, U, U, U, U, U, U, U, U, U, U, U, U, U, U, U, U, U, U, U, U, U, U, U, U, U]
def f27_w6 (S : SatT) (K : KT) (X2 : XT) : (XT) → XT := fun X fr h => cwp S tab f27_M (f27_M 6) (sub [1, 1, 1, 1, 1, 1, 1, 1, 0, 1, 0, 0, 1, 0, 0, 1, 1, 1, 0, 1, 0, 0] (bodyOf Try.f29)) (kSeq (fun fr h => X (mask (f27_M 6) fr) h) (kBlk 6 (f27_ks28 S K X2))) fr h
def f27_L6 (S : SatT) (K : KT) (X2 : XT) (s6_ : Sl) (i8 : Int) (s9_ s11_ s12_ : Sl) (i13 i15 i17 : Int) (h : H) : Prop := loopK (f27_w6 S K X2) (f27_e6 s6_ i8 s9_ s11_ s12_ i13 i15 i17) h
def f27_C3 (S : SatT) (K : KT) (X2 : XT) (s6_ : Sl) (i8 : Int) (s9_ s11_ s12_ : Sl) (i13 : Int) (h : H) : Prop :=
 X2 (f27_e2 s6_ i8 s9_ s11_ s12_ (w64 (i13 + (1)))) h
def f27_C6 (S : SatT) (K : KT) (X2 : XT) (s6_ : Sl) (i8 : Int) (s9_ s11_ s12_ : Sl) (i13 i15 : Int) (h : H) : Prop :=
 newS 1 1 [.int .i64 i15] h fun s0 h1 =>
 app s12_ s0 1 h1 fun s2 h3 =>
 f27_C3 S K X2 s6_ i8 s9_ s11_ s2 i13 h3
def f27_b6 (S : SatT) (K : KT) (X2 X6 : XT) (s6_ : Sl) (i8 : Int) (s9_ s11_ s12_ : Sl) (i13 i15 i17 : Int) (h : H) : Prop :=
 bif (decide (i17 < (s11_.len : Int))) then
 ixS s11_ 1 i17 fun p0 =>
 ldI .i64 p0 h fun n1 =>
 nz (10007) (
 X6 (f27_e6 s6_ i8 s9_ s11_ s12_ i13 (Int.tmod (w64 (i15 + n1)) (10007)) (w64 (i17 + (1)))) h)
 else
 f27_C6 S K X2 s6_ i8 s9_ s11_ s12_ i13 i15 h
theorem f27_link6 (S : SatT) (K : KT) (X2 X6 : XT) (s6_ : Sl) (i8 : Int) (s9_ s11_ s12_ : Sl) (i13 i15 i17 : Int) (h : H) : f27_w6 S K X2 X6 (f27_e6 s6_ i8 s9_ s11_ s12_ i13 i15 i17) h = f27_b6 S K X2 X6 s6_ i8 s9_ s11_ s12_ i13 i15 i17 h := by kernel_rfl
theorem f27_rule6 (S : SatT) (K : KT) (X2 : XT) (s6_ : Sl) (i8 : Int) (s9_ s11_ s12_ : Sl) (i13 : Int) (I_ : Int → Int → H → Prop) (m_ : Int → Int → H → Nat)
  (hs : ∀ (X6 : XT) (i15 i17 : Int) (h : H), I_ i15 i17 h → (∀ (i15' i17' : Int) (h' : H), I_ i15' i17' h' → m_ i15' i17' h' < m_ i15 i17 h → X6 (f27_e6 s6_ i8 s9_ s11_ s12_ i13 i15' i17') h') → f27_b6 S K X2 X6 s6_ i8 s9_ s11_ s12_ i13 i15 i17 h) (i15 i17 : Int) {h : H} (h0 : I_ i15 i17 h) : f27_L6 S K X2 s6_ i8 s9_ s11_ s12_ i13 i15 i17 h :=
 loop_rule (σ := (Int) × (Int)) (fun s_ => f27_e6 s6_ i8 s9_ s11_ s12_ i13 (s_.1) (s_.2)) (fun s_ h => I_ (s_.1) (s_.2) h) (fun s_ h => m_ (s_.1) (s_.2) h)
  (fun X s_ h hi hx => (f27_link6 S K X2 X s6_ i8 s9_ s11_ s12_ i13 (s_.1) (s_.2) h).mpr (hs X (s_.1) (s_.2) h hi fun i15' i17' h' hi' hm' => hx (i15', i17') h' hi' hm')) (i15, i17) h0
def f27_C4 (S : SatT) (K : KT) (X2 : XT) (s6_ : Sl) (i8 : Int) (s9_ s12_ : Sl) (i13 : Int) (s14_ : Sl) (i15 : Int) (h : H) : Prop :=
 f27_L6 S K X2 s6_ i8 s9_ s14_ s12_ i13 i15 (0) h
def f27_b4 (S : SatT) (K : KT) (X2 X4 : XT) (s6_ : Sl) (i8 : Int) (s9_ s11_ s12_ : Sl) (i13 : Int) (s14_ : Sl) (i15 i16 : Int) (h : H) : Prop :=
 bif (decide (i16 < (s6_.len : Int))) then
 ixS s6_ 1 i16 fun p0 =>
 ldS p0 h fun s1 =>
 ixS s1 1 (1) fun p2 =>
 ldI .i64 p2 h fun n3 =>
 ixS s6_ 1 i16 fun p4 =>
 ldS p4 h fun s5 =>
 ixS s5 1 (1) fun p6 =>
 ldI .i64 p6 h fun n7 =>
 ixS s14_ 1 n7 fun p8 =>
 ldI .i64 p8 h fun n9 =>
 ixS s6_ 1 i16 fun p10 =>
 ldS p10 h fun s11 =>
 ixS s11 1 (0) fun p12 =>
 ldI .i64 p12 h fun n13 =>
 ixS s11_ 1 n13 fun p14 =>
 ldI .i64 p14 h fun n15 =>
 nz (10007) (
 ixS s14_ 1 n3 fun p16 =>
 st1 p16 (.int .i64 (Int.tmod (w64 (n9 + n15)) (10007))) h fun h17 =>
 X4 (f27_e4 s6_ i8 s9_ s11_ s12_ i13 s14_ i15 (w64 (i16 + (1)))) h17)
 else
 f27_C4 S K X2 s6_ i8 s9_ s12_ i13 s14_ i15 h
theorem f27_link4 (S : SatT) (K : KT) (X2 X4 : XT) (s6_ : Sl) (i8 : Int) (s9_ s11_ s12_ : Sl) (i13 : Int) (s14_ : Sl) (i15 i16 : Int) (h : H) : f27_w4 S K X2 X4 (f27_e4 s6_ i8 s9_ s11_ s12_ i13 s14_ i15 i16) h = f27_b4 S K X2 X4 s6_ i8 s9_ s11_ s12_ i13 s14_ i15 i16 h := by kernel_rfl
theorem f27_rule4 (S : SatT) (K : KT) (X2 : XT) (s6_ : Sl) (i8 : Int) (s9_ s11_ s12_ : Sl) (i13 : Int) (s14_ : Sl) (i15 : Int) (I_ : Int → H → Prop) (m_ : Int → H → Nat)
  (hs : ∀ (X4 : XT) (i16 : Int) (h : H), I_ i16 h → (∀ (i16' : Int) (h' : H), I_ i16' h' → m_ i16' h' < m_ i16 h → X4 (f27_e4 s6_ i8 s9_ s11_ s12_ i13 s14_ i15 i16') h') → f27_b4 S K X2 X4 s6_ i8 s9_ s11_ s12_ i13 s14_ i15 i16 h) (i16 : Int) {h : H} (h0 : I_ i16 h) : f27_L4 S K X2 s6_ i8 s9_ s11_ s12_ i13 s14_ i15 i16 h :=
 loop_rule (σ := (Int)) (fun s_ => f27_e4 s6_ i8 s9_ s11_ s12_ i13 s14_ i15 (s_)) (fun s_ h => I_ (s_) h) (fun s_ h => m_ (s_) h)
  (fun X s_ h hi hx => (f27_link4 S K X2 X s6_ i8 s9_ s11_ s12_ i13 s14_ i15 (s_) h).mpr (hs X (s_) h hi fun i16' h' hi' hm' => hx (i16') h' hi' hm')) (i16) h0
def f27_C2 (S : SatT) (K : KT) (s12_ : Sl) (h : H) : Prop :=
 callS S i_f57 [.sl s12_] h fun s1 h0 =>
 K (.tuple [.sl s1, .int .i64 (0)]) h0
def f27_b2 (S : SatT) (K : KT) (X2 : XT) (s6_ : Sl) (i8 : Int) (s9_ s11_ s12_ : Sl) (i13 : Int) (h : H) : Prop :=
 bif (decide (i13 < (w64 ((w64 ((2) * (s9_.len : Int))) + (2))))) then
 mkS i8 [.int .i64 (0)] h fun s0 h1 =>
 f27_L4 S K X2 s6_ i8 s9_ s11_ s12_ i13 s0 (0) (0) h1
 else
 f27_C2 S K s12_ h
theorem f27_link2 (S : SatT) (K : KT) (X2 : XT) (s6_ : Sl) (i8 : Int) (s9_ s11_ s12_ : Sl) (i13 : Int) (h : H) : f27_w2 S K X2 (f27_e2 s6_ i8 s9_ s11_ s12_ i13) h = f27_b2 S K X2 s6_ i8 s9_ s11_ s12_ i13 h := by kernel_rfl
theorem f27_rule2 (S : SatT) (K : KT) (s6_ : Sl) (i8 : Int) (s9_ : Sl) (I_ : Sl → Sl → Int → H → Prop) (m_ : Sl → Sl → Int → H → Nat)
  (hs : ∀ (X2 : XT) (s11_ s12_ : Sl) (i13 : Int) (h : H), I_ s11_ s12_ i13 h → (∀ (s11_' s12_' : Sl) (i13' : Int) (h' : H), I_ s11_' s12_' i13' h' → m_ s11_' s12_' i13' h' < m_ s11_ s12_ i13 h → X2 (f27_e2 s6_ i8 s9_ s11_' s12_' i13') h') → f27_b2 S K X2 s6_ i8 s9_ s11_ s12_ i13 h) (s11_ s12_ : Sl) (i13 : Int) {h : H} (h0 : I_ s11_ s12_ i13 h) : f27_L2 S K s6_ i8 s9_ s11_ s12_ i13 h :=
 loop_rule (σ := (Sl) × (Sl) × (Int)) (fun s_ => f27_e2 s6_ i8 s9_ (s_.1) (s_.2.1) (s_.2.2)) (fun s_ h => I_ (s_.1) (s_.2.1) (s_.2.2) h) (fun s_ h => m_ (s_.1) (s_.2.1) (s_.2.2) h)
  (fun X s_ h hi hx => (f27_link2 S K X s6_ i8 s9_ (s_.1) (s_.2.1) (s_.2.2) h).mpr (hs X (s_.1) (s_.2.1) (s_.2.2) h hi fun s11_' s12_' i13' h' hi' hm' => hx (s11_', s12_', i13') h' hi' hm')) (s11_, s12_, i13) h0
def f27_C0 (S : SatT) (K : KT) (s6_ : Sl) (i8 : Int) (s9_ : Sl) (h : H) : Prop :=
 callS S i_f56 [.sl s9_] h fun s1 h0 =>
 bif (decide ((s1.len : Int) > (40))) then
 K (.tuple [.sl Sl.nil, .int .i64 (3)]) h0
 else
 callS S i_f42 [.int .i64 i8] h0 fun s3 h2 =>
 newS 0 1 [] h2 fun s4 h5 =>
 f27_L2 S K s6_ i8 s1 s3 s4 (0) h5
def f27_b0 (S : SatT) (K : KT) (X0 : XT) (s6_ : Sl) (i8 : Int) (s9_ : Sl) (i10 : Int) (h : H) : Prop :=
 bif (decide (i10 < (s6_.len : Int))) then
 ixS s6_ 1 i10 fun p0 =>
 ldS p0 h fun s1 =>
 ixS s1 1 (0) fun p2 =>
 ldI .i64 p2 h fun n3 =>
 ixS s6_ 1 i10 fun p4 =>
 ldS p4 h fun s5 =>
 ixS s5 1 (1) fun p6 =>
 ldI .i64 p6 h fun n7 =>
 newS 2 1 [.int .i64 n3, .int .i64 n7] h fun s8 h9 =>
 app s9_ s8 1 h9 fun s10 h11 =>
 X0 (f27_e0 s6_ i8 s10 (w64 (i10 + (1)))) h11
 else
 f27_C0 S K s6_ i8 s9_ h
theorem f27_link0 (S : SatT) (K : KT) (X0 : XT) (s6_ : Sl) (i8 : Int) (s9_ : Sl) (i10 : Int) (h : H) : f27_w0 S K X0 (f27_e0 s6_ i8 s9_ i10) h = f27_b0 S K X0 s6_ i8 s9_ i10 h := by kernel_rfl
theorem f27_rule0 (S : SatT) (K : KT) (s6_ : Sl) (i8 : Int) (I_ : Sl → Int → H → Prop) (m_ : Sl → Int → H → Nat)
  (hs : ∀ (X0 : XT) (s9_ : Sl) (i10 : Int) (h : H), I_ s9_ i10 h → (∀ (s9_' : Sl) (i10' : Int) (h' : H), I_ s9_' i10' h' → m_ s9_' i10' h' < m_ s9_ i10 h → X0 (f27_e0 s6_ i8 s9_' i10') h') → f27_b0 S K X0 s6_ i8 s9_ i10 h) (s9_ : Sl) (i10 : Int) {h : H} (h0 : I_ s9_ i10 h) : f27_L0 S K s6_ i8 s9_ i10 h :=
 loop_rule (σ := (Sl) × (Int)) (fun s_ => f27_e0 s6_ i8 (s_.1) (s_.2)) (fun s_ h => I_ (s_.1) (s_.2) h) (fun s_ h => m_ (s_.1) (s_.2) h)
  (fun X s_ h hi hx => (f27_link0 S K X s6_ i8 (s_.1) (s_.2) h).mpr (hs X (s_.1) (s_.2) h hi fun s9_' i10' h' hi' hm' => hx (s9_', i10') h' hi' hm')) (s9_, i10) h0
def f27_main (S : SatT) (K : KT) (x0 : List AVal) (x1 : Int) (h : H) : Prop :=
 newK 2 x0 h fun p0 h1 =>
 ldA p0 2 h1 fun cs2 =>
 callV S i_f33 [.agg cs2, .int .i64 x1] h1 fun v4 h3 =>
 viaT v4 fun vs5 =>
 exS vs5 0 fun s6 =>
 viaT v4 fun vs7 =>
 exI .i64 vs7 1 fun n8 =>
 bif (n8 != (0)) then
 K (.tuple [.sl Sl.nil, .int .i64 n8]) h3
 else
 ldA p0 2 h3 fun cs9 =>
 callI S .i64 i_f43 [.agg cs9, .int .i64 x1] h3 fun n11 h10 =>
 newS 0 1 [] h10 fun s12 h13 =>
 f27_L0 S K s6 n11 s12 (0) h13
theorem f27_main_link (S : SatT) (K : KT) (x0 : List AVal) (x1 : Int) (h : H) : cwp S tab f27_M [] (bodyOf Try.f29) (kFun tab Try.f29.results.toList K) (fr0 Try.f29 [.agg x0, .int .i64 x1]) h = f27_main S K x0 x1 h := by kernel_rfl
theorem f27_call (x0 : List AVal) (x1 : Int) (h : H) (K : KT) (hm : f27_main (Sat Try.prog) (fun v h' => K v h') x0 x1 h) : callV (Sat Try.prog) i_f27 [.agg x0, .int .i64 x1] h K := by
 have := Sat.ex tok mixed f27_M Try.func29 (c := bodyOf Try.f29) (by kernel_rfl) (calls_of Try.func29 (c := bodyOf Try.f29) (by kernel_rfl) (by decide)) ((f27_main_link _ _ x0 x1 h).mpr hm)
 exact this
def f66_M : Nat → List Nat := fun i => bif i == 4 then [1, 2, 6, 7, 8, 9, 10] else bif i == 2 then [1, 2, 6, 7, 8, 9] else bif i == 0 then [1, 2, 6, 7] else []
def f66_ks2 (S : SatT) (K : KT) : Kont := kSeq (cwp S tab f66_M [] (sub [1, 1, 1] (bodyOf Try.f68)) (kFun tab (Try.f68).results.toList K)) (kFun tab (Try.f68).results.toList K)
def f66_e0 (i1 : Int) (p2_ : Pt) (s6_ : Sl) (i7 : Int) : Frame := [U, .int .i64 i1, .ptr p2_, U, U, U, .sl s6_, .int .i64 i7, U, U, U, U, U, U, U, U, U, U, U, U, U, U, U, U, U, U, U, U, U, U, U, U, U, U, U, U, U, U, U, U, U, U, U, U, U, U, U, U, U, U, U, U, U, U, U, U, U, U, U, U, U, U, U, U, U, U, U, U, U, U, U, U, U, U, U, U, U, U, U, U, U, U, U, U, U, U, U, U, U, U, U]
def f66_w0 (S : SatT) (K : KT) : (XT) → XT := fun X fr h => cwp S tab f66_M (f66_M 0) (sub [1, 1, 0, 1, 0, 0] (bodyOf Try.f68)) (kSeq (fun fr h => X (mask (f66_M 0) fr) h) (kBlk 0 (f66_ks2 S K))) fr h
def f66_L0 (S : SatT) (K : KT) (i1 : Int) (p2_ : Pt) (s6_ : Sl) (i7 : Int) (h : H) : Prop := loopK (f66_w0 S K) (f66_e0 i1 p2_ s6_ i7) h
def f66_ks6 (S : SatT) (K : KT) (X0 : XT) : Kont := kSeq (cwp S tab f66_M (f66_M 0) (sub [1, 1, 0, 1, 0, 0, 1, 1] (bodyOf Try.f68)) (kSeq (fun fr h => X0 (mask (f66_M 0) fr) h) (kBlk 0 (f66_ks2 S K)))) (kSeq (fun fr h => X0 (mask (f66_M 0) fr) h) (kBlk 0 (f66_ks2 S K)))
def f66_ks8 (S : SatT) (K : KT) (X0 : XT) : Kont := kSeq (cwp S tab f66_M (f66_M 1) (sub [1, 1, 0, 1, 0, 0, 1, 0, 0, 1, 1] (bodyOf Try.f68)) (kBlk 1 (f66_ks6 S K X0))) (kBlk 1 (f66_ks6 S K X0))
def f66_e2 (i1 : Int) (p2_ : Pt) (s6_ : Sl) (i7 : Int) (s8_ : Sl) (i9 : Int) : Frame := [U, .int .i64 i1, .ptr p2_, U, U, U, .sl s6_, .int .i64 i7, .sl s8_, .int .i64 i9, U, U, U, U, U, U, U, U, U, U, U, U, U, U, U, U, U, U, U, U, U, U, U, U, U, U, U, U, U, U, U, U, U, U, U, U, U, U, U, U, U, U, U, U, U, U, U, U, U, U, U, U, U, U, U, U, U, U, U, U, U, U, U, U, U, U, U, U, U, U, U, U, U, U, U, U, U, U, U, U, U]
def f66_w2 (S : SatT) (K : KT) (X0 : XT) : (XT) → XT := fun X fr h => cwp S tab f66_M (f66_M 2) (sub [1, 1, 0, 1, 0, 0, 1, 0, 0, 1, 0, 1, 0, 0] (bodyOf Try.f68)) (kSeq (fun fr h => X (mask (f66_M 2) fr) h) (kBlk 2 (f66_ks8 S K X0))) fr h
def f66_L2 (S : SatT) (K : KT) (X0 : XT) (i1 : Int) (p2_ : Pt) (s6_ : Sl) (i7 : Int) (s8_ : Sl) (i9 : Int) (h : H) : Prop := loopK (f66_w2 S K X0) (f66_e2 i1 p2_ s6_ i7 s8_ i9) h
def f66_ks12 (S : SatT) (K : KT) (X0 X2 : XT) : Kont := kSeq (cwp S tab f66_M (f66_M 2) (sub [1, 1, 0, 1, 0, 0, 1, 0, 0, 1, 0, 1, 0, 0, 1, 1] (bodyOf Try.f68)) (kSeq (fun fr h => X2 (mask (f66_M 2) fr) h) (kBlk 2 (f66_ks8 S K X0)))) (kSeq (fun fr h => X2 (mask (f66_M 2) fr) h) (kBlk 2 (f66_ks8 S K X0)))
def f66_e4 (i1 : Int) (p2_ : Pt) (s6_ : Sl) (i7 : Int) (s8_ : Sl) (i9 i10 : Int) : Frame := [U, .int .i64 i1, .ptr p2_, U, U, U, .sl s6_, .int .i64 i7, .sl s8_, .int .i64 i9, .int .i64 i10, U, U, U, U, U, U, U, U, U, U, U, U, U, U, U, U, U, U, U, U, U, U, U, U, U, U, U, U, U, U, U, U, U, U, U, U, U, U, U, U, U, U, U, U, U, U, U, U, U, U, U, U, U, U, U, U, U, U, U, U, U, U, U, U, U, U, U, U, U, U, U, U, U, U, U, U, U, U, U, U]
def f66_w4 (S : SatT) (K : KT) (X0 X2 : XT) : (XT) → XT := fun X fr h => cwp S tab f66_M (f66_M 4) (sub [1, 1, 0, 1, 0, 0, 1, 0, 0, 1, 0, 1, 0, 0, 1, 0, 0, 1, 0, 0] (bodyOf Try.f68)) (kSeq (fun fr h => X (mask (f66_M 4) fr) h) (kBlk 4 (kBlk 3 (f66_ks12 S K X0 X2)))) fr h
def f66_L4 (S : SatT) (K : KT) (X0 X2 : XT) (i1 : Int) (p2_ : Pt) (s6_ : Sl) (i7 : Int) (s8_ : Sl) (i9 i10 : Int) (h : H) : Prop := loopK (f66_w4 S K X0 X2) (f66_e4 i1 p2_ s6_ i7 s8_ i9 i10) h
def f66_C3 (S : SatT) (K : KT) (X0 X2 : XT) (i1 : Int) (p2_ : Pt) (s6_ : Sl) (i7 : Int) (s8_ : Sl) (i9 : Int) (h : H) : Prop :=
 X2 (f66_e2 i1 p2_ s6_ i7 s8_ (w64 (i9 + (1)))) h
def f66_C4 (S : SatT) (K : KT) (X0 X2 : XT) (i1 : Int) (p2_ : Pt) (s6_ : Sl) (i7 : Int) (s8_ : Sl) (i9 : Int) (h : H) : Prop :=
 f66_C3 S K X0 X2 i1 p2_ s6_ i7 s8_ i9 h
def f66_b4 (S : SatT) (K : KT) (X0 X2 X4 : XT) (i1 : Int) (p2_ : Pt) (s6_ : Sl) (i7 : Int) (s8_ : Sl) (i9 i10 : Int) (h : H) : Prop :=
 isPt p2_ (
 ldS (Pt.add p2_ 1) h fun s0 =>
 bif (decide (i10 < (s0.len : Int))) then
 isPt p2_ (
 ldS (Pt.add p2_ 1) h fun s1 =>
 ixS s1 4 i10 fun p2 =>
 ldA p2 4 h fun cs3 =>
 newO [.int .i64 (0), .int .i64 (0), .int .i64 (0), .int .i64 (0)] h fun p4 h5 =>
 stN p4 4 cs3 h5 fun h6 =>
 ixS s6_ 1 i9 fun p7 =>
 ldS p7 h6 fun s8 =>
 ixS s8 1 (2) fun p9 =>
 ldI .i64 p9 h6 fun n10 =>
 bif (decide (n10 ≥ (0))) then
 ixS s6_ 1 i9 fun p11 =>
 ldS p11 h6 fun s12 =>
 ixS s12 1 (2) fun p13 =>
 ldI .i64 p13 h6 fun n14 =>
 ixA p4 4 1 (1) fun p15 =>
 ldI .i64 p15 h6 fun n16 =>
 bif (n14 != n16) then
 X4 (f66_e4 i1 p2_ s6_ i7 s8_ i9 (w64 (i10 + (1)))) h6
 else
 bif ((s8_.len : Int) == (5000)) then
 K (.tuple [.sl Sl.nil, .bool false]) h6
 else
 ixS s6_ 1 i9 fun p17 =>
 ldS p17 h6 fun s18 =>
 ixS s18 1 (0) fun p19 =>
 ldI .i64 p19 h6 fun n20 =>
 isPt p2_ (
 ldI .i64 (Pt.add p2_ 0) h6 fun n21 =>
 ixA p4 4 1 (0) fun p22 =>
 ldI .i64 p22 h6 fun n23 =>
 ixS s6_ 1 i9 fun p24 =>
 ldS p24 h6 fun s25 =>
 ixS s25 1 (1) fun p26 =>
 ldI .i64 p26 h6 fun n27 =>
 isPt p2_ (
 ldI .i64 (Pt.add p2_ 0) h6 fun n28 =>
 ixA p4 4 1 (2) fun p29 =>
 ldI .i64 p29 h6 fun n30 =>
 ixA p4 4 1 (3) fun p31 =>
 ldI .i64 p31 h6 fun n32 =>
 newS 3 1 [.int .i64 (w64 ((w64 (n20 * n21)) + n23)), .int .i64 (w64 ((w64 (n27 * n28)) + n30)), .int .i64 n32] h6 fun s33 h34 =>
 newS 1 1 [.sl s33] h34 fun s35 h36 =>
 app s8_ s35 1 h36 fun s37 h38 =>
 X4 (f66_e4 i1 p2_ s6_ i7 s37 i9 (w64 (i10 + (1)))) h38))
 else
 bif ((s8_.len : Int) == (5000)) then
 K (.tuple [.sl Sl.nil, .bool false]) h6
 else
 ixS s6_ 1 i9 fun p39 =>
 ldS p39 h6 fun s40 =>
 ixS s40 1 (0) fun p41 =>
 ldI .i64 p41 h6 fun n42 =>
 isPt p2_ (
 ldI .i64 (Pt.add p2_ 0) h6 fun n43 =>
 ixA p4 4 1 (0) fun p44 =>
 ldI .i64 p44 h6 fun n45 =>
 ixS s6_ 1 i9 fun p46 =>
 ldS p46 h6 fun s47 =>
 ixS s47 1 (1) fun p48 =>
 ldI .i64 p48 h6 fun n49 =>
 isPt p2_ (
 ldI .i64 (Pt.add p2_ 0) h6 fun n50 =>
 ixA p4 4 1 (2) fun p51 =>
 ldI .i64 p51 h6 fun n52 =>
 ixA p4 4 1 (3) fun p53 =>
 ldI .i64 p53 h6 fun n54 =>
 newS 3 1 [.int .i64 (w64 ((w64 (n42 * n43)) + n45)), .int .i64 (w64 ((w64 (n49 * n50)) + n52)), .int .i64 n54] h6 fun s55 h56 =>
 newS 1 1 [.sl s55] h56 fun s57 h58 =>
 app s8_ s57 1 h58 fun s59 h60 =>
 X4 (f66_e4 i1 p2_ s6_ i7 s59 i9 (w64 (i10 + (1)))) h60)))
 else
 f66_C4 S K X0 X2 i1 p2_ s6_ i7 s8_ i9 h)
theorem f66_link4 (S : SatT) (K : KT) (X0 X2 X4 : XT) (i1 : Int) (p2_ : Pt) (s6_ : Sl) (i7 : Int) (s8_ : Sl) (i9 i10 : Int) (h : H) : f66_w4 S K X0 X2 X4 (f66_e4 i1 p2_ s6_ i7 s8_ i9 i10) h = f66_b4 S K X0 X2 X4 i1 p2_ s6_ i7 s8_ i9 i10 h := by kernel_rfl
theorem f66_rule4 (S : SatT) (K : KT) (X0 X2 : XT) (i1 : Int) (p2_ : Pt) (s6_ : Sl) (i7 i9 : Int) (I_ : Sl → Int → H → Prop) (m_ : Sl → Int → H → Nat)
  (hs : ∀ (X4 : XT) (s8_ : Sl) (i10 : Int) (h : H), I_ s8_ i10 h → (∀ (s8_' : Sl) (i10' : Int) (h' : H), I_ s8_' i10' h' → m_ s8_' i10' h' < m_ s8_ i10 h → X4 (f66_e4 i1 p2_ s6_ i7 s8_' i9 i10') h') → f66_b4 S K X0 X2 X4 i1 p2_ s6_ i7 s8_ i9 i10 h) (s8_ : Sl) (i10 : Int) {h : H} (h0 : I_ s8_ i10 h) : f66_L4 S K X0 X2 i1 p2_ s6_ i7 s8_ i9 i10 h :=
 loop_rule (σ := (Sl) × (Int)) (fun s_ => f66_e4 i1 p2_ s6_ i7 (s_.1) i9 (s_.2)) (fun s_ h => I_ (s_.1) (s_.2) h) (fun s_ h => m_ (s_.1) (s_.2) h)
  (fun X s_ h hi hx => (f66_link4 S K X0 X2 X i1 p2_ s6_ i7 (s_.1) i9 (s_.2) h).mpr (hs X (s_.1) (s_.2) h hi fun s8_' i10' h' hi' hm' => hx (s8_', i10') h' hi' hm')) (s8_, i10) h0
def f66_C1 (S : SatT) (K : KT) (X0 : XT) (i1 : Int) (p2_ : Pt) (s6_ : Sl) (i7 : Int) (h : H) : Prop :=
 X0 (f66_e0 i1 p2_ s6_ (w64 (i7 + (1)))) h
def f66_C2 (S : SatT) (K : KT) (X0 : XT) (i1 : Int) (p2_ : Pt) (i7 : Int) (s8_ : Sl) (h : H) : Prop :=
 f66_C1 S K X0 i1 p2_ s8_ i7 h
def f66_b2 (S : SatT) (K : KT) (X0 X2 : XT) (i1 : Int) (p2_ : Pt) (s6_ : Sl) (i7 : Int) (s8_ : Sl) (i9 : Int) (h : H) : Prop :=
 bif (decide (i9 < (s6_.len : Int))) then
 f66_L4 S K X0 X2 i1 p2_ s6_ i7 s8_ i9 (0) h
 else
 f66_C2 S K X0 i1 p2_ i7 s8_ h
theorem f66_link2 (S : SatT) (K : KT) (X0 X2 : XT) (i1 : Int) (p2_ : Pt) (s6_ : Sl) (i7 : Int) (s8_ : Sl) (i9 : Int) (h : H) : f66_w2 S K X0 X2 (f66_e2 i1 p2_ s6_ i7 s8_ i9) h = f66_b2 S K X0 X2 i1 p2_ s6_ i7 s8_ i9 h := by kernel_rfl
theorem f66_rule2 (S : SatT) (K : KT) (X0 : XT) (i1 : Int) (p2_ : Pt) (s6_ : Sl) (i7 : Int) (I_ : Sl → Int → H → Prop) (m_ : Sl → Int → H → Nat)
  (hs : ∀ (X2 : XT) (s8_ : Sl) (i9 : Int) (h : H), I_ s8_ i9 h → (∀ (s8_' : Sl) (i9' : Int) (h' : H), I_ s8_' i9' h' → m_ s8_' i9' h' < m_ s8_ i9 h → X2 (f66_e2 i1 p2_ s6_ i7 s8_' i9') h') → f66_b2 S K X0 X2 i1 p2_ s6_ i7 s8_ i9 h) (s8_ : Sl) (i9 : Int) {h : H} (h0 : I_ s8_ i9 h) : f66_L2 S K X0 i1 p2_ s6_ i7 s8_ i9 h :=
 loop_rule (σ := (Sl) × (Int)) (fun s_ => f66_e2 i1 p2_ s6_ i7 (s_.1) (s_.2)) (fun s_ h => I_ (s_.1) (s_.2) h) (fun s_ h => m_ (s_.1) (s_.2) h)
  (fun X s_ h hi hx => (f66_link2 S K X0 X i1 p2_ s6_ i7 (s_.1) (s_.2) h).mpr (hs X (s_.1) (s_.2) h hi fun s8_' i9' h' hi' hm' => hx (s8_', i9') h' hi' hm')) (s8_, i9) h0
def f66_C0 (S : SatT) (K : KT) (s6_ : Sl) (h : H) : Prop :=
 K (.tuple [.sl s6_, .bool true]) h
def f66_b0 (S : SatT) (K : KT) (X0 : XT) (i1 : Int) (p2_ : Pt) (s6_ : Sl) (i7 : Int) (h : H) : Prop :=
 bif (decide (i7 < i1)) then
 newS 0 1 [] h fun s0 h1 =>
 f66_L2 S K X0 i1 p2_ s6_ i7 s0 (0) h1
 else
 f66_C0 S K s6_ h
theorem f66_link0 (S : SatT) (K : KT) (X0 : XT) (i1 : Int) (p2_ : Pt) (s6_ : Sl) (i7 : Int) (h : H) : f66_w0 S K X0 (f66_e0 i1 p2_ s6_ i7) h = f66_b0 S K X0 i1 p2_ s6_ i7 h := by kernel_rfl
theorem f66_rule0 (S : SatT) (K : KT) (i1 : Int) (p2_ : Pt) (I_ : Sl → Int → H → Prop) (m_ : Sl → Int → H → Nat)
  (hs : ∀ (X0 : XT) (s6_ : Sl) (i7 : Int) (h : H), I_ s6_ i7 h → (∀ (s6_' : Sl) (i7' : Int) (h' : H), I_ s6_' i7' h' → m_ s6_' i7' h' < m_ s6_ i7 h → X0 (f66_e0 i1 p2_ s6_' i7') h') → f66_b0 S K X0 i1 p2_ s6_ i7 h) (s6_ : Sl) (i7 : Int) {h : H} (h0 : I_ s6_ i7 h) : f66_L0 S K i1 p2_ s6_ i7 h :=
 loop_rule (σ := (Sl) × (Int)) (fun s_ => f66_e0 i1 p2_ (s_.1) (s_.2)) (fun s_ h => I_ (s_.1) (s_.2) h) (fun s_ h => m_ (s_.1) (s_.2) h)
  (fun X s_ h hi hx => (f66_link0 S K X i1 p2_ (s_.1) (s_.2) h).mpr (hs X (s_.1) (s_.2) h hi fun s6_' i7' h' hi' hm' => hx (s6_', i7') h' hi' hm')) (s6_, i7) h0
def f66_main (S : SatT) (K : KT) (x0 : List AVal) (x1 : Int) (h : H) : Prop :=
 newK 2 x0 h fun p0 h1 =>
 newS 3 1 [.int .i64 (0), .int .i64 (0), .int .i64 (-1)] h1 fun s2 h3 =>
 newS 1 1 [.sl s2] h3 fun s4 h5 =>
 f66_L0 S K x1 p0 s4 (0) h5
theorem f66_main_link (S : SatT) (K : KT) (x0 : List AVal) (x1 : Int) (h : H) : cwp S tab f66_M [] (bodyOf Try.f68) (kFun tab Try.f68.results.toList K) (fr0 Try.f68 [.agg x0, .int .i64 x1]) h = f66_main S K x0 x1 h := by kernel_rfl
theorem f66_call (x0 : List AVal) (x1 : Int) (h : H) (K : KT) (hm : f66_main (Sat Try.prog) (fun v h' => K v h') x0 x1 h) : callV (Sat Try.prog) i_f66 [.agg x0, .int .i64 x1] h K := by
 have := Sat.ex tok mixed f66_M Try.func68 (c := bodyOf Try.f68) (by kernel_rfl) (calls_of Try.func68 (c := bodyOf Try.f68) (by kernel_rfl) (by decide)) ((f66_main_link _ _ x0 x1 h).mpr hm)
 exact this
def f30_M : Nat → List Nat := fun i => bif i == 4 then [7, 9, 11, 13] else bif i == 2 then [7, 9, 11, 12] else bif i == 0 then [7, 9, 10] else []
def f30_ks7 (S : SatT) (K : KT) : Kont := kSeq (cwp S tab f30_M [] (sub [1, 1, 1, 1, 1, 1] (bodyOf Try.f32)) (kFun tab (Try.f32).results.toList K)) (kFun tab (Try.f32).results.toList K)
def f30_e0 (s7_ s9_ : Sl) (i10 : Int) : Frame := [U, U, U, U, U, U, U, .sl s7_, U, .sl s9_, .int .i64 i10, U, U, U, U, U, U, U, U, U, U, U, U, U, U, U, U, U, U, U, U, U, U, U, U, U, U, U, U, U, U, U, U, U, U, U, U, U, U, U, U, U, U, U, U, U, U, U, U, U, U, U, U, U, U, U, U, U, U, U, U, U, U, U, U, U, U, U, U, U, U, U, U, U, U, U, U, U, U, U, U, U, U, U, U, U, U, U, U, U, U]
def f30_w0 (S : SatT) (K : KT) : (XT) → XT := fun X fr h => cwp S tab f30_M (f30_M 0) (sub [1, 1, 1, 1, 1, 0, 1, 0, 0] (bodyOf Try.f32)) (kSeq (fun fr h => X (mask (f30_M 0) fr) h) (kBlk 0 (f30_ks7 S K))) fr h
def f30_L0 (S : SatT) (K : KT) (s7_ s9_ : Sl) (i10 : Int) (h : H) : Prop := loopK (f30_w0 S K) (f30_e0 s7_ s9_ i10) h
def f30_ks17 (S : SatT) (K : KT) : Kont := kSeq (cwp S tab f30_M [] (sub [1, 1, 1, 1, 1, 1, 1, 1, 1, 1] (bodyOf Try.f32)) (kFun tab (Try.f32).results.toList K)) (kFun tab (Try.f32).results.toList K)
def f30_e2 (s7_ s9_ s11_ : Sl) (i12 : Int) : Frame := [U, U, U, U, U, U, U, .sl s7_, U, .sl s9_, U, .sl s11_, .int .i64 i12, U, U, U, U, U, U, U, U, U, U, U, U, U, U, U, U, U, U, U, U, U, U, U, U, U, U, U, U, U, U, U, U, U, U, U, U, U, U, U, U, U, U, U, U, U, U, U, U, U, U, U, U, U, U, U, U, U, U, U, U, U, U, U, U, U, U, U, U, U, U, U, U, U, U, U, U, U, U, U, U, U, U, U, U, U, U, U, U]
def f30_w2 (S : SatT) (K : KT) : (XT) → XT := fun X fr h => cwp S tab f30_M (f30_M 2) (sub [1, 1, 1, 1, 1, 1, 1, 1, 1, 0, 1, 0, 0] (bodyOf Try.f32)) (kSeq (fun fr h => X (mask (f30_M 2) fr) h) (kBlk 2 (f30_ks17 S K))) fr h
def f30_L2 (S : SatT) (K : KT) (s7_ s9_ s11_ : Sl) (i12 : Int) (h : H) : Prop := loopK (f30_w2 S K) (f30_e2 s7_ s9_ s11_ i12) h
def f30_ks22 (S : SatT) (K : KT) : Kont := kSeq (cwp S tab f30_M [] (sub [1, 1, 1, 1, 1, 1, 1, 1, 1, 1, 1] (bodyOf Try.f32)) (kFun tab (Try.f32).results.toList K)) (kFun tab (Try.f32).results.toList K)
def f30_e4 (s7_ s9_ s11_ : Sl) (i13 : Int) : Frame := [U, U, U, U, U, U, U, .sl s7_, U, .sl s9_, U, .sl s11_, U, .int .i64 i13, U, U, U, U, U, U, U, U, U, U, U, U, U, U, U, U, U, U, U, U, U, U, U, U, U, U, U, U, U, U, U, U, U, U, U, U, U, U, U, U, U, U, U, U, U, U, U, U, U, U, U, U, U, U, U, U, U, U, U, U, U, U, U, U, U, U, U, U, U, U, U, U, U, U, U, U, U, U, U, U, U, U, U, U, U, U, U]
def f30_w4 (S : SatT) (K : KT) : (XT) → XT := fun X fr h => cwp S tab f30_M (f30_M 4) (sub [1, 1, 1, 1, 1, 1, 1, 1, 1, 1, 0, 1, 0, 0] (bodyOf Try.f32)) (kSeq (fun fr h => X (mask (f30_M 4) fr) h) (kBlk 4 (f30_ks22 S K))) fr h
def f30_L4 (S : SatT) (K : KT) (s7_ s9_ s11_ : Sl) (i13 : Int) (h : H) : Prop := loopK (f30_w4 S K) (f30_e4 s7_ s9_ s11_ i13) h
def f30_C4 (S : SatT) (K : KT) (s9_ s11_ : Sl) (h : H) : Prop :=
 K (.tuple [.sl s9_, .sl s11_, .int .i64 (0)]) h
def f30_b4 (S : SatT) (K : KT) (X4 : XT) (s7_ s9_ s11_ : Sl) (i13 : Int) (h : H) : Prop :=
 bif (decide (i13 < (s7_.len : Int))) then
 ixS s7_ 1 i13 fun p0 =>
 ldS p0 h fun s1 =>
 ixS s1 1 (0) fun p2 =>
 ldI .i64 p2 h fun n3 =>
 callI S .i64 i_f62 [.sl s9_, .int .i64 n3] h fun n5 h4 =>
 ixS s11_ 1 n5 fun p6 =>
 ldS p6 h4 fun s7 =>
 ixS s7_ 1 i13 fun p8 =>
 ldS p8 h4 fun s9 =>
 ixS s9 1 (1) fun p10 =>
 ldI .i64 p10 h4 fun n11 =>
 callI S .i64 i_f62 [.sl s9_, .int .i64 n11] h4 fun n13 h12 =>
 ixS s7 1 n13 fun p14 =>
 ldI .i64 p14 h12 fun n15 =>
 ixS s7 1 n13 fun p16 =>
 st1 p16 (.int .i64 (w64 (n15 + (1)))) h12 fun h17 =>
 X4 (f30_e4 s7_ s9_ s11_ (w64 (i13 + (1)))) h17
 else
 f30_C4 S K s9_ s11_ h
theorem f30_link4 (S : SatT) (K : KT) (X4 : XT) (s7_ s9_ s11_ : Sl) (i13 : Int) (h : H) : f30_w4 S K X4 (f30_e4 s7_ s9_ s11_ i13) h = f30_b4 S K X4 s7_ s9_ s11_ i13 h := by kernel_rfl
theorem f30_rule4 (S : SatT) (K : KT) (s7_ s9_ s11_ : Sl) (I_ : Int → H → Prop) (m_ : Int → H → Nat)
  (hs : ∀ (X4 : XT) (i13 : Int) (h : H), I_ i13 h → (∀ (i13' : Int) (h' : H), I_ i13' h' → m_ i13' h' < m_ i13 h → X4 (f30_e4 s7_ s9_ s11_ i13') h') → f30_b4 S K X4 s7_ s9_ s11_ i13 h) (i13 : Int) {h : H} (h0 : I_ i13 h) : f30_L4 S K s7_ s9_ s11_ i13 h :=
 loop_rule (σ := (Int)) (fun s_ => f30_e4 s7_ s9_ s11_ (s_)) (fun s_ h => I_ (s_) h) (fun s_ h => m_ (s_) h)
  (fun X s_ h hi hx => (f30_link4 S K X s7_ s9_ s11_ (s_) h).mpr (hs X (s_) h hi fun i13' h' hi' hm' => hx (i13') h' hi' hm')) (i13) h0
def f30_C2 (S : SatT) (K : KT) (s7_ s9_ s11_ : Sl) (h : H) : Prop :=
 f30_L4 S K s7_ s9_ s11_ (0) h
def f30_b2 (S : SatT) (K : KT) (X2 : XT) (s7_ s9_ s11_ : Sl) (i12 : Int) (h : H) : Prop :=
 bif (decide (i12 < (s9_.len : Int))) then
 mkS (s9_.len : Int) [.int .i64 (0)] h fun s0 h1 =>
 newS 1 1 [.sl s0] h1 fun s2 h3 =>
 app s11_ s2 1 h3 fun s4 h5 =>
 X2 (f30_e2 s7_ s9_ s4 (w64 (i12 + (1)))) h5
 else
 f30_C2 S K s7_ s9_ s11_ h
theorem f30_link2 (S : SatT) (K : KT) (X2 : XT) (s7_ s9_ s11_ : Sl) (i12 : Int) (h : H) : f30_w2 S K X2 (f30_e2 s7_ s9_ s11_ i12) h = f30_b2 S K X2 s7_ s9_ s11_ i12 h := by kernel_rfl
theorem f30_rule2 (S : SatT) (K : KT) (s7_ s9_ : Sl) (I_ : Sl → Int → H → Prop) (m_ : Sl → Int → H → Nat)
  (hs : ∀ (X2 : XT) (s11_ : Sl) (i12 : Int) (h : H), I_ s11_ i12 h → (∀ (s11_' : Sl) (i12' : Int) (h' : H), I_ s11_' i12' h' → m_ s11_' i12' h' < m_ s11_ i12 h → X2 (f30_e2 s7_ s9_ s11_' i12') h') → f30_b2 S K X2 s7_ s9_ s11_ i12 h) (s11_ : Sl) (i12 : Int) {h : H} (h0 : I_ s11_ i12 h) : f30_L2 S K s7_ s9_ s11_ i12 h :=
 loop_rule (σ := (Sl) × (Int)) (fun s_ => f30_e2 s7_ s9_ (s_.1) (s_.2)) (fun s_ h => I_ (s_.1) (s_.2) h) (fun s_ h => m_ (s_.1) (s_.2) h)
  (fun X s_ h hi hx => (f30_link2 S K X s7_ s9_ (s_.1) (s_.2) h).mpr (hs X (s_.1) (s_.2) h hi fun s11_' i12' h' hi' hm' => hx (s11_', i12') h' hi' hm')) (s11_, i12) h0
def f30_C0 (S : SatT) (K : KT) (s7_ s9_ : Sl) (h : H) : Prop :=
 callS S i_f56 [.sl s9_] h fun s1 h0 =>
 bif (decide ((s1.len : Int) > (40))) then
 K (.tuple [.sl Sl.nil, .sl Sl.nil, .int .i64 (3)]) h0
 else
 newS 0 1 [] h0 fun s2 h3 =>
 f30_L2 S K s7_ s1 s2 (0) h3
def f30_b0 (S : SatT) (K : KT) (X0 : XT) (s7_ s9_ : Sl) (i10 : Int) (h : H) : Prop :=
 bif (decide (i10 < (s7_.len : Int))) then
 ixS s7_ 1 i10 fun p0 =>
 ldS p0 h fun s1 =>
 ixS s1 1 (0) fun p2 =>
 ldI .i64 p2 h fun n3 =>
 ixS s7_ 1 i10 fun p4 =>
 ldS p4 h fun s5 =>
 ixS s5 1 (1) fun p6 =>
 ldI .i64 p6 h fun n7 =>
 newS 2 1 [.int .i64 n3, .int .i64 n7] h fun s8 h9 =>
 app s9_ s8 1 h9 fun s10 h11 =>
 X0 (f30_e0 s7_ s10 (w64 (i10 + (1)))) h11
 else
 f30_C0 S K s7_ s9_ h
theorem f30_link0 (S : SatT) (K : KT) (X0 : XT) (s7_ s9_ : Sl) (i10 : Int) (h : H) : f30_w0 S K X0 (f30_e0 s7_ s9_ i10) h = f30_b0 S K X0 s7_ s9_ i10 h := by kernel_rfl
theorem f30_rule0 (S : SatT) (K : KT) (s7_ : Sl) (I_ : Sl → Int → H → Prop) (m_ : Sl → Int → H → Nat)
  (hs : ∀ (X0 : XT) (s9_ : Sl) (i10 : Int) (h : H), I_ s9_ i10 h → (∀ (s9_' : Sl) (i10' : Int) (h' : H), I_ s9_' i10' h' → m_ s9_' i10' h' < m_ s9_ i10 h → X0 (f30_e0 s7_ s9_' i10') h') → f30_b0 S K X0 s7_ s9_ i10 h) (s9_ : Sl) (i10 : Int) {h : H} (h0 : I_ s9_ i10 h) : f30_L0 S K s7_ s9_ i10 h :=
 loop_rule (σ := (Sl) × (Int)) (fun s_ => f30_e0 s7_ (s_.1) (s_.2)) (fun s_ h => I_ (s_.1) (s_.2) h) (fun s_ h => m_ (s_.1) (s_.2) h)
  (fun X s_ h hi hx => (f30_link0 S K X s7_ (s_.1) (s_.2) h).mpr (hs X (s_.1) (s_.2) h hi fun s9_' i10' h' hi' hm' => hx (s9_', i10') h' hi' hm')) (s9_, i10) h0
def f30_main (S : SatT) (K : KT) (x0 : List AVal) (x1 : Int) (h : H) : Prop :=
 newK 2 x0 h fun p0 h1 =>
 ldA p0 2 h1 fun cs2 =>
 callV S i_f33 [.agg cs2, .int .i64 x1] h1 fun v4 h3 =>
 viaT v4 fun vs5 =>
 exS vs5 0 fun s6 =>
 viaT v4 fun vs7 =>
 exI .i64 vs7 1 fun n8 =>
 bif (n8 != (0)) then
 K (.tuple [.sl Sl.nil, .sl Sl.nil, .int .i64 n8]) h3
 else
 ldA p0 2 h3 fun cs9 =>
 callI S .i64 i_f43 [.agg cs9, .int .i64 x1] h3 fun n11 h10 =>
 callS S i_f61 [.sl s6, .int .i64 n11] h10 fun s13 h12 =>
 newS 0 1 [] h12 fun s14 h15 =>
 f30_L0 S K s13 s14 (0) h15
theorem f30_main_link (S : SatT) (K : KT) (x0 : List AVal) (x1 : Int) (h : H) : cwp S tab f30_M [] (bodyOf Try.f32) (kFun tab Try.f32.results.toList K) (fr0 Try.f32 [.agg x0, .int .i64 x1]) h = f30_main S K x0 x1 h := by kernel_rfl
theorem f30_call (x0 : List AVal) (x1 : Int) (h : H) (K : KT) (hm : f30_main (Sat Try.prog) (fun v h' => K v h') x0 x1 h) : callV (Sat Try.prog) i_f30 [.agg x0, .int .i64 x1] h K := by
 have := Sat.ex tok mixed f30_M Try.func32 (c := bodyOf Try.f32) (by kernel_rfl) (calls_of Try.func32 (c := bodyOf Try.f32) (by kernel_rfl) (by decide)) ((f30_main_link _ _ x0 x1 h).mpr hm)
 exact this
def f91_M : Nat → List Nat := fun i => []
def f91_main (S : SatT) (K : KT) (x0 : Pt) (h : H) : Prop :=
 newO [.int .i64 (0), .sl Sl.nil] h fun p0 h1 =>
 callI S .i64 i_f80 [.ptr x0, .int .i64 (4)] h1 fun n3 h2 =>
 bif (n3 == (0)) then
 bif (n3 == (0)) then
 callA S i_f82 [.ptr x0] h2 fun cs5 h4 =>
 stN p0 2 cs5 h4 fun h6 =>
 ldA p0 2 h6 fun cs7 =>
 K (.agg cs7) h6
 else
 bif (n3 == (2)) then
 newS 3 1 [.int .i64 (2), .int .i64 (3), .int .i64 (4)] h2 fun s8 h9 =>
 callI S .i64 i_f67 [.ptr x0, .sl s8] h9 fun n11 h10 =>
 callI S .i64 i_f80 [.ptr x0, .int .i64 (10)] h10 fun n13 h12 =>
 callA S i_f96 [.ptr x0, .int .i64 n11, .int .i64 n13] h12 fun cs15 h14 =>
 newO [.int .i64 (0), .sl Sl.nil] h14 fun p16 h17 =>
 stN p16 2 cs15 h17 fun h18 =>
 isPt p16 (
 ldI .i64 (Pt.add p16 0) h18 fun n19 =>
 callI S .i64 i_f80 [.ptr x0, .int .i64 n19] h18 fun n21 h20 =>
 isPt p16 (
 ldI .i64 (Pt.add p16 0) h20 fun n22 =>
(cell h18 (Pt.add p16 0) = cell h20 (Pt.add p16 0)) ∧ (
 callI S .i64 i_f80 [.ptr x0, .int .i64 n22] h20 fun n24 h23 =>
 slotK 15 h23 fun h25 =>
 isPt p16 (
 ldI .i64 (Pt.add p16 0) h25 fun n26 =>
 isPt p16 (
 ldS (Pt.add p16 1) h25 fun s27 =>
 newSat 0 4 [] h25 (h23.length + 2) fun s28 h29 =>
(cell h29 (Pt.add p16 1) = cell h25 (Pt.add p16 1)) ∧ (
(cell h29 (Pt.add p16 0) = cell h25 (Pt.add p16 0)) ∧ (
 app s28 s27 4 h29 fun s30 h31 =>
(cell h31 (Pt.add p16 0) = cell h25 (Pt.add p16 0)) ∧ (
 lenA [.int .i64 n21, .int .i64 n24, .int .i64 n21, .int .i64 n24] 4 (
 newSat 1 4 (spl [.int .i64 (0), .int .i64 (0), .int .i64 (0), .int .i64 (0)] 0 4 [.int .i64 n21, .int .i64 n24, .int .i64 n21, .int .i64 n24]) h31 (h23.length + 11) fun s32 h33 =>
(cell h31 (Pt.add p16 1) = cell h25 (Pt.add p16 1)) ∧ (
(cell h33 (Pt.add p16 1) = cell h25 (Pt.add p16 1)) ∧ (
(cell h33 (Pt.add p16 0) = cell h25 (Pt.add p16 0)) ∧ (
 app s30 s32 4 h33 fun s34 h35 =>
(cell h35 (Pt.add p16 0) = cell h25 (Pt.add p16 0)) ∧ (
 callA S i_f105 [.int .i64 n26, .sl s34] h35 fun cs37 h36 =>
 stN p0 2 cs37 h36 fun h38 =>
 ldA p0 2 h38 fun cs39 =>
 K (.agg cs39) h38)))))))))))))
 else
 callI S .i64 i_f80 [.ptr x0, .int .i64 (6)] h2 fun n41 h40 =>
 callI S .i64 i_f80 [.ptr x0, .int .i64 (17)] h40 fun n43 h42 =>
 callA S i_f96 [.ptr x0, .int .i64 (w64 ((1) + n41)), .int .i64 n43] h42 fun cs45 h44 =>
 stN p0 2 cs45 h44 fun h46 =>
 ldA p0 2 h46 fun cs47 =>
 K (.agg cs47) h46
 else
 bif (n3 == (1)) then
 callA S i_f82 [.ptr x0] h2 fun cs49 h48 =>
 stN p0 2 cs49 h48 fun h50 =>
 ldA p0 2 h50 fun cs51 =>
 K (.agg cs51) h50
 else
 bif (n3 == (2)) then
 newS 3 1 [.int .i64 (2), .int .i64 (3), .int .i64 (4)] h2 fun s52 h53 =>
 callI S .i64 i_f67 [.ptr x0, .sl s52] h53 fun n55 h54 =>
 callI S .i64 i_f80 [.ptr x0, .int .i64 (10)] h54 fun n57 h56 =>
 callA S i_f96 [.ptr x0, .int .i64 n55, .int .i64 n57] h56 fun cs59 h58 =>
 newO [.int .i64 (0), .sl Sl.nil] h58 fun p60 h61 =>
 stN p60 2 cs59 h61 fun h62 =>
 isPt p60 (
 ldI .i64 (Pt.add p60 0) h62 fun n63 =>
 callI S .i64 i_f80 [.ptr x0, .int .i64 n63] h62 fun n65 h64 =>
 isPt p60 (
 ldI .i64 (Pt.add p60 0) h64 fun n66 =>
(cell h62 (Pt.add p60 0) = cell h64 (Pt.add p60 0)) ∧ (
 callI S .i64 i_f80 [.ptr x0, .int .i64 n66] h64 fun n68 h67 =>
 slotK 15 h67 fun h69 =>
 isPt p60 (
 ldI .i64 (Pt.add p60 0) h69 fun n70 =>
 isPt p60 (
 ldS (Pt.add p60 1) h69 fun s71 =>
 newSat 0 4 [] h69 (h67.length + 2) fun s72 h73 =>
(cell h73 (Pt.add p60 1) = cell h69 (Pt.add p60 1)) ∧ (
(cell h73 (Pt.add p60 0) = cell h69 (Pt.add p60 0)) ∧ (
 app s72 s71 4 h73 fun s74 h75 =>
(cell h75 (Pt.add p60 0) = cell h69 (Pt.add p60 0)) ∧ (
 lenA [.int .i64 n65, .int .i64 n68, .int .i64 n65, .int .i64 n68] 4 (
 newSat 1 4 (spl [.int .i64 (0), .int .i64 (0), .int .i64 (0), .int .i64 (0)] 0 4 [.int .i64 n65, .int .i64 n68, .int .i64 n65, .int .i64 n68]) h75 (h67.length + 11) fun s76 h77 =>
(cell h75 (Pt.add p60 1) = cell h69 (Pt.add p60 1)) ∧ (
(cell h77 (Pt.add p60 1) = cell h69 (Pt.add p60 1)) ∧ (
(cell h77 (Pt.add p60 0) = cell h69 (Pt.add p60 0)) ∧ (
 app s74 s76 4 h77 fun s78 h79 =>
(cell h79 (Pt.add p60 0) = cell h69 (Pt.add p60 0)) ∧ (
 callA S i_f105 [.int .i64 n70, .sl s78] h79 fun cs81 h80 =>
 stN p0 2 cs81 h80 fun h82 =>
 ldA p0 2 h82 fun cs83 =>
 K (.agg cs83) h82)))))))))))))
 else
 callI S .i64 i_f80 [.ptr x0, .int .i64 (6)] h2 fun n85 h84 =>
 callI S .i64 i_f80 [.ptr x0, .int .i64 (17)] h84 fun n87 h86 =>
 callA S i_f96 [.ptr x0, .int .i64 (w64 ((1) + n85)), .int .i64 n87] h86 fun cs89 h88 =>
 stN p0 2 cs89 h88 fun h90 =>
 ldA p0 2 h90 fun cs91 =>
 K (.agg cs91) h90
theorem f91_main_link (S : SatT) (K : KT) (x0 : Pt) (h : H) : cwp S tab f91_M [] (bodyOf Try.f93) (kFun tab Try.f93.results.toList K) (fr0 Try.f93 [.ptr x0]) h = f91_main S K x0 h := by kernel_rfl
theorem f91_call (x0 : Pt) (h : H) (K : List AVal → H → Prop) (hm : f91_main (Sat Try.prog) (fun v h' => ∃ r, v = .agg r ∧ K r h') x0 h) : callA (Sat Try.prog) i_f91 [.ptr x0] h K := by
 have := Sat.ex tok mixed f91_M Try.func93 (c := bodyOf Try.f93) (by kernel_rfl) (calls_of Try.func93 (c := bodyOf Try.f93) (by kernel_rfl) (by decide)) ((f91_main_link _ _ x0 h).mpr hm)
 obtain ⟨v, h2, h3, r, rfl, h4⟩ := this; exact ⟨r, h2, h3, h4⟩
def f93_M : Nat → List Nat := fun i => bif i == 0 then [0, 2, 4, 5, 6] else []
def f93_ks3 (S : SatT) (K : KT) : Kont := kSeq (cwp S tab f93_M [] (sub [1, 1, 1, 1] (bodyOf Try.f95)) (kFun tab (Try.f95).results.toList K)) (kFun tab (Try.f95).results.toList K)
def f93_e0 (f0_ : AVal) (p2_ : Pt) (s4_ s5_ : Sl) (i6 : Int) : Frame := [f0_, U, .ptr p2_, U, .sl s4_, .sl s5_, .int .i64 i6, U, U, U, U, U, U, U, U, U, U, U, U, U, U, U, U, U, U, U, U, U, U, U, U, U, U]
def f93_w0 (S : SatT) (K : KT) : (XT) → XT := fun X fr h => cwp S tab f93_M (f93_M 0) (sub [1, 1, 1, 0, 1, 0, 0] (bodyOf Try.f95)) (kSeq (fun fr h => X (mask (f93_M 0) fr) h) (kBlk 0 (f93_ks3 S K))) fr h
def f93_L0 (S : SatT) (K : KT) (f0_ : AVal) (p2_ : Pt) (s4_ s5_ : Sl) (i6 : Int) (h : H) : Prop := loopK (f93_w0 S K) (f93_e0 f0_ p2_ s4_ s5_ i6) h
def f93_C0 (S : SatT) (K : KT) (p2_ : Pt) (h : H) : Prop :=
 stN p2_ 2 [.int .i64 (0), .sl Sl.nil] h fun h0 =>
 ldA p2_ 2 h0 fun cs1 =>
 K (.tuple [.agg cs1, .bool false]) h0
def f93_b0 (S : SatT) (K : KT) (X0 : XT) (f0_ : AVal) (p2_ : Pt) (s4_ s5_ : Sl) (i6 : Int) (h : H) : Prop :=
 bif (decide (i6 < (s4_.len : Int))) then
 ixS s4_ 1 i6 fun p0 =>
 ldV p0 h fun v1 =>
 strEq v1 f0_ fun b2 =>
 bif b2 then
 ixS s5_ 1 i6 fun p3 =>
 ldV p3 h fun v4 =>
 callV S i_f106 [v4] h fun v6 h5 =>
 viaT v6 fun vs7 =>
 exA vs7 0 fun cs8 =>
 viaT v6 fun vs9 =>
 exB vs9 1 fun b10 =>
 newO [.int .i64 (0), .sl Sl.nil] h5 fun p11 h12 =>
 stN p11 2 cs8 h12 fun h13 =>
 ldA p11 2 h13 fun cs14 =>
 stN p2_ 2 cs14 h13 fun h15 =>
 ldA p2_ 2 h15 fun cs16 =>
 K (.tuple [.agg cs16, .bool true]) h15
 else
 X0 (f93_e0 f0_ p2_ s4_ s5_ (w64 (i6 + (1)))) h
 else
 f93_C0 S K p2_ h
theorem f93_link0 (S : SatT) (K : KT) (X0 : XT) (f0_ : AVal) (p2_ : Pt) (s4_ s5_ : Sl) (i6 : Int) (h : H) : f93_w0 S K X0 (f93_e0 f0_ p2_ s4_ s5_ i6) h = f93_b0 S K X0 f0_ p2_ s4_ s5_ i6 h := by kernel_rfl
theorem f93_rule0 (S : SatT) (K : KT) (f0_ : AVal) (p2_ : Pt) (s4_ s5_ : Sl) (I_ : Int → H → Prop) (m_ : Int → H → Nat)
  (hs : ∀ (X0 : XT) (i6 : Int) (h : H), I_ i6 h → (∀ (i6' : Int) (h' : H), I_ i6' h' → m_ i6' h' < m_ i6 h → X0 (f93_e0 f0_ p2_ s4_ s5_ i6') h') → f93_b0 S K X0 f0_ p2_ s4_ s5_ i6 h) (i6 : Int) {h : H} (h0 : I_ i6 h) : f93_L0 S K f0_ p2_ s4_ s5_ i6 h :=
 loop_rule (σ := (Int)) (fun s_ => f93_e0 f0_ p2_ s4_ s5_ (s_)) (fun s_ h => I_ (s_) h) (fun s_ h => m_ (s_) h)
  (fun X s_ h hi hx => (f93_link0 S K X f0_ p2_ s4_ s5_ (s_) h).mpr (hs X (s_) h hi fun i6' h' hi' hm' => hx (i6') h' hi' hm')) (i6) h0
def f93_main (S : SatT) (K : KT) (x0 : AVal) (h : H) : Prop :=
 newO [.int .i64 (0), .sl Sl.nil] h fun p0 h1 =>
 callS S i_f92 [] h1 fun s3 h2 =>
 newS 8 1 [.str (⟨#[49, 58, 48, 48, 48, 48]⟩ : ByteArray), .str (⟨#[50, 58, 48, 48, 49, 49, 44, 49, 49, 48, 48]⟩ : ByteArray), .str (⟨#[50, 58, 48, 48, 48, 48, 44, 48, 49, 48, 49, 44, 49, 48, 49, 48, 44, 49, 49, 49, 49]⟩ : ByteArray), .str (⟨#[50, 58, 48, 48, 48, 48, 44, 48, 49, 49, 48, 44, 49, 48, 48, 49, 44, 49, 49, 49, 49]⟩ : ByteArray), .str (⟨#[50, 58, 48, 48, 48, 48, 44, 48, 49, 49, 49, 44, 49, 48, 49, 49, 44, 49, 49, 48, 48]⟩ : ByteArray), .str (⟨#[50, 58, 48, 48, 48, 48, 44, 48, 48, 49, 49, 44, 48, 49, 48, 49, 44, 49, 49, 49, 48]⟩ : ByteArray), .str (⟨#[50, 58, 48, 48, 48, 49]⟩ : ByteArray), .str (⟨#[51, 58, 48, 49, 50, 48, 44, 49, 50, 48, 49, 44, 50, 48, 49, 50]⟩ : ByteArray)] h2 fun s4 h5 =>
 f93_L0 S K x0 p0 s3 s4 (0) h5
theorem f93_main_link (S : SatT) (K : KT) (x0 : AVal) (h : H) : cwp S tab f93_M [] (bodyOf Try.f95) (kFun tab Try.f95.results.toList K) (fr0 Try.f95 [x0]) h = f93_main S K x0 h := by kernel_rfl
theorem f93_call (x0 : AVal) (h : H) (K : KT) (hm : f93_main (Sat Try.prog) (fun v h' => K v h') x0 h) : callV (Sat Try.prog) i_f93 [x0] h K := by
 have := Sat.ex tok mixed f93_M Try.func95 (c := bodyOf Try.f95) (by kernel_rfl) (calls_of Try.func95 (c := bodyOf Try.f95) (by kernel_rfl) (by decide)) ((f93_main_link _ _ x0 h).mpr hm)
 exact this
def f70_M : Nat → List Nat := fun i => bif i == 0 then [7, 8] else []
def f70_ks8 (S : SatT) (K : KT) : Kont := kSeq (cwp S tab f70_M [] (sub [1, 1, 1, 1, 1, 1, 1] (bodyOf Try.f72)) (kFun tab (Try.f72).results.toList K)) (kFun tab (Try.f72).results.toList K)
def f70_e0 (s7_ : Sl) (i8 : Int) : Frame := [U, U, U, U, U, U, U, .sl s7_, .int .i64 i8, U, U, U, U, U, U, U, U, U, U, U, U, U, U, U, U, U, U, U, U, U, U, U, U, U, U, U, U, U, U, U, U, U, U, U, U, U, U, U]
def f70_w0 (S : SatT) (K : KT) : (XT) → XT := fun X fr h => cwp S tab f70_M (f70_M 0) (sub [1, 1, 1, 1, 1, 1, 0, 0, 0] (bodyOf Try.f72)) (kSeq (fun fr h => X (mask (f70_M 0) fr) h) (kBlk 0 (f70_ks8 S K))) fr h
def f70_L0 (S : SatT) (K : KT) (s7_ : Sl) (i8 : Int) (h : H) : Prop := loopK (f70_w0 S K) (f70_e0 s7_ i8) h
def f70_C0 (S : SatT) (K : KT) (s7_ : Sl) (h : H) : Prop :=
 K (.sl s7_) h
def f70_b0 (S : SatT) (K : KT) (X0 : XT) (s7_ : Sl) (i8 : Int) (h : H) : Prop :=
 bif (decide (i8 < (s7_.len : Int))) then
 cut s7_ 1 i8 (s7_.len : Int) h fun s0 =>
 cut s7_ 1 (0) i8 h fun s1 =>
 copyS s0 s1 1 h fun n2 h3 =>
 X0 (f70_e0 s7_ (w64 (i8 + n2))) h3
 else
 f70_C0 S K s7_ h
theorem f70_link0 (S : SatT) (K : KT) (X0 : XT) (s7_ : Sl) (i8 : Int) (h : H) : f70_w0 S K X0 (f70_e0 s7_ i8) h = f70_b0 S K X0 s7_ i8 h := by kernel_rfl
theorem f70_rule0 (S : SatT) (K : KT) (s7_ : Sl) (I_ : Int → H → Prop) (m_ : Int → H → Nat)
  (hs : ∀ (X0 : XT) (i8 : Int) (h : H), I_ i8 h → (∀ (i8' : Int) (h' : H), I_ i8' h' → m_ i8' h' < m_ i8 h → X0 (f70_e0 s7_ i8') h') → f70_b0 S K X0 s7_ i8 h) (i8 : Int) {h : H} (h0 : I_ i8 h) : f70_L0 S K s7_ i8 h :=
 loop_rule (σ := (Int)) (fun s_ => f70_e0 s7_ (s_)) (fun s_ h => I_ (s_) h) (fun s_ h => m_ (s_) h)
  (fun X s_ h hi hx => (f70_link0 S K X s7_ (s_) h).mpr (hs X (s_) h hi fun i8' h' hi' hm' => hx (i8') h' hi' hm')) (i8) h0
def f70_main (S : SatT) (K : KT) (x0 : Sl) (x1 : Int) (h : H) : Prop :=
 bif (decide (x1 < (0))) then
 False
 else
 callV S i_f89 [.int .u64 (IntKind.wrap .u64 ((x0.len : Int))), .int .u64 (IntKind.wrap .u64 (x1))] h fun v1 h0 =>
 viaT v1 fun vs2 =>
 exI .u64 vs2 0 fun n3 =>
 viaT v1 fun vs4 =>
 exI .u64 vs4 1 fun n5 =>
 bif (decide (n3 > (0))) then
 False
 else
 bif (decide (n5 > (9223372036854775807))) then
 False
 else
 mkS (w64 (n5)) [.int .i64 (0)] h0 fun s6 h7 =>
 copyS s6 x0 1 h7 fun n8 h9 =>
 f70_L0 S K s6 n8 h9
theorem f70_main_link (S : SatT) (K : KT) (x0 : Sl) (x1 : Int) (h : H) : cwp S tab f70_M [] (bodyOf Try.f72) (kFun tab Try.f72.results.toList K) (fr0 Try.f72 [.sl x0, .int .i64 x1]) h = f70_main S K x0 x1 h := by kernel_rfl
theorem f70_call (x0 : Sl) (x1 : Int) (h : H) (K : Sl → H → Prop) (hm : f70_main (Sat Try.prog) (fun v h' => ∃ r, v = .sl r ∧ K r h') x0 x1 h) : callS (Sat Try.prog) i_f70 [.sl x0, .int .i64 x1] h K := by
 have := Sat.ex tok mixed f70_M Try.func72 (c := bodyOf Try.f72) (by kernel_rfl) (calls_of Try.func72 (c := bodyOf Try.f72) (by kernel_rfl) (by decide)) ((f70_main_link _ _ x0 x1 h).mpr hm)
 obtain ⟨v, h2, h3, r, rfl, h4⟩ := this; exact ⟨r, h2, h3, h4⟩
def f69_M : Nat → List Nat := fun i => bif i == 0 then [1, 6, 7, 8] else []
def f69_ks1 (S : SatT) (K : KT) : Kont := kSeq (cwp S tab f69_M [] (sub [1, 1] (bodyOf Try.f71)) (kFun tab (Try.f71).results.toList K)) (kFun tab (Try.f71).results.toList K)
def f69_e0 (p1_ : Pt) (s6_ : Sl) (i7 i8 : Int) : Frame := [U, .ptr p1_, U, U, U, U, .sl s6_, .int .i64 i7, .int .i64 i8, U, U, U, U, U, U, U, U, U, U, U, U, U, U, U, U, U, U, U, U, U, U, U, U, U, U, U, U, U, U, U, U, U, U]
def f69_w0 (S : SatT) (K : KT) : (XT) → XT := fun X fr h => cwp S tab f69_M (f69_M 0) (sub [1, 0, 1, 0, 0] (bodyOf Try.f71)) (kSeq (fun fr h => X (mask (f69_M 0) fr) h) (kBlk 0 (f69_ks1 S K))) fr h
def f69_L0 (S : SatT) (K : KT) (p1_ : Pt) (s6_ : Sl) (i7 i8 : Int) (h : H) : Prop := loopK (f69_w0 S K) (f69_e0 p1_ s6_ i7 i8) h
def f69_C0 (S : SatT) (K : KT) (p1_ : Pt) (h : H) : Prop :=
 isPt p1_ (
 ldI .i64 (Pt.add p1_ 0) h fun n0 =>
 callB S i_f37 [.int .i64 n0, .int .i64 (1), .int .i64 (6)] h fun b2 h1 =>
 bif b2 then
 isPt p1_ (
 ldS (Pt.add p1_ 1) h1 fun s3 =>
 K (.bool (decide ((s3.len : Int) ≤ (16)))) h1)
 else
 K (.bool false) h1)
def f69_b0 (S : SatT) (K : KT) (X0 : XT) (p1_ : Pt) (s6_ : Sl) (i7 i8 : Int) (h : H) : Prop :=
 bif (decide (i8 < i7)) then
 ixS s6_ 4 i8 fun p0 =>
 ldA p0 4 h fun cs1 =>
 newO [.int .i64 (0), .int .i64 (0), .int .i64 (0), .int .i64 (0)] h fun p2 h3 =>
 stN p2 4 cs1 h3 fun h4 =>
 ldA p2 4 h4 fun cs5 =>
 isPt p1_ (
 ldI .i64 (Pt.add p1_ 0) h4 fun n6 =>
 callB S i_f87 [.agg cs5, .int .i64 n6] h4 fun b8 h7 =>
 bif (!b8) then
 K (.bool false) h7
 else
 bif (decide (i8 > (0))) then
 isPt p1_ (
 ldS (Pt.add p1_ 1) h7 fun s9 =>
 ixS s9 4 (w64 (i8 - (1))) fun p10 =>
 ldA p10 4 h7 fun cs11 =>
 ldA p2 4 h7 fun cs12 =>
 callI S .i64 i_f88 [.agg cs11, .agg cs12] h7 fun n14 h13 =>
 bif (decide (n14 ≥ (0))) then
 K (.bool false) h13
 else
 X0 (f69_e0 p1_ s6_ i7 (w64 (i8 + (1)))) h13)
 else
 X0 (f69_e0 p1_ s6_ i7 (w64 (i8 + (1)))) h7)
 else
 f69_C0 S K p1_ h
theorem f69_link0 (S : SatT) (K : KT) (X0 : XT) (p1_ : Pt) (s6_ : Sl) (i7 i8 : Int) (h : H) : f69_w0 S K X0 (f69_e0 p1_ s6_ i7 i8) h = f69_b0 S K X0 p1_ s6_ i7 i8 h := by kernel_rfl
theorem f69_rule0 (S : SatT) (K : KT) (p1_ : Pt) (s6_ : Sl) (i7 : Int) (I_ : Int → H → Prop) (m_ : Int → H → Nat)
  (hs : ∀ (X0 : XT) (i8 : Int) (h : H), I_ i8 h → (∀ (i8' : Int) (h' : H), I_ i8' h' → m_ i8' h' < m_ i8 h → X0 (f69_e0 p1_ s6_ i7 i8') h') → f69_b0 S K X0 p1_ s6_ i7 i8 h) (i8 : Int) {h : H} (h0 : I_ i8 h) : f69_L0 S K p1_ s6_ i7 i8 h :=
 loop_rule (σ := (Int)) (fun s_ => f69_e0 p1_ s6_ i7 (s_)) (fun s_ h => I_ (s_) h) (fun s_ h => m_ (s_) h)
  (fun X s_ h hi hx => (f69_link0 S K X p1_ s6_ i7 (s_) h).mpr (hs X (s_) h hi fun i8' h' hi' hm' => hx (i8') h' hi' hm')) (i8) h0
def f69_main (S : SatT) (K : KT) (x0 : List AVal) (h : H) : Prop :=
 newK 2 x0 h fun p0 h1 =>
 isPt p0 (
 ldS (Pt.add p0 1) h1 fun s2 =>
 f69_L0 S K p0 s2 (s2.len : Int) (0) h1)
theorem f69_main_link (S : SatT) (K : KT) (x0 : List AVal) (h : H) : cwp S tab f69_M [] (bodyOf Try.f71) (kFun tab Try.f71.results.toList K) (fr0 Try.f71 [.agg x0]) h = f69_main S K x0 h := by kernel_rfl
theorem f69_call (x0 : List AVal) (h : H) (K : Bool → H → Prop) (hm : f69_main (Sat Try.prog) (fun v h' => ∃ r, v = .bool r ∧ K r h') x0 h) : callB (Sat Try.prog) i_f69 [.agg x0] h K := by
 have := Sat.ex tok mixed f69_M Try.func71 (c := bodyOf Try.f71) (by kernel_rfl) (calls_of Try.func71 (c := bodyOf Try.f71) (by kernel_rfl) (by decide)) ((f69_main_link _ _ x0 h).mpr hm)
 obtain ⟨v, h2, h3, r, rfl, h4⟩ := this; exact ⟨r, h2, h3, h4⟩
def f62_M : Nat → List Nat := fun i => bif i == 0 then [0, 1, 5, 6] else []
def f62_ks2 (S : SatT) (K : KT) : Kont := kSeq (cwp S tab f62_M [] (sub [1, 1, 1] (bodyOf Try.f64)) (kFun tab (Try.f64).results.toList K)) (kFun tab (Try.f64).results.toList K)
def f62_e0 (s0_ : Sl) (i1 i5 i6 : Int) : Frame := [.sl s0_, .int .i64 i1, U, U, U, .int .i64 i5, .int .i64 i6, U, U, U, U, U, U, U, U, U, U, U, U, U, U, U, U, U, U, U, U, U, U, U, U, U, U, U, U, U, U, U, U]
def f62_w0 (S : SatT) (K : KT) : (XT) → XT := fun X fr h => cwp S tab f62_M (f62_M 0) (sub [1, 1, 0, 0, 0] (bodyOf Try.f64)) (kSeq (fun fr h => X (mask (f62_M 0) fr) h) (kBlk 0 (f62_ks2 S K))) fr h
def f62_L0 (S : SatT) (K : KT) (s0_ : Sl) (i1 i5 i6 : Int) (h : H) : Prop := loopK (f62_w0 S K) (f62_e0 s0_ i1 i5 i6) h
def f62_C0 (S : SatT) (K : KT) (s0_ : Sl) (i1 i5 : Int) (h : H) : Prop :=
 bif (decide (i5 < (s0_.len : Int))) then
 ixS s0_ 1 i5 fun p0 =>
 ldI .i64 p0 h fun n1 =>
 bif (n1 == i1) then
 K (.int .i64 i5) h
 else
 K (.int .i64 (-1)) h
 else
 K (.int .i64 (-1)) h
def f62_b0 (S : SatT) (K : KT) (X0 : XT) (s0_ : Sl) (i1 i5 i6 : Int) (h : H) : Prop :=
 bif (decide (i5 < i6)) then
 nz (2) (
 ixS s0_ 1 (w64 (Int.tdiv (w64 (i5 + i6)) (2))) fun p0 =>
 ldI .i64 p0 h fun n1 =>
 bif (decide (n1 < i1)) then
 X0 (f62_e0 s0_ i1 (w64 ((w64 (Int.tdiv (w64 (i5 + i6)) (2))) + (1))) i6) h
 else
 X0 (f62_e0 s0_ i1 i5 (w64 (Int.tdiv (w64 (i5 + i6)) (2)))) h)
 else
 f62_C0 S K s0_ i1 i5 h
theorem f62_link0 (S : SatT) (K : KT) (X0 : XT) (s0_ : Sl) (i1 i5 i6 : Int) (h : H) : f62_w0 S K X0 (f62_e0 s0_ i1 i5 i6) h = f62_b0 S K X0 s0_ i1 i5 i6 h := by kernel_rfl
theorem f62_rule0 (S : SatT) (K : KT) (s0_ : Sl) (i1 : Int) (I_ : Int → Int → H → Prop) (m_ : Int → Int → H → Nat)
  (hs : ∀ (X0 : XT) (i5 i6 : Int) (h : H), I_ i5 i6 h → (∀ (i5' i6' : Int) (h' : H), I_ i5' i6' h' → m_ i5' i6' h' < m_ i5 i6 h → X0 (f62_e0 s0_ i1 i5' i6') h') → f62_b0 S K X0 s0_ i1 i5 i6 h) (i5 i6 : Int) {h : H} (h0 : I_ i5 i6 h) : f62_L0 S K s0_ i1 i5 i6 h :=
 loop_rule (σ := (Int) × (Int)) (fun s_ => f62_e0 s0_ i1 (s_.1) (s_.2)) (fun s_ h => I_ (s_.1) (s_.2) h) (fun s_ h => m_ (s_.1) (s_.2) h)
  (fun X s_ h hi hx => (f62_link0 S K X s0_ i1 (s_.1) (s_.2) h).mpr (hs X (s_.1) (s_.2) h hi fun i5' i6' h' hi' hm' => hx (i5', i6') h' hi' hm')) (i5, i6) h0
def f62_main (S : SatT) (K : KT) (x0 : Sl) (x1 : Int) (h : H) : Prop :=
 f62_L0 S K x0 x1 (0) (x0.len : Int) h
theorem f62_main_link (S : SatT) (K : KT) (x0 : Sl) (x1 : Int) (h : H) : cwp S tab f62_M [] (bodyOf Try.f64) (kFun tab Try.f64.results.toList K) (fr0 Try.f64 [.sl x0, .int .i64 x1]) h = f62_main S K x0 x1 h := by kernel_rfl
theorem f62_call (x0 : Sl) (x1 : Int) (h : H) (K : Int → H → Prop) (hm : f62_main (Sat Try.prog) (fun v h' => ∃ r, v = .int .i64 r ∧ K r h') x0 x1 h) : callI (Sat Try.prog) .i64 i_f62 [.sl x0, .int .i64 x1] h K := by
 have := Sat.ex tok mixed f62_M Try.func64 (c := bodyOf Try.f64) (by kernel_rfl) (calls_of Try.func64 (c := bodyOf Try.f64) (by kernel_rfl) (by decide)) ((f62_main_link _ _ x0 x1 h).mpr hm)
 obtain ⟨v, h2, h3, r, rfl, h4⟩ := this; exact ⟨r, h2, h3, h4⟩
def f86_M : Nat → List Nat := fun i => bif i == 0 then [2, 3, 5] else []
def f86_ks1 (S : SatT) (K : KT) : Kont := kSeq (cwp S tab f86_M [] (sub [1, 1] (bodyOf Try.f88)) (kFun tab (Try.f88).results.toList K)) (kFun tab (Try.f88).results.toList K)
def f86_e0 (p2_ p3_ : Pt) (i5 : Int) : Frame := [U, U, .ptr p2_, .ptr p3_, U, .int .i64 i5, U, U, U, U, U, U, U, U, U, U, U, U, U, U, U, U, U, U]
def f86_w0 (S : SatT) (K : KT) : (XT) → XT := fun X fr h => cwp S tab f86_M (f86_M 0) (sub [1, 0, 1, 0, 0] (bodyOf Try.f88)) (kSeq (fun fr h => X (mask (f86_M 0) fr) h) (kBlk 0 (f86_ks1 S K))) fr h
def f86_L0 (S : SatT) (K : KT) (p2_ p3_ : Pt) (i5 : Int) (h : H) : Prop := loopK (f86_w0 S K) (f86_e0 p2_ p3_ i5) h
def f86_C0 (S : SatT) (K : KT) (h : H) : Prop :=
 K (.bool false) h
def f86_b0 (S : SatT) (K : KT) (X0 : XT) (p2_ p3_ : Pt) (i5 : Int) (h : H) : Prop :=
 bif (decide (i5 < (4))) then
 ixA p2_ 4 1 i5 fun p0 =>
 ldI .i64 p0 h fun n1 =>
 ixA p3_ 4 1 i5 fun p2 =>
 ldI .i64 p2 h fun n3 =>
 bif (n1 != n3) then
 ixA p2_ 4 1 i5 fun p4 =>
 ldI .i64 p4 h fun n5 =>
 ixA p3_ 4 1 i5 fun p6 =>
 ldI .i64 p6 h fun n7 =>
 K (.bool (decide (n5 < n7))) h
 else
 X0 (f86_e0 p2_ p3_ (w64 (i5 + (1)))) h
 else
 f86_C0 S K h
theorem f86_link0 (S : SatT) (K : KT) (X0 : XT) (p2_ p3_ : Pt) (i5 : Int) (h : H) : f86_w0 S K X0 (f86_e0 p2_ p3_ i5) h = f86_b0 S K X0 p2_ p3_ i5 h := by kernel_rfl
theorem f86_rule0 (S : SatT) (K : KT) (p2_ p3_ : Pt) (I_ : Int → H → Prop) (m_ : Int → H → Nat)
  (hs : ∀ (X0 : XT) (i5 : Int) (h : H), I_ i5 h → (∀ (i5' : Int) (h' : H), I_ i5' h' → m_ i5' h' < m_ i5 h → X0 (f86_e0 p2_ p3_ i5') h') → f86_b0 S K X0 p2_ p3_ i5 h) (i5 : Int) {h : H} (h0 : I_ i5 h) : f86_L0 S K p2_ p3_ i5 h :=
 loop_rule (σ := (Int)) (fun s_ => f86_e0 p2_ p3_ (s_)) (fun s_ h => I_ (s_) h) (fun s_ h => m_ (s_) h)
  (fun X s_ h hi hx => (f86_link0 S K X p2_ p3_ (s_) h).mpr (hs X (s_) h hi fun i5' h' hi' hm' => hx (i5') h' hi' hm')) (i5) h0
def f86_main (S : SatT) (K : KT) (x0 x1 : List AVal) (h : H) : Prop :=
 newK 4 x0 h fun p0 h1 =>
 newK 4 x1 h1 fun p2 h3 =>
 f86_L0 S K p0 p2 (0) h3
theorem f86_main_link (S : SatT) (K : KT) (x0 x1 : List AVal) (h : H) : cwp S tab f86_M [] (bodyOf Try.f88) (kFun tab Try.f88.results.toList K) (fr0 Try.f88 [.agg x0, .agg x1]) h = f86_main S K x0 x1 h := by kernel_rfl
theorem f86_call (x0 x1 : List AVal) (h : H) (K : Bool → H → Prop) (hm : f86_main (Sat Try.prog) (fun v h' => ∃ r, v = .bool r ∧ K r h') x0 x1 h) : callB (Sat Try.prog) i_f86 [.agg x0, .agg x1] h K := by
 have := Sat.ex tok mixed f86_M Try.func88 (c := bodyOf Try.f88) (by kernel_rfl) (calls_of Try.func88 (c := bodyOf Try.f88) (by kernel_rfl) (by decide)) ((f86_main_link _ _ x0 x1 h).mpr hm)
 obtain ⟨v, h2, h3, r, rfl, h4⟩ := this; exact ⟨r, h2, h3, h4⟩
def f42_M : Nat → List Nat := fun i => bif i == 0 then [0, 3, 4] else []
def f42_ks2 (S : SatT) (K : KT) : Kont := kSeq (cwp S tab f42_M [] (sub [1, 1, 1] (bodyOf Try.f44)) (kFun tab (Try.f44).results.toList K)) (kFun tab (Try.f44).results.toList K)
def f42_e0 (i0 : Int) (s3_ : Sl) (i4 : Int) : Frame := [.int .i64 i0, U, U, .sl s3_, .int .i64 i4, U, U, U, U, U, U, U, U, U, U]
def f42_w0 (S : SatT) (K : KT) : (XT) → XT := fun X fr h => cwp S tab f42_M (f42_M 0) (sub [1, 1, 0, 1, 0, 0] (bodyOf Try.f44)) (kSeq (fun fr h => X (mask (f42_M 0) fr) h) (kBlk 0 (f42_ks2 S K))) fr h
def f42_L0 (S : SatT) (K : KT) (i0 : Int) (s3_ : Sl) (i4 : Int) (h : H) : Prop := loopK (f42_w0 S K) (f42_e0 i0 s3_ i4) h
def f42_C0 (S : SatT) (K : KT) (s3_ : Sl) (h : H) : Prop :=
 K (.sl s3_) h
def f42_b0 (S : SatT) (K : KT) (X0 : XT) (i0 : Int) (s3_ : Sl) (i4 : Int) (h : H) : Prop :=
 bif (decide (i4 < i0)) then
 newS 1 1 [.int .i64 (1)] h fun s0 h1 =>
 app s3_ s0 1 h1 fun s2 h3 =>
 X0 (f42_e0 i0 s2 (w64 (i4 + (1)))) h3
 else
 f42_C0 S K s3_ h
theorem f42_link0 (S : SatT) (K : KT) (X0 : XT) (i0 : Int) (s3_ : Sl) (i4 : Int) (h : H) : f42_w0 S K X0 (f42_e0 i0 s3_ i4) h = f42_b0 S K X0 i0 s3_ i4 h := by kernel_rfl
theorem f42_rule0 (S : SatT) (K : KT) (i0 : Int) (I_ : Sl → Int → H → Prop) (m_ : Sl → Int → H → Nat)
  (hs : ∀ (X0 : XT) (s3_ : Sl) (i4 : Int) (h : H), I_ s3_ i4 h → (∀ (s3_' : Sl) (i4' : Int) (h' : H), I_ s3_' i4' h' → m_ s3_' i4' h' < m_ s3_ i4 h → X0 (f42_e0 i0 s3_' i4') h') → f42_b0 S K X0 i0 s3_ i4 h) (s3_ : Sl) (i4 : Int) {h : H} (h0 : I_ s3_ i4 h) : f42_L0 S K i0 s3_ i4 h :=
 loop_rule (σ := (Sl) × (Int)) (fun s_ => f42_e0 i0 (s_.1) (s_.2)) (fun s_ h => I_ (s_.1) (s_.2) h) (fun s_ h => m_ (s_.1) (s_.2) h)
  (fun X s_ h hi hx => (f42_link0 S K X i0 (s_.1) (s_.2) h).mpr (hs X (s_.1) (s_.2) h hi fun s3_' i4' h' hi' hm' => hx (s3_', i4') h' hi' hm')) (s3_, i4) h0
def f42_main (S : SatT) (K : KT) (x0 : Int) (h : H) : Prop :=
 newS 0 1 [] h fun s0 h1 =>
 f42_L0 S K x0 s0 (0) h1
theorem f42_main_link (S : SatT) (K : KT) (x0 : Int) (h : H) : cwp S tab f42_M [] (bodyOf Try.f44) (kFun tab Try.f44.results.toList K) (fr0 Try.f44 [.int .i64 x0]) h = f42_main S K x0 h := by kernel_rfl
theorem f42_call (x0 : Int) (h : H) (K : Sl → H → Prop) (hm : f42_main (Sat Try.prog) (fun v h' => ∃ r, v = .sl r ∧ K r h') x0 h) : callS (Sat Try.prog) i_f42 [.int .i64 x0] h K := by
 have := Sat.ex tok mixed f42_M Try.func44 (c := bodyOf Try.f44) (by kernel_rfl) (calls_of Try.func44 (c := bodyOf Try.f44) (by kernel_rfl) (by decide)) ((f42_main_link _ _ x0 h).mpr hm)
 obtain ⟨v, h2, h3, r, rfl, h4⟩ := this; exact ⟨r, h2, h3, h4⟩
def f82_M : Nat → List Nat := fun i => []
def f82_main (S : SatT) (K : KT) (x0 : Pt) (h : H) : Prop :=
 newO [.int .i64 (0), .sl Sl.nil] h fun p0 h1 =>
 callI S .i64 i_f80 [.ptr x0, .int .i64 (3)] h1 fun n3 h2 =>
 bif (n3 == (0)) then
 callS S i_f92 [] h2 fun s5 h4 =>
 callI S .i64 i_f80 [.ptr x0, .int .i64 (s5.len : Int)] h4 fun n7 h6 =>
 ixS s5 1 n7 fun p8 =>
 ldV p8 h6 fun v9 =>
 callV S i_f93 [v9] h6 fun v11 h10 =>
 viaT v11 fun vs12 =>
 exA vs12 0 fun cs13 =>
 viaT v11 fun vs14 =>
 exB vs14 1 fun b15 =>
 newO [.int .i64 (0), .sl Sl.nil] h10 fun p16 h17 =>
 stN p16 2 cs13 h17 fun h18 =>
 ldA p16 2 h18 fun cs19 =>
 isPt p16 (
 ldI .i64 (Pt.add p16 0) h18 fun n20 =>
 callS S i_f95 [.ptr x0, .int .i64 n20] h18 fun s22 h21 =>
(range h21 p16.o p16.n p16.off 2 = range h18 p16.o p16.n p16.off 2) ∧ (
 callA S i_f94 [.agg cs19, .sl s22] h21 fun cs24 h23 =>
 stN p0 2 cs24 h23 fun h25 =>
 ldA p0 2 h25 fun cs26 =>
 K (.agg cs26) h25))
 else
 newS 5 1 [.int .i64 (1), .int .i64 (2), .int .i64 (2), .int .i64 (2), .int .i64 (3)] h2 fun s27 h28 =>
 callI S .i64 i_f67 [.ptr x0, .sl s27] h28 fun n30 h29 =>
 newS 3 1 [.int .i64 (3), .int .i64 (6), .int .i64 (9)] h29 fun s31 h32 =>
 callI S .i64 i_f67 [.ptr x0, .sl s31] h32 fun n34 h33 =>
 callI S .i64 i_f80 [.ptr x0, .int .i64 n34] h33 fun n36 h35 =>
 callA S i_f96 [.ptr x0, .int .i64 n30, .int .i64 n36] h35 fun cs38 h37 =>
 stN p0 2 cs38 h37 fun h39 =>
 ldA p0 2 h39 fun cs40 =>
 K (.agg cs40) h39
theorem f82_main_link (S : SatT) (K : KT) (x0 : Pt) (h : H) : cwp S tab f82_M [] (bodyOf Try.f84) (kFun tab Try.f84.results.toList K) (fr0 Try.f84 [.ptr x0]) h = f82_main S K x0 h := by kernel_rfl
theorem f82_call (x0 : Pt) (h : H) (K : List AVal → H → Prop) (hm : f82_main (Sat Try.prog) (fun v h' => ∃ r, v = .agg r ∧ K r h') x0 h) : callA (Sat Try.prog) i_f82 [.ptr x0] h K := by
 have := Sat.ex tok mixed f82_M Try.func84 (c := bodyOf Try.f84) (by kernel_rfl) (calls_of Try.func84 (c := bodyOf Try.f84) (by kernel_rfl) (by decide)) ((f82_main_link _ _ x0 h).mpr hm)
 obtain ⟨v, h2, h3, r, rfl, h4⟩ := this; exact ⟨r, h2, h3, h4⟩
def f80_M : Nat → List Nat := fun i => []
def f80_main (S : SatT) (K : KT) (x0 : Pt) (x1 : Int) (h : H) : Prop :=
 bif (decide (x1 < (1))) then
 K (.int .i64 (0)) h
 else
 nilC (.ptr x0) (
 isPt x0 (
 ldI .u64 (Pt.add x0 2) h fun n0 =>
 nilC (.ptr x0) (
 isPt x0 (
 st1 (Pt.add x0 2) (.int .u64 (IntKind.wrap .u64 ((IntKind.wrap .u64 (n0 * (6364136223846793005))) + (1442695040888963407)))) h fun h1 =>
 nilC (.ptr x0) (
 isPt x0 (
 ldI .u64 (Pt.add x0 2) h1 fun n2 =>
 nn (33) (
 nilC (.ptr x0) (
 isPt x0 (
 ldI .i64 (Pt.add x0 1) h1 fun n3 =>
 nilC (.ptr x0) (
 isPt x0 (
 ldS (Pt.add x0 0) h1 fun s4 =>
 bif (decide (n3 < (s4.len : Int))) then
 nilC (.ptr x0) (
 isPt x0 (
 ldS (Pt.add x0 0) h1 fun s5 =>
 nilC (.ptr x0) (
 isPt x0 (
 ldI .i64 (Pt.add x0 1) h1 fun n6 =>
 ixS s5 1 n6 fun p7 =>
 ldI .u8 p7 h1 fun n8 =>
 nilC (.ptr x0) (
 isPt x0 (
 ldI .i64 (Pt.add x0 1) h1 fun n9 =>
 nilC (.ptr x0) (
 isPt x0 (
 st1 (Pt.add x0 1) (.int .i64 (w64 (n9 + (1)))) h1 fun h10 =>
 nz x1 (
 K (.int .i64 (Int.tmod (w64 ((w64 ((bitsOp .and .u64 (shrI .u64 n2 (33)) (16777215)))) + (w64 (n8)))) x1)) h10)))))))))
 else
 nz x1 (
 K (.int .i64 (Int.tmod (w64 ((bitsOp .and .u64 (shrI .u64 n2 (33)) (16777215)))) x1)) h1))))))))))))
theorem f80_main_link (S : SatT) (K : KT) (x0 : Pt) (x1 : Int) (h : H) : cwp S tab f80_M [] (bodyOf Try.f82) (kFun tab Try.f82.results.toList K) (fr0 Try.f82 [.ptr x0, .int .i64 x1]) h = f80_main S K x0 x1 h := by kernel_rfl
theorem f80_call (x0 : Pt) (x1 : Int) (h : H) (K : Int → H → Prop) (hm : f80_main (Sat Try.prog) (fun v h' => ∃ r, v = .int .i64 r ∧ K r h') x0 x1 h) : callI (Sat Try.prog) .i64 i_f80 [.ptr x0, .int .i64 x1] h K := by
 have := Sat.ex tok mixed f80_M Try.func82 (c := bodyOf Try.f82) (by kernel_rfl) (calls_of Try.func82 (c := bodyOf Try.f82) (by kernel_rfl) (by decide)) ((f80_main_link _ _ x0 x1 h).mpr hm)
 obtain ⟨v, h2, h3, r, rfl, h4⟩ := this; exact ⟨r, h2, h3, h4⟩
def f103_M : Nat → List Nat := fun i => []
def f103_main (S : SatT) (K : KT) (x0 x1 : Int) (h : H) : Prop :=
 nn (32) (
 nn (32) (
 nn (32) (
 nn (32) (
 nn (32) (
 K (.tuple [.int .u64 (IntKind.wrap .u64 ((IntKind.wrap .u64 ((IntKind.wrap .u64 ((shrI .u64 x0 (32)) * (shrI .u64 x1 (32)))) + (shrI .u64 (IntKind.wrap .u64 ((IntKind.wrap .u64 ((shrI .u64 x0 (32)) * (bitsOp .and .u64 x1 (4294967295)))) + (shrI .u64 (IntKind.wrap .u64 ((bitsOp .and .u64 x0 (4294967295)) * (bitsOp .and .u64 x1 (4294967295)))) (32)))) (32)))) + (shrI .u64 (IntKind.wrap .u64 ((bitsOp .and .u64 (IntKind.wrap .u64 ((IntKind.wrap .u64 ((shrI .u64 x0 (32)) * (bitsOp .and .u64 x1 (4294967295)))) + (shrI .u64 (IntKind.wrap .u64 ((bitsOp .and .u64 x0 (4294967295)) * (bitsOp .and .u64 x1 (4294967295)))) (32)))) (4294967295)) + (IntKind.wrap .u64 ((bitsOp .and .u64 x0 (4294967295)) * (shrI .u64 x1 (32)))))) (32)))), .int .u64 (IntKind.wrap .u64 (x0 * x1))]) h)))))
theorem f103_main_link (S : SatT) (K : KT) (x0 x1 : Int) (h : H) : cwp S tab f103_M [] (bodyOf Try.f105) (kFun tab Try.f105.results.toList K) (fr0 Try.f105 [.int .u64 x0, .int .u64 x1]) h = f103_main S K x0 x1 h := by kernel_rfl
theorem f103_call (x0 x1 : Int) (h : H) (K : KT) (hm : f103_main (Sat Try.prog) (fun v h' => K v h') x0 x1 h) : callV (Sat Try.prog) i_f103 [.int .u64 x0, .int .u64 x1] h K := by
 have := Sat.ex tok mixed f103_M Try.func105 (c := bodyOf Try.f105) (by kernel_rfl) (calls_of Try.func105 (c := bodyOf Try.f105) (by kernel_rfl) (by decide)) ((f103_main_link _ _ x0 x1 h).mpr hm)
 exact this
def f29_M : Nat → List Nat := fun i => []
def f29_main (S : SatT) (K : KT) (x0 : List AVal) (x1 : Int) (h : H) : Prop :=
 newK 2 x0 h fun p0 h1 =>
 ldA p0 2 h1 fun cs2 =>
 callV S i_f32 [.agg cs2, .int .i64 x1] h1 fun v4 h3 =>
 viaT v4 fun vs5 =>
 exP vs5 0 fun p6 =>
 viaT v4 fun vs7 =>
 exI .i64 vs7 1 fun n8 =>
 bif (n8 != (0)) then
 K (.tuple [.ptr Pt.nil, .sl Sl.nil, .sl Sl.nil, .int .i64 n8]) h3
 else
 callV S i_f60 [.ptr p6] h3 fun v10 h9 =>
 viaT v10 fun vs11 =>
 exS vs11 0 fun s12 =>
 viaT v10 fun vs13 =>
 exS vs13 1 fun s14 =>
 bif (decide ((s12.len : Int) > (40))) then
 K (.tuple [.ptr Pt.nil, .sl Sl.nil, .sl Sl.nil, .int .i64 (3)]) h9
 else
 K (.tuple [.ptr p6, .sl s12, .sl s14, .int .i64 (0)]) h9
theorem f29_main_link (S : SatT) (K : KT) (x0 : List AVal) (x1 : Int) (h : H) : cwp S tab f29_M [] (bodyOf Try.f31) (kFun tab Try.f31.results.toList K) (fr0 Try.f31 [.agg x0, .int .i64 x1]) h = f29_main S K x0 x1 h := by kernel_rfl
theorem f29_call (x0 : List AVal) (x1 : Int) (h : H) (K : KT) (hm : f29_main (Sat Try.prog) (fun v h' => K v h') x0 x1 h) : callV (Sat Try.prog) i_f29 [.agg x0, .int .i64 x1] h K := by
 have := Sat.ex tok mixed f29_M Try.func31 (c := bodyOf Try.f31) (by kernel_rfl) (calls_of Try.func31 (c := bodyOf Try.f31) (by kernel_rfl) (by decide)) ((f29_main_link _ _ x0 x1 h).mpr hm)
 exact this
def f32_M : Nat → List Nat := fun i => []
def f32_main (S : SatT) (K : KT) (x0 : List AVal) (x1 : Int) (h : H) : Prop :=
 newK 2 x0 h fun p0 h1 =>
 newO [.int .i64 x1] h1 fun p2 h3 =>
 ldA p0 2 h3 fun cs4 =>
 callI S .i64 i_f35 [.agg cs4, .func 65 [.ptr p2]] h3 fun n6 h5 =>
 bif (n6 != (0)) then
 K (.tuple [.ptr Pt.nil, .int .i64 n6]) h5
 else
 ldA p0 2 h5 fun cs7 =>
 ldI .i64 p2 h5 fun n8 =>
 callV S i_f64 [.agg cs7, .int .i64 n8] h5 fun v10 h9 =>
 viaT v10 fun vs11 =>
 exP vs11 0 fun p12 =>
 viaT v10 fun vs13 =>
 exB vs13 1 fun b14 =>
 bif (!b14) then
 K (.tuple [.ptr Pt.nil, .int .i64 (3)]) h9
 else
 K (.tuple [.ptr p12, .int .i64 (0)]) h9
theorem f32_main_link (S : SatT) (K : KT) (x0 : List AVal) (x1 : Int) (h : H) : cwp S tab f32_M [] (bodyOf Try.f34) (kFun tab Try.f34.results.toList K) (fr0 Try.f34 [.agg x0, .int .i64 x1]) h = f32_main S K x0 x1 h := by kernel_rfl
theorem f32_call (x0 : List AVal) (x1 : Int) (h : H) (K : KT) (hm : f32_main (Sat Try.prog) (fun v h' => K v h') x0 x1 h) : callV (Sat Try.prog) i_f32 [.agg x0, .int .i64 x1] h K := by
 have := Sat.ex tok mixed f32_M Try.func34 (c := bodyOf Try.f34) (by kernel_rfl) (calls_of Try.func34 (c := bodyOf Try.f34) (by kernel_rfl) (by decide)) ((f32_main_link _ _ x0 x1 h).mpr hm)
 exact this
def f23_M : Nat → List Nat := fun i => []
def f23_main (S : SatT) (K : KT) (x0 : List AVal) (x1 : Int) (h : H) : Prop :=
 newK 2 x0 h fun p0 h1 =>
 ldA p0 2 h1 fun cs2 =>
 callV S i_f29 [.agg cs2, .int .i64 x1] h1 fun v4 h3 =>
 viaT v4 fun vs5 =>
 exP vs5 0 fun p6 =>
 viaT v4 fun vs7 =>
 exS vs7 1 fun s8 =>
 viaT v4 fun vs9 =>
 exS vs9 2 fun s10 =>
 viaT v4 fun vs11 =>
 exI .i64 vs11 3 fun n12 =>
 bif (n12 != (0)) then
 K (.tuple [.bool false, .int .i64 n12]) h3
 else
 callI S .i64 i_f51 [.sl s10] h3 fun n14 h13 =>
 K (.tuple [.bool (n14 == (1)), .int .i64 (0)]) h13
theorem f23_main_link (S : SatT) (K : KT) (x0 : List AVal) (x1 : Int) (h : H) : cwp S tab f23_M [] (bodyOf Try.f25) (kFun tab Try.f25.results.toList K) (fr0 Try.f25 [.agg x0, .int .i64 x1]) h = f23_main S K x0 x1 h := by kernel_rfl
theorem f23_call (x0 : List AVal) (x1 : Int) (h : H) (K : KT) (hm : f23_main (Sat Try.prog) (fun v h' => K v h') x0 x1 h) : callV (Sat Try.prog) i_f23 [.agg x0, .int .i64 x1] h K := by
 have := Sat.ex tok mixed f23_M Try.func25 (c := bodyOf Try.f25) (by kernel_rfl) (calls_of Try.func25 (c := bodyOf Try.f25) (by kernel_rfl) (by decide)) ((f23_main_link _ _ x0 x1 h).mpr hm)
 exact this
def f54_M : Nat → List Nat := fun i => []
def f54_main (S : SatT) (K : KT) (x0 : Int) (x1 x2 : Pt) (h : H) : Prop :=
 ldS x1 h fun s0 =>
 newS 1 1 [.int .i64 x0] h fun s1 h2 =>
 app s0 s1 1 h2 fun s3 h4 =>
 st1 x1 (.sl s3) h4 fun h5 =>
 ldS x1 h5 fun s6 =>
 ldV x2 h5 fun v7 =>
 mlen v7 h5 fun n8 =>
 K (.bool (decide ((s6.len : Int) < (w64 ((w64 ((2) * n8)) + (2)))))) h5
theorem f54_main_link (S : SatT) (K : KT) (x0 : Int) (x1 x2 : Pt) (h : H) : cwp S tab f54_M [] (bodyOf Try.f56) (kFun tab Try.f56.results.toList K) (fr0 Try.f56 [.int .i64 x0, .ptr x1, .ptr x2]) h = f54_main S K x0 x1 x2 h := by kernel_rfl
theorem f54_call (x0 : Int) (x1 x2 : Pt) (h : H) (K : Bool → H → Prop) (hm : f54_main (Sat Try.prog) (fun v h' => ∃ r, v = .bool r ∧ K r h') x0 x1 x2 h) : callB (Sat Try.prog) i_f54 [.int .i64 x0, .ptr x1, .ptr x2] h K := by
 have := Sat.ex tok mixed f54_M Try.func56 (c := bodyOf Try.f56) (by kernel_rfl) (calls_of Try.func56 (c := bodyOf Try.f56) (by kernel_rfl) (by decide)) ((f54_main_link _ _ x0 x1 x2 h).mpr hm)
 obtain ⟨v, h2, h3, r, rfl, h4⟩ := this; exact ⟨r, h2, h3, h4⟩
def f88_M : Nat → List Nat := fun i => []
def f88_main (S : SatT) (K : KT) (x0 x1 : List AVal) (h : H) : Prop :=
 newK 4 x0 h fun p0 h1 =>
 newK 4 x1 h1 fun p2 h3 =>
 cutA p0 4 1 (0) ((4 : Nat) : Int) fun s4 =>
 cutA p2 4 1 (0) ((4 : Nat) : Int) fun s5 =>
 callI S .i64 i_f101 [.sl s4, .sl s5] h3 fun n7 h6 =>
 K (.int .i64 n7) h6
theorem f88_main_link (S : SatT) (K : KT) (x0 x1 : List AVal) (h : H) : cwp S tab f88_M [] (bodyOf Try.f90) (kFun tab Try.f90.results.toList K) (fr0 Try.f90 [.agg x0, .agg x1]) h = f88_main S K x0 x1 h := by kernel_rfl
theorem f88_call (x0 x1 : List AVal) (h : H) (K : Int → H → Prop) (hm : f88_main (Sat Try.prog) (fun v h' => ∃ r, v = .int .i64 r ∧ K r h') x0 x1 h) : callI (Sat Try.prog) .i64 i_f88 [.agg x0, .agg x1] h K := by
 have := Sat.ex tok mixed f88_M Try.func90 (c := bodyOf Try.f90) (by kernel_rfl) (calls_of Try.func90 (c := bodyOf Try.f90) (by kernel_rfl) (by decide)) ((f88_main_link _ _ x0 x1 h).mpr hm)
 obtain ⟨v, h2, h3, r, rfl, h4⟩ := this; exact ⟨r, h2, h3, h4⟩
def f18_M : Nat → List Nat := fun i => []
def f18_main (S : SatT) (K : KT) (x0 : Sl) (h : H) : Prop :=
 newO [.int .i64 (0), .sl Sl.nil] h fun p0 h1 =>
 callV S i_f28 [.sl x0] h1 fun v3 h2 =>
 viaT v3 fun vs4 =>
 exA vs4 0 fun cs5 =>
 viaT v3 fun vs6 =>
 exI .i64 vs6 1 fun n7 =>
 stN p0 2 cs5 h2 fun h8 =>
 ldA p0 2 h8 fun cs9 =>
 K (.tuple [.agg cs9, .int .i64 n7]) h8
theorem f18_main_link (S : SatT) (K : KT) (x0 : Sl) (h : H) : cwp S tab f18_M [] (bodyOf Try.f20) (kFun tab Try.f20.results.toList K) (fr0 Try.f20 [.sl x0]) h = f18_main S K x0 h := by kernel_rfl
theorem f18_call (x0 : Sl) (h : H) (K : KT) (hm : f18_main (Sat Try.prog) (fun v h' => K v h') x0 h) : callV (Sat Try.prog) i_f18 [.sl x0] h K := by
 have := Sat.ex tok mixed f18_M Try.func20 (c := bodyOf Try.f20) (by kernel_rfl) (calls_of Try.func20 (c := bodyOf Try.f20) (by kernel_rfl) (by decide)) ((f18_main_link _ _ x0 h).mpr hm)
 exact this
def f77_M : Nat → List Nat := fun i => []
def f77_main (S : SatT) (K : KT) (x0 : Sl) (h : H) : Prop :=
 bif (isNilS x0) then
 K (.sl Sl.nil) h
 else
 newS 0 1 [] h fun s0 h1 =>
 app s0 x0 1 h1 fun s2 h3 =>
 K (.sl s2) h3
theorem f77_main_link (S : SatT) (K : KT) (x0 : Sl) (h : H) : cwp S tab f77_M [] (bodyOf Try.f79) (kFun tab Try.f79.results.toList K) (fr0 Try.f79 [.sl x0]) h = f77_main S K x0 h := by kernel_rfl
theorem f77_call (x0 : Sl) (h : H) (K : Sl → H → Prop) (hm : f77_main (Sat Try.prog) (fun v h' => ∃ r, v = .sl r ∧ K r h') x0 h) : callS (Sat Try.prog) i_f77 [.sl x0] h K := by
 have := Sat.ex tok mixed f77_M Try.func79 (c := bodyOf Try.f79) (by kernel_rfl) (calls_of Try.func79 (c := bodyOf Try.f79) (by kernel_rfl) (by decide)) ((f77_main_link _ _ x0 h).mpr hm)
 obtain ⟨v, h2, h3, r, rfl, h4⟩ := this; exact ⟨r, h2, h3, h4⟩
def f41_M : Nat → List Nat := fun i => []
def f41_main (S : SatT) (K : KT) (x0 x1 x2 : Int) (h : H) : Prop :=
 bif (decide (x0 ≥ x1)) then
 K (.bool (decide (x0 ≤ x2))) h
 else
 K (.bool false) h
theorem f41_main_link (S : SatT) (K : KT) (x0 x1 x2 : Int) (h : H) : cwp S tab f41_M [] (bodyOf Try.f43) (kFun tab Try.f43.results.toList K) (fr0 Try.f43 [.int .i64 x0, .int .i64 x1, .int .i64 x2]) h = f41_main S K x0 x1 x2 h := by kernel_rfl
theorem f41_call (x0 x1 x2 : Int) (h : H) (K : Bool → H → Prop) (hm : f41_main (Sat Try.prog) (fun v h' => ∃ r, v = .bool r ∧ K r h') x0 x1 x2 h) : callB (Sat Try.prog) i_f41 [.int .i64 x0, .int .i64 x1, .int .i64 x2] h K := by
 have := Sat.ex tok mixed f41_M Try.func43 (c := bodyOf Try.f43) (by kernel_rfl) (calls_of Try.func43 (c := bodyOf Try.f43) (by kernel_rfl) (by decide)) ((f41_main_link _ _ x0 x1 x2 h).mpr hm)
 obtain ⟨v, h2, h3, r, rfl, h4⟩ := this; exact ⟨r, h2, h3, h4⟩
def f39_M : Nat → List Nat := fun i => []
def f39_main (S : SatT) (K : KT) (x0 : Int) (h : H) : Prop :=
 K (.int .i64 (mnI x0 (1000000000000001))) h
theorem f39_main_link (S : SatT) (K : KT) (x0 : Int) (h : H) : cwp S tab f39_M [] (bodyOf Try.f41) (kFun tab Try.f41.results.toList K) (fr0 Try.f41 [.int .i64 x0]) h = f39_main S K x0 h := by kernel_rfl
theorem f39_call (x0 : Int) (h : H) (K : Int → H → Prop) (hm : f39_main (Sat Try.prog) (fun v h' => ∃ r, v = .int .i64 r ∧ K r h') x0 h) : callI (Sat Try.prog) .i64 i_f39 [.int .i64 x0] h K := by
 have := Sat.ex tok mixed f39_M Try.func41 (c := bodyOf Try.f41) (by kernel_rfl) (calls_of Try.func41 (c := bodyOf Try.f41) (by kernel_rfl) (by decide)) ((f39_main_link _ _ x0 h).mpr hm)
 obtain ⟨v, h2, h3, r, rfl, h4⟩ := this; exact ⟨r, h2, h3, h4⟩
end Go.Proofs.Ytcoampecbpiecaa.Cl
