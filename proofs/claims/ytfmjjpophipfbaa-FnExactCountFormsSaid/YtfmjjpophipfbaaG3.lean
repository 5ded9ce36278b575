/- Typed forms of functions of the program, and their links. Printed by program. No claim is stated here. -/
import Derived.Test.YtfmjjpophipfbaaGTab
set_option linter.unusedVariables false
namespace Go.Proofs.Ytfmjjpophipfbaa.Cl
open Go
/-! ### (loop.example/g01354/impl.Set).isFilling -/
def impl_Set_isFilling_M : Nat → List Nat := fun i => bif i == 2 then [1, 2, 5, 6, 9, 10, 11, 16, 17, 18] else bif i == 0 then [1, 2, 9, 10, 11] else []
def impl_Set_isFilling_ks1 (S : SatT) (K : AVal → H → Prop) : Kont := kSeq (cwp S tab impl_Set_isFilling_M [] (sub [1, 1] (bodyOf Try.f108)) (kFun tab (Try.f108).results.toList K)) (kFun tab (Try.f108).results.toList K)
def impl_Set_isFilling_e0 (s1_ : Sl) (p2_ : Pt) (s9_ : Sl) (i10_ : Int) (i11_ : Int) : Frame := [U, .sl s1_, .ptr p2_, U, U, U, U, U, U, .sl s9_, .int .i64 i10_, .int .i64 i11_, U, U, U, U, U, U, U, U, U, U, U, U, U, U, U, U, U, U, U, U, U, U, U, U, U, U, U, U, U, U, U, U, U, U, U, U, U, U, U, U, U, U, U, U, U, U, U, U, U, U, U, U, U, U, U, U, U, U, U, U]
def impl_Set_isFilling_w0 (S : SatT) (K : AVal → H → Prop) : (Frame → H → Prop) → Frame → H → Prop := fun X fr h => cwp S tab impl_Set_isFilling_M (impl_Set_isFilling_M 0) (sub [1, 0, 1, 0, 0] (bodyOf Try.f108)) (kSeq (fun fr h => X (mask (impl_Set_isFilling_M 0) fr) h) (kBlk 0 (impl_Set_isFilling_ks1 S K))) fr h
def impl_Set_isFilling_L0 (S : SatT) (K : AVal → H → Prop) (s1_ : Sl) (p2_ : Pt) (s9_ : Sl) (i10_ : Int) (i11_ : Int) (h : H) : Prop := loopK (impl_Set_isFilling_w0 S K) (impl_Set_isFilling_e0 s1_ p2_ s9_ i10_ i11_) h
def impl_Set_isFilling_ks5 (S : SatT) (K : AVal → H → Prop) (X0 : Frame → H → Prop) : Kont := kSeq (cwp S tab impl_Set_isFilling_M (impl_Set_isFilling_M 0) (sub [1, 0, 1, 0, 0, 1, 1, 1] (bodyOf Try.f108)) (kSeq (fun fr h => X0 (mask (impl_Set_isFilling_M 0) fr) h) (kBlk 0 (impl_Set_isFilling_ks1 S K)))) (kSeq (fun fr h => X0 (mask (impl_Set_isFilling_M 0) fr) h) (kBlk 0 (impl_Set_isFilling_ks1 S K)))
def impl_Set_isFilling_e2 (s1_ : Sl) (p2_ : Pt) (i5_ : Int) (s6_ : Sl) (s9_ : Sl) (i10_ : Int) (i11_ : Int) (s16_ : Sl) (i17_ : Int) (i18_ : Int) : Frame := [U, .sl s1_, .ptr p2_, U, U, .int .i64 i5_, .sl s6_, U, U, .sl s9_, .int .i64 i10_, .int .i64 i11_, U, U, U, U, .sl s16_, .int .i64 i17_, .int .i64 i18_, U, U, U, U, U, U, U, U, U, U, U, U, U, U, U, U, U, U, U, U, U, U, U, U, U, U, U, U, U, U, U, U, U, U, U, U, U, U, U, U, U, U, U, U, U, U, U, U, U, U, U, U, U]
def impl_Set_isFilling_w2 (S : SatT) (K : AVal → H → Prop) (X0 : Frame → H → Prop) : (Frame → H → Prop) → Frame → H → Prop := fun X fr h => cwp S tab impl_Set_isFilling_M (impl_Set_isFilling_M 2) (sub [1, 0, 1, 0, 0, 1, 1, 0, 0, 1, 1, 0, 0] (bodyOf Try.f108)) (kSeq (fun fr h => X (mask (impl_Set_isFilling_M 2) fr) h) (kBlk 2 (kBlk 1 (impl_Set_isFilling_ks5 S K X0)))) fr h
def impl_Set_isFilling_L2 (S : SatT) (K : AVal → H → Prop) (X0 : Frame → H → Prop) (s1_ : Sl) (p2_ : Pt) (i5_ : Int) (s6_ : Sl) (s9_ : Sl) (i10_ : Int) (i11_ : Int) (s16_ : Sl) (i17_ : Int) (i18_ : Int) (h : H) : Prop := loopK (impl_Set_isFilling_w2 S K X0) (impl_Set_isFilling_e2 s1_ p2_ i5_ s6_ s9_ i10_ i11_ s16_ i17_ i18_) h
def impl_Set_isFilling_C1 (S : SatT) (K : AVal → H → Prop) (X0 : Frame → H → Prop) (s1_ : Sl) (p2_ : Pt) (s9_ : Sl) (i10_ : Int) (i11_ : Int) (h : H) : Prop :=
 X0 (impl_Set_isFilling_e0 s1_ p2_ s9_ i10_ (w64 (i11_ + (1)))) h
def impl_Set_isFilling_C2 (S : SatT) (K : AVal → H → Prop) (X0 : Frame → H → Prop) (s1_ : Sl) (p2_ : Pt) (s9_ : Sl) (i10_ : Int) (i11_ : Int) (h : H) : Prop :=
 impl_Set_isFilling_C1 S K X0 s1_ p2_ s9_ i10_ i11_ h
def impl_Set_isFilling_b2 (S : SatT) (K : AVal → H → Prop) (X0 : Frame → H → Prop) (X2 : Frame → H → Prop) (s1_ : Sl) (p2_ : Pt) (i5_ : Int) (s6_ : Sl) (s9_ : Sl) (i10_ : Int) (i11_ : Int) (s16_ : Sl) (i17_ : Int) (i18_ : Int) (h : H) : Prop :=
 bif (decide (i18_ < i17_)) then
 ixS s16_ 1 i18_ fun p0 =>
 ldI .i64 p0 h fun n1 =>
 bif (decide (i18_ > (0))) then
 isPt p2_ (
 ldS (Pt.add p2_ 1) h fun s2 =>
 ixS s6_ 1 (w64 (i18_ - (1))) fun p3 =>
 ldI .i64 p3 h fun n4 =>
 ixS s2 4 n4 fun p5 =>
 ixA p5 4 1 (2) fun p6 =>
 ldI .i64 p6 h fun n7 =>
 isPt p2_ (
 ldS (Pt.add p2_ 1) h fun s8 =>
 ixS s8 4 n1 fun p9 =>
 ixA p9 4 1 (0) fun p10 =>
 ldI .i64 p10 h fun n11 =>
 bif (n7 != n11) then
 K (.bool false) h
 else
 bif (decide (i5_ > (0))) then
 isPt p2_ (
 ldS (Pt.add p2_ 1) h fun s12 =>
 ixS s1_ 1 (w64 (i5_ - (1))) fun p13 =>
 ldS p13 h fun s14 =>
 ixS s14 1 i18_ fun p15 =>
 ldI .i64 p15 h fun n16 =>
 ixS s12 4 n16 fun p17 =>
 ixA p17 4 1 (3) fun p18 =>
 ldI .i64 p18 h fun n19 =>
 isPt p2_ (
 ldS (Pt.add p2_ 1) h fun s20 =>
 ixS s20 4 n1 fun p21 =>
 ixA p21 4 1 (1) fun p22 =>
 ldI .i64 p22 h fun n23 =>
 bif (n19 != n23) then
 K (.bool false) h
 else
 X2 (impl_Set_isFilling_e2 s1_ p2_ i5_ s6_ s9_ i10_ i11_ s16_ i17_ (w64 (i18_ + (1)))) h))
 else
 X2 (impl_Set_isFilling_e2 s1_ p2_ i5_ s6_ s9_ i10_ i11_ s16_ i17_ (w64 (i18_ + (1)))) h))
 else
 bif (decide (i5_ > (0))) then
 isPt p2_ (
 ldS (Pt.add p2_ 1) h fun s24 =>
 ixS s1_ 1 (w64 (i5_ - (1))) fun p25 =>
 ldS p25 h fun s26 =>
 ixS s26 1 i18_ fun p27 =>
 ldI .i64 p27 h fun n28 =>
 ixS s24 4 n28 fun p29 =>
 ixA p29 4 1 (3) fun p30 =>
 ldI .i64 p30 h fun n31 =>
 isPt p2_ (
 ldS (Pt.add p2_ 1) h fun s32 =>
 ixS s32 4 n1 fun p33 =>
 ixA p33 4 1 (1) fun p34 =>
 ldI .i64 p34 h fun n35 =>
 bif (n31 != n35) then
 K (.bool false) h
 else
 X2 (impl_Set_isFilling_e2 s1_ p2_ i5_ s6_ s9_ i10_ i11_ s16_ i17_ (w64 (i18_ + (1)))) h))
 else
 X2 (impl_Set_isFilling_e2 s1_ p2_ i5_ s6_ s9_ i10_ i11_ s16_ i17_ (w64 (i18_ + (1)))) h
 else
 impl_Set_isFilling_C2 S K X0 s1_ p2_ s9_ i10_ i11_ h
theorem impl_Set_isFilling_link2 (S : SatT) (K : AVal → H → Prop) (X0 : Frame → H → Prop) (X2 : Frame → H → Prop) (s1_ : Sl) (p2_ : Pt) (i5_ : Int) (s6_ : Sl) (s9_ : Sl) (i10_ : Int) (i11_ : Int) (s16_ : Sl) (i17_ : Int) (i18_ : Int) (h : H) : impl_Set_isFilling_w2 S K X0 X2 (impl_Set_isFilling_e2 s1_ p2_ i5_ s6_ s9_ i10_ i11_ s16_ i17_ i18_) h = impl_Set_isFilling_b2 S K X0 X2 s1_ p2_ i5_ s6_ s9_ i10_ i11_ s16_ i17_ i18_ h := by kernel_rfl
theorem impl_Set_isFilling_rule2 (S : SatT) (K : AVal → H → Prop) (X0 : Frame → H → Prop) (s1_ : Sl) (p2_ : Pt) (i5_ : Int) (s6_ : Sl) (s9_ : Sl) (i10_ : Int) (i11_ : Int) (s16_ : Sl) (i17_ : Int) (I_ : Int → H → Prop) (m_ : Int → H → Nat)
    (hs : ∀ (X2 : Frame → H → Prop) (i18_ : Int) (h : H), I_ i18_ h → (∀ (i18_' : Int) (h' : H), I_ i18_' h' → m_ i18_' h' < m_ i18_ h → X2 (impl_Set_isFilling_e2 s1_ p2_ i5_ s6_ s9_ i10_ i11_ s16_ i17_ i18_') h') → impl_Set_isFilling_b2 S K X0 X2 s1_ p2_ i5_ s6_ s9_ i10_ i11_ s16_ i17_ i18_ h) (i18_ : Int) {h : H} (h0 : I_ i18_ h) : impl_Set_isFilling_L2 S K X0 s1_ p2_ i5_ s6_ s9_ i10_ i11_ s16_ i17_ i18_ h :=
  loop_rule (σ := (Int)) (fun s_ => impl_Set_isFilling_e2 s1_ p2_ i5_ s6_ s9_ i10_ i11_ s16_ i17_ (s_)) (fun s_ h => I_ (s_) h) (fun s_ h => m_ (s_) h)
    (fun X s_ h hi hx => (impl_Set_isFilling_link2 S K X0 X s1_ p2_ i5_ s6_ s9_ i10_ i11_ s16_ i17_ (s_) h).mpr (hs X (s_) h hi fun i18_' h' hi' hm' => hx (i18_') h' hi' hm')) (i18_) h0
theorem impl_Set_isFilling_unroll2 (S : SatT) (K : AVal → H → Prop) (X0 : Frame → H → Prop) (s1_ : Sl) (p2_ : Pt) (i5_ : Int) (s6_ : Sl) (s9_ : Sl) (i10_ : Int) (i11_ : Int) (s16_ : Sl) (i17_ : Int) (i18_ : Int) (h : H) (hb : impl_Set_isFilling_b2 S K X0 (fun fr h => loopK (impl_Set_isFilling_w2 S K X0) fr h) s1_ p2_ i5_ s6_ s9_ i10_ i11_ s16_ i17_ i18_ h) : impl_Set_isFilling_L2 S K X0 s1_ p2_ i5_ s6_ s9_ i10_ i11_ s16_ i17_ i18_ h := loop_unroll ((impl_Set_isFilling_link2 S K X0 _ s1_ p2_ i5_ s6_ s9_ i10_ i11_ s16_ i17_ i18_ h).mpr hb)
def impl_Set_isFilling_C0 (S : SatT) (K : AVal → H → Prop) (h : H) : Prop :=
 K (.bool true) h
def impl_Set_isFilling_b0 (S : SatT) (K : AVal → H → Prop) (X0 : Frame → H → Prop) (s1_ : Sl) (p2_ : Pt) (s9_ : Sl) (i10_ : Int) (i11_ : Int) (h : H) : Prop :=
 bif (decide (i11_ < i10_)) then
 ixS s9_ 1 i11_ fun p0 =>
 ldS p0 h fun s1 =>
 impl_Set_isFilling_L2 S K X0 s1_ p2_ i11_ s1 s9_ i10_ i11_ s1 (s1.len : Int) (0) h
 else
 impl_Set_isFilling_C0 S K h
theorem impl_Set_isFilling_link0 (S : SatT) (K : AVal → H → Prop) (X0 : Frame → H → Prop) (s1_ : Sl) (p2_ : Pt) (s9_ : Sl) (i10_ : Int) (i11_ : Int) (h : H) : impl_Set_isFilling_w0 S K X0 (impl_Set_isFilling_e0 s1_ p2_ s9_ i10_ i11_) h = impl_Set_isFilling_b0 S K X0 s1_ p2_ s9_ i10_ i11_ h := by kernel_rfl
theorem impl_Set_isFilling_rule0 (S : SatT) (K : AVal → H → Prop) (s1_ : Sl) (p2_ : Pt) (s9_ : Sl) (i10_ : Int) (I_ : Int → H → Prop) (m_ : Int → H → Nat)
    (hs : ∀ (X0 : Frame → H → Prop) (i11_ : Int) (h : H), I_ i11_ h → (∀ (i11_' : Int) (h' : H), I_ i11_' h' → m_ i11_' h' < m_ i11_ h → X0 (impl_Set_isFilling_e0 s1_ p2_ s9_ i10_ i11_') h') → impl_Set_isFilling_b0 S K X0 s1_ p2_ s9_ i10_ i11_ h) (i11_ : Int) {h : H} (h0 : I_ i11_ h) : impl_Set_isFilling_L0 S K s1_ p2_ s9_ i10_ i11_ h :=
  loop_rule (σ := (Int)) (fun s_ => impl_Set_isFilling_e0 s1_ p2_ s9_ i10_ (s_)) (fun s_ h => I_ (s_) h) (fun s_ h => m_ (s_) h)
    (fun X s_ h hi hx => (impl_Set_isFilling_link0 S K X s1_ p2_ s9_ i10_ (s_) h).mpr (hs X (s_) h hi fun i11_' h' hi' hm' => hx (i11_') h' hi' hm')) (i11_) h0
theorem impl_Set_isFilling_unroll0 (S : SatT) (K : AVal → H → Prop) (s1_ : Sl) (p2_ : Pt) (s9_ : Sl) (i10_ : Int) (i11_ : Int) (h : H) (hb : impl_Set_isFilling_b0 S K (fun fr h => loopK (impl_Set_isFilling_w0 S K) fr h) s1_ p2_ s9_ i10_ i11_ h) : impl_Set_isFilling_L0 S K s1_ p2_ s9_ i10_ i11_ h := loop_unroll ((impl_Set_isFilling_link0 S K _ s1_ p2_ s9_ i10_ i11_ h).mpr hb)
def impl_Set_isFilling_main (S : SatT) (K : AVal → H → Prop) (x0 : List AVal) (x1 : Sl) (h : H) : Prop :=
 newK 2 x0 h fun p0 h1 =>
 impl_Set_isFilling_L0 S K x1 p0 x1 (x1.len : Int) (0) h1
theorem impl_Set_isFilling_main_link (S : SatT) (K : AVal → H → Prop) (x0 : List AVal) (x1 : Sl) (h : H) : cwp S tab impl_Set_isFilling_M [] (bodyOf Try.f108) (kFun tab Try.f108.results.toList K) (fr0 Try.f108 [.agg x0, .sl x1]) h = impl_Set_isFilling_main S K x0 x1 h := by kernel_rfl
theorem impl_Set_isFilling_call (x0 : List AVal) (x1 : Sl) (h : H) (K : Bool → H → Prop) (hm : impl_Set_isFilling_main (Sat Try.prog) (fun v h' => ∃ r, v = .bool r ∧ K r h') x0 x1 h) : callB (Sat Try.prog) i_impl_Set_isFilling [.agg x0, .sl x1] h K := by
  have := Sat.ex tok mixed impl_Set_isFilling_M Try.func108 (c := bodyOf Try.f108) (by kernel_rfl) (calls_of Try.func108 (c := bodyOf Try.f108) (by kernel_rfl) (by decide)) ((impl_Set_isFilling_main_link _ _ x0 x1 h).mpr hm)
  obtain ⟨v, h2, h3, r, rfl, h4⟩ := this; exact ⟨r, h2, h3, h4⟩

/-! ### loop.example/g01354/impl.shifted -/
def impl_shifted_M : Nat → List Nat := fun i => bif i == 2 then [0, 1, 2, 7, 8, 9, 10, 11, 20, 21, 25, 26] else bif i == 0 then [0, 1, 2, 7, 8, 9, 20, 21] else []
def impl_shifted_ks2 (S : SatT) (K : AVal → H → Prop) : Kont := kSeq (cwp S tab impl_shifted_M [] (sub [1, 1, 1] (bodyOf Try.f96)) (kFun tab (Try.f96).results.toList K)) (kFun tab (Try.f96).results.toList K)
def impl_shifted_e0 (s0_ : Sl) (i1_ : Int) (i2_ : Int) (s7_ : Sl) (i8_ : Int) (i9_ : Int) (i20_ : Int) (i21_ : Int) : Frame := [.sl s0_, .int .i64 i1_, .int .i64 i2_, U, U, U, U, .sl s7_, .int .i64 i8_, .int .i64 i9_, U, U, U, U, U, U, U, U, U, U, .int .i64 i20_, .int .i64 i21_, U, U, U, U, U, U, U, U, U, U, U, U, U, U, U, U, U, U, U, U, U, U, U, U, U, U, U, U, U, U, U, U]
def impl_shifted_w0 (S : SatT) (K : AVal → H → Prop) : (Frame → H → Prop) → Frame → H → Prop := fun X fr h => cwp S tab impl_shifted_M (impl_shifted_M 0) (sub [1, 1, 0, 1, 0, 0] (bodyOf Try.f96)) (kSeq (fun fr h => X (mask (impl_shifted_M 0) fr) h) (kBlk 0 (impl_shifted_ks2 S K))) fr h
def impl_shifted_L0 (S : SatT) (K : AVal → H → Prop) (s0_ : Sl) (i1_ : Int) (i2_ : Int) (s7_ : Sl) (i8_ : Int) (i9_ : Int) (i20_ : Int) (i21_ : Int) (h : H) : Prop := loopK (impl_shifted_w0 S K) (impl_shifted_e0 s0_ i1_ i2_ s7_ i8_ i9_ i20_ i21_) h
def impl_shifted_ks6 (S : SatT) (K : AVal → H → Prop) (X0 : Frame → H → Prop) : Kont := kSeq (cwp S tab impl_shifted_M (impl_shifted_M 0) (sub [1, 1, 0, 1, 0, 0, 1, 1, 1] (bodyOf Try.f96)) (kSeq (fun fr h => X0 (mask (impl_shifted_M 0) fr) h) (kBlk 0 (impl_shifted_ks2 S K)))) (kSeq (fun fr h => X0 (mask (impl_shifted_M 0) fr) h) (kBlk 0 (impl_shifted_ks2 S K)))
def impl_shifted_ks9 (S : SatT) (K : AVal → H → Prop) (X0 : Frame → H → Prop) : Kont := kSeq (cwp S tab impl_shifted_M (impl_shifted_M 1) (sub [1, 1, 0, 1, 0, 0, 1, 1, 0, 0, 1, 1, 1] (bodyOf Try.f96)) (kBlk 1 (impl_shifted_ks6 S K X0))) (kBlk 1 (impl_shifted_ks6 S K X0))
def impl_shifted_e2 (s0_ : Sl) (i1_ : Int) (i2_ : Int) (s7_ : Sl) (i8_ : Int) (i9_ : Int) (i10_ : Int) (s11_ : Sl) (i20_ : Int) (i21_ : Int) (i25_ : Int) (i26_ : Int) : Frame := [.sl s0_, .int .i64 i1_, .int .i64 i2_, U, U, U, U, .sl s7_, .int .i64 i8_, .int .i64 i9_, .int .i64 i10_, .sl s11_, U, U, U, U, U, U, U, U, .int .i64 i20_, .int .i64 i21_, U, U, U, .int .i64 i25_, .int .i64 i26_, U, U, U, U, U, U, U, U, U, U, U, U, U, U, U, U, U, U, U, U, U, U, U, U, U, U, U]
def impl_shifted_w2 (S : SatT) (K : AVal → H → Prop) (X0 : Frame → H → Prop) : (Frame → H → Prop) → Frame → H → Prop := fun X fr h => cwp S tab impl_shifted_M (impl_shifted_M 2) (sub [1, 1, 0, 1, 0, 0, 1, 1, 0, 0, 1, 1, 0, 1, 0, 0] (bodyOf Try.f96)) (kSeq (fun fr h => X (mask (impl_shifted_M 2) fr) h) (kBlk 2 (impl_shifted_ks9 S K X0))) fr h
def impl_shifted_L2 (S : SatT) (K : AVal → H → Prop) (X0 : Frame → H → Prop) (s0_ : Sl) (i1_ : Int) (i2_ : Int) (s7_ : Sl) (i8_ : Int) (i9_ : Int) (i10_ : Int) (s11_ : Sl) (i20_ : Int) (i21_ : Int) (i25_ : Int) (i26_ : Int) (h : H) : Prop := loopK (impl_shifted_w2 S K X0) (impl_shifted_e2 s0_ i1_ i2_ s7_ i8_ i9_ i10_ s11_ i20_ i21_ i25_ i26_) h
def impl_shifted_C1 (S : SatT) (K : AVal → H → Prop) (X0 : Frame → H → Prop) (s0_ : Sl) (i1_ : Int) (i2_ : Int) (s7_ : Sl) (i8_ : Int) (i9_ : Int) (i20_ : Int) (i21_ : Int) (h : H) : Prop :=
 X0 (impl_shifted_e0 s0_ i1_ i2_ s7_ i8_ i9_ i20_ (w64 (i21_ + (1)))) h
def impl_shifted_C2 (S : SatT) (K : AVal → H → Prop) (X0 : Frame → H → Prop) (s0_ : Sl) (i1_ : Int) (i2_ : Int) (s7_ : Sl) (i8_ : Int) (i9_ : Int) (s11_ : Sl) (i20_ : Int) (i21_ : Int) (h : H) : Prop :=
 newS 1 1 [.sl s11_] h fun s0 h1 =>
 app s7_ s0 1 h1 fun s2 h3 =>
 impl_shifted_C1 S K X0 s0_ i1_ i2_ s2 i8_ i9_ i20_ i21_ h3
def impl_shifted_b2 (S : SatT) (K : AVal → H → Prop) (X0 : Frame → H → Prop) (X2 : Frame → H → Prop) (s0_ : Sl) (i1_ : Int) (i2_ : Int) (s7_ : Sl) (i8_ : Int) (i9_ : Int) (i10_ : Int) (s11_ : Sl) (i20_ : Int) (i21_ : Int) (i25_ : Int) (i26_ : Int) (h : H) : Prop :=
 bif (decide (i26_ < i25_)) then
 nz i8_ (
 ixS s0_ 1 (Int.tmod (w64 (i10_ + i1_)) i8_) fun p0 =>
 ldS p0 h fun s1 =>
 nz i9_ (
 ixS s1 1 (Int.tmod (w64 (i26_ + i2_)) i9_) fun p2 =>
 ldI .i64 p2 h fun n3 =>
 newS 1 1 [.int .i64 n3] h fun s4 h5 =>
 app s11_ s4 1 h5 fun s6 h7 =>
 X2 (impl_shifted_e2 s0_ i1_ i2_ s7_ i8_ i9_ i10_ s6 i20_ i21_ i25_ (w64 (i26_ + (1)))) h7))
 else
 impl_shifted_C2 S K X0 s0_ i1_ i2_ s7_ i8_ i9_ s11_ i20_ i21_ h
theorem impl_shifted_link2 (S : SatT) (K : AVal → H → Prop) (X0 : Frame → H → Prop) (X2 : Frame → H → Prop) (s0_ : Sl) (i1_ : Int) (i2_ : Int) (s7_ : Sl) (i8_ : Int) (i9_ : Int) (i10_ : Int) (s11_ : Sl) (i20_ : Int) (i21_ : Int) (i25_ : Int) (i26_ : Int) (h : H) : impl_shifted_w2 S K X0 X2 (impl_shifted_e2 s0_ i1_ i2_ s7_ i8_ i9_ i10_ s11_ i20_ i21_ i25_ i26_) h = impl_shifted_b2 S K X0 X2 s0_ i1_ i2_ s7_ i8_ i9_ i10_ s11_ i20_ i21_ i25_ i26_ h := by kernel_rfl
theorem impl_shifted_rule2 (S : SatT) (K : AVal → H → Prop) (X0 : Frame → H → Prop) (s0_ : Sl) (i1_ : Int) (i2_ : Int) (s7_ : Sl) (i8_ : Int) (i9_ : Int) (i10_ : Int) (i20_ : Int) (i21_ : Int) (i25_ : Int) (I_ : Sl → Int → H → Prop) (m_ : Sl → Int → H → Nat)
    (hs : ∀ (X2 : Frame → H → Prop) (s11_ : Sl) (i26_ : Int) (h : H), I_ s11_ i26_ h → (∀ (s11_' : Sl) (i26_' : Int) (h' : H), I_ s11_' i26_' h' → m_ s11_' i26_' h' < m_ s11_ i26_ h → X2 (impl_shifted_e2 s0_ i1_ i2_ s7_ i8_ i9_ i10_ s11_' i20_ i21_ i25_ i26_') h') → impl_shifted_b2 S K X0 X2 s0_ i1_ i2_ s7_ i8_ i9_ i10_ s11_ i20_ i21_ i25_ i26_ h) (s11_ : Sl) (i26_ : Int) {h : H} (h0 : I_ s11_ i26_ h) : impl_shifted_L2 S K X0 s0_ i1_ i2_ s7_ i8_ i9_ i10_ s11_ i20_ i21_ i25_ i26_ h :=
  loop_rule (σ := (Sl) × (Int)) (fun s_ => impl_shifted_e2 s0_ i1_ i2_ s7_ i8_ i9_ i10_ (s_.1) i20_ i21_ i25_ (s_.2)) (fun s_ h => I_ (s_.1) (s_.2) h) (fun s_ h => m_ (s_.1) (s_.2) h)
    (fun X s_ h hi hx => (impl_shifted_link2 S K X0 X s0_ i1_ i2_ s7_ i8_ i9_ i10_ (s_.1) i20_ i21_ i25_ (s_.2) h).mpr (hs X (s_.1) (s_.2) h hi fun s11_' i26_' h' hi' hm' => hx (s11_', i26_') h' hi' hm')) (s11_, i26_) h0
theorem impl_shifted_unroll2 (S : SatT) (K : AVal → H → Prop) (X0 : Frame → H → Prop) (s0_ : Sl) (i1_ : Int) (i2_ : Int) (s7_ : Sl) (i8_ : Int) (i9_ : Int) (i10_ : Int) (s11_ : Sl) (i20_ : Int) (i21_ : Int) (i25_ : Int) (i26_ : Int) (h : H) (hb : impl_shifted_b2 S K X0 (fun fr h => loopK (impl_shifted_w2 S K X0) fr h) s0_ i1_ i2_ s7_ i8_ i9_ i10_ s11_ i20_ i21_ i25_ i26_ h) : impl_shifted_L2 S K X0 s0_ i1_ i2_ s7_ i8_ i9_ i10_ s11_ i20_ i21_ i25_ i26_ h := loop_unroll ((impl_shifted_link2 S K X0 _ s0_ i1_ i2_ s7_ i8_ i9_ i10_ s11_ i20_ i21_ i25_ i26_ h).mpr hb)
def impl_shifted_C0 (S : SatT) (K : AVal → H → Prop) (s7_ : Sl) (h : H) : Prop :=
 K (.sl s7_) h
def impl_shifted_b0 (S : SatT) (K : AVal → H → Prop) (X0 : Frame → H → Prop) (s0_ : Sl) (i1_ : Int) (i2_ : Int) (s7_ : Sl) (i8_ : Int) (i9_ : Int) (i20_ : Int) (i21_ : Int) (h : H) : Prop :=
 bif (decide (i21_ < i20_)) then
 newS 0 1 [] h fun s0 h1 =>
 impl_shifted_L2 S K X0 s0_ i1_ i2_ s7_ i8_ i9_ i21_ s0 i20_ i21_ i9_ (0) h1
 else
 impl_shifted_C0 S K s7_ h
theorem impl_shifted_link0 (S : SatT) (K : AVal → H → Prop) (X0 : Frame → H → Prop) (s0_ : Sl) (i1_ : Int) (i2_ : Int) (s7_ : Sl) (i8_ : Int) (i9_ : Int) (i20_ : Int) (i21_ : Int) (h : H) : impl_shifted_w0 S K X0 (impl_shifted_e0 s0_ i1_ i2_ s7_ i8_ i9_ i20_ i21_) h = impl_shifted_b0 S K X0 s0_ i1_ i2_ s7_ i8_ i9_ i20_ i21_ h := by kernel_rfl
theorem impl_shifted_rule0 (S : SatT) (K : AVal → H → Prop) (s0_ : Sl) (i1_ : Int) (i2_ : Int) (i8_ : Int) (i9_ : Int) (i20_ : Int) (I_ : Sl → Int → H → Prop) (m_ : Sl → Int → H → Nat)
    (hs : ∀ (X0 : Frame → H → Prop) (s7_ : Sl) (i21_ : Int) (h : H), I_ s7_ i21_ h → (∀ (s7_' : Sl) (i21_' : Int) (h' : H), I_ s7_' i21_' h' → m_ s7_' i21_' h' < m_ s7_ i21_ h → X0 (impl_shifted_e0 s0_ i1_ i2_ s7_' i8_ i9_ i20_ i21_') h') → impl_shifted_b0 S K X0 s0_ i1_ i2_ s7_ i8_ i9_ i20_ i21_ h) (s7_ : Sl) (i21_ : Int) {h : H} (h0 : I_ s7_ i21_ h) : impl_shifted_L0 S K s0_ i1_ i2_ s7_ i8_ i9_ i20_ i21_ h :=
  loop_rule (σ := (Sl) × (Int)) (fun s_ => impl_shifted_e0 s0_ i1_ i2_ (s_.1) i8_ i9_ i20_ (s_.2)) (fun s_ h => I_ (s_.1) (s_.2) h) (fun s_ h => m_ (s_.1) (s_.2) h)
    (fun X s_ h hi hx => (impl_shifted_link0 S K X s0_ i1_ i2_ (s_.1) i8_ i9_ i20_ (s_.2) h).mpr (hs X (s_.1) (s_.2) h hi fun s7_' i21_' h' hi' hm' => hx (s7_', i21_') h' hi' hm')) (s7_, i21_) h0
theorem impl_shifted_unroll0 (S : SatT) (K : AVal → H → Prop) (s0_ : Sl) (i1_ : Int) (i2_ : Int) (s7_ : Sl) (i8_ : Int) (i9_ : Int) (i20_ : Int) (i21_ : Int) (h : H) (hb : impl_shifted_b0 S K (fun fr h => loopK (impl_shifted_w0 S K) fr h) s0_ i1_ i2_ s7_ i8_ i9_ i20_ i21_ h) : impl_shifted_L0 S K s0_ i1_ i2_ s7_ i8_ i9_ i20_ i21_ h := loop_unroll ((impl_shifted_link0 S K _ s0_ i1_ i2_ s7_ i8_ i9_ i20_ i21_ h).mpr hb)
def impl_shifted_main (S : SatT) (K : AVal → H → Prop) (x0 : Sl) (x1 : Int) (x2 : Int) (h : H) : Prop :=
 newS 0 1 [] h fun s0 h1 =>
 ixS x0 1 (0) fun p2 =>
 ldS p2 h1 fun s3 =>
(cell h p2 = cell h1 p2) ∧ (
 impl_shifted_L0 S K x0 x1 x2 s0 (x0.len : Int) (s3.len : Int) (x0.len : Int) (0) h1)
theorem impl_shifted_main_link (S : SatT) (K : AVal → H → Prop) (x0 : Sl) (x1 : Int) (x2 : Int) (h : H) : cwp S tab impl_shifted_M [] (bodyOf Try.f96) (kFun tab Try.f96.results.toList K) (fr0 Try.f96 [.sl x0, .int .i64 x1, .int .i64 x2]) h = impl_shifted_main S K x0 x1 x2 h := by kernel_rfl
theorem impl_shifted_call (x0 : Sl) (x1 : Int) (x2 : Int) (h : H) (K : Sl → H → Prop) (hm : impl_shifted_main (Sat Try.prog) (fun v h' => ∃ r, v = .sl r ∧ K r h') x0 x1 x2 h) : callS (Sat Try.prog) i_impl_shifted [.sl x0, .int .i64 x1, .int .i64 x2] h K := by
  have := Sat.ex tok mixed impl_shifted_M Try.func96 (c := bodyOf Try.f96) (by kernel_rfl) (calls_of Try.func96 (c := bodyOf Try.f96) (by kernel_rfl) (by decide)) ((impl_shifted_main_link _ _ x0 x1 x2 h).mpr hm)
  obtain ⟨v, h2, h3, r, rfl, h4⟩ := this; exact ⟨r, h2, h3, h4⟩

/-! ### (loop.example/g01354/impl.Set).areNumbers -/
def impl_Set_areNumbers_M : Nat → List Nat := fun i => bif i == 2 then [1, 2, 9, 10, 11, 15, 16, 17] else bif i == 0 then [1, 2, 9, 10, 11] else []
def impl_Set_areNumbers_ks1 (S : SatT) (K : AVal → H → Prop) : Kont := kSeq (cwp S tab impl_Set_areNumbers_M [] (sub [1, 1] (bodyOf Try.f70)) (kFun tab (Try.f70).results.toList K)) (kFun tab (Try.f70).results.toList K)
def impl_Set_areNumbers_e0 (s1_ : Sl) (p2_ : Pt) (s9_ : Sl) (i10_ : Int) (i11_ : Int) : Frame := [U, .sl s1_, .ptr p2_, U, U, U, U, U, U, .sl s9_, .int .i64 i10_, .int .i64 i11_, U, U, U, U, U, U, U, U, U, U, U, U, U, U, U, U, U]
def impl_Set_areNumbers_w0 (S : SatT) (K : AVal → H → Prop) : (Frame → H → Prop) → Frame → H → Prop := fun X fr h => cwp S tab impl_Set_areNumbers_M (impl_Set_areNumbers_M 0) (sub [1, 0, 1, 0, 0] (bodyOf Try.f70)) (kSeq (fun fr h => X (mask (impl_Set_areNumbers_M 0) fr) h) (kBlk 0 (impl_Set_areNumbers_ks1 S K))) fr h
def impl_Set_areNumbers_L0 (S : SatT) (K : AVal → H → Prop) (s1_ : Sl) (p2_ : Pt) (s9_ : Sl) (i10_ : Int) (i11_ : Int) (h : H) : Prop := loopK (impl_Set_areNumbers_w0 S K) (impl_Set_areNumbers_e0 s1_ p2_ s9_ i10_ i11_) h
def impl_Set_areNumbers_ks5 (S : SatT) (K : AVal → H → Prop) (X0 : Frame → H → Prop) : Kont := kSeq (cwp S tab impl_Set_areNumbers_M (impl_Set_areNumbers_M 0) (sub [1, 0, 1, 0, 0, 1, 1, 1] (bodyOf Try.f70)) (kSeq (fun fr h => X0 (mask (impl_Set_areNumbers_M 0) fr) h) (kBlk 0 (impl_Set_areNumbers_ks1 S K)))) (kSeq (fun fr h => X0 (mask (impl_Set_areNumbers_M 0) fr) h) (kBlk 0 (impl_Set_areNumbers_ks1 S K)))
def impl_Set_areNumbers_e2 (s1_ : Sl) (p2_ : Pt) (s9_ : Sl) (i10_ : Int) (i11_ : Int) (s15_ : Sl) (i16_ : Int) (i17_ : Int) : Frame := [U, .sl s1_, .ptr p2_, U, U, U, U, U, U, .sl s9_, .int .i64 i10_, .int .i64 i11_, U, U, U, .sl s15_, .int .i64 i16_, .int .i64 i17_, U, U, U, U, U, U, U, U, U, U, U]
def impl_Set_areNumbers_w2 (S : SatT) (K : AVal → H → Prop) (X0 : Frame → H → Prop) : (Frame → H → Prop) → Frame → H → Prop := fun X fr h => cwp S tab impl_Set_areNumbers_M (impl_Set_areNumbers_M 2) (sub [1, 0, 1, 0, 0, 1, 1, 0, 0, 1, 1, 0, 0] (bodyOf Try.f70)) (kSeq (fun fr h => X (mask (impl_Set_areNumbers_M 2) fr) h) (kBlk 2 (kBlk 1 (impl_Set_areNumbers_ks5 S K X0)))) fr h
def impl_Set_areNumbers_L2 (S : SatT) (K : AVal → H → Prop) (X0 : Frame → H → Prop) (s1_ : Sl) (p2_ : Pt) (s9_ : Sl) (i10_ : Int) (i11_ : Int) (s15_ : Sl) (i16_ : Int) (i17_ : Int) (h : H) : Prop := loopK (impl_Set_areNumbers_w2 S K X0) (impl_Set_areNumbers_e2 s1_ p2_ s9_ i10_ i11_ s15_ i16_ i17_) h
def impl_Set_areNumbers_C1 (S : SatT) (K : AVal → H → Prop) (X0 : Frame → H → Prop) (s1_ : Sl) (p2_ : Pt) (s9_ : Sl) (i10_ : Int) (i11_ : Int) (h : H) : Prop :=
 X0 (impl_Set_areNumbers_e0 s1_ p2_ s9_ i10_ (w64 (i11_ + (1)))) h
def impl_Set_areNumbers_C2 (S : SatT) (K : AVal → H → Prop) (X0 : Frame → H → Prop) (s1_ : Sl) (p2_ : Pt) (s9_ : Sl) (i10_ : Int) (i11_ : Int) (h : H) : Prop :=
 impl_Set_areNumbers_C1 S K X0 s1_ p2_ s9_ i10_ i11_ h
def impl_Set_areNumbers_b2 (S : SatT) (K : AVal → H → Prop) (X0 : Frame → H → Prop) (X2 : Frame → H → Prop) (s1_ : Sl) (p2_ : Pt) (s9_ : Sl) (i10_ : Int) (i11_ : Int) (s15_ : Sl) (i16_ : Int) (i17_ : Int) (h : H) : Prop :=
 bif (decide (i17_ < i16_)) then
 ixS s15_ 1 i17_ fun p0 =>
 ldI .i64 p0 h fun n1 =>
 ldA p2_ 2 h fun cs2 =>
 callB S i_impl_Set_isNumber [.agg cs2, .int .i64 n1] h fun b4 h3 =>
 bif (!b4) then
 K (.bool false) h3
 else
 X2 (impl_Set_areNumbers_e2 s1_ p2_ s9_ i10_ i11_ s15_ i16_ (w64 (i17_ + (1)))) h3
 else
 impl_Set_areNumbers_C2 S K X0 s1_ p2_ s9_ i10_ i11_ h
theorem impl_Set_areNumbers_link2 (S : SatT) (K : AVal → H → Prop) (X0 : Frame → H → Prop) (X2 : Frame → H → Prop) (s1_ : Sl) (p2_ : Pt) (s9_ : Sl) (i10_ : Int) (i11_ : Int) (s15_ : Sl) (i16_ : Int) (i17_ : Int) (h : H) : impl_Set_areNumbers_w2 S K X0 X2 (impl_Set_areNumbers_e2 s1_ p2_ s9_ i10_ i11_ s15_ i16_ i17_) h = impl_Set_areNumbers_b2 S K X0 X2 s1_ p2_ s9_ i10_ i11_ s15_ i16_ i17_ h := by kernel_rfl
theorem impl_Set_areNumbers_rule2 (S : SatT) (K : AVal → H → Prop) (X0 : Frame → H → Prop) (s1_ : Sl) (p2_ : Pt) (s9_ : Sl) (i10_ : Int) (i11_ : Int) (s15_ : Sl) (i16_ : Int) (I_ : Int → H → Prop) (m_ : Int → H → Nat)
    (hs : ∀ (X2 : Frame → H → Prop) (i17_ : Int) (h : H), I_ i17_ h → (∀ (i17_' : Int) (h' : H), I_ i17_' h' → m_ i17_' h' < m_ i17_ h → X2 (impl_Set_areNumbers_e2 s1_ p2_ s9_ i10_ i11_ s15_ i16_ i17_') h') → impl_Set_areNumbers_b2 S K X0 X2 s1_ p2_ s9_ i10_ i11_ s15_ i16_ i17_ h) (i17_ : Int) {h : H} (h0 : I_ i17_ h) : impl_Set_areNumbers_L2 S K X0 s1_ p2_ s9_ i10_ i11_ s15_ i16_ i17_ h :=
  loop_rule (σ := (Int)) (fun s_ => impl_Set_areNumbers_e2 s1_ p2_ s9_ i10_ i11_ s15_ i16_ (s_)) (fun s_ h => I_ (s_) h) (fun s_ h => m_ (s_) h)
    (fun X s_ h hi hx => (impl_Set_areNumbers_link2 S K X0 X s1_ p2_ s9_ i10_ i11_ s15_ i16_ (s_) h).mpr (hs X (s_) h hi fun i17_' h' hi' hm' => hx (i17_') h' hi' hm')) (i17_) h0
theorem impl_Set_areNumbers_unroll2 (S : SatT) (K : AVal → H → Prop) (X0 : Frame → H → Prop) (s1_ : Sl) (p2_ : Pt) (s9_ : Sl) (i10_ : Int) (i11_ : Int) (s15_ : Sl) (i16_ : Int) (i17_ : Int) (h : H) (hb : impl_Set_areNumbers_b2 S K X0 (fun fr h => loopK (impl_Set_areNumbers_w2 S K X0) fr h) s1_ p2_ s9_ i10_ i11_ s15_ i16_ i17_ h) : impl_Set_areNumbers_L2 S K X0 s1_ p2_ s9_ i10_ i11_ s15_ i16_ i17_ h := loop_unroll ((impl_Set_areNumbers_link2 S K X0 _ s1_ p2_ s9_ i10_ i11_ s15_ i16_ i17_ h).mpr hb)
def impl_Set_areNumbers_C0 (S : SatT) (K : AVal → H → Prop) (s1_ : Sl) (h : H) : Prop :=
 callB S i_impl_isTable [.sl s1_, .int .i64 (8)] h fun b1 h0 =>
 K (.bool b1) h0
def impl_Set_areNumbers_b0 (S : SatT) (K : AVal → H → Prop) (X0 : Frame → H → Prop) (s1_ : Sl) (p2_ : Pt) (s9_ : Sl) (i10_ : Int) (i11_ : Int) (h : H) : Prop :=
 bif (decide (i11_ < i10_)) then
 ixS s9_ 1 i11_ fun p0 =>
 ldS p0 h fun s1 =>
 impl_Set_areNumbers_L2 S K X0 s1_ p2_ s9_ i10_ i11_ s1 (s1.len : Int) (0) h
 else
 impl_Set_areNumbers_C0 S K s1_ h
theorem impl_Set_areNumbers_link0 (S : SatT) (K : AVal → H → Prop) (X0 : Frame → H → Prop) (s1_ : Sl) (p2_ : Pt) (s9_ : Sl) (i10_ : Int) (i11_ : Int) (h : H) : impl_Set_areNumbers_w0 S K X0 (impl_Set_areNumbers_e0 s1_ p2_ s9_ i10_ i11_) h = impl_Set_areNumbers_b0 S K X0 s1_ p2_ s9_ i10_ i11_ h := by kernel_rfl
theorem impl_Set_areNumbers_rule0 (S : SatT) (K : AVal → H → Prop) (s1_ : Sl) (p2_ : Pt) (s9_ : Sl) (i10_ : Int) (I_ : Int → H → Prop) (m_ : Int → H → Nat)
    (hs : ∀ (X0 : Frame → H → Prop) (i11_ : Int) (h : H), I_ i11_ h → (∀ (i11_' : Int) (h' : H), I_ i11_' h' → m_ i11_' h' < m_ i11_ h → X0 (impl_Set_areNumbers_e0 s1_ p2_ s9_ i10_ i11_') h') → impl_Set_areNumbers_b0 S K X0 s1_ p2_ s9_ i10_ i11_ h) (i11_ : Int) {h : H} (h0 : I_ i11_ h) : impl_Set_areNumbers_L0 S K s1_ p2_ s9_ i10_ i11_ h :=
  loop_rule (σ := (Int)) (fun s_ => impl_Set_areNumbers_e0 s1_ p2_ s9_ i10_ (s_)) (fun s_ h => I_ (s_) h) (fun s_ h => m_ (s_) h)
    (fun X s_ h hi hx => (impl_Set_areNumbers_link0 S K X s1_ p2_ s9_ i10_ (s_) h).mpr (hs X (s_) h hi fun i11_' h' hi' hm' => hx (i11_') h' hi' hm')) (i11_) h0
theorem impl_Set_areNumbers_unroll0 (S : SatT) (K : AVal → H → Prop) (s1_ : Sl) (p2_ : Pt) (s9_ : Sl) (i10_ : Int) (i11_ : Int) (h : H) (hb : impl_Set_areNumbers_b0 S K (fun fr h => loopK (impl_Set_areNumbers_w0 S K) fr h) s1_ p2_ s9_ i10_ i11_ h) : impl_Set_areNumbers_L0 S K s1_ p2_ s9_ i10_ i11_ h := loop_unroll ((impl_Set_areNumbers_link0 S K _ s1_ p2_ s9_ i10_ i11_ h).mpr hb)
def impl_Set_areNumbers_main (S : SatT) (K : AVal → H → Prop) (x0 : List AVal) (x1 : Sl) (h : H) : Prop :=
 newK 2 x0 h fun p0 h1 =>
 impl_Set_areNumbers_L0 S K x1 p0 x1 (x1.len : Int) (0) h1
theorem impl_Set_areNumbers_main_link (S : SatT) (K : AVal → H → Prop) (x0 : List AVal) (x1 : Sl) (h : H) : cwp S tab impl_Set_areNumbers_M [] (bodyOf Try.f70) (kFun tab Try.f70.results.toList K) (fr0 Try.f70 [.agg x0, .sl x1]) h = impl_Set_areNumbers_main S K x0 x1 h := by kernel_rfl
theorem impl_Set_areNumbers_call (x0 : List AVal) (x1 : Sl) (h : H) (K : Bool → H → Prop) (hm : impl_Set_areNumbers_main (Sat Try.prog) (fun v h' => ∃ r, v = .bool r ∧ K r h') x0 x1 h) : callB (Sat Try.prog) i_impl_Set_areNumbers [.agg x0, .sl x1] h K := by
  have := Sat.ex tok mixed impl_Set_areNumbers_M Try.func70 (c := bodyOf Try.f70) (by kernel_rfl) (calls_of Try.func70 (c := bodyOf Try.f70) (by kernel_rfl) (by decide)) ((impl_Set_areNumbers_main_link _ _ x0 x1 h).mpr hm)
  obtain ⟨v, h2, h3, r, rfl, h4⟩ := this; exact ⟨r, h2, h3, h4⟩

/-! ### loop.example/g01354/spec.l05Kept -/
def spec_l05Kept_M : Nat → List Nat := fun i => bif i == 2 then [0, 3, 4, 5] else bif i == 0 then [0, 3, 4] else []
def spec_l05Kept_ks2 (S : SatT) (K : AVal → H → Prop) : Kont := kSeq (cwp S tab spec_l05Kept_M [] (sub [1, 1, 1] (bodyOf Try.f97)) (kFun tab (Try.f97).results.toList K)) (kFun tab (Try.f97).results.toList K)
def spec_l05Kept_e0 (s0_ : Sl) (s3_ : Sl) (i4_ : Int) : Frame := [.sl s0_, U, U, .sl s3_, .int .i64 i4_, U, U, U, U, U, U, U, U, U, U, U, U, U, U, U, U, U, U, U, U, U, U, U, U, U, U, U, U, U, U, U, U, U, U, U, U, U, U]
def spec_l05Kept_w0 (S : SatT) (K : AVal → H → Prop) : (Frame → H → Prop) → Frame → H → Prop := fun X fr h => cwp S tab spec_l05Kept_M (spec_l05Kept_M 0) (sub [1, 1, 0, 1, 0, 0] (bodyOf Try.f97)) (kSeq (fun fr h => X (mask (spec_l05Kept_M 0) fr) h) (kBlk 0 (spec_l05Kept_ks2 S K))) fr h
def spec_l05Kept_L0 (S : SatT) (K : AVal → H → Prop) (s0_ : Sl) (s3_ : Sl) (i4_ : Int) (h : H) : Prop := loopK (spec_l05Kept_w0 S K) (spec_l05Kept_e0 s0_ s3_ i4_) h
def spec_l05Kept_ks6 (S : SatT) (K : AVal → H → Prop) (X0 : Frame → H → Prop) : Kont := kSeq (cwp S tab spec_l05Kept_M (spec_l05Kept_M 0) (sub [1, 1, 0, 1, 0, 0, 1, 1] (bodyOf Try.f97)) (kSeq (fun fr h => X0 (mask (spec_l05Kept_M 0) fr) h) (kBlk 0 (spec_l05Kept_ks2 S K)))) (kSeq (fun fr h => X0 (mask (spec_l05Kept_M 0) fr) h) (kBlk 0 (spec_l05Kept_ks2 S K)))
def spec_l05Kept_e2 (s0_ : Sl) (s3_ : Sl) (i4_ : Int) (i5_ : Int) : Frame := [.sl s0_, U, U, .sl s3_, .int .i64 i4_, .int .i64 i5_, U, U, U, U, U, U, U, U, U, U, U, U, U, U, U, U, U, U, U, U, U, U, U, U, U, U, U, U, U, U, U, U, U, U, U, U, U]
def spec_l05Kept_w2 (S : SatT) (K : AVal → H → Prop) (X0 : Frame → H → Prop) : (Frame → H → Prop) → Frame → H → Prop := fun X fr h => cwp S tab spec_l05Kept_M (spec_l05Kept_M 2) (sub [1, 1, 0, 1, 0, 0, 1, 0, 0, 1, 0, 0] (bodyOf Try.f97)) (kSeq (fun fr h => X (mask (spec_l05Kept_M 2) fr) h) (kBlk 2 (kBlk 1 (spec_l05Kept_ks6 S K X0)))) fr h
def spec_l05Kept_L2 (S : SatT) (K : AVal → H → Prop) (X0 : Frame → H → Prop) (s0_ : Sl) (s3_ : Sl) (i4_ : Int) (i5_ : Int) (h : H) : Prop := loopK (spec_l05Kept_w2 S K X0) (spec_l05Kept_e2 s0_ s3_ i4_ i5_) h
def spec_l05Kept_C1 (S : SatT) (K : AVal → H → Prop) (X0 : Frame → H → Prop) (s0_ : Sl) (s3_ : Sl) (i4_ : Int) (h : H) : Prop :=
 X0 (spec_l05Kept_e0 s0_ s3_ (w64 (i4_ + (1)))) h
def spec_l05Kept_C2 (S : SatT) (K : AVal → H → Prop) (X0 : Frame → H → Prop) (s0_ : Sl) (s3_ : Sl) (i4_ : Int) (h : H) : Prop :=
 spec_l05Kept_C1 S K X0 s0_ s3_ i4_ h
def spec_l05Kept_b2 (S : SatT) (K : AVal → H → Prop) (X0 : Frame → H → Prop) (X2 : Frame → H → Prop) (s0_ : Sl) (s3_ : Sl) (i4_ : Int) (i5_ : Int) (h : H) : Prop :=
 ixS s0_ 1 (0) fun p0 =>
 ldS p0 h fun s1 =>
 bif (decide (i5_ < (s1.len : Int))) then
 callS S i_spec_l05Shift [.sl s0_, .int .i64 i4_, .int .i64 i5_] h fun s3 h2 =>
 callB S i_spec_l05Less [.sl s3, .sl s0_] h2 fun b5 h4 =>
 bif (!b5) then
 callB S i_spec_l05Less [.sl s0_, .sl s3] h4 fun b7 h6 =>
 bif (!b7) then
 newS 2 1 [.int .i64 i4_, .int .i64 i5_] h6 fun s8 h9 =>
 newS 1 1 [.sl s8] h9 fun s10 h11 =>
 app s3_ s10 1 h11 fun s12 h13 =>
 X2 (spec_l05Kept_e2 s0_ s12 i4_ (w64 (i5_ + (1)))) h13
 else
 X2 (spec_l05Kept_e2 s0_ s3_ i4_ (w64 (i5_ + (1)))) h6
 else
 X2 (spec_l05Kept_e2 s0_ s3_ i4_ (w64 (i5_ + (1)))) h4
 else
 spec_l05Kept_C2 S K X0 s0_ s3_ i4_ h
theorem spec_l05Kept_link2 (S : SatT) (K : AVal → H → Prop) (X0 : Frame → H → Prop) (X2 : Frame → H → Prop) (s0_ : Sl) (s3_ : Sl) (i4_ : Int) (i5_ : Int) (h : H) : spec_l05Kept_w2 S K X0 X2 (spec_l05Kept_e2 s0_ s3_ i4_ i5_) h = spec_l05Kept_b2 S K X0 X2 s0_ s3_ i4_ i5_ h := by kernel_rfl
theorem spec_l05Kept_rule2 (S : SatT) (K : AVal → H → Prop) (X0 : Frame → H → Prop) (s0_ : Sl) (i4_ : Int) (I_ : Sl → Int → H → Prop) (m_ : Sl → Int → H → Nat)
    (hs : ∀ (X2 : Frame → H → Prop) (s3_ : Sl) (i5_ : Int) (h : H), I_ s3_ i5_ h → (∀ (s3_' : Sl) (i5_' : Int) (h' : H), I_ s3_' i5_' h' → m_ s3_' i5_' h' < m_ s3_ i5_ h → X2 (spec_l05Kept_e2 s0_ s3_' i4_ i5_') h') → spec_l05Kept_b2 S K X0 X2 s0_ s3_ i4_ i5_ h) (s3_ : Sl) (i5_ : Int) {h : H} (h0 : I_ s3_ i5_ h) : spec_l05Kept_L2 S K X0 s0_ s3_ i4_ i5_ h :=
  loop_rule (σ := (Sl) × (Int)) (fun s_ => spec_l05Kept_e2 s0_ (s_.1) i4_ (s_.2)) (fun s_ h => I_ (s_.1) (s_.2) h) (fun s_ h => m_ (s_.1) (s_.2) h)
    (fun X s_ h hi hx => (spec_l05Kept_link2 S K X0 X s0_ (s_.1) i4_ (s_.2) h).mpr (hs X (s_.1) (s_.2) h hi fun s3_' i5_' h' hi' hm' => hx (s3_', i5_') h' hi' hm')) (s3_, i5_) h0
theorem spec_l05Kept_unroll2 (S : SatT) (K : AVal → H → Prop) (X0 : Frame → H → Prop) (s0_ : Sl) (s3_ : Sl) (i4_ : Int) (i5_ : Int) (h : H) (hb : spec_l05Kept_b2 S K X0 (fun fr h => loopK (spec_l05Kept_w2 S K X0) fr h) s0_ s3_ i4_ i5_ h) : spec_l05Kept_L2 S K X0 s0_ s3_ i4_ i5_ h := loop_unroll ((spec_l05Kept_link2 S K X0 _ s0_ s3_ i4_ i5_ h).mpr hb)
def spec_l05Kept_C0 (S : SatT) (K : AVal → H → Prop) (s3_ : Sl) (h : H) : Prop :=
 K (.sl s3_) h
def spec_l05Kept_b0 (S : SatT) (K : AVal → H → Prop) (X0 : Frame → H → Prop) (s0_ : Sl) (s3_ : Sl) (i4_ : Int) (h : H) : Prop :=
 bif (decide (i4_ < (s0_.len : Int))) then
 spec_l05Kept_L2 S K X0 s0_ s3_ i4_ (0) h
 else
 spec_l05Kept_C0 S K s3_ h
theorem spec_l05Kept_link0 (S : SatT) (K : AVal → H → Prop) (X0 : Frame → H → Prop) (s0_ : Sl) (s3_ : Sl) (i4_ : Int) (h : H) : spec_l05Kept_w0 S K X0 (spec_l05Kept_e0 s0_ s3_ i4_) h = spec_l05Kept_b0 S K X0 s0_ s3_ i4_ h := by kernel_rfl
theorem spec_l05Kept_rule0 (S : SatT) (K : AVal → H → Prop) (s0_ : Sl) (I_ : Sl → Int → H → Prop) (m_ : Sl → Int → H → Nat)
    (hs : ∀ (X0 : Frame → H → Prop) (s3_ : Sl) (i4_ : Int) (h : H), I_ s3_ i4_ h → (∀ (s3_' : Sl) (i4_' : Int) (h' : H), I_ s3_' i4_' h' → m_ s3_' i4_' h' < m_ s3_ i4_ h → X0 (spec_l05Kept_e0 s0_ s3_' i4_') h') → spec_l05Kept_b0 S K X0 s0_ s3_ i4_ h) (s3_ : Sl) (i4_ : Int) {h : H} (h0 : I_ s3_ i4_ h) : spec_l05Kept_L0 S K s0_ s3_ i4_ h :=
  loop_rule (σ := (Sl) × (Int)) (fun s_ => spec_l05Kept_e0 s0_ (s_.1) (s_.2)) (fun s_ h => I_ (s_.1) (s_.2) h) (fun s_ h => m_ (s_.1) (s_.2) h)
    (fun X s_ h hi hx => (spec_l05Kept_link0 S K X s0_ (s_.1) (s_.2) h).mpr (hs X (s_.1) (s_.2) h hi fun s3_' i4_' h' hi' hm' => hx (s3_', i4_') h' hi' hm')) (s3_, i4_) h0
theorem spec_l05Kept_unroll0 (S : SatT) (K : AVal → H → Prop) (s0_ : Sl) (s3_ : Sl) (i4_ : Int) (h : H) (hb : spec_l05Kept_b0 S K (fun fr h => loopK (spec_l05Kept_w0 S K) fr h) s0_ s3_ i4_ h) : spec_l05Kept_L0 S K s0_ s3_ i4_ h := loop_unroll ((spec_l05Kept_link0 S K _ s0_ s3_ i4_ h).mpr hb)
def spec_l05Kept_main (S : SatT) (K : AVal → H → Prop) (x0 : Sl) (h : H) : Prop :=
 newS 0 1 [] h fun s0 h1 =>
 spec_l05Kept_L0 S K x0 s0 (0) h1
theorem spec_l05Kept_main_link (S : SatT) (K : AVal → H → Prop) (x0 : Sl) (h : H) : cwp S tab spec_l05Kept_M [] (bodyOf Try.f97) (kFun tab Try.f97.results.toList K) (fr0 Try.f97 [.sl x0]) h = spec_l05Kept_main S K x0 h := by kernel_rfl
theorem spec_l05Kept_call (x0 : Sl) (h : H) (K : Sl → H → Prop) (hm : spec_l05Kept_main (Sat Try.prog) (fun v h' => ∃ r, v = .sl r ∧ K r h') x0 h) : callS (Sat Try.prog) i_spec_l05Kept [.sl x0] h K := by
  have := Sat.ex tok mixed spec_l05Kept_M Try.func97 (c := bodyOf Try.f97) (by kernel_rfl) (calls_of Try.func97 (c := bodyOf Try.f97) (by kernel_rfl) (by decide)) ((spec_l05Kept_main_link _ _ x0 h).mpr hm)
  obtain ⟨v, h2, h3, r, rfl, h4⟩ := this; exact ⟨r, h2, h3, h4⟩

/-! ### loop.example/g01354/laws.markTileS -/
def laws_markTileS_M : Nat → List Nat := fun i => bif i == 2 then [0, 1, 5, 6] else bif i == 0 then [0, 1, 5] else []
def laws_markTileS_ks1 (S : SatT) (K : AVal → H → Prop) : Kont := kSeq (cwp S tab laws_markTileS_M [] (sub [1, 1] (bodyOf Try.f78)) (kFun tab (Try.f78).results.toList K)) (kFun tab (Try.f78).results.toList K)
def laws_markTileS_e0 (s0_ : Sl) (i1_ : Int) (i5_ : Int) : Frame := [.sl s0_, .int .i64 i1_, U, U, U, .int .i64 i5_, U, U, U, U, U, U, U, U, U, U, U, U, U, U, U, U, U, U, U, U]
def laws_markTileS_w0 (S : SatT) (K : AVal → H → Prop) : (Frame → H → Prop) → Frame → H → Prop := fun X fr h => cwp S tab laws_markTileS_M (laws_markTileS_M 0) (sub [1, 0, 1, 0, 0] (bodyOf Try.f78)) (kSeq (fun fr h => X (mask (laws_markTileS_M 0) fr) h) (kBlk 0 (laws_markTileS_ks1 S K))) fr h
def laws_markTileS_L0 (S : SatT) (K : AVal → H → Prop) (s0_ : Sl) (i1_ : Int) (i5_ : Int) (h : H) : Prop := loopK (laws_markTileS_w0 S K) (laws_markTileS_e0 s0_ i1_ i5_) h
def laws_markTileS_ks5 (S : SatT) (K : AVal → H → Prop) (X0 : Frame → H → Prop) : Kont := kSeq (cwp S tab laws_markTileS_M (laws_markTileS_M 0) (sub [1, 0, 1, 0, 0, 1, 1] (bodyOf Try.f78)) (kSeq (fun fr h => X0 (mask (laws_markTileS_M 0) fr) h) (kBlk 0 (laws_markTileS_ks1 S K)))) (kSeq (fun fr h => X0 (mask (laws_markTileS_M 0) fr) h) (kBlk 0 (laws_markTileS_ks1 S K)))
def laws_markTileS_e2 (s0_ : Sl) (i1_ : Int) (i5_ : Int) (i6_ : Int) : Frame := [.sl s0_, .int .i64 i1_, U, U, U, .int .i64 i5_, .int .i64 i6_, U, U, U, U, U, U, U, U, U, U, U, U, U, U, U, U, U, U, U]
def laws_markTileS_w2 (S : SatT) (K : AVal → H → Prop) (X0 : Frame → H → Prop) : (Frame → H → Prop) → Frame → H → Prop := fun X fr h => cwp S tab laws_markTileS_M (laws_markTileS_M 2) (sub [1, 0, 1, 0, 0, 1, 0, 0, 1, 0, 0] (bodyOf Try.f78)) (kSeq (fun fr h => X (mask (laws_markTileS_M 2) fr) h) (kBlk 2 (kBlk 1 (laws_markTileS_ks5 S K X0)))) fr h
def laws_markTileS_L2 (S : SatT) (K : AVal → H → Prop) (X0 : Frame → H → Prop) (s0_ : Sl) (i1_ : Int) (i5_ : Int) (i6_ : Int) (h : H) : Prop := loopK (laws_markTileS_w2 S K X0) (laws_markTileS_e2 s0_ i1_ i5_ i6_) h
def laws_markTileS_C1 (S : SatT) (K : AVal → H → Prop) (X0 : Frame → H → Prop) (s0_ : Sl) (i1_ : Int) (i5_ : Int) (h : H) : Prop :=
 X0 (laws_markTileS_e0 s0_ i1_ (w64 (i5_ + (1)))) h
def laws_markTileS_C2 (S : SatT) (K : AVal → H → Prop) (X0 : Frame → H → Prop) (s0_ : Sl) (i1_ : Int) (i5_ : Int) (h : H) : Prop :=
 laws_markTileS_C1 S K X0 s0_ i1_ i5_ h
def laws_markTileS_b2 (S : SatT) (K : AVal → H → Prop) (X0 : Frame → H → Prop) (X2 : Frame → H → Prop) (s0_ : Sl) (i1_ : Int) (i5_ : Int) (i6_ : Int) (h : H) : Prop :=
 bif (decide (i6_ < (4))) then
 ixS s0_ 4 i5_ fun p0 =>
 ixA p0 4 1 i6_ fun p1 =>
 st1 p1 (.int .i64 i1_) h fun h2 =>
 X2 (laws_markTileS_e2 s0_ (w64 (i1_ + (1))) i5_ (w64 (i6_ + (1)))) h2
 else
 laws_markTileS_C2 S K X0 s0_ i1_ i5_ h
theorem laws_markTileS_link2 (S : SatT) (K : AVal → H → Prop) (X0 : Frame → H → Prop) (X2 : Frame → H → Prop) (s0_ : Sl) (i1_ : Int) (i5_ : Int) (i6_ : Int) (h : H) : laws_markTileS_w2 S K X0 X2 (laws_markTileS_e2 s0_ i1_ i5_ i6_) h = laws_markTileS_b2 S K X0 X2 s0_ i1_ i5_ i6_ h := by kernel_rfl
theorem laws_markTileS_rule2 (S : SatT) (K : AVal → H → Prop) (X0 : Frame → H → Prop) (s0_ : Sl) (i5_ : Int) (I_ : Int → Int → H → Prop) (m_ : Int → Int → H → Nat)
    (hs : ∀ (X2 : Frame → H → Prop) (i1_ : Int) (i6_ : Int) (h : H), I_ i1_ i6_ h → (∀ (i1_' : Int) (i6_' : Int) (h' : H), I_ i1_' i6_' h' → m_ i1_' i6_' h' < m_ i1_ i6_ h → X2 (laws_markTileS_e2 s0_ i1_' i5_ i6_') h') → laws_markTileS_b2 S K X0 X2 s0_ i1_ i5_ i6_ h) (i1_ : Int) (i6_ : Int) {h : H} (h0 : I_ i1_ i6_ h) : laws_markTileS_L2 S K X0 s0_ i1_ i5_ i6_ h :=
  loop_rule (σ := (Int) × (Int)) (fun s_ => laws_markTileS_e2 s0_ (s_.1) i5_ (s_.2)) (fun s_ h => I_ (s_.1) (s_.2) h) (fun s_ h => m_ (s_.1) (s_.2) h)
    (fun X s_ h hi hx => (laws_markTileS_link2 S K X0 X s0_ (s_.1) i5_ (s_.2) h).mpr (hs X (s_.1) (s_.2) h hi fun i1_' i6_' h' hi' hm' => hx (i1_', i6_') h' hi' hm')) (i1_, i6_) h0
theorem laws_markTileS_unroll2 (S : SatT) (K : AVal → H → Prop) (X0 : Frame → H → Prop) (s0_ : Sl) (i1_ : Int) (i5_ : Int) (i6_ : Int) (h : H) (hb : laws_markTileS_b2 S K X0 (fun fr h => loopK (laws_markTileS_w2 S K X0) fr h) s0_ i1_ i5_ i6_ h) : laws_markTileS_L2 S K X0 s0_ i1_ i5_ i6_ h := loop_unroll ((laws_markTileS_link2 S K X0 _ s0_ i1_ i5_ i6_ h).mpr hb)
def laws_markTileS_C0 (S : SatT) (K : AVal → H → Prop) (i1_ : Int) (h : H) : Prop :=
 K (.int .i64 i1_) h
def laws_markTileS_b0 (S : SatT) (K : AVal → H → Prop) (X0 : Frame → H → Prop) (s0_ : Sl) (i1_ : Int) (i5_ : Int) (h : H) : Prop :=
 bif (decide (i5_ < (s0_.len : Int))) then
 laws_markTileS_L2 S K X0 s0_ i1_ i5_ (0) h
 else
 laws_markTileS_C0 S K i1_ h
theorem laws_markTileS_link0 (S : SatT) (K : AVal → H → Prop) (X0 : Frame → H → Prop) (s0_ : Sl) (i1_ : Int) (i5_ : Int) (h : H) : laws_markTileS_w0 S K X0 (laws_markTileS_e0 s0_ i1_ i5_) h = laws_markTileS_b0 S K X0 s0_ i1_ i5_ h := by kernel_rfl
theorem laws_markTileS_rule0 (S : SatT) (K : AVal → H → Prop) (s0_ : Sl) (I_ : Int → Int → H → Prop) (m_ : Int → Int → H → Nat)
    (hs : ∀ (X0 : Frame → H → Prop) (i1_ : Int) (i5_ : Int) (h : H), I_ i1_ i5_ h → (∀ (i1_' : Int) (i5_' : Int) (h' : H), I_ i1_' i5_' h' → m_ i1_' i5_' h' < m_ i1_ i5_ h → X0 (laws_markTileS_e0 s0_ i1_' i5_') h') → laws_markTileS_b0 S K X0 s0_ i1_ i5_ h) (i1_ : Int) (i5_ : Int) {h : H} (h0 : I_ i1_ i5_ h) : laws_markTileS_L0 S K s0_ i1_ i5_ h :=
  loop_rule (σ := (Int) × (Int)) (fun s_ => laws_markTileS_e0 s0_ (s_.1) (s_.2)) (fun s_ h => I_ (s_.1) (s_.2) h) (fun s_ h => m_ (s_.1) (s_.2) h)
    (fun X s_ h hi hx => (laws_markTileS_link0 S K X s0_ (s_.1) (s_.2) h).mpr (hs X (s_.1) (s_.2) h hi fun i1_' i5_' h' hi' hm' => hx (i1_', i5_') h' hi' hm')) (i1_, i5_) h0
theorem laws_markTileS_unroll0 (S : SatT) (K : AVal → H → Prop) (s0_ : Sl) (i1_ : Int) (i5_ : Int) (h : H) (hb : laws_markTileS_b0 S K (fun fr h => loopK (laws_markTileS_w0 S K) fr h) s0_ i1_ i5_ h) : laws_markTileS_L0 S K s0_ i1_ i5_ h := loop_unroll ((laws_markTileS_link0 S K _ s0_ i1_ i5_ h).mpr hb)
def laws_markTileS_main (S : SatT) (K : AVal → H → Prop) (x0 : Sl) (x1 : Int) (h : H) : Prop :=
 laws_markTileS_L0 S K x0 x1 (0) h
theorem laws_markTileS_main_link (S : SatT) (K : AVal → H → Prop) (x0 : Sl) (x1 : Int) (h : H) : cwp S tab laws_markTileS_M [] (bodyOf Try.f78) (kFun tab Try.f78.results.toList K) (fr0 Try.f78 [.sl x0, .int .i64 x1]) h = laws_markTileS_main S K x0 x1 h := by kernel_rfl
theorem laws_markTileS_call (x0 : Sl) (x1 : Int) (h : H) (K : Int → H → Prop) (hm : laws_markTileS_main (Sat Try.prog) (fun v h' => ∃ r, v = .int .i64 r ∧ K r h') x0 x1 h) : callI (Sat Try.prog) .i64 i_laws_markTileS [.sl x0, .int .i64 x1] h K := by
  have := Sat.ex tok mixed laws_markTileS_M Try.func78 (c := bodyOf Try.f78) (by kernel_rfl) (calls_of Try.func78 (c := bodyOf Try.f78) (by kernel_rfl) (by decide)) ((laws_markTileS_main_link _ _ x0 x1 h).mpr hm)
  obtain ⟨v, h2, h3, r, rfl, h4⟩ := this; exact ⟨r, h2, h3, h4⟩

/-! ### loop.example/g01354/spec.l05Rounds -/
def spec_l05Rounds_M : Nat → List Nat := fun i => bif i == 0 then [1, 2, 3, 7, 8, 9] else []
def spec_l05Rounds_ks9 (S : SatT) (K : AVal → H → Prop) : Kont := kSeq (cwp S tab spec_l05Rounds_M [] (sub [1, 1, 1, 1, 1] (bodyOf Try.f100)) (kFun tab (Try.f100).results.toList K)) (kFun tab (Try.f100).results.toList K)
def spec_l05Rounds_e0 (s1_ : Sl) (i2_ : Int) (p3_ : Pt) (i7_ : Int) (s8_ : Sl) (i9_ : Int) : Frame := [U, .sl s1_, .int .i64 i2_, .ptr p3_, U, U, U, .int .i64 i7_, .sl s8_, .int .i64 i9_, U, U, U, U, U, U, U, U, U, U, U, U, U, U, U, U, U, U, U, U, U, U, U, U, U, U, U, U, U, U, U, U, U, U, U, U, U, U, U, U, U, U, U, U, U, U, U, U, U, U, U, U, U, U, U, U, U, U, U, U, U, U, U, U, U, U, U]
def spec_l05Rounds_w0 (S : SatT) (K : AVal → H → Prop) : (Frame → H → Prop) → Frame → H → Prop := fun X fr h => cwp S tab spec_l05Rounds_M (spec_l05Rounds_M 0) (sub [1, 1, 1, 1, 0, 1, 0, 0] (bodyOf Try.f100)) (kSeq (fun fr h => X (mask (spec_l05Rounds_M 0) fr) h) (kBlk 0 (spec_l05Rounds_ks9 S K))) fr h
def spec_l05Rounds_L0 (S : SatT) (K : AVal → H → Prop) (s1_ : Sl) (i2_ : Int) (p3_ : Pt) (i7_ : Int) (s8_ : Sl) (i9_ : Int) (h : H) : Prop := loopK (spec_l05Rounds_w0 S K) (spec_l05Rounds_e0 s1_ i2_ p3_ i7_ s8_ i9_) h
def spec_l05Rounds_C0 (S : SatT) (K : AVal → H → Prop) (s8_ : Sl) (h : H) : Prop :=
 K (.sl s8_) h
def spec_l05Rounds_b0 (S : SatT) (K : AVal → H → Prop) (X0 : Frame → H → Prop) (s1_ : Sl) (i2_ : Int) (p3_ : Pt) (i7_ : Int) (s8_ : Sl) (i9_ : Int) (h : H) : Prop :=
 isPt p3_ (
 ldS (Pt.add p3_ 1) h fun s0 =>
 bif (decide (i9_ < (s0.len : Int))) then
 bif (i7_ == (0)) then
 slotK 11 h fun h1 =>
 ldA p3_ 2 h1 fun cs2 =>
 callS S i_spec_l01Own [.sl s1_] h1 fun s4 h3 =>
(range h3 p3_.o p3_.n p3_.off 2 = range h1 p3_.o p3_.n p3_.off 2) ∧ (
 newSat 1 1 [.int .i64 i9_] h3 (h.length + 5) fun s5 h6 =>
(range h6 p3_.o p3_.n p3_.off 2 = range h1 p3_.o p3_.n p3_.off 2) ∧ (
 app s4 s5 1 h6 fun s7 h8 =>
(range h8 p3_.o p3_.n p3_.off 2 = range h1 p3_.o p3_.n p3_.off 2) ∧ (
 callS S i_spec_l05Rounds [.agg cs2, .sl s7, .int .i64 i2_] h8 fun s10 h9 =>
 app s8_ s10 1 h9 fun s11 h12 =>
 X0 (spec_l05Rounds_e0 s1_ i2_ p3_ i7_ s11 (w64 (i9_ + (1)))) h12)))
 else
 isPt p3_ (
 ldS (Pt.add p3_ 1) h fun s13 =>
 ixS s1_ 1 (w64 (i7_ - (1))) fun p14 =>
 ldI .i64 p14 h fun n15 =>
 ixS s13 4 n15 fun p16 =>
 ixA p16 4 1 (2) fun p17 =>
 ldI .i64 p17 h fun n18 =>
 isPt p3_ (
 ldS (Pt.add p3_ 1) h fun s19 =>
 ixS s19 4 i9_ fun p20 =>
 ixA p20 4 1 (0) fun p21 =>
 ldI .i64 p21 h fun n22 =>
 bif (n18 == n22) then
 slotK 11 h fun h23 =>
 ldA p3_ 2 h23 fun cs24 =>
 callS S i_spec_l01Own [.sl s1_] h23 fun s26 h25 =>
(range h25 p3_.o p3_.n p3_.off 2 = range h23 p3_.o p3_.n p3_.off 2) ∧ (
 newSat 1 1 [.int .i64 i9_] h25 (h.length + 5) fun s27 h28 =>
(range h28 p3_.o p3_.n p3_.off 2 = range h23 p3_.o p3_.n p3_.off 2) ∧ (
 app s26 s27 1 h28 fun s29 h30 =>
(range h30 p3_.o p3_.n p3_.off 2 = range h23 p3_.o p3_.n p3_.off 2) ∧ (
 callS S i_spec_l05Rounds [.agg cs24, .sl s29, .int .i64 i2_] h30 fun s32 h31 =>
 app s8_ s32 1 h31 fun s33 h34 =>
 X0 (spec_l05Rounds_e0 s1_ i2_ p3_ i7_ s33 (w64 (i9_ + (1)))) h34)))
 else
 X0 (spec_l05Rounds_e0 s1_ i2_ p3_ i7_ s8_ (w64 (i9_ + (1)))) h))
 else
 spec_l05Rounds_C0 S K s8_ h)
theorem spec_l05Rounds_link0 (S : SatT) (K : AVal → H → Prop) (X0 : Frame → H → Prop) (s1_ : Sl) (i2_ : Int) (p3_ : Pt) (i7_ : Int) (s8_ : Sl) (i9_ : Int) (h : H) : spec_l05Rounds_w0 S K X0 (spec_l05Rounds_e0 s1_ i2_ p3_ i7_ s8_ i9_) h = spec_l05Rounds_b0 S K X0 s1_ i2_ p3_ i7_ s8_ i9_ h := by kernel_rfl
theorem spec_l05Rounds_rule0 (S : SatT) (K : AVal → H → Prop) (s1_ : Sl) (i2_ : Int) (p3_ : Pt) (i7_ : Int) (I_ : Sl → Int → H → Prop) (m_ : Sl → Int → H → Nat)
    (hs : ∀ (X0 : Frame → H → Prop) (s8_ : Sl) (i9_ : Int) (h : H), I_ s8_ i9_ h → (∀ (s8_' : Sl) (i9_' : Int) (h' : H), I_ s8_' i9_' h' → m_ s8_' i9_' h' < m_ s8_ i9_ h → X0 (spec_l05Rounds_e0 s1_ i2_ p3_ i7_ s8_' i9_') h') → spec_l05Rounds_b0 S K X0 s1_ i2_ p3_ i7_ s8_ i9_ h) (s8_ : Sl) (i9_ : Int) {h : H} (h0 : I_ s8_ i9_ h) : spec_l05Rounds_L0 S K s1_ i2_ p3_ i7_ s8_ i9_ h :=
  loop_rule (σ := (Sl) × (Int)) (fun s_ => spec_l05Rounds_e0 s1_ i2_ p3_ i7_ (s_.1) (s_.2)) (fun s_ h => I_ (s_.1) (s_.2) h) (fun s_ h => m_ (s_.1) (s_.2) h)
    (fun X s_ h hi hx => (spec_l05Rounds_link0 S K X s1_ i2_ p3_ i7_ (s_.1) (s_.2) h).mpr (hs X (s_.1) (s_.2) h hi fun s8_' i9_' h' hi' hm' => hx (s8_', i9_') h' hi' hm')) (s8_, i9_) h0
theorem spec_l05Rounds_unroll0 (S : SatT) (K : AVal → H → Prop) (s1_ : Sl) (i2_ : Int) (p3_ : Pt) (i7_ : Int) (s8_ : Sl) (i9_ : Int) (h : H) (hb : spec_l05Rounds_b0 S K (fun fr h => loopK (spec_l05Rounds_w0 S K) fr h) s1_ i2_ p3_ i7_ s8_ i9_ h) : spec_l05Rounds_L0 S K s1_ i2_ p3_ i7_ s8_ i9_ h := loop_unroll ((spec_l05Rounds_link0 S K _ s1_ i2_ p3_ i7_ s8_ i9_ h).mpr hb)
def spec_l05Rounds_main (S : SatT) (K : AVal → H → Prop) (x0 : List AVal) (x1 : Sl) (x2 : Int) (h : H) : Prop :=
 newK 2 x0 h fun p0 h1 =>
 bif ((x1.len : Int) == x2) then
 isPt p0 (
 ldS (Pt.add p0 1) h1 fun s2 =>
 ixS x1 1 (w64 ((x1.len : Int) - (1))) fun p3 =>
 ldI .i64 p3 h1 fun n4 =>
 ixS s2 4 n4 fun p5 =>
 ixA p5 4 1 (2) fun p6 =>
 ldI .i64 p6 h1 fun n7 =>
 isPt p0 (
 ldS (Pt.add p0 1) h1 fun s8 =>
 ixS x1 1 (0) fun p9 =>
 ldI .i64 p9 h1 fun n10 =>
 ixS s8 4 n10 fun p11 =>
 ixA p11 4 1 (0) fun p12 =>
 ldI .i64 p12 h1 fun n13 =>
 bif (n7 == n13) then
 newS 1 1 [.sl x1] h1 fun s14 h15 =>
 K (.sl s14) h15
 else
 newS 0 1 [] h1 fun s16 h17 =>
 K (.sl s16) h17))
 else
 newS 0 1 [] h1 fun s18 h19 =>
 spec_l05Rounds_L0 S K x1 x2 p0 (x1.len : Int) s18 (0) h19
theorem spec_l05Rounds_main_link (S : SatT) (K : AVal → H → Prop) (x0 : List AVal) (x1 : Sl) (x2 : Int) (h : H) : cwp S tab spec_l05Rounds_M [] (bodyOf Try.f100) (kFun tab Try.f100.results.toList K) (fr0 Try.f100 [.agg x0, .sl x1, .int .i64 x2]) h = spec_l05Rounds_main S K x0 x1 x2 h := by kernel_rfl
theorem spec_l05Rounds_call (x0 : List AVal) (x1 : Sl) (x2 : Int) (h : H) (K : Sl → H → Prop) (hm : spec_l05Rounds_main (Sat Try.prog) (fun v h' => ∃ r, v = .sl r ∧ K r h') x0 x1 x2 h) : callS (Sat Try.prog) i_spec_l05Rounds [.agg x0, .sl x1, .int .i64 x2] h K := by
  have := Sat.ex tok mixed spec_l05Rounds_M Try.func100 (c := bodyOf Try.f100) (by kernel_rfl) (calls_of Try.func100 (c := bodyOf Try.f100) (by kernel_rfl) (by decide)) ((spec_l05Rounds_main_link _ _ x0 x1 x2 h).mpr hm)
  obtain ⟨v, h2, h3, r, rfl, h4⟩ := this; exact ⟨r, h2, h3, h4⟩

/-! ### loop.example/g01354/spec.CountCylinders -/
def spec_CountCylinders_M : Nat → List Nat := fun i => bif i == 0 then [12, 13, 14] else []
def spec_CountCylinders_ks7 (S : SatT) (K : AVal → H → Prop) : Kont := kSeq (cwp S tab spec_CountCylinders_M [] (sub [1, 1, 1, 1, 1] (bodyOf Try.f16)) (kFun tab (Try.f16).results.toList K)) (kFun tab (Try.f16).results.toList K)
def spec_CountCylinders_e0 (s12_ : Sl) (i13_ : Int) (i14_ : Int) : Frame := [U, U, U, U, U, U, U, U, U, U, U, U, .sl s12_, .int .i64 i13_, .int .i64 i14_, U, U, U, U, U, U, U, U, U, U, U, U, U, U, U, U, U, U, U, U, U, U, U, U, U, U, U, U, U, U, U, U, U, U, U, U, U, U, U]
def spec_CountCylinders_w0 (S : SatT) (K : AVal → H → Prop) : (Frame → H → Prop) → Frame → H → Prop := fun X fr h => cwp S tab spec_CountCylinders_M (spec_CountCylinders_M 0) (sub [1, 1, 1, 1, 0, 1, 0, 0] (bodyOf Try.f16)) (kSeq (fun fr h => X (mask (spec_CountCylinders_M 0) fr) h) (kBlk 0 (spec_CountCylinders_ks7 S K))) fr h
def spec_CountCylinders_L0 (S : SatT) (K : AVal → H → Prop) (s12_ : Sl) (i13_ : Int) (i14_ : Int) (h : H) : Prop := loopK (spec_CountCylinders_w0 S K) (spec_CountCylinders_e0 s12_ i13_ i14_) h
def spec_CountCylinders_C0 (S : SatT) (K : AVal → H → Prop) (i13_ : Int) (h : H) : Prop :=
 bif (decide (i13_ > (1000000000000000))) then
 K (.tuple [.int .i64 (0), .int .i64 (3)]) h
 else
 K (.tuple [.int .i64 i13_, .int .i64 (0)]) h
def spec_CountCylinders_b0 (S : SatT) (K : AVal → H → Prop) (X0 : Frame → H → Prop) (s12_ : Sl) (i13_ : Int) (i14_ : Int) (h : H) : Prop :=
 bif (decide (i14_ < (s12_.len : Int))) then
 ixS s12_ 1 i14_ fun p0 =>
 ldI .i64 p0 h fun n1 =>
 X0 (spec_CountCylinders_e0 s12_ (mnI (w64 (i13_ + n1)) (1000000000000001)) (w64 (i14_ + (1)))) h
 else
 spec_CountCylinders_C0 S K i13_ h
theorem spec_CountCylinders_link0 (S : SatT) (K : AVal → H → Prop) (X0 : Frame → H → Prop) (s12_ : Sl) (i13_ : Int) (i14_ : Int) (h : H) : spec_CountCylinders_w0 S K X0 (spec_CountCylinders_e0 s12_ i13_ i14_) h = spec_CountCylinders_b0 S K X0 s12_ i13_ i14_ h := by kernel_rfl
theorem spec_CountCylinders_rule0 (S : SatT) (K : AVal → H → Prop) (s12_ : Sl) (I_ : Int → Int → H → Prop) (m_ : Int → Int → H → Nat)
    (hs : ∀ (X0 : Frame → H → Prop) (i13_ : Int) (i14_ : Int) (h : H), I_ i13_ i14_ h → (∀ (i13_' : Int) (i14_' : Int) (h' : H), I_ i13_' i14_' h' → m_ i13_' i14_' h' < m_ i13_ i14_ h → X0 (spec_CountCylinders_e0 s12_ i13_' i14_') h') → spec_CountCylinders_b0 S K X0 s12_ i13_ i14_ h) (i13_ : Int) (i14_ : Int) {h : H} (h0 : I_ i13_ i14_ h) : spec_CountCylinders_L0 S K s12_ i13_ i14_ h :=
  loop_rule (σ := (Int) × (Int)) (fun s_ => spec_CountCylinders_e0 s12_ (s_.1) (s_.2)) (fun s_ h => I_ (s_.1) (s_.2) h) (fun s_ h => m_ (s_.1) (s_.2) h)
    (fun X s_ h hi hx => (spec_CountCylinders_link0 S K X s12_ (s_.1) (s_.2) h).mpr (hs X (s_.1) (s_.2) h hi fun i13_' i14_' h' hi' hm' => hx (i13_', i14_') h' hi' hm')) (i13_, i14_) h0
theorem spec_CountCylinders_unroll0 (S : SatT) (K : AVal → H → Prop) (s12_ : Sl) (i13_ : Int) (i14_ : Int) (h : H) (hb : spec_CountCylinders_b0 S K (fun fr h => loopK (spec_CountCylinders_w0 S K) fr h) s12_ i13_ i14_ h) : spec_CountCylinders_L0 S K s12_ i13_ i14_ h := loop_unroll ((spec_CountCylinders_link0 S K _ s12_ i13_ i14_ h).mpr hb)
def spec_CountCylinders_main (S : SatT) (K : AVal → H → Prop) (x0 : List AVal) (x1 : Int) (x2 : Int) (h : H) : Prop :=
 newK 2 x0 h fun p0 h1 =>
 ldA p0 2 h1 fun cs2 =>
 callI S .i64 i_spec_l05Code [.agg cs2, .int .i64 x1, .int .i64 x2, .int .i64 (5)] h1 fun n4 h3 =>
 bif (n4 != (0)) then
 K (.tuple [.int .i64 (0), .int .i64 n4]) h3
 else
 ldA p0 2 h3 fun cs5 =>
 callV S i_spec_l05Words [.agg cs5, .int .i64 x2] h3 fun v7 h6 =>
 viaT v7 fun vs8 =>
 exS vs8 0 fun s9 =>
 viaT v7 fun vs10 =>
 exS vs10 1 fun s11 =>
 viaT v7 fun vs12 =>
 exS vs12 2 fun s13 =>
 ldA p0 2 h6 fun cs14 =>
 isPt p0 (
 ldI .i64 (Pt.add p0 0) h6 fun n15 =>
 callI S .i64 i_spec_l03Power [.int .i64 n15, .int .i64 x2] h6 fun n17 h16 =>
(range h16 p0.o p0.n p0.off 2 = range h6 p0.o p0.n p0.off 2) ∧ (
 callS S i_spec_l05Paths [.agg cs14, .sl s11, .sl s13, .int .i64 n17, .int .i64 x1, .int .i64 (-1)] h16 fun s19 h18 =>
 spec_CountCylinders_L0 S K s19 (0) (0) h18))
theorem spec_CountCylinders_main_link (S : SatT) (K : AVal → H → Prop) (x0 : List AVal) (x1 : Int) (x2 : Int) (h : H) : cwp S tab spec_CountCylinders_M [] (bodyOf Try.f16) (kFun tab Try.f16.results.toList K) (fr0 Try.f16 [.agg x0, .int .i64 x1, .int .i64 x2]) h = spec_CountCylinders_main S K x0 x1 x2 h := by kernel_rfl
theorem spec_CountCylinders_call (x0 : List AVal) (x1 : Int) (x2 : Int) (h : H) (K : AVal → H → Prop) (hm : spec_CountCylinders_main (Sat Try.prog) (fun v h' => K v h') x0 x1 x2 h) : callV (Sat Try.prog) i_spec_CountCylinders [.agg x0, .int .i64 x1, .int .i64 x2] h K := by
  have := Sat.ex tok mixed spec_CountCylinders_M Try.func16 (c := bodyOf Try.f16) (by kernel_rfl) (calls_of Try.func16 (c := bodyOf Try.f16) (by kernel_rfl) (by decide)) ((spec_CountCylinders_main_link _ _ x0 x1 x2 h).mpr hm)
  exact this

/-! ### (loop.example/g01354/impl.Set).isTorus -/
def impl_Set_isTorus_M : Nat → List Nat := fun i => bif i == 0 then [1, 2, 9, 10, 11] else []
def impl_Set_isTorus_ks1 (S : SatT) (K : AVal → H → Prop) : Kont := kSeq (cwp S tab impl_Set_isTorus_M [] (sub [1, 1] (bodyOf Try.f75)) (kFun tab (Try.f75).results.toList K)) (kFun tab (Try.f75).results.toList K)
def impl_Set_isTorus_e0 (s1_ : Sl) (p2_ : Pt) (s9_ : Sl) (i10_ : Int) (i11_ : Int) : Frame := [U, .sl s1_, .ptr p2_, U, U, U, U, U, U, .sl s9_, .int .i64 i10_, .int .i64 i11_, U, U, U, U, U, U, U, U, U, U, U, U, U, U, U, U, U, U, U, U, U, U, U, U, U, U, U, U, U]
def impl_Set_isTorus_w0 (S : SatT) (K : AVal → H → Prop) : (Frame → H → Prop) → Frame → H → Prop := fun X fr h => cwp S tab impl_Set_isTorus_M (impl_Set_isTorus_M 0) (sub [1, 0, 1, 0, 0] (bodyOf Try.f75)) (kSeq (fun fr h => X (mask (impl_Set_isTorus_M 0) fr) h) (kBlk 0 (impl_Set_isTorus_ks1 S K))) fr h
def impl_Set_isTorus_L0 (S : SatT) (K : AVal → H → Prop) (s1_ : Sl) (p2_ : Pt) (s9_ : Sl) (i10_ : Int) (i11_ : Int) (h : H) : Prop := loopK (impl_Set_isTorus_w0 S K) (impl_Set_isTorus_e0 s1_ p2_ s9_ i10_ i11_) h
def impl_Set_isTorus_C0 (S : SatT) (K : AVal → H → Prop) (s1_ : Sl) (p2_ : Pt) (h : H) : Prop :=
 ldA p2_ 2 h fun cs0 =>
 callB S i_impl_Set_isCylinder [.agg cs0, .sl s1_] h fun b2 h1 =>
 K (.bool b2) h1
def impl_Set_isTorus_b0 (S : SatT) (K : AVal → H → Prop) (X0 : Frame → H → Prop) (s1_ : Sl) (p2_ : Pt) (s9_ : Sl) (i10_ : Int) (i11_ : Int) (h : H) : Prop :=
 bif (decide (i11_ < i10_)) then
 ixS s9_ 1 i11_ fun p0 =>
 ldI .i64 p0 h fun n1 =>
 isPt p2_ (
 ldS (Pt.add p2_ 1) h fun s2 =>
 ixS s1_ 1 (w64 ((s1_.len : Int) - (1))) fun p3 =>
 ldS p3 h fun s4 =>
 ixS s4 1 i11_ fun p5 =>
 ldI .i64 p5 h fun n6 =>
 ixS s2 4 n6 fun p7 =>
 ixA p7 4 1 (3) fun p8 =>
 ldI .i64 p8 h fun n9 =>
 isPt p2_ (
 ldS (Pt.add p2_ 1) h fun s10 =>
 ixS s10 4 n1 fun p11 =>
 ixA p11 4 1 (1) fun p12 =>
 ldI .i64 p12 h fun n13 =>
 bif (n9 != n13) then
 K (.bool false) h
 else
 X0 (impl_Set_isTorus_e0 s1_ p2_ s9_ i10_ (w64 (i11_ + (1)))) h))
 else
 impl_Set_isTorus_C0 S K s1_ p2_ h
theorem impl_Set_isTorus_link0 (S : SatT) (K : AVal → H → Prop) (X0 : Frame → H → Prop) (s1_ : Sl) (p2_ : Pt) (s9_ : Sl) (i10_ : Int) (i11_ : Int) (h : H) : impl_Set_isTorus_w0 S K X0 (impl_Set_isTorus_e0 s1_ p2_ s9_ i10_ i11_) h = impl_Set_isTorus_b0 S K X0 s1_ p2_ s9_ i10_ i11_ h := by kernel_rfl
theorem impl_Set_isTorus_rule0 (S : SatT) (K : AVal → H → Prop) (s1_ : Sl) (p2_ : Pt) (s9_ : Sl) (i10_ : Int) (I_ : Int → H → Prop) (m_ : Int → H → Nat)
    (hs : ∀ (X0 : Frame → H → Prop) (i11_ : Int) (h : H), I_ i11_ h → (∀ (i11_' : Int) (h' : H), I_ i11_' h' → m_ i11_' h' < m_ i11_ h → X0 (impl_Set_isTorus_e0 s1_ p2_ s9_ i10_ i11_') h') → impl_Set_isTorus_b0 S K X0 s1_ p2_ s9_ i10_ i11_ h) (i11_ : Int) {h : H} (h0 : I_ i11_ h) : impl_Set_isTorus_L0 S K s1_ p2_ s9_ i10_ i11_ h :=
  loop_rule (σ := (Int)) (fun s_ => impl_Set_isTorus_e0 s1_ p2_ s9_ i10_ (s_)) (fun s_ h => I_ (s_) h) (fun s_ h => m_ (s_) h)
    (fun X s_ h hi hx => (impl_Set_isTorus_link0 S K X s1_ p2_ s9_ i10_ (s_) h).mpr (hs X (s_) h hi fun i11_' h' hi' hm' => hx (i11_') h' hi' hm')) (i11_) h0
theorem impl_Set_isTorus_unroll0 (S : SatT) (K : AVal → H → Prop) (s1_ : Sl) (p2_ : Pt) (s9_ : Sl) (i10_ : Int) (i11_ : Int) (h : H) (hb : impl_Set_isTorus_b0 S K (fun fr h => loopK (impl_Set_isTorus_w0 S K) fr h) s1_ p2_ s9_ i10_ i11_ h) : impl_Set_isTorus_L0 S K s1_ p2_ s9_ i10_ i11_ h := loop_unroll ((impl_Set_isTorus_link0 S K _ s1_ p2_ s9_ i10_ i11_ h).mpr hb)
def impl_Set_isTorus_main (S : SatT) (K : AVal → H → Prop) (x0 : List AVal) (x1 : Sl) (h : H) : Prop :=
 newK 2 x0 h fun p0 h1 =>
 ixS x1 1 (0) fun p2 =>
 ldS p2 h1 fun s3 =>
 impl_Set_isTorus_L0 S K x1 p0 s3 (s3.len : Int) (0) h1
theorem impl_Set_isTorus_main_link (S : SatT) (K : AVal → H → Prop) (x0 : List AVal) (x1 : Sl) (h : H) : cwp S tab impl_Set_isTorus_M [] (bodyOf Try.f75) (kFun tab Try.f75.results.toList K) (fr0 Try.f75 [.agg x0, .sl x1]) h = impl_Set_isTorus_main S K x0 x1 h := by kernel_rfl
theorem impl_Set_isTorus_call (x0 : List AVal) (x1 : Sl) (h : H) (K : Bool → H → Prop) (hm : impl_Set_isTorus_main (Sat Try.prog) (fun v h' => ∃ r, v = .bool r ∧ K r h') x0 x1 h) : callB (Sat Try.prog) i_impl_Set_isTorus [.agg x0, .sl x1] h K := by
  have := Sat.ex tok mixed impl_Set_isTorus_M Try.func75 (c := bodyOf Try.f75) (by kernel_rfl) (calls_of Try.func75 (c := bodyOf Try.f75) (by kernel_rfl) (by decide)) ((impl_Set_isTorus_main_link _ _ x0 x1 h).mpr hm)
  obtain ⟨v, h2, h3, r, rfl, h4⟩ := this; exact ⟨r, h2, h3, h4⟩

/-! ### (loop.example/g01354/impl.Set).rounds -/
def impl_Set_rounds_M : Nat → List Nat := fun i => bif i == 0 then [1, 5, 6, 11, 12] else []
def impl_Set_rounds_ks4 (S : SatT) (K : AVal → H → Prop) : Kont := kSeq (cwp S tab impl_Set_rounds_M [] (sub [1, 1, 1, 1, 1] (bodyOf Try.f57)) (kFun tab (Try.f57).results.toList K)) (kFun tab (Try.f57).results.toList K)
def impl_Set_rounds_e0 (i1_ : Int) (p5_ : Pt) (p6_ : Pt) (i11_ : Int) (i12_ : Int) : Frame := [U, .int .i64 i1_, U, U, U, .ptr p5_, .ptr p6_, U, U, U, U, .int .i64 i11_, .int .i64 i12_, U, U, U, U, U, U, U, U, U]
def impl_Set_rounds_w0 (S : SatT) (K : AVal → H → Prop) : (Frame → H → Prop) → Frame → H → Prop := fun X fr h => cwp S tab impl_Set_rounds_M (impl_Set_rounds_M 0) (sub [1, 1, 1, 1, 0, 1, 0, 0] (bodyOf Try.f57)) (kSeq (fun fr h => X (mask (impl_Set_rounds_M 0) fr) h) (kBlk 0 (impl_Set_rounds_ks4 S K))) fr h
def impl_Set_rounds_L0 (S : SatT) (K : AVal → H → Prop) (i1_ : Int) (p5_ : Pt) (p6_ : Pt) (i11_ : Int) (i12_ : Int) (h : H) : Prop := loopK (impl_Set_rounds_w0 S K) (impl_Set_rounds_e0 i1_ p5_ p6_ i11_ i12_) h
def impl_Set_rounds_C0 (S : SatT) (K : AVal → H → Prop) (p5_ : Pt) (h : H) : Prop :=
 ldS p5_ h fun s0 =>
 K (.sl s0) h
def impl_Set_rounds_b0 (S : SatT) (K : AVal → H → Prop) (X0 : Frame → H → Prop) (i1_ : Int) (p5_ : Pt) (p6_ : Pt) (i11_ : Int) (i12_ : Int) (h : H) : Prop :=
 bif (decide (i12_ < i11_)) then
 ldV p6_ h fun v0 =>
 viaF v0 [.int .i64 i12_, .int .i64 i12_, .int .i64 (0), .int .i64 (0), .int .i64 i1_] fun g1 ys2 =>
 callV S g1 ys2 h fun v4 h3 =>
 X0 (impl_Set_rounds_e0 i1_ p5_ p6_ i11_ (w64 (i12_ + (1)))) h3
 else
 impl_Set_rounds_C0 S K p5_ h
theorem impl_Set_rounds_link0 (S : SatT) (K : AVal → H → Prop) (X0 : Frame → H → Prop) (i1_ : Int) (p5_ : Pt) (p6_ : Pt) (i11_ : Int) (i12_ : Int) (h : H) : impl_Set_rounds_w0 S K X0 (impl_Set_rounds_e0 i1_ p5_ p6_ i11_ i12_) h = impl_Set_rounds_b0 S K X0 i1_ p5_ p6_ i11_ i12_ h := by kernel_rfl
theorem impl_Set_rounds_rule0 (S : SatT) (K : AVal → H → Prop) (i1_ : Int) (p5_ : Pt) (p6_ : Pt) (i11_ : Int) (I_ : Int → H → Prop) (m_ : Int → H → Nat)
    (hs : ∀ (X0 : Frame → H → Prop) (i12_ : Int) (h : H), I_ i12_ h → (∀ (i12_' : Int) (h' : H), I_ i12_' h' → m_ i12_' h' < m_ i12_ h → X0 (impl_Set_rounds_e0 i1_ p5_ p6_ i11_ i12_') h') → impl_Set_rounds_b0 S K X0 i1_ p5_ p6_ i11_ i12_ h) (i12_ : Int) {h : H} (h0 : I_ i12_ h) : impl_Set_rounds_L0 S K i1_ p5_ p6_ i11_ i12_ h :=
  loop_rule (σ := (Int)) (fun s_ => impl_Set_rounds_e0 i1_ p5_ p6_ i11_ (s_)) (fun s_ h => I_ (s_) h) (fun s_ h => m_ (s_) h)
    (fun X s_ h hi hx => (impl_Set_rounds_link0 S K X i1_ p5_ p6_ i11_ (s_) h).mpr (hs X (s_) h hi fun i12_' h' hi' hm' => hx (i12_') h' hi' hm')) (i12_) h0
theorem impl_Set_rounds_unroll0 (S : SatT) (K : AVal → H → Prop) (i1_ : Int) (p5_ : Pt) (p6_ : Pt) (i11_ : Int) (i12_ : Int) (h : H) (hb : impl_Set_rounds_b0 S K (fun fr h => loopK (impl_Set_rounds_w0 S K) fr h) i1_ p5_ p6_ i11_ i12_ h) : impl_Set_rounds_L0 S K i1_ p5_ p6_ i11_ i12_ h := loop_unroll ((impl_Set_rounds_link0 S K _ i1_ p5_ p6_ i11_ i12_ h).mpr hb)
def impl_Set_rounds_main (S : SatT) (K : AVal → H → Prop) (x0 : List AVal) (x1 : Int) (h : H) : Prop :=
 newK 2 x0 h fun p0 h1 =>
 newS 0 2 [] h1 fun s2 h3 =>
 newO [.sl Sl.nil] h3 fun p4 h5 =>
 st1 p4 (.sl s2) h5 fun h6 =>
 newO [.nilFunc] h6 fun p7 h8 =>
 st1 p7 (.func 103 [.ptr p4, .ptr p0, .ptr p7]) h8 fun h9 =>
 isPt p0 (
 ldI .i64 (Pt.add p0 0) h9 fun n10 =>
 impl_Set_rounds_L0 S K x1 p4 p7 n10 (0) h9)
theorem impl_Set_rounds_main_link (S : SatT) (K : AVal → H → Prop) (x0 : List AVal) (x1 : Int) (h : H) : cwp S tab impl_Set_rounds_M [] (bodyOf Try.f57) (kFun tab Try.f57.results.toList K) (fr0 Try.f57 [.agg x0, .int .i64 x1]) h = impl_Set_rounds_main S K x0 x1 h := by kernel_rfl
theorem impl_Set_rounds_call (x0 : List AVal) (x1 : Int) (h : H) (K : Sl → H → Prop) (hm : impl_Set_rounds_main (Sat Try.prog) (fun v h' => ∃ r, v = .sl r ∧ K r h') x0 x1 h) : callS (Sat Try.prog) i_impl_Set_rounds [.agg x0, .int .i64 x1] h K := by
  have := Sat.ex tok mixed impl_Set_rounds_M Try.func57 (c := bodyOf Try.f57) (by kernel_rfl) (calls_of Try.func57 (c := bodyOf Try.f57) (by kernel_rfl) (by decide)) ((impl_Set_rounds_main_link _ _ x0 x1 h).mpr hm)
  obtain ⟨v, h2, h3, r, rfl, h4⟩ := this; exact ⟨r, h2, h3, h4⟩

/-! ### loop.example/g01354/spec.l05Cylinder -/
def spec_l05Cylinder_M : Nat → List Nat := fun i => bif i == 0 then [1, 2, 5] else []
def spec_l05Cylinder_ks1 (S : SatT) (K : AVal → H → Prop) : Kont := kSeq (cwp S tab spec_l05Cylinder_M [] (sub [1, 1] (bodyOf Try.f67)) (kFun tab (Try.f67).results.toList K)) (kFun tab (Try.f67).results.toList K)
def spec_l05Cylinder_e0 (s1_ : Sl) (p2_ : Pt) (i5_ : Int) : Frame := [U, .sl s1_, .ptr p2_, U, U, .int .i64 i5_, U, U, U, U, U, U, U, U, U, U, U, U, U, U, U, U, U, U, U, U, U, U, U, U, U, U, U, U, U, U, U, U, U, U, U]
def spec_l05Cylinder_w0 (S : SatT) (K : AVal → H → Prop) : (Frame → H → Prop) → Frame → H → Prop := fun X fr h => cwp S tab spec_l05Cylinder_M (spec_l05Cylinder_M 0) (sub [1, 0, 1, 0, 0] (bodyOf Try.f67)) (kSeq (fun fr h => X (mask (spec_l05Cylinder_M 0) fr) h) (kBlk 0 (spec_l05Cylinder_ks1 S K))) fr h
def spec_l05Cylinder_L0 (S : SatT) (K : AVal → H → Prop) (s1_ : Sl) (p2_ : Pt) (i5_ : Int) (h : H) : Prop := loopK (spec_l05Cylinder_w0 S K) (spec_l05Cylinder_e0 s1_ p2_ i5_) h
def spec_l05Cylinder_C0 (S : SatT) (K : AVal → H → Prop) (h : H) : Prop :=
 K (.bool true) h
def spec_l05Cylinder_b0 (S : SatT) (K : AVal → H → Prop) (X0 : Frame → H → Prop) (s1_ : Sl) (p2_ : Pt) (i5_ : Int) (h : H) : Prop :=
 bif (decide (i5_ < (s1_.len : Int))) then
 isPt p2_ (
 ldS (Pt.add p2_ 1) h fun s0 =>
 ixS s1_ 1 i5_ fun p1 =>
 ldS p1 h fun s2 =>
 ixS s1_ 1 i5_ fun p3 =>
 ldS p3 h fun s4 =>
 ixS s2 1 (w64 ((s4.len : Int) - (1))) fun p5 =>
 ldI .i64 p5 h fun n6 =>
 ixS s0 4 n6 fun p7 =>
 ixA p7 4 1 (2) fun p8 =>
 ldI .i64 p8 h fun n9 =>
 isPt p2_ (
 ldS (Pt.add p2_ 1) h fun s10 =>
 ixS s1_ 1 i5_ fun p11 =>
 ldS p11 h fun s12 =>
 ixS s12 1 (0) fun p13 =>
 ldI .i64 p13 h fun n14 =>
 ixS s10 4 n14 fun p15 =>
 ixA p15 4 1 (0) fun p16 =>
 ldI .i64 p16 h fun n17 =>
 bif (n9 != n17) then
 K (.bool false) h
 else
 X0 (spec_l05Cylinder_e0 s1_ p2_ (w64 (i5_ + (1)))) h))
 else
 spec_l05Cylinder_C0 S K h
theorem spec_l05Cylinder_link0 (S : SatT) (K : AVal → H → Prop) (X0 : Frame → H → Prop) (s1_ : Sl) (p2_ : Pt) (i5_ : Int) (h : H) : spec_l05Cylinder_w0 S K X0 (spec_l05Cylinder_e0 s1_ p2_ i5_) h = spec_l05Cylinder_b0 S K X0 s1_ p2_ i5_ h := by kernel_rfl
theorem spec_l05Cylinder_rule0 (S : SatT) (K : AVal → H → Prop) (s1_ : Sl) (p2_ : Pt) (I_ : Int → H → Prop) (m_ : Int → H → Nat)
    (hs : ∀ (X0 : Frame → H → Prop) (i5_ : Int) (h : H), I_ i5_ h → (∀ (i5_' : Int) (h' : H), I_ i5_' h' → m_ i5_' h' < m_ i5_ h → X0 (spec_l05Cylinder_e0 s1_ p2_ i5_') h') → spec_l05Cylinder_b0 S K X0 s1_ p2_ i5_ h) (i5_ : Int) {h : H} (h0 : I_ i5_ h) : spec_l05Cylinder_L0 S K s1_ p2_ i5_ h :=
  loop_rule (σ := (Int)) (fun s_ => spec_l05Cylinder_e0 s1_ p2_ (s_)) (fun s_ h => I_ (s_) h) (fun s_ h => m_ (s_) h)
    (fun X s_ h hi hx => (spec_l05Cylinder_link0 S K X s1_ p2_ (s_) h).mpr (hs X (s_) h hi fun i5_' h' hi' hm' => hx (i5_') h' hi' hm')) (i5_) h0
theorem spec_l05Cylinder_unroll0 (S : SatT) (K : AVal → H → Prop) (s1_ : Sl) (p2_ : Pt) (i5_ : Int) (h : H) (hb : spec_l05Cylinder_b0 S K (fun fr h => loopK (spec_l05Cylinder_w0 S K) fr h) s1_ p2_ i5_ h) : spec_l05Cylinder_L0 S K s1_ p2_ i5_ h := loop_unroll ((spec_l05Cylinder_link0 S K _ s1_ p2_ i5_ h).mpr hb)
def spec_l05Cylinder_main (S : SatT) (K : AVal → H → Prop) (x0 : List AVal) (x1 : Sl) (h : H) : Prop :=
 newK 2 x0 h fun p0 h1 =>
 spec_l05Cylinder_L0 S K x1 p0 (0) h1
theorem spec_l05Cylinder_main_link (S : SatT) (K : AVal → H → Prop) (x0 : List AVal) (x1 : Sl) (h : H) : cwp S tab spec_l05Cylinder_M [] (bodyOf Try.f67) (kFun tab Try.f67.results.toList K) (fr0 Try.f67 [.agg x0, .sl x1]) h = spec_l05Cylinder_main S K x0 x1 h := by kernel_rfl
theorem spec_l05Cylinder_call (x0 : List AVal) (x1 : Sl) (h : H) (K : Bool → H → Prop) (hm : spec_l05Cylinder_main (Sat Try.prog) (fun v h' => ∃ r, v = .bool r ∧ K r h') x0 x1 h) : callB (Sat Try.prog) i_spec_l05Cylinder [.agg x0, .sl x1] h K := by
  have := Sat.ex tok mixed spec_l05Cylinder_M Try.func67 (c := bodyOf Try.f67) (by kernel_rfl) (calls_of Try.func67 (c := bodyOf Try.f67) (by kernel_rfl) (by decide)) ((spec_l05Cylinder_main_link _ _ x0 x1 h).mpr hm)
  obtain ⟨v, h2, h3, r, rfl, h4⟩ := this; exact ⟨r, h2, h3, h4⟩

/-! ### loop.example/g01354/laws.FnExactLeastForm -/
def laws_FnExactLeastForm_M : Nat → List Nat := fun i => []
def laws_FnExactLeastForm_main (S : SatT) (K : AVal → H → Prop) (x0 : List AVal) (x1 : Sl) (h : H) : Prop :=
 newK 2 x0 h fun p0 h1 =>
 ldA p0 2 h1 fun cs2 =>
 callI S .i64 i_laws_szSet [.agg cs2, .int .i64 (1048576)] h1 fun n4 h3 =>
 bif (decide (n4 < (0))) then
 K (.bool true) h3
 else
 callI S .i64 i_laws_szInt64SS [.sl x1, .int .i64 n4] h3 fun n6 h5 =>
 bif (decide (n6 < (0))) then
 K (.bool true) h5
 else
 ldA p0 2 h5 fun cs7 =>
 callA S i_laws_toSet [.agg cs7] h5 fun cs9 h8 =>
 callS S i_laws_toInt64SS [.sl x1] h8 fun s11 h10 =>
 callV S i_spec_LeastForm [.agg cs9, .sl s11] h10 fun v13 h12 =>
 viaT v13 fun vs14 =>
 exS vs14 0 fun s15 =>
 viaT v13 fun vs16 =>
 exI .i64 vs16 1 fun n17 =>
 ldA p0 2 h12 fun cs18 =>
 callA S i_laws_toSet [.agg cs18] h12 fun cs20 h19 =>
 newO [.int .i64 (0), .sl Sl.nil] h19 fun p21 h22 =>
 stN p21 2 cs20 h22 fun h23 =>
 callS S i_laws_toInt64SS [.sl x1] h23 fun s25 h24 =>
 ldA p21 2 h24 fun cs26 =>
 callV S i_impl_LeastForm [.agg cs26, .sl s25] h24 fun v28 h27 =>
 viaT v28 fun vs29 =>
 exS vs29 0 fun s30 =>
 viaT v28 fun vs31 =>
 exI .i64 vs31 1 fun n32 =>
 callB S i_laws_eqInt64SS [.sl s30, .sl s15] h27 fun b34 h33 =>
 bif (!b34) then
 K (.bool false) h33
 else
 bif (n32 != n17) then
 K (.bool false) h33
 else
 ldA p21 2 h33 fun cs35 =>
 ldA p0 2 h33 fun cs36 =>
 callA S i_laws_toSet [.agg cs36] h33 fun cs38 h37 =>
(range h37 p21.o p21.n p21.off 2 = range h33 p21.o p21.n p21.off 2) ∧ (
 callB S i_laws_eqSet [.agg cs35, .agg cs38] h37 fun b40 h39 =>
 bif (!b40) then
 K (.bool false) h39
 else
 callS S i_laws_toInt64SS [.sl x1] h39 fun s42 h41 =>
 callB S i_laws_eqInt64SS [.sl s25, .sl s42] h41 fun b44 h43 =>
 bif (!b44) then
 K (.bool false) h43
 else
 ldA p21 2 h43 fun cs45 =>
 callI S .i64 i_laws_markSet [.agg cs45, .int .i64 (1)] h43 fun n47 h46 =>
 callI S .i64 i_laws_markInt64SS [.sl s25, .int .i64 n47] h46 fun n49 h48 =>
 bif (decide (n49 < (0))) then
 K (.bool false) h48
 else
 callB S i_laws_eqInt64SS [.sl s30, .sl s15] h48 fun b51 h50 =>
 bif (!b51) then
 K (.bool false) h50
 else
 bif (n32 != n17) then
 K (.bool false) h50
 else
 callI S .i64 i_laws_markInt64SS [.sl s30, .int .i64 (1)] h50 fun n53 h52 =>
 callI S .i64 i_laws_heldInt64SS [.sl s30, .int .i64 (1)] h52 fun n55 h54 =>
 bif (decide (n55 < (0))) then
 K (.bool false) h54
 else
 bif (n55 != n53) then
 K (.bool false) h54
 else
 ldA p0 2 h54 fun cs56 =>
 callA S i_laws_toSet [.agg cs56] h54 fun cs58 h57 =>
 callS S i_laws_toInt64SS [.sl x1] h57 fun s60 h59 =>
 callV S i_impl_LeastForm [.agg cs58, .sl s60] h59 fun v62 h61 =>
 viaT v62 fun vs63 =>
 exS vs63 0 fun s64 =>
 viaT v62 fun vs65 =>
 exI .i64 vs65 1 fun n66 =>
 callB S i_laws_eqInt64SS [.sl s64, .sl s15] h61 fun b68 h67 =>
 bif (!b68) then
 K (.bool false) h67
 else
 bif (n66 != n17) then
 K (.bool false) h67
 else
 callI S .i64 i_laws_heldInt64SS [.sl s30, .int .i64 (1)] h67 fun n70 h69 =>
 bif (decide (n70 < (0))) then
 K (.bool false) h69
 else
 bif (n70 != n53) then
 K (.bool false) h69
 else
 K (.bool true) h69)
theorem laws_FnExactLeastForm_main_link (S : SatT) (K : AVal → H → Prop) (x0 : List AVal) (x1 : Sl) (h : H) : cwp S tab laws_FnExactLeastForm_M [] (bodyOf Try.f13) (kFun tab Try.f13.results.toList K) (fr0 Try.f13 [.agg x0, .sl x1]) h = laws_FnExactLeastForm_main S K x0 x1 h := by kernel_rfl
theorem laws_FnExactLeastForm_call (x0 : List AVal) (x1 : Sl) (h : H) (K : Bool → H → Prop) (hm : laws_FnExactLeastForm_main (Sat Try.prog) (fun v h' => ∃ r, v = .bool r ∧ K r h') x0 x1 h) : callB (Sat Try.prog) i_laws_FnExactLeastForm [.agg x0, .sl x1] h K := by
  have := Sat.ex tok mixed laws_FnExactLeastForm_M Try.func13 (c := bodyOf Try.f13) (by kernel_rfl) (calls_of Try.func13 (c := bodyOf Try.f13) (by kernel_rfl) (by decide)) ((laws_FnExactLeastForm_main_link _ _ x0 x1 h).mpr hm)
  obtain ⟨v, h2, h3, r, rfl, h4⟩ := this; exact ⟨r, h2, h3, h4⟩

/-! ### loop.example/g01354/spec.l01Before -/
def spec_l01Before_M : Nat → List Nat := fun i => bif i == 0 then [2, 3, 5] else []
def spec_l01Before_ks1 (S : SatT) (K : AVal → H → Prop) : Kont := kSeq (cwp S tab spec_l01Before_M [] (sub [1, 1] (bodyOf Try.f110)) (kFun tab (Try.f110).results.toList K)) (kFun tab (Try.f110).results.toList K)
def spec_l01Before_e0 (p2_ : Pt) (p3_ : Pt) (i5_ : Int) : Frame := [U, U, .ptr p2_, .ptr p3_, U, .int .i64 i5_, U, U, U, U, U, U, U, U, U, U, U, U, U, U, U, U, U, U]
def spec_l01Before_w0 (S : SatT) (K : AVal → H → Prop) : (Frame → H → Prop) → Frame → H → Prop := fun X fr h => cwp S tab spec_l01Before_M (spec_l01Before_M 0) (sub [1, 0, 1, 0, 0] (bodyOf Try.f110)) (kSeq (fun fr h => X (mask (spec_l01Before_M 0) fr) h) (kBlk 0 (spec_l01Before_ks1 S K))) fr h
def spec_l01Before_L0 (S : SatT) (K : AVal → H → Prop) (p2_ : Pt) (p3_ : Pt) (i5_ : Int) (h : H) : Prop := loopK (spec_l01Before_w0 S K) (spec_l01Before_e0 p2_ p3_ i5_) h
def spec_l01Before_C0 (S : SatT) (K : AVal → H → Prop) (h : H) : Prop :=
 K (.bool false) h
def spec_l01Before_b0 (S : SatT) (K : AVal → H → Prop) (X0 : Frame → H → Prop) (p2_ : Pt) (p3_ : Pt) (i5_ : Int) (h : H) : Prop :=
 bif (decide (i5_ < (4))) then
 ixA p2_ 4 1 i5_ fun p0 =>
 ldI .i64 p0 h fun n1 =>
 ixA p3_ 4 1 i5_ fun p2 =>
 ldI .i64 p2 h fun n3 =>
 bif (n1 != n3) then
 ixA p2_ 4 1 i5_ fun p4 =>
 ldI .i64 p4 h fun n5 =>
 ixA p3_ 4 1 i5_ fun p6 =>
 ldI .i64 p6 h fun n7 =>
 K (.bool (decide (n5 < n7))) h
 else
 X0 (spec_l01Before_e0 p2_ p3_ (w64 (i5_ + (1)))) h
 else
 spec_l01Before_C0 S K h
theorem spec_l01Before_link0 (S : SatT) (K : AVal → H → Prop) (X0 : Frame → H → Prop) (p2_ : Pt) (p3_ : Pt) (i5_ : Int) (h : H) : spec_l01Before_w0 S K X0 (spec_l01Before_e0 p2_ p3_ i5_) h = spec_l01Before_b0 S K X0 p2_ p3_ i5_ h := by kernel_rfl
theorem spec_l01Before_rule0 (S : SatT) (K : AVal → H → Prop) (p2_ : Pt) (p3_ : Pt) (I_ : Int → H → Prop) (m_ : Int → H → Nat)
    (hs : ∀ (X0 : Frame → H → Prop) (i5_ : Int) (h : H), I_ i5_ h → (∀ (i5_' : Int) (h' : H), I_ i5_' h' → m_ i5_' h' < m_ i5_ h → X0 (spec_l01Before_e0 p2_ p3_ i5_') h') → spec_l01Before_b0 S K X0 p2_ p3_ i5_ h) (i5_ : Int) {h : H} (h0 : I_ i5_ h) : spec_l01Before_L0 S K p2_ p3_ i5_ h :=
  loop_rule (σ := (Int)) (fun s_ => spec_l01Before_e0 p2_ p3_ (s_)) (fun s_ h => I_ (s_) h) (fun s_ h => m_ (s_) h)
    (fun X s_ h hi hx => (spec_l01Before_link0 S K X p2_ p3_ (s_) h).mpr (hs X (s_) h hi fun i5_' h' hi' hm' => hx (i5_') h' hi' hm')) (i5_) h0
theorem spec_l01Before_unroll0 (S : SatT) (K : AVal → H → Prop) (p2_ : Pt) (p3_ : Pt) (i5_ : Int) (h : H) (hb : spec_l01Before_b0 S K (fun fr h => loopK (spec_l01Before_w0 S K) fr h) p2_ p3_ i5_ h) : spec_l01Before_L0 S K p2_ p3_ i5_ h := loop_unroll ((spec_l01Before_link0 S K _ p2_ p3_ i5_ h).mpr hb)
def spec_l01Before_main (S : SatT) (K : AVal → H → Prop) (x0 : List AVal) (x1 : List AVal) (h : H) : Prop :=
 newK 4 x0 h fun p0 h1 =>
 newK 4 x1 h1 fun p2 h3 =>
 spec_l01Before_L0 S K p0 p2 (0) h3
theorem spec_l01Before_main_link (S : SatT) (K : AVal → H → Prop) (x0 : List AVal) (x1 : List AVal) (h : H) : cwp S tab spec_l01Before_M [] (bodyOf Try.f110) (kFun tab Try.f110.results.toList K) (fr0 Try.f110 [.agg x0, .agg x1]) h = spec_l01Before_main S K x0 x1 h := by kernel_rfl
theorem spec_l01Before_call (x0 : List AVal) (x1 : List AVal) (h : H) (K : Bool → H → Prop) (hm : spec_l01Before_main (Sat Try.prog) (fun v h' => ∃ r, v = .bool r ∧ K r h') x0 x1 h) : callB (Sat Try.prog) i_spec_l01Before [.agg x0, .agg x1] h K := by
  have := Sat.ex tok mixed spec_l01Before_M Try.func110 (c := bodyOf Try.f110) (by kernel_rfl) (calls_of Try.func110 (c := bodyOf Try.f110) (by kernel_rfl) (by decide)) ((spec_l01Before_main_link _ _ x0 x1 h).mpr hm)
  obtain ⟨v, h2, h3, r, rfl, h4⟩ := this; exact ⟨r, h2, h3, h4⟩

/-! ### loop.example/g01354/laws.eqTileS -/
def laws_eqTileS_M : Nat → List Nat := fun i => bif i == 0 then [0, 1, 5] else []
def laws_eqTileS_ks4 (S : SatT) (K : AVal → H → Prop) : Kont := kSeq (cwp S tab laws_eqTileS_M [] (sub [1, 1, 1] (bodyOf Try.f59)) (kFun tab (Try.f59).results.toList K)) (kFun tab (Try.f59).results.toList K)
def laws_eqTileS_e0 (s0_ : Sl) (s1_ : Sl) (i5_ : Int) : Frame := [.sl s0_, .sl s1_, U, U, U, .int .i64 i5_, U, U, U, U, U, U, U, U, U, U, U, U, U, U, U, U, U, U, U, U, U]
def laws_eqTileS_w0 (S : SatT) (K : AVal → H → Prop) : (Frame → H → Prop) → Frame → H → Prop := fun X fr h => cwp S tab laws_eqTileS_M (laws_eqTileS_M 0) (sub [1, 1, 0, 1, 0, 0] (bodyOf Try.f59)) (kSeq (fun fr h => X (mask (laws_eqTileS_M 0) fr) h) (kBlk 0 (laws_eqTileS_ks4 S K))) fr h
def laws_eqTileS_L0 (S : SatT) (K : AVal → H → Prop) (s0_ : Sl) (s1_ : Sl) (i5_ : Int) (h : H) : Prop := loopK (laws_eqTileS_w0 S K) (laws_eqTileS_e0 s0_ s1_ i5_) h
def laws_eqTileS_C0 (S : SatT) (K : AVal → H → Prop) (h : H) : Prop :=
 K (.bool true) h
def laws_eqTileS_b0 (S : SatT) (K : AVal → H → Prop) (X0 : Frame → H → Prop) (s0_ : Sl) (s1_ : Sl) (i5_ : Int) (h : H) : Prop :=
 bif (decide (i5_ < (s0_.len : Int))) then
 ixS s0_ 4 i5_ fun p0 =>
 ldA p0 4 h fun cs1 =>
 ixS s1_ 4 i5_ fun p2 =>
 ldA p2 4 h fun cs3 =>
 callB S i_laws_eqTile [.agg cs1, .agg cs3] h fun b5 h4 =>
 bif (!b5) then
 K (.bool false) h4
 else
 X0 (laws_eqTileS_e0 s0_ s1_ (w64 (i5_ + (1)))) h4
 else
 laws_eqTileS_C0 S K h
theorem laws_eqTileS_link0 (S : SatT) (K : AVal → H → Prop) (X0 : Frame → H → Prop) (s0_ : Sl) (s1_ : Sl) (i5_ : Int) (h : H) : laws_eqTileS_w0 S K X0 (laws_eqTileS_e0 s0_ s1_ i5_) h = laws_eqTileS_b0 S K X0 s0_ s1_ i5_ h := by kernel_rfl
theorem laws_eqTileS_rule0 (S : SatT) (K : AVal → H → Prop) (s0_ : Sl) (s1_ : Sl) (I_ : Int → H → Prop) (m_ : Int → H → Nat)
    (hs : ∀ (X0 : Frame → H → Prop) (i5_ : Int) (h : H), I_ i5_ h → (∀ (i5_' : Int) (h' : H), I_ i5_' h' → m_ i5_' h' < m_ i5_ h → X0 (laws_eqTileS_e0 s0_ s1_ i5_') h') → laws_eqTileS_b0 S K X0 s0_ s1_ i5_ h) (i5_ : Int) {h : H} (h0 : I_ i5_ h) : laws_eqTileS_L0 S K s0_ s1_ i5_ h :=
  loop_rule (σ := (Int)) (fun s_ => laws_eqTileS_e0 s0_ s1_ (s_)) (fun s_ h => I_ (s_) h) (fun s_ h => m_ (s_) h)
    (fun X s_ h hi hx => (laws_eqTileS_link0 S K X s0_ s1_ (s_) h).mpr (hs X (s_) h hi fun i5_' h' hi' hm' => hx (i5_') h' hi' hm')) (i5_) h0
theorem laws_eqTileS_unroll0 (S : SatT) (K : AVal → H → Prop) (s0_ : Sl) (s1_ : Sl) (i5_ : Int) (h : H) (hb : laws_eqTileS_b0 S K (fun fr h => loopK (laws_eqTileS_w0 S K) fr h) s0_ s1_ i5_ h) : laws_eqTileS_L0 S K s0_ s1_ i5_ h := loop_unroll ((laws_eqTileS_link0 S K _ s0_ s1_ i5_ h).mpr hb)
def laws_eqTileS_main (S : SatT) (K : AVal → H → Prop) (x0 : Sl) (x1 : Sl) (h : H) : Prop :=
 bif ((x0.len : Int) != (x1.len : Int)) then
 K (.bool false) h
 else
 laws_eqTileS_L0 S K x0 x1 (0) h
theorem laws_eqTileS_main_link (S : SatT) (K : AVal → H → Prop) (x0 : Sl) (x1 : Sl) (h : H) : cwp S tab laws_eqTileS_M [] (bodyOf Try.f59) (kFun tab Try.f59.results.toList K) (fr0 Try.f59 [.sl x0, .sl x1]) h = laws_eqTileS_main S K x0 x1 h := by kernel_rfl
theorem laws_eqTileS_call (x0 : Sl) (x1 : Sl) (h : H) (K : Bool → H → Prop) (hm : laws_eqTileS_main (Sat Try.prog) (fun v h' => ∃ r, v = .bool r ∧ K r h') x0 x1 h) : callB (Sat Try.prog) i_laws_eqTileS [.sl x0, .sl x1] h K := by
  have := Sat.ex tok mixed laws_eqTileS_M Try.func59 (c := bodyOf Try.f59) (by kernel_rfl) (calls_of Try.func59 (c := bodyOf Try.f59) (by kernel_rfl) (by decide)) ((laws_eqTileS_main_link _ _ x0 x1 h).mpr hm)
  obtain ⟨v, h2, h3, r, rfl, h4⟩ := this; exact ⟨r, h2, h3, h4⟩

/-! ### loop.example/g01354/spec.l03Power -/
def spec_l03Power_M : Nat → List Nat := fun i => bif i == 0 then [0, 1, 5] else []
def spec_l03Power_ks2 (S : SatT) (K : AVal → H → Prop) : Kont := kSeq (cwp S tab spec_l03Power_M [] (sub [1, 1, 1] (bodyOf Try.f52)) (kFun tab (Try.f52).results.toList K)) (kFun tab (Try.f52).results.toList K)
def spec_l03Power_e0 (i0_ : Int) (i1_ : Int) (i5_ : Int) : Frame := [.int .i64 i0_, .int .i64 i1_, U, U, U, .int .i64 i5_, U, U, U, U, U, U, U, U]
def spec_l03Power_w0 (S : SatT) (K : AVal → H → Prop) : (Frame → H → Prop) → Frame → H → Prop := fun X fr h => cwp S tab spec_l03Power_M (spec_l03Power_M 0) (sub [1, 1, 0, 0, 0] (bodyOf Try.f52)) (kSeq (fun fr h => X (mask (spec_l03Power_M 0) fr) h) (kBlk 0 (spec_l03Power_ks2 S K))) fr h
def spec_l03Power_L0 (S : SatT) (K : AVal → H → Prop) (i0_ : Int) (i1_ : Int) (i5_ : Int) (h : H) : Prop := loopK (spec_l03Power_w0 S K) (spec_l03Power_e0 i0_ i1_ i5_) h
def spec_l03Power_C0 (S : SatT) (K : AVal → H → Prop) (i5_ : Int) (h : H) : Prop :=
 K (.int .i64 i5_) h
def spec_l03Power_b0 (S : SatT) (K : AVal → H → Prop) (X0 : Frame → H → Prop) (i0_ : Int) (i1_ : Int) (i5_ : Int) (h : H) : Prop :=
 bif (decide (i1_ > (0))) then
 X0 (spec_l03Power_e0 i0_ (w64 (i1_ - (1))) (w64 (i5_ * i0_))) h
 else
 spec_l03Power_C0 S K i5_ h
theorem spec_l03Power_link0 (S : SatT) (K : AVal → H → Prop) (X0 : Frame → H → Prop) (i0_ : Int) (i1_ : Int) (i5_ : Int) (h : H) : spec_l03Power_w0 S K X0 (spec_l03Power_e0 i0_ i1_ i5_) h = spec_l03Power_b0 S K X0 i0_ i1_ i5_ h := by kernel_rfl
theorem spec_l03Power_rule0 (S : SatT) (K : AVal → H → Prop) (i0_ : Int) (I_ : Int → Int → H → Prop) (m_ : Int → Int → H → Nat)
    (hs : ∀ (X0 : Frame → H → Prop) (i1_ : Int) (i5_ : Int) (h : H), I_ i1_ i5_ h → (∀ (i1_' : Int) (i5_' : Int) (h' : H), I_ i1_' i5_' h' → m_ i1_' i5_' h' < m_ i1_ i5_ h → X0 (spec_l03Power_e0 i0_ i1_' i5_') h') → spec_l03Power_b0 S K X0 i0_ i1_ i5_ h) (i1_ : Int) (i5_ : Int) {h : H} (h0 : I_ i1_ i5_ h) : spec_l03Power_L0 S K i0_ i1_ i5_ h :=
  loop_rule (σ := (Int) × (Int)) (fun s_ => spec_l03Power_e0 i0_ (s_.1) (s_.2)) (fun s_ h => I_ (s_.1) (s_.2) h) (fun s_ h => m_ (s_.1) (s_.2) h)
    (fun X s_ h hi hx => (spec_l03Power_link0 S K X i0_ (s_.1) (s_.2) h).mpr (hs X (s_.1) (s_.2) h hi fun i1_' i5_' h' hi' hm' => hx (i1_', i5_') h' hi' hm')) (i1_, i5_) h0
theorem spec_l03Power_unroll0 (S : SatT) (K : AVal → H → Prop) (i0_ : Int) (i1_ : Int) (i5_ : Int) (h : H) (hb : spec_l03Power_b0 S K (fun fr h => loopK (spec_l03Power_w0 S K) fr h) i0_ i1_ i5_ h) : spec_l03Power_L0 S K i0_ i1_ i5_ h := loop_unroll ((spec_l03Power_link0 S K _ i0_ i1_ i5_ h).mpr hb)
def spec_l03Power_main (S : SatT) (K : AVal → H → Prop) (x0 : Int) (x1 : Int) (h : H) : Prop :=
 spec_l03Power_L0 S K x0 x1 (1) h
theorem spec_l03Power_main_link (S : SatT) (K : AVal → H → Prop) (x0 : Int) (x1 : Int) (h : H) : cwp S tab spec_l03Power_M [] (bodyOf Try.f52) (kFun tab Try.f52.results.toList K) (fr0 Try.f52 [.int .i64 x0, .int .i64 x1]) h = spec_l03Power_main S K x0 x1 h := by kernel_rfl
theorem spec_l03Power_call (x0 : Int) (x1 : Int) (h : H) (K : Int → H → Prop) (hm : spec_l03Power_main (Sat Try.prog) (fun v h' => ∃ r, v = .int .i64 r ∧ K r h') x0 x1 h) : callI (Sat Try.prog) .i64 i_spec_l03Power [.int .i64 x0, .int .i64 x1] h K := by
  have := Sat.ex tok mixed spec_l03Power_M Try.func52 (c := bodyOf Try.f52) (by kernel_rfl) (calls_of Try.func52 (c := bodyOf Try.f52) (by kernel_rfl) (by decide)) ((spec_l03Power_main_link _ _ x0 x1 h).mpr hm)
  obtain ⟨v, h2, h3, r, rfl, h4⟩ := this; exact ⟨r, h2, h3, h4⟩

/-! ### loop.example/g01354/laws.toInt64S -/
def laws_toInt64S_M : Nat → List Nat := fun i => bif i == 0 then [0, 3, 4] else []
def laws_toInt64S_ks2 (S : SatT) (K : AVal → H → Prop) : Kont := kSeq (cwp S tab laws_toInt64S_M [] (sub [1, 1, 1] (bodyOf Try.f68)) (kFun tab (Try.f68).results.toList K)) (kFun tab (Try.f68).results.toList K)
def laws_toInt64S_e0 (s0_ : Sl) (s3_ : Sl) (i4_ : Int) : Frame := [.sl s0_, U, U, .sl s3_, .int .i64 i4_, U, U, U, U, U, U, U, U, U, U, U, U, U, U, U, U, U]
def laws_toInt64S_w0 (S : SatT) (K : AVal → H → Prop) : (Frame → H → Prop) → Frame → H → Prop := fun X fr h => cwp S tab laws_toInt64S_M (laws_toInt64S_M 0) (sub [1, 1, 0, 1, 0, 0] (bodyOf Try.f68)) (kSeq (fun fr h => X (mask (laws_toInt64S_M 0) fr) h) (kBlk 0 (laws_toInt64S_ks2 S K))) fr h
def laws_toInt64S_L0 (S : SatT) (K : AVal → H → Prop) (s0_ : Sl) (s3_ : Sl) (i4_ : Int) (h : H) : Prop := loopK (laws_toInt64S_w0 S K) (laws_toInt64S_e0 s0_ s3_ i4_) h
def laws_toInt64S_C0 (S : SatT) (K : AVal → H → Prop) (s3_ : Sl) (h : H) : Prop :=
 K (.sl s3_) h
def laws_toInt64S_b0 (S : SatT) (K : AVal → H → Prop) (X0 : Frame → H → Prop) (s0_ : Sl) (s3_ : Sl) (i4_ : Int) (h : H) : Prop :=
 bif (decide (i4_ < (s0_.len : Int))) then
 ixS s0_ 1 i4_ fun p0 =>
 ldI .i64 p0 h fun n1 =>
 ixS s3_ 1 i4_ fun p2 =>
 st1 p2 (.int .i64 n1) h fun h3 =>
 X0 (laws_toInt64S_e0 s0_ s3_ (w64 (i4_ + (1)))) h3
 else
 laws_toInt64S_C0 S K s3_ h
theorem laws_toInt64S_link0 (S : SatT) (K : AVal → H → Prop) (X0 : Frame → H → Prop) (s0_ : Sl) (s3_ : Sl) (i4_ : Int) (h : H) : laws_toInt64S_w0 S K X0 (laws_toInt64S_e0 s0_ s3_ i4_) h = laws_toInt64S_b0 S K X0 s0_ s3_ i4_ h := by kernel_rfl
theorem laws_toInt64S_rule0 (S : SatT) (K : AVal → H → Prop) (s0_ : Sl) (s3_ : Sl) (I_ : Int → H → Prop) (m_ : Int → H → Nat)
    (hs : ∀ (X0 : Frame → H → Prop) (i4_ : Int) (h : H), I_ i4_ h → (∀ (i4_' : Int) (h' : H), I_ i4_' h' → m_ i4_' h' < m_ i4_ h → X0 (laws_toInt64S_e0 s0_ s3_ i4_') h') → laws_toInt64S_b0 S K X0 s0_ s3_ i4_ h) (i4_ : Int) {h : H} (h0 : I_ i4_ h) : laws_toInt64S_L0 S K s0_ s3_ i4_ h :=
  loop_rule (σ := (Int)) (fun s_ => laws_toInt64S_e0 s0_ s3_ (s_)) (fun s_ h => I_ (s_) h) (fun s_ h => m_ (s_) h)
    (fun X s_ h hi hx => (laws_toInt64S_link0 S K X s0_ s3_ (s_) h).mpr (hs X (s_) h hi fun i4_' h' hi' hm' => hx (i4_') h' hi' hm')) (i4_) h0
theorem laws_toInt64S_unroll0 (S : SatT) (K : AVal → H → Prop) (s0_ : Sl) (s3_ : Sl) (i4_ : Int) (h : H) (hb : laws_toInt64S_b0 S K (fun fr h => loopK (laws_toInt64S_w0 S K) fr h) s0_ s3_ i4_ h) : laws_toInt64S_L0 S K s0_ s3_ i4_ h := loop_unroll ((laws_toInt64S_link0 S K _ s0_ s3_ i4_ h).mpr hb)
def laws_toInt64S_main (S : SatT) (K : AVal → H → Prop) (x0 : Sl) (h : H) : Prop :=
 mkS (x0.len : Int) [.int .i64 (0)] h fun s0 h1 =>
 laws_toInt64S_L0 S K x0 s0 (0) h1
theorem laws_toInt64S_main_link (S : SatT) (K : AVal → H → Prop) (x0 : Sl) (h : H) : cwp S tab laws_toInt64S_M [] (bodyOf Try.f68) (kFun tab Try.f68.results.toList K) (fr0 Try.f68 [.sl x0]) h = laws_toInt64S_main S K x0 h := by kernel_rfl
theorem laws_toInt64S_call (x0 : Sl) (h : H) (K : Sl → H → Prop) (hm : laws_toInt64S_main (Sat Try.prog) (fun v h' => ∃ r, v = .sl r ∧ K r h') x0 h) : callS (Sat Try.prog) i_laws_toInt64S [.sl x0] h K := by
  have := Sat.ex tok mixed laws_toInt64S_M Try.func68 (c := bodyOf Try.f68) (by kernel_rfl) (calls_of Try.func68 (c := bodyOf Try.f68) (by kernel_rfl) (by decide)) ((laws_toInt64S_main_link _ _ x0 h).mpr hm)
  obtain ⟨v, h2, h3, r, rfl, h4⟩ := this; exact ⟨r, h2, h3, h4⟩

/-! ### loop.example/g01354/laws.FnExactShiftNumber -/
def laws_FnExactShiftNumber_M : Nat → List Nat := fun i => []
def laws_FnExactShiftNumber_main (S : SatT) (K : AVal → H → Prop) (x0 : List AVal) (x1 : Sl) (h : H) : Prop :=
 newK 2 x0 h fun p0 h1 =>
 ldA p0 2 h1 fun cs2 =>
 callI S .i64 i_laws_szSet [.agg cs2, .int .i64 (1048576)] h1 fun n4 h3 =>
 bif (decide (n4 < (0))) then
 K (.bool true) h3
 else
 callI S .i64 i_laws_szInt64SS [.sl x1, .int .i64 n4] h3 fun n6 h5 =>
 bif (decide (n6 < (0))) then
 K (.bool true) h5
 else
 ldA p0 2 h5 fun cs7 =>
 callA S i_laws_toSet [.agg cs7] h5 fun cs9 h8 =>
 callS S i_laws_toInt64SS [.sl x1] h8 fun s11 h10 =>
 callV S i_spec_ShiftNumber [.agg cs9, .sl s11] h10 fun v13 h12 =>
 viaT v13 fun vs14 =>
 exI .i64 vs14 0 fun n15 =>
 viaT v13 fun vs16 =>
 exI .i64 vs16 1 fun n17 =>
 ldA p0 2 h12 fun cs18 =>
 callA S i_laws_toSet [.agg cs18] h12 fun cs20 h19 =>
 newO [.int .i64 (0), .sl Sl.nil] h19 fun p21 h22 =>
 stN p21 2 cs20 h22 fun h23 =>
 callS S i_laws_toInt64SS [.sl x1] h23 fun s25 h24 =>
 ldA p21 2 h24 fun cs26 =>
 callV S i_impl_ShiftNumber [.agg cs26, .sl s25] h24 fun v28 h27 =>
 viaT v28 fun vs29 =>
 exI .i64 vs29 0 fun n30 =>
 viaT v28 fun vs31 =>
 exI .i64 vs31 1 fun n32 =>
 bif (n30 != n15) then
 K (.bool false) h27
 else
 bif (n32 != n17) then
 K (.bool false) h27
 else
 ldA p21 2 h27 fun cs33 =>
 ldA p0 2 h27 fun cs34 =>
 callA S i_laws_toSet [.agg cs34] h27 fun cs36 h35 =>
(range h35 p21.o p21.n p21.off 2 = range h27 p21.o p21.n p21.off 2) ∧ (
 callB S i_laws_eqSet [.agg cs33, .agg cs36] h35 fun b38 h37 =>
 bif (!b38) then
 K (.bool false) h37
 else
 callS S i_laws_toInt64SS [.sl x1] h37 fun s40 h39 =>
 callB S i_laws_eqInt64SS [.sl s25, .sl s40] h39 fun b42 h41 =>
 bif (!b42) then
 K (.bool false) h41
 else
 K (.bool true) h41)
theorem laws_FnExactShiftNumber_main_link (S : SatT) (K : AVal → H → Prop) (x0 : List AVal) (x1 : Sl) (h : H) : cwp S tab laws_FnExactShiftNumber_M [] (bodyOf Try.f12) (kFun tab Try.f12.results.toList K) (fr0 Try.f12 [.agg x0, .sl x1]) h = laws_FnExactShiftNumber_main S K x0 x1 h := by kernel_rfl
theorem laws_FnExactShiftNumber_call (x0 : List AVal) (x1 : Sl) (h : H) (K : Bool → H → Prop) (hm : laws_FnExactShiftNumber_main (Sat Try.prog) (fun v h' => ∃ r, v = .bool r ∧ K r h') x0 x1 h) : callB (Sat Try.prog) i_laws_FnExactShiftNumber [.agg x0, .sl x1] h K := by
  have := Sat.ex tok mixed laws_FnExactShiftNumber_M Try.func12 (c := bodyOf Try.f12) (by kernel_rfl) (calls_of Try.func12 (c := bodyOf Try.f12) (by kernel_rfl) (by decide)) ((laws_FnExactShiftNumber_main_link _ _ x0 x1 h).mpr hm)
  obtain ⟨v, h2, h3, r, rfl, h4⟩ := this; exact ⟨r, h2, h3, h4⟩

/-! ### loop.example/g01354/laws.FnExactCountForms -/
def laws_FnExactCountForms_M : Nat → List Nat := fun i => []
def laws_FnExactCountForms_main (S : SatT) (K : AVal → H → Prop) (x0 : List AVal) (x1 : Int) (x2 : Int) (h : H) : Prop :=
 newK 2 x0 h fun p0 h1 =>
 ldA p0 2 h1 fun cs2 =>
 callI S .i64 i_laws_szSet [.agg cs2, .int .i64 (1048576)] h1 fun n4 h3 =>
 bif (decide (n4 < (0))) then
 K (.bool true) h3
 else
 ldA p0 2 h3 fun cs5 =>
 callA S i_laws_toSet [.agg cs5] h3 fun cs7 h6 =>
 callV S i_spec_CountForms [.agg cs7, .int .i64 x1, .int .i64 x2] h6 fun v9 h8 =>
 viaT v9 fun vs10 =>
 exI .i64 vs10 0 fun n11 =>
 viaT v9 fun vs12 =>
 exI .i64 vs12 1 fun n13 =>
 ldA p0 2 h8 fun cs14 =>
 callA S i_laws_toSet [.agg cs14] h8 fun cs16 h15 =>
 newO [.int .i64 (0), .sl Sl.nil] h15 fun p17 h18 =>
 stN p17 2 cs16 h18 fun h19 =>
 ldA p17 2 h19 fun cs20 =>
 callV S i_impl_CountForms [.agg cs20, .int .i64 x1, .int .i64 x2] h19 fun v22 h21 =>
 viaT v22 fun vs23 =>
 exI .i64 vs23 0 fun n24 =>
 viaT v22 fun vs25 =>
 exI .i64 vs25 1 fun n26 =>
 bif (n24 != n11) then
 K (.bool false) h21
 else
 bif (n26 != n13) then
 K (.bool false) h21
 else
 ldA p17 2 h21 fun cs27 =>
 ldA p0 2 h21 fun cs28 =>
 callA S i_laws_toSet [.agg cs28] h21 fun cs30 h29 =>
(range h29 p17.o p17.n p17.off 2 = range h21 p17.o p17.n p17.off 2) ∧ (
 callB S i_laws_eqSet [.agg cs27, .agg cs30] h29 fun b32 h31 =>
 bif (!b32) then
 K (.bool false) h31
 else
 K (.bool true) h31)
theorem laws_FnExactCountForms_main_link (S : SatT) (K : AVal → H → Prop) (x0 : List AVal) (x1 : Int) (x2 : Int) (h : H) : cwp S tab laws_FnExactCountForms_M [] (bodyOf Try.f10) (kFun tab Try.f10.results.toList K) (fr0 Try.f10 [.agg x0, .int .i64 x1, .int .i64 x2]) h = laws_FnExactCountForms_main S K x0 x1 x2 h := by kernel_rfl
theorem laws_FnExactCountForms_call (x0 : List AVal) (x1 : Int) (x2 : Int) (h : H) (K : Bool → H → Prop) (hm : laws_FnExactCountForms_main (Sat Try.prog) (fun v h' => ∃ r, v = .bool r ∧ K r h') x0 x1 x2 h) : callB (Sat Try.prog) i_laws_FnExactCountForms [.agg x0, .int .i64 x1, .int .i64 x2] h K := by
  have := Sat.ex tok mixed laws_FnExactCountForms_M Try.func10 (c := bodyOf Try.f10) (by kernel_rfl) (calls_of Try.func10 (c := bodyOf Try.f10) (by kernel_rfl) (by decide)) ((laws_FnExactCountForms_main_link _ _ x0 x1 x2 h).mpr hm)
  obtain ⟨v, h2, h3, r, rfl, h4⟩ := this; exact ⟨r, h2, h3, h4⟩

/-! ### (loop.example/g01354/impl.Set).tori -/
def impl_Set_tori_M : Nat → List Nat := fun i => []
def impl_Set_tori_main (S : SatT) (K : AVal → H → Prop) (x0 : List AVal) (x1 : Int) (x2 : Int) (x3 : AVal) (h : H) : Prop :=
 newK 2 x0 h fun p0 h1 =>
 bif (AVal.isCell x3 && true) then
 newO [x3] h1 fun p2 h3 =>
 mkS (w64 (x1 * x2)) [.int .i64 (0)] h3 fun s4 h5 =>
 newO [.sl Sl.nil] h5 fun p6 h7 =>
 newO [.int .i64 (0)] h7 fun p8 h9 =>
 newO [.int .i64 (0)] h9 fun p10 h11 =>
 st1 p6 (.sl s4) h11 fun h12 =>
 st1 p8 (.int .i64 x1) h12 fun h13 =>
 st1 p10 (.int .i64 x2) h13 fun h14 =>
 newO [.nilFunc] h14 fun p15 h16 =>
 st1 p15 (.func 115 [.ptr p6, .ptr p8, .ptr p10, .ptr p2, .ptr p0, .ptr p15]) h16 fun h17 =>
 ldV p15 h17 fun v18 =>
 viaF v18 [.int .i64 (0)] fun g19 ys20 =>
 callB S g19 ys20 h17 fun b22 h21 =>
 K (.tuple []) h21
 else False
theorem impl_Set_tori_main_link (S : SatT) (K : AVal → H → Prop) (x0 : List AVal) (x1 : Int) (x2 : Int) (x3 : AVal) (h : H) : cwp S tab impl_Set_tori_M [] (bodyOf Try.f88) (kFun tab Try.f88.results.toList K) (fr0 Try.f88 [.agg x0, .int .i64 x1, .int .i64 x2, x3]) h = impl_Set_tori_main S K x0 x1 x2 x3 h := by kernel_rfl
theorem impl_Set_tori_call (x0 : List AVal) (x1 : Int) (x2 : Int) (x3 : AVal) (h : H) (K : AVal → H → Prop) (hm : impl_Set_tori_main (Sat Try.prog) (fun v h' => K v h') x0 x1 x2 x3 h) : callV (Sat Try.prog) i_impl_Set_tori [.agg x0, .int .i64 x1, .int .i64 x2, x3] h K := by
  have := Sat.ex tok mixed impl_Set_tori_M Try.func88 (c := bodyOf Try.f88) (by kernel_rfl) (calls_of Try.func88 (c := bodyOf Try.f88) (by kernel_rfl) (by decide)) ((impl_Set_tori_main_link _ _ x0 x1 x2 x3 h).mpr hm)
  exact this

/-! ### loop.example/g01354/spec.FirstTorus -/
def spec_FirstTorus_M : Nat → List Nat := fun i => []
def spec_FirstTorus_main (S : SatT) (K : AVal → H → Prop) (x0 : List AVal) (x1 : Int) (x2 : Int) (h : H) : Prop :=
 newK 2 x0 h fun p0 h1 =>
 ldA p0 2 h1 fun cs2 =>
 callI S .i64 i_spec_l05Code [.agg cs2, .int .i64 x1, .int .i64 x2, .int .i64 (3)] h1 fun n4 h3 =>
 bif (n4 != (0)) then
 K (.tuple [.sl Sl.nil, .int .i64 n4]) h3
 else
 ldA p0 2 h3 fun cs5 =>
 callV S i_spec_l05First [.agg cs5, .int .i64 x1, .int .i64 x2] h3 fun v7 h6 =>
 viaT v7 fun vs8 =>
 exS vs8 0 fun s9 =>
 viaT v7 fun vs10 =>
 exB vs10 1 fun b11 =>
 bif (!b11) then
 K (.tuple [.sl Sl.nil, .int .i64 (4)]) h6
 else
 K (.tuple [.sl s9, .int .i64 (0)]) h6
theorem spec_FirstTorus_main_link (S : SatT) (K : AVal → H → Prop) (x0 : List AVal) (x1 : Int) (x2 : Int) (h : H) : cwp S tab spec_FirstTorus_M [] (bodyOf Try.f36) (kFun tab Try.f36.results.toList K) (fr0 Try.f36 [.agg x0, .int .i64 x1, .int .i64 x2]) h = spec_FirstTorus_main S K x0 x1 x2 h := by kernel_rfl
theorem spec_FirstTorus_call (x0 : List AVal) (x1 : Int) (x2 : Int) (h : H) (K : AVal → H → Prop) (hm : spec_FirstTorus_main (Sat Try.prog) (fun v h' => K v h') x0 x1 x2 h) : callV (Sat Try.prog) i_spec_FirstTorus [.agg x0, .int .i64 x1, .int .i64 x2] h K := by
  have := Sat.ex tok mixed spec_FirstTorus_M Try.func36 (c := bodyOf Try.f36) (by kernel_rfl) (calls_of Try.func36 (c := bodyOf Try.f36) (by kernel_rfl) (by decide)) ((spec_FirstTorus_main_link _ _ x0 x1 x2 h).mpr hm)
  exact this

/-! ### cmp.Compare[int64] -/
def cmp_Compare_int64__M : Nat → List Nat := fun i => []
def cmp_Compare_int64__main (S : SatT) (K : AVal → H → Prop) (x0 : Int) (x1 : Int) (h : H) : Prop :=
 callB S i_cmp_isNaN_int64_ [.int .i64 x0] h fun b1 h0 =>
 callB S i_cmp_isNaN_int64_ [.int .i64 x1] h0 fun b3 h2 =>
 bif b1 then
 bif b3 then
 K (.int .i64 (0)) h2
 else
 K (.int .i64 (-1)) h2
 else
 bif b3 then
 K (.int .i64 (1)) h2
 else
 bif (decide (x0 < x1)) then
 K (.int .i64 (-1)) h2
 else
 bif (decide (x0 > x1)) then
 K (.int .i64 (1)) h2
 else
 K (.int .i64 (0)) h2
theorem cmp_Compare_int64__main_link (S : SatT) (K : AVal → H → Prop) (x0 : Int) (x1 : Int) (h : H) : cwp S tab cmp_Compare_int64__M [] (bodyOf Try.f126) (kFun tab Try.f126.results.toList K) (fr0 Try.f126 [.int .i64 x0, .int .i64 x1]) h = cmp_Compare_int64__main S K x0 x1 h := by kernel_rfl
theorem cmp_Compare_int64__call (x0 : Int) (x1 : Int) (h : H) (K : Int → H → Prop) (hm : cmp_Compare_int64__main (Sat Try.prog) (fun v h' => ∃ r, v = .int .i64 r ∧ K r h') x0 x1 h) : callI (Sat Try.prog) .i64 i_cmp_Compare_int64_ [.int .i64 x0, .int .i64 x1] h K := by
  have := Sat.ex tok mixed cmp_Compare_int64__M Try.func126 (c := bodyOf Try.f126) (by kernel_rfl) (calls_of Try.func126 (c := bodyOf Try.f126) (by kernel_rfl) (by decide)) ((cmp_Compare_int64__main_link _ _ x0 x1 h).mpr hm)
  obtain ⟨v, h2, h3, r, rfl, h4⟩ := this; exact ⟨r, h2, h3, h4⟩

/-! ### loop.example/g01354/spec.IsCylinder -/
def spec_IsCylinder_M : Nat → List Nat := fun i => []
def spec_IsCylinder_main (S : SatT) (K : AVal → H → Prop) (x0 : List AVal) (x1 : Sl) (h : H) : Prop :=
 newK 2 x0 h fun p0 h1 =>
 ldA p0 2 h1 fun cs2 =>
 callI S .i64 i_spec_l01Rows [.agg cs2, .sl x1] h1 fun n4 h3 =>
 bif (n4 != (0)) then
 K (.tuple [.bool false, .int .i64 n4]) h3
 else
 ldA p0 2 h3 fun cs5 =>
 callB S i_spec_l01Good [.agg cs5, .sl x1] h3 fun b7 h6 =>
 bif b7 then
 ldA p0 2 h6 fun cs8 =>
 callB S i_spec_l05Cylinder [.agg cs8, .sl x1] h6 fun b10 h9 =>
 K (.tuple [.bool b10, .int .i64 (0)]) h9
 else
 K (.tuple [.bool false, .int .i64 (0)]) h6
theorem spec_IsCylinder_main_link (S : SatT) (K : AVal → H → Prop) (x0 : List AVal) (x1 : Sl) (h : H) : cwp S tab spec_IsCylinder_M [] (bodyOf Try.f23) (kFun tab Try.f23.results.toList K) (fr0 Try.f23 [.agg x0, .sl x1]) h = spec_IsCylinder_main S K x0 x1 h := by kernel_rfl
theorem spec_IsCylinder_call (x0 : List AVal) (x1 : Sl) (h : H) (K : AVal → H → Prop) (hm : spec_IsCylinder_main (Sat Try.prog) (fun v h' => K v h') x0 x1 h) : callV (Sat Try.prog) i_spec_IsCylinder [.agg x0, .sl x1] h K := by
  have := Sat.ex tok mixed spec_IsCylinder_M Try.func23 (c := bodyOf Try.f23) (by kernel_rfl) (calls_of Try.func23 (c := bodyOf Try.f23) (by kernel_rfl) (by decide)) ((spec_IsCylinder_main_link _ _ x0 x1 h).mpr hm)
  exact this

/-! ### loop.example/g01354/laws.toSet -/
def laws_toSet_M : Nat → List Nat := fun i => []
def laws_toSet_main (S : SatT) (K : AVal → H → Prop) (x0 : List AVal) (h : H) : Prop :=
 newK 2 x0 h fun p0 h1 =>
 newO [.int .i64 (0), .sl Sl.nil] h1 fun p2 h3 =>
 newO [.int .i64 (0), .sl Sl.nil] h3 fun p4 h5 =>
 isPt p0 (
 ldI .i64 (Pt.add p0 0) h5 fun n6 =>
 isPt p4 (
 st1 (Pt.add p4 0) (.int .i64 n6) h5 fun h7 =>
 isPt p0 (
 ldS (Pt.add p0 1) h7 fun s8 =>
 callS S i_laws_toTileS [.sl s8] h7 fun s10 h9 =>
 isPt p4 (
 st1 (Pt.add p4 1) (.sl s10) h9 fun h11 =>
 ldA p4 2 h11 fun cs12 =>
 stN p2 2 cs12 h11 fun h13 =>
 ldA p2 2 h13 fun cs14 =>
 K (.agg cs14) h13))))
theorem laws_toSet_main_link (S : SatT) (K : AVal → H → Prop) (x0 : List AVal) (h : H) : cwp S tab laws_toSet_M [] (bodyOf Try.f17) (kFun tab Try.f17.results.toList K) (fr0 Try.f17 [.agg x0]) h = laws_toSet_main S K x0 h := by kernel_rfl
theorem laws_toSet_call (x0 : List AVal) (h : H) (K : List AVal → H → Prop) (hm : laws_toSet_main (Sat Try.prog) (fun v h' => ∃ r, v = .agg r ∧ K r h') x0 h) : callA (Sat Try.prog) i_laws_toSet [.agg x0] h K := by
  have := Sat.ex tok mixed laws_toSet_M Try.func17 (c := bodyOf Try.f17) (by kernel_rfl) (calls_of Try.func17 (c := bodyOf Try.f17) (by kernel_rfl) (by decide)) ((laws_toSet_main_link _ _ x0 h).mpr hm)
  obtain ⟨v, h2, h3, r, rfl, h4⟩ := this; exact ⟨r, h2, h3, h4⟩

/-! ### loop.example/g01354/spec.l05Given -/
def spec_l05Given_M : Nat → List Nat := fun i => []
def spec_l05Given_main (S : SatT) (K : AVal → H → Prop) (x0 : List AVal) (x1 : Sl) (h : H) : Prop :=
 newK 2 x0 h fun p0 h1 =>
 ldA p0 2 h1 fun cs2 =>
 callI S .i64 i_spec_l01Rows [.agg cs2, .sl x1] h1 fun n4 h3 =>
 bif (n4 != (0)) then
 K (.int .i64 n4) h3
 else
 ldA p0 2 h3 fun cs5 =>
 callB S i_spec_l05Torus [.agg cs5, .sl x1] h3 fun b7 h6 =>
 bif (!b7) then
 K (.int .i64 (5)) h6
 else
 K (.int .i64 (0)) h6
theorem spec_l05Given_main_link (S : SatT) (K : AVal → H → Prop) (x0 : List AVal) (x1 : Sl) (h : H) : cwp S tab spec_l05Given_M [] (bodyOf Try.f93) (kFun tab Try.f93.results.toList K) (fr0 Try.f93 [.agg x0, .sl x1]) h = spec_l05Given_main S K x0 x1 h := by kernel_rfl
theorem spec_l05Given_call (x0 : List AVal) (x1 : Sl) (h : H) (K : Int → H → Prop) (hm : spec_l05Given_main (Sat Try.prog) (fun v h' => ∃ r, v = .int .i64 r ∧ K r h') x0 x1 h) : callI (Sat Try.prog) .i64 i_spec_l05Given [.agg x0, .sl x1] h K := by
  have := Sat.ex tok mixed spec_l05Given_M Try.func93 (c := bodyOf Try.f93) (by kernel_rfl) (calls_of Try.func93 (c := bodyOf Try.f93) (by kernel_rfl) (by decide)) ((spec_l05Given_main_link _ _ x0 x1 h).mpr hm)
  obtain ⟨v, h2, h3, r, rfl, h4⟩ := this; exact ⟨r, h2, h3, h4⟩

/-! ### loop.example/g01354/impl.compare -/
def impl_compare_M : Nat → List Nat := fun i => []
def impl_compare_main (S : SatT) (K : AVal → H → Prop) (x0 : List AVal) (x1 : List AVal) (h : H) : Prop :=
 newK 4 x0 h fun p0 h1 =>
 newK 4 x1 h1 fun p2 h3 =>
 cutA p0 4 1 (0) ((4 : Nat) : Int) fun s4 =>
 cutA p2 4 1 (0) ((4 : Nat) : Int) fun s5 =>
 callI S .i64 i_slices_Compare_s_int64_int64_ [.sl s4, .sl s5] h3 fun n7 h6 =>
 K (.int .i64 n7) h6
theorem impl_compare_main_link (S : SatT) (K : AVal → H → Prop) (x0 : List AVal) (x1 : List AVal) (h : H) : cwp S tab impl_compare_M [] (bodyOf Try.f112) (kFun tab Try.f112.results.toList K) (fr0 Try.f112 [.agg x0, .agg x1]) h = impl_compare_main S K x0 x1 h := by kernel_rfl
theorem impl_compare_call (x0 : List AVal) (x1 : List AVal) (h : H) (K : Int → H → Prop) (hm : impl_compare_main (Sat Try.prog) (fun v h' => ∃ r, v = .int .i64 r ∧ K r h') x0 x1 h) : callI (Sat Try.prog) .i64 i_impl_compare [.agg x0, .agg x1] h K := by
  have := Sat.ex tok mixed impl_compare_M Try.func112 (c := bodyOf Try.f112) (by kernel_rfl) (calls_of Try.func112 (c := bodyOf Try.f112) (by kernel_rfl) (by decide)) ((impl_compare_main_link _ _ x0 x1 h).mpr hm)
  obtain ⟨v, h2, h3, r, rfl, h4⟩ := this; exact ⟨r, h2, h3, h4⟩

/-! ### loop.example/g01354/spec.IsTorus -/
def spec_IsTorus_M : Nat → List Nat := fun i => []
def spec_IsTorus_main (S : SatT) (K : AVal → H → Prop) (x0 : List AVal) (x1 : Sl) (h : H) : Prop :=
 newK 2 x0 h fun p0 h1 =>
 ldA p0 2 h1 fun cs2 =>
 callI S .i64 i_spec_l01Rows [.agg cs2, .sl x1] h1 fun n4 h3 =>
 bif (n4 != (0)) then
 K (.tuple [.bool false, .int .i64 n4]) h3
 else
 ldA p0 2 h3 fun cs5 =>
 callB S i_spec_l05Torus [.agg cs5, .sl x1] h3 fun b7 h6 =>
 K (.tuple [.bool b7, .int .i64 (0)]) h6
theorem spec_IsTorus_main_link (S : SatT) (K : AVal → H → Prop) (x0 : List AVal) (x1 : Sl) (h : H) : cwp S tab spec_IsTorus_M [] (bodyOf Try.f27) (kFun tab Try.f27.results.toList K) (fr0 Try.f27 [.agg x0, .sl x1]) h = spec_IsTorus_main S K x0 x1 h := by kernel_rfl
theorem spec_IsTorus_call (x0 : List AVal) (x1 : Sl) (h : H) (K : AVal → H → Prop) (hm : spec_IsTorus_main (Sat Try.prog) (fun v h' => K v h') x0 x1 h) : callV (Sat Try.prog) i_spec_IsTorus [.agg x0, .sl x1] h K := by
  have := Sat.ex tok mixed spec_IsTorus_M Try.func27 (c := bodyOf Try.f27) (by kernel_rfl) (calls_of Try.func27 (c := bodyOf Try.f27) (by kernel_rfl) (by decide)) ((spec_IsTorus_main_link _ _ x0 x1 h).mpr hm)
  exact this

/-! ### loop.example/g01354/impl.LeastForm -/
def impl_LeastForm_M : Nat → List Nat := fun i => []
def impl_LeastForm_main (S : SatT) (K : AVal → H → Prop) (x0 : List AVal) (x1 : Sl) (h : H) : Prop :=
 newK 2 x0 h fun p0 h1 =>
 ldA p0 2 h1 fun cs2 =>
 callI S .i64 i_impl_torusCode [.agg cs2, .sl x1] h1 fun n4 h3 =>
 bif (n4 != (0)) then
 K (.tuple [.sl Sl.nil, .int .i64 n4]) h3
 else
 callS S i_impl_leastForm [.sl x1] h3 fun s6 h5 =>
 K (.tuple [.sl s6, .int .i64 (0)]) h5
theorem impl_LeastForm_main_link (S : SatT) (K : AVal → H → Prop) (x0 : List AVal) (x1 : Sl) (h : H) : cwp S tab impl_LeastForm_M [] (bodyOf Try.f45) (kFun tab Try.f45.results.toList K) (fr0 Try.f45 [.agg x0, .sl x1]) h = impl_LeastForm_main S K x0 x1 h := by kernel_rfl
theorem impl_LeastForm_call (x0 : List AVal) (x1 : Sl) (h : H) (K : AVal → H → Prop) (hm : impl_LeastForm_main (Sat Try.prog) (fun v h' => K v h') x0 x1 h) : callV (Sat Try.prog) i_impl_LeastForm [.agg x0, .sl x1] h K := by
  have := Sat.ex tok mixed impl_LeastForm_M Try.func45 (c := bodyOf Try.f45) (by kernel_rfl) (calls_of Try.func45 (c := bodyOf Try.f45) (by kernel_rfl) (by decide)) ((impl_LeastForm_main_link _ _ x0 x1 h).mpr hm)
  exact this

/-! ### slices.Clone[[]int64,int64] -/
def slices_Clone_s_int64_int64__M : Nat → List Nat := fun i => []
def slices_Clone_s_int64_int64__main (S : SatT) (K : AVal → H → Prop) (x0 : Sl) (h : H) : Prop :=
 bif (isNilS x0) then
 K (.sl Sl.nil) h
 else
 newS 0 1 [] h fun s0 h1 =>
 app s0 x0 1 h1 fun s2 h3 =>
 K (.sl s2) h3
theorem slices_Clone_s_int64_int64__main_link (S : SatT) (K : AVal → H → Prop) (x0 : Sl) (h : H) : cwp S tab slices_Clone_s_int64_int64__M [] (bodyOf Try.f116) (kFun tab Try.f116.results.toList K) (fr0 Try.f116 [.sl x0]) h = slices_Clone_s_int64_int64__main S K x0 h := by kernel_rfl
theorem slices_Clone_s_int64_int64__call (x0 : Sl) (h : H) (K : Sl → H → Prop) (hm : slices_Clone_s_int64_int64__main (Sat Try.prog) (fun v h' => ∃ r, v = .sl r ∧ K r h') x0 h) : callS (Sat Try.prog) i_slices_Clone_s_int64_int64_ [.sl x0] h K := by
  have := Sat.ex tok mixed slices_Clone_s_int64_int64__M Try.func116 (c := bodyOf Try.f116) (by kernel_rfl) (calls_of Try.func116 (c := bodyOf Try.f116) (by kernel_rfl) (by decide)) ((slices_Clone_s_int64_int64__main_link _ _ x0 h).mpr hm)
  obtain ⟨v, h2, h3, r, rfl, h4⟩ := this; exact ⟨r, h2, h3, h4⟩

/-! ### loop.example/g01354/impl.CountForms$1 -/
def impl_CountForms_1_M : Nat → List Nat := fun i => []
def impl_CountForms_1_main (S : SatT) (K : AVal → H → Prop) (x0 : Pt) (x1 : Pt) (h : H) : Prop :=
 ldI .i64 x0 h fun n0 =>
 ldI .i64 x1 h fun n1 =>
 callB S i_impl_areSizes [.int .i64 n0, .int .i64 n1] h fun b3 h2 =>
 K (.bool b3) h2
theorem impl_CountForms_1_main_link (S : SatT) (K : AVal → H → Prop) (x0 : Pt) (x1 : Pt) (h : H) : cwp S tab impl_CountForms_1_M [] (bodyOf Try.f87) (kFun tab Try.f87.results.toList K) (fr0 Try.f87 [.ptr x0, .ptr x1]) h = impl_CountForms_1_main S K x0 x1 h := by kernel_rfl
theorem impl_CountForms_1_call (x0 : Pt) (x1 : Pt) (h : H) (K : Bool → H → Prop) (hm : impl_CountForms_1_main (Sat Try.prog) (fun v h' => ∃ r, v = .bool r ∧ K r h') x0 x1 h) : callB (Sat Try.prog) i_impl_CountForms_1 [.ptr x0, .ptr x1] h K := by
  have := Sat.ex tok mixed impl_CountForms_1_M Try.func87 (c := bodyOf Try.f87) (by kernel_rfl) (calls_of Try.func87 (c := bodyOf Try.f87) (by kernel_rfl) (by decide)) ((impl_CountForms_1_main_link _ _ x0 x1 h).mpr hm)
  obtain ⟨v, h2, h3, r, rfl, h4⟩ := this; exact ⟨r, h2, h3, h4⟩

/-! ### loop.example/g01354/impl.IsCylinder$1 -/
def impl_IsCylinder_1_M : Nat → List Nat := fun i => []
def impl_IsCylinder_1_main (S : SatT) (K : AVal → H → Prop) (x0 : Pt) (x1 : Pt) (h : H) : Prop :=
 ldA x0 2 h fun cs0 =>
 ldS x1 h fun s1 =>
 callB S i_impl_Set_areNumbers [.agg cs0, .sl s1] h fun b3 h2 =>
 K (.bool b3) h2
theorem impl_IsCylinder_1_main_link (S : SatT) (K : AVal → H → Prop) (x0 : Pt) (x1 : Pt) (h : H) : cwp S tab impl_IsCylinder_1_M [] (bodyOf Try.f69) (kFun tab Try.f69.results.toList K) (fr0 Try.f69 [.ptr x0, .ptr x1]) h = impl_IsCylinder_1_main S K x0 x1 h := by kernel_rfl
theorem impl_IsCylinder_1_call (x0 : Pt) (x1 : Pt) (h : H) (K : Bool → H → Prop) (hm : impl_IsCylinder_1_main (Sat Try.prog) (fun v h' => ∃ r, v = .bool r ∧ K r h') x0 x1 h) : callB (Sat Try.prog) i_impl_IsCylinder_1 [.ptr x0, .ptr x1] h K := by
  have := Sat.ex tok mixed impl_IsCylinder_1_M Try.func69 (c := bodyOf Try.f69) (by kernel_rfl) (calls_of Try.func69 (c := bodyOf Try.f69) (by kernel_rfl) (by decide)) ((impl_IsCylinder_1_main_link _ _ x0 x1 h).mpr hm)
  obtain ⟨v, h2, h3, r, rfl, h4⟩ := this; exact ⟨r, h2, h3, h4⟩

/-! ### loop.example/g01354/impl.within -/
def impl_within_M : Nat → List Nat := fun i => []
def impl_within_main (S : SatT) (K : AVal → H → Prop) (x0 : Int) (x1 : Int) (x2 : Int) (h : H) : Prop :=
 bif (decide (x0 ≥ x1)) then
 K (.bool (decide (x0 ≤ x2))) h
 else
 K (.bool false) h
theorem impl_within_main_link (S : SatT) (K : AVal → H → Prop) (x0 : Int) (x1 : Int) (x2 : Int) (h : H) : cwp S tab impl_within_M [] (bodyOf Try.f56) (kFun tab Try.f56.results.toList K) (fr0 Try.f56 [.int .i64 x0, .int .i64 x1, .int .i64 x2]) h = impl_within_main S K x0 x1 x2 h := by kernel_rfl
theorem impl_within_call (x0 : Int) (x1 : Int) (x2 : Int) (h : H) (K : Bool → H → Prop) (hm : impl_within_main (Sat Try.prog) (fun v h' => ∃ r, v = .bool r ∧ K r h') x0 x1 x2 h) : callB (Sat Try.prog) i_impl_within [.int .i64 x0, .int .i64 x1, .int .i64 x2] h K := by
  have := Sat.ex tok mixed impl_within_M Try.func56 (c := bodyOf Try.f56) (by kernel_rfl) (calls_of Try.func56 (c := bodyOf Try.f56) (by kernel_rfl) (by decide)) ((impl_within_main_link _ _ x0 x1 x2 h).mpr hm)
  obtain ⟨v, h2, h3, r, rfl, h4⟩ := this; exact ⟨r, h2, h3, h4⟩

/-! ### loop.example/g01354/impl.IsTorus$1 -/
def impl_IsTorus_1_M : Nat → List Nat := fun i => []
def impl_IsTorus_1_main (S : SatT) (K : AVal → H → Prop) (x0 : Pt) (x1 : Pt) (h : H) : Prop :=
 ldA x0 2 h fun cs0 =>
 ldS x1 h fun s1 =>
 callB S i_impl_Set_areNumbers [.agg cs0, .sl s1] h fun b3 h2 =>
 K (.bool b3) h2
theorem impl_IsTorus_1_main_link (S : SatT) (K : AVal → H → Prop) (x0 : Pt) (x1 : Pt) (h : H) : cwp S tab impl_IsTorus_1_M [] (bodyOf Try.f74) (kFun tab Try.f74.results.toList K) (fr0 Try.f74 [.ptr x0, .ptr x1]) h = impl_IsTorus_1_main S K x0 x1 h := by kernel_rfl
theorem impl_IsTorus_1_call (x0 : Pt) (x1 : Pt) (h : H) (K : Bool → H → Prop) (hm : impl_IsTorus_1_main (Sat Try.prog) (fun v h' => ∃ r, v = .bool r ∧ K r h') x0 x1 h) : callB (Sat Try.prog) i_impl_IsTorus_1 [.ptr x0, .ptr x1] h K := by
  have := Sat.ex tok mixed impl_IsTorus_1_M Try.func74 (c := bodyOf Try.f74) (by kernel_rfl) (calls_of Try.func74 (c := bodyOf Try.f74) (by kernel_rfl) (by decide)) ((impl_IsTorus_1_main_link _ _ x0 x1 h).mpr hm)
  obtain ⟨v, h2, h3, r, rfl, h4⟩ := this; exact ⟨r, h2, h3, h4⟩

end Go.Proofs.Ytfmjjpophipfbaa.Cl
