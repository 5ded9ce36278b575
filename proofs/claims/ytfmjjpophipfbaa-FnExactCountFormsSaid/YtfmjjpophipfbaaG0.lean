/- Typed forms of functions of the program, and their links. Printed by program. No claim is stated here. -/
import Derived.Test.YtfmjjpophipfbaaGTab
set_option linter.unusedVariables false
namespace Go.Proofs.Ytfmjjpophipfbaa.Cl
open Go
/-! ### loop.example/g01354/spec.l05First -/
def spec_l05First_M : Nat → List Nat := fun i => bif i == 4 then [3, 8, 9, 10, 11, 13, 14, 15, 16, 17, 18] else bif i == 2 then [3, 8, 9, 10, 11, 13, 14, 15, 16] else bif i == 0 then [1, 3, 8, 9, 10, 11, 12] else []
def spec_l05First_ks3 (S : SatT) (K : AVal → H → Prop) : Kont := kSeq (cwp S tab spec_l05First_M [] (sub [1, 1, 1, 1] (bodyOf Try.f81)) (kFun tab (Try.f81).results.toList K)) (kFun tab (Try.f81).results.toList K)
def spec_l05First_e0 (i1_ : Int) (p3_ : Pt) (s8_ : Sl) (s9_ : Sl) (s10_ : Sl) (i11_ : Int) (i12_ : Int) : Frame := [U, .int .i64 i1_, U, .ptr p3_, U, U, U, U, .sl s8_, .sl s9_, .sl s10_, .int .i64 i11_, .int .i64 i12_, U, U, U, U, U, U, U, U, U, U, U, U, U, U, U, U, U, U, U, U, U, U, U, U, U, U, U, U, U, U, U, U, U, U, U, U, U, U, U, U, U, U, U, U, U, U, U, U, U, U, U, U, U, U, U, U, U, U, U, U, U, U, U, U, U, U, U, U, U, U, U, U, U, U, U, U, U, U, U, U, U, U, U, U, U, U, U, U, U, U, U, U, U, U, U, U, U, U, U, U, U, U, U]
def spec_l05First_w0 (S : SatT) (K : AVal → H → Prop) : (Frame → H → Prop) → Frame → H → Prop := fun X fr h => cwp S tab spec_l05First_M (spec_l05First_M 0) (sub [1, 1, 1, 0, 1, 0, 0] (bodyOf Try.f81)) (kSeq (fun fr h => X (mask (spec_l05First_M 0) fr) h) (kBlk 0 (spec_l05First_ks3 S K))) fr h
def spec_l05First_L0 (S : SatT) (K : AVal → H → Prop) (i1_ : Int) (p3_ : Pt) (s8_ : Sl) (s9_ : Sl) (s10_ : Sl) (i11_ : Int) (i12_ : Int) (h : H) : Prop := loopK (spec_l05First_w0 S K) (spec_l05First_e0 i1_ p3_ s8_ s9_ s10_ i11_ i12_) h
def spec_l05First_C1 (S : SatT) (K : AVal → H → Prop) (X0 : Frame → H → Prop) (i1_ : Int) (p3_ : Pt) (s8_ : Sl) (s9_ : Sl) (s10_ : Sl) (i11_ : Int) (i12_ : Int) (h : H) : Prop :=
 X0 (spec_l05First_e0 i1_ p3_ s8_ s9_ s10_ i11_ (w64 (i12_ + (1)))) h
def spec_l05First_ks7 (S : SatT) (K : AVal → H → Prop) (X0 : Frame → H → Prop) : Kont := kSeq (cwp S tab spec_l05First_M (spec_l05First_M 0) (sub [1, 1, 1, 0, 1, 0, 0, 1, 1] (bodyOf Try.f81)) (kSeq (fun fr h => X0 (mask (spec_l05First_M 0) fr) h) (kBlk 0 (spec_l05First_ks3 S K)))) (kSeq (fun fr h => X0 (mask (spec_l05First_M 0) fr) h) (kBlk 0 (spec_l05First_ks3 S K)))
def spec_l05First_ks13 (S : SatT) (K : AVal → H → Prop) (X0 : Frame → H → Prop) : Kont := kSeq (cwp S tab spec_l05First_M (spec_l05First_M 1) (sub [1, 1, 1, 0, 1, 0, 0, 1, 0, 0, 1, 1, 1, 1, 1] (bodyOf Try.f81)) (kBlk 1 (spec_l05First_ks7 S K X0))) (kBlk 1 (spec_l05First_ks7 S K X0))
def spec_l05First_e2 (p3_ : Pt) (s8_ : Sl) (s9_ : Sl) (s10_ : Sl) (i11_ : Int) (i13_ : Int) (s14_ : Sl) (i15_ : Int) (i16_ : Int) : Frame := [U, U, U, .ptr p3_, U, U, U, U, .sl s8_, .sl s9_, .sl s10_, .int .i64 i11_, U, .int .i64 i13_, .sl s14_, .int .i64 i15_, .int .i64 i16_, U, U, U, U, U, U, U, U, U, U, U, U, U, U, U, U, U, U, U, U, U, U, U, U, U, U, U, U, U, U, U, U, U, U, U, U, U, U, U, U, U, U, U, U, U, U, U, U, U, U, U, U, U, U, U, U, U, U, U, U, U, U, U, U, U, U, U, U, U, U, U, U, U, U, U, U, U, U, U, U, U, U, U, U, U, U, U, U, U, U, U, U, U, U, U, U, U, U, U]
def spec_l05First_w2 (S : SatT) (K : AVal → H → Prop) (X0 : Frame → H → Prop) : (Frame → H → Prop) → Frame → H → Prop := fun X fr h => cwp S tab spec_l05First_M (spec_l05First_M 2) (sub [1, 1, 1, 0, 1, 0, 0, 1, 0, 0, 1, 1, 1, 1, 0, 1, 0, 0] (bodyOf Try.f81)) (kSeq (fun fr h => X (mask (spec_l05First_M 2) fr) h) (kBlk 2 (spec_l05First_ks13 S K X0))) fr h
def spec_l05First_L2 (S : SatT) (K : AVal → H → Prop) (X0 : Frame → H → Prop) (p3_ : Pt) (s8_ : Sl) (s9_ : Sl) (s10_ : Sl) (i11_ : Int) (i13_ : Int) (s14_ : Sl) (i15_ : Int) (i16_ : Int) (h : H) : Prop := loopK (spec_l05First_w2 S K X0) (spec_l05First_e2 p3_ s8_ s9_ s10_ i11_ i13_ s14_ i15_ i16_) h
def spec_l05First_ks17 (S : SatT) (K : AVal → H → Prop) (X0 : Frame → H → Prop) (X2 : Frame → H → Prop) : Kont := kSeq (cwp S tab spec_l05First_M (spec_l05First_M 2) (sub [1, 1, 1, 0, 1, 0, 0, 1, 0, 0, 1, 1, 1, 1, 0, 1, 0, 0, 1, 1] (bodyOf Try.f81)) (kSeq (fun fr h => X2 (mask (spec_l05First_M 2) fr) h) (kBlk 2 (spec_l05First_ks13 S K X0)))) (kSeq (fun fr h => X2 (mask (spec_l05First_M 2) fr) h) (kBlk 2 (spec_l05First_ks13 S K X0)))
def spec_l05First_e4 (p3_ : Pt) (s8_ : Sl) (s9_ : Sl) (s10_ : Sl) (i11_ : Int) (i13_ : Int) (s14_ : Sl) (i15_ : Int) (i16_ : Int) (s17_ : Sl) (i18_ : Int) : Frame := [U, U, U, .ptr p3_, U, U, U, U, .sl s8_, .sl s9_, .sl s10_, .int .i64 i11_, U, .int .i64 i13_, .sl s14_, .int .i64 i15_, .int .i64 i16_, .sl s17_, .int .i64 i18_, U, U, U, U, U, U, U, U, U, U, U, U, U, U, U, U, U, U, U, U, U, U, U, U, U, U, U, U, U, U, U, U, U, U, U, U, U, U, U, U, U, U, U, U, U, U, U, U, U, U, U, U, U, U, U, U, U, U, U, U, U, U, U, U, U, U, U, U, U, U, U, U, U, U, U, U, U, U, U, U, U, U, U, U, U, U, U, U, U, U, U, U, U, U, U, U, U]
def spec_l05First_w4 (S : SatT) (K : AVal → H → Prop) (X0 : Frame → H → Prop) (X2 : Frame → H → Prop) : (Frame → H → Prop) → Frame → H → Prop := fun X fr h => cwp S tab spec_l05First_M (spec_l05First_M 4) (sub [1, 1, 1, 0, 1, 0, 0, 1, 0, 0, 1, 1, 1, 1, 0, 1, 0, 0, 1, 0, 0, 1, 1, 0, 0] (bodyOf Try.f81)) (kSeq (fun fr h => X (mask (spec_l05First_M 4) fr) h) (kBlk 4 (kBlk 3 (spec_l05First_ks17 S K X0 X2)))) fr h
def spec_l05First_L4 (S : SatT) (K : AVal → H → Prop) (X0 : Frame → H → Prop) (X2 : Frame → H → Prop) (p3_ : Pt) (s8_ : Sl) (s9_ : Sl) (s10_ : Sl) (i11_ : Int) (i13_ : Int) (s14_ : Sl) (i15_ : Int) (i16_ : Int) (s17_ : Sl) (i18_ : Int) (h : H) : Prop := loopK (spec_l05First_w4 S K X0 X2) (spec_l05First_e4 p3_ s8_ s9_ s10_ i11_ i13_ s14_ i15_ i16_ s17_ i18_) h
def spec_l05First_C3 (S : SatT) (K : AVal → H → Prop) (X0 : Frame → H → Prop) (X2 : Frame → H → Prop) (p3_ : Pt) (s8_ : Sl) (s9_ : Sl) (s10_ : Sl) (i11_ : Int) (i13_ : Int) (s14_ : Sl) (i15_ : Int) (i16_ : Int) (h : H) : Prop :=
 X2 (spec_l05First_e2 p3_ s8_ s9_ s10_ i11_ i13_ s14_ i15_ (w64 (i16_ - (1)))) h
def spec_l05First_C4 (S : SatT) (K : AVal → H → Prop) (X0 : Frame → H → Prop) (X2 : Frame → H → Prop) (p3_ : Pt) (s8_ : Sl) (s9_ : Sl) (s10_ : Sl) (i11_ : Int) (i13_ : Int) (s14_ : Sl) (i15_ : Int) (i16_ : Int) (h : H) : Prop :=
 spec_l05First_C3 S K X0 X2 p3_ s8_ s9_ s10_ i11_ i13_ s14_ i15_ i16_ h
def spec_l05First_b4 (S : SatT) (K : AVal → H → Prop) (X0 : Frame → H → Prop) (X2 : Frame → H → Prop) (X4 : Frame → H → Prop) (p3_ : Pt) (s8_ : Sl) (s9_ : Sl) (s10_ : Sl) (i11_ : Int) (i13_ : Int) (s14_ : Sl) (i15_ : Int) (i16_ : Int) (s17_ : Sl) (i18_ : Int) (h : H) : Prop :=
 bif (decide (i18_ < (s8_.len : Int))) then
 ixS s9_ 1 i18_ fun p0 =>
 ldI .i64 p0 h fun n1 =>
 bif (n1 == i15_) then
 ixS s10_ 1 i18_ fun p2 =>
 ldI .i64 p2 h fun n3 =>
 ixS s17_ 1 n3 fun p4 =>
 ldI .i64 p4 h fun n5 =>
 bif (decide (n5 > (0))) then
 ixS s8_ 1 i18_ fun p6 =>
 ldS p6 h fun s7 =>
 callS S i_spec_l01Own [.sl s7] h fun s9 h8 =>
 newS 1 1 [.sl s9] h8 fun s10 h11 =>
 app s14_ s10 1 h11 fun s12 h13 =>
 ixS s10_ 1 i18_ fun p14 =>
 ldI .i64 p14 h13 fun n15 =>
 spec_l05First_C4 S K X0 X2 p3_ s8_ s9_ s10_ i11_ i13_ s12 n15 i16_ h13
 else
 X4 (spec_l05First_e4 p3_ s8_ s9_ s10_ i11_ i13_ s14_ i15_ i16_ s17_ (w64 (i18_ + (1)))) h
 else
 X4 (spec_l05First_e4 p3_ s8_ s9_ s10_ i11_ i13_ s14_ i15_ i16_ s17_ (w64 (i18_ + (1)))) h
 else
 spec_l05First_C4 S K X0 X2 p3_ s8_ s9_ s10_ i11_ i13_ s14_ i15_ i16_ h
theorem spec_l05First_link4 (S : SatT) (K : AVal → H → Prop) (X0 : Frame → H → Prop) (X2 : Frame → H → Prop) (X4 : Frame → H → Prop) (p3_ : Pt) (s8_ : Sl) (s9_ : Sl) (s10_ : Sl) (i11_ : Int) (i13_ : Int) (s14_ : Sl) (i15_ : Int) (i16_ : Int) (s17_ : Sl) (i18_ : Int) (h : H) : spec_l05First_w4 S K X0 X2 X4 (spec_l05First_e4 p3_ s8_ s9_ s10_ i11_ i13_ s14_ i15_ i16_ s17_ i18_) h = spec_l05First_b4 S K X0 X2 X4 p3_ s8_ s9_ s10_ i11_ i13_ s14_ i15_ i16_ s17_ i18_ h := by kernel_rfl
theorem spec_l05First_rule4 (S : SatT) (K : AVal → H → Prop) (X0 : Frame → H → Prop) (X2 : Frame → H → Prop) (p3_ : Pt) (s8_ : Sl) (s9_ : Sl) (s10_ : Sl) (i11_ : Int) (i13_ : Int) (i16_ : Int) (s17_ : Sl) (I_ : Sl → Int → Int → H → Prop) (m_ : Sl → Int → Int → H → Nat)
    (hs : ∀ (X4 : Frame → H → Prop) (s14_ : Sl) (i15_ : Int) (i18_ : Int) (h : H), I_ s14_ i15_ i18_ h → (∀ (s14_' : Sl) (i15_' : Int) (i18_' : Int) (h' : H), I_ s14_' i15_' i18_' h' → m_ s14_' i15_' i18_' h' < m_ s14_ i15_ i18_ h → X4 (spec_l05First_e4 p3_ s8_ s9_ s10_ i11_ i13_ s14_' i15_' i16_ s17_ i18_') h') → spec_l05First_b4 S K X0 X2 X4 p3_ s8_ s9_ s10_ i11_ i13_ s14_ i15_ i16_ s17_ i18_ h) (s14_ : Sl) (i15_ : Int) (i18_ : Int) {h : H} (h0 : I_ s14_ i15_ i18_ h) : spec_l05First_L4 S K X0 X2 p3_ s8_ s9_ s10_ i11_ i13_ s14_ i15_ i16_ s17_ i18_ h :=
  loop_rule (σ := (Sl) × (Int) × (Int)) (fun s_ => spec_l05First_e4 p3_ s8_ s9_ s10_ i11_ i13_ (s_.1) (s_.2.1) i16_ s17_ (s_.2.2)) (fun s_ h => I_ (s_.1) (s_.2.1) (s_.2.2) h) (fun s_ h => m_ (s_.1) (s_.2.1) (s_.2.2) h)
    (fun X s_ h hi hx => (spec_l05First_link4 S K X0 X2 X p3_ s8_ s9_ s10_ i11_ i13_ (s_.1) (s_.2.1) i16_ s17_ (s_.2.2) h).mpr (hs X (s_.1) (s_.2.1) (s_.2.2) h hi fun s14_' i15_' i18_' h' hi' hm' => hx (s14_', i15_', i18_') h' hi' hm')) (s14_, i15_, i18_) h0
theorem spec_l05First_unroll4 (S : SatT) (K : AVal → H → Prop) (X0 : Frame → H → Prop) (X2 : Frame → H → Prop) (p3_ : Pt) (s8_ : Sl) (s9_ : Sl) (s10_ : Sl) (i11_ : Int) (i13_ : Int) (s14_ : Sl) (i15_ : Int) (i16_ : Int) (s17_ : Sl) (i18_ : Int) (h : H) (hb : spec_l05First_b4 S K X0 X2 (fun fr h => loopK (spec_l05First_w4 S K X0 X2) fr h) p3_ s8_ s9_ s10_ i11_ i13_ s14_ i15_ i16_ s17_ i18_ h) : spec_l05First_L4 S K X0 X2 p3_ s8_ s9_ s10_ i11_ i13_ s14_ i15_ i16_ s17_ i18_ h := loop_unroll ((spec_l05First_link4 S K X0 X2 _ p3_ s8_ s9_ s10_ i11_ i13_ s14_ i15_ i16_ s17_ i18_ h).mpr hb)
def spec_l05First_C2 (S : SatT) (K : AVal → H → Prop) (X0 : Frame → H → Prop) (s14_ : Sl) (h : H) : Prop :=
 K (.tuple [.sl s14_, .bool true]) h
def spec_l05First_b2 (S : SatT) (K : AVal → H → Prop) (X0 : Frame → H → Prop) (X2 : Frame → H → Prop) (p3_ : Pt) (s8_ : Sl) (s9_ : Sl) (s10_ : Sl) (i11_ : Int) (i13_ : Int) (s14_ : Sl) (i15_ : Int) (i16_ : Int) (h : H) : Prop :=
 bif (decide (i16_ ≥ (0))) then
 ldA p3_ 2 h fun cs0 =>
 callS S i_spec_l05Paths [.agg cs0, .sl s9_, .sl s10_, .int .i64 i11_, .int .i64 i16_, .int .i64 i13_] h fun s2 h1 =>
 spec_l05First_L4 S K X0 X2 p3_ s8_ s9_ s10_ i11_ i13_ s14_ i15_ i16_ s2 (0) h1
 else
 spec_l05First_C2 S K X0 s14_ h
theorem spec_l05First_link2 (S : SatT) (K : AVal → H → Prop) (X0 : Frame → H → Prop) (X2 : Frame → H → Prop) (p3_ : Pt) (s8_ : Sl) (s9_ : Sl) (s10_ : Sl) (i11_ : Int) (i13_ : Int) (s14_ : Sl) (i15_ : Int) (i16_ : Int) (h : H) : spec_l05First_w2 S K X0 X2 (spec_l05First_e2 p3_ s8_ s9_ s10_ i11_ i13_ s14_ i15_ i16_) h = spec_l05First_b2 S K X0 X2 p3_ s8_ s9_ s10_ i11_ i13_ s14_ i15_ i16_ h := by kernel_rfl
theorem spec_l05First_rule2 (S : SatT) (K : AVal → H → Prop) (X0 : Frame → H → Prop) (p3_ : Pt) (s8_ : Sl) (s9_ : Sl) (s10_ : Sl) (i11_ : Int) (i13_ : Int) (I_ : Sl → Int → Int → H → Prop) (m_ : Sl → Int → Int → H → Nat)
    (hs : ∀ (X2 : Frame → H → Prop) (s14_ : Sl) (i15_ : Int) (i16_ : Int) (h : H), I_ s14_ i15_ i16_ h → (∀ (s14_' : Sl) (i15_' : Int) (i16_' : Int) (h' : H), I_ s14_' i15_' i16_' h' → m_ s14_' i15_' i16_' h' < m_ s14_ i15_ i16_ h → X2 (spec_l05First_e2 p3_ s8_ s9_ s10_ i11_ i13_ s14_' i15_' i16_') h') → spec_l05First_b2 S K X0 X2 p3_ s8_ s9_ s10_ i11_ i13_ s14_ i15_ i16_ h) (s14_ : Sl) (i15_ : Int) (i16_ : Int) {h : H} (h0 : I_ s14_ i15_ i16_ h) : spec_l05First_L2 S K X0 p3_ s8_ s9_ s10_ i11_ i13_ s14_ i15_ i16_ h :=
  loop_rule (σ := (Sl) × (Int) × (Int)) (fun s_ => spec_l05First_e2 p3_ s8_ s9_ s10_ i11_ i13_ (s_.1) (s_.2.1) (s_.2.2)) (fun s_ h => I_ (s_.1) (s_.2.1) (s_.2.2) h) (fun s_ h => m_ (s_.1) (s_.2.1) (s_.2.2) h)
    (fun X s_ h hi hx => (spec_l05First_link2 S K X0 X p3_ s8_ s9_ s10_ i11_ i13_ (s_.1) (s_.2.1) (s_.2.2) h).mpr (hs X (s_.1) (s_.2.1) (s_.2.2) h hi fun s14_' i15_' i16_' h' hi' hm' => hx (s14_', i15_', i16_') h' hi' hm')) (s14_, i15_, i16_) h0
theorem spec_l05First_unroll2 (S : SatT) (K : AVal → H → Prop) (X0 : Frame → H → Prop) (p3_ : Pt) (s8_ : Sl) (s9_ : Sl) (s10_ : Sl) (i11_ : Int) (i13_ : Int) (s14_ : Sl) (i15_ : Int) (i16_ : Int) (h : H) (hb : spec_l05First_b2 S K X0 (fun fr h => loopK (spec_l05First_w2 S K X0) fr h) p3_ s8_ s9_ s10_ i11_ i13_ s14_ i15_ i16_ h) : spec_l05First_L2 S K X0 p3_ s8_ s9_ s10_ i11_ i13_ s14_ i15_ i16_ h := loop_unroll ((spec_l05First_link2 S K X0 _ p3_ s8_ s9_ s10_ i11_ i13_ s14_ i15_ i16_ h).mpr hb)
def spec_l05First_C0 (S : SatT) (K : AVal → H → Prop) (h : H) : Prop :=
 K (.tuple [.sl Sl.nil, .bool false]) h
def spec_l05First_b0 (S : SatT) (K : AVal → H → Prop) (X0 : Frame → H → Prop) (i1_ : Int) (p3_ : Pt) (s8_ : Sl) (s9_ : Sl) (s10_ : Sl) (i11_ : Int) (i12_ : Int) (h : H) : Prop :=
 bif (decide (i12_ < (s8_.len : Int))) then
 ixS s9_ 1 i12_ fun p0 =>
 ldI .i64 p0 h fun n1 =>
 newS 0 1 [] h fun s2 h3 =>
 ldA p3_ 2 h3 fun cs4 =>
 callS S i_spec_l05Paths [.agg cs4, .sl s9_, .sl s10_, .int .i64 i11_, .int .i64 (w64 (i1_ - (1))), .int .i64 n1] h3 fun s6 h5 =>
 ixS s10_ 1 i12_ fun p7 =>
 ldI .i64 p7 h5 fun n8 =>
(cell h3 p7 = cell h5 p7) ∧ (
 ixS s6 1 n8 fun p9 =>
 ldI .i64 p9 h5 fun n10 =>
 bif (n10 == (0)) then
 spec_l05First_C1 S K X0 i1_ p3_ s8_ s9_ s10_ i11_ i12_ h5
 else
 ixS s8_ 1 i12_ fun p11 =>
 ldS p11 h5 fun s12 =>
 callS S i_spec_l01Own [.sl s12] h5 fun s14 h13 =>
 newS 1 1 [.sl s14] h13 fun s15 h16 =>
 app s2 s15 1 h16 fun s17 h18 =>
 ixS s10_ 1 i12_ fun p19 =>
 ldI .i64 p19 h18 fun n20 =>
 spec_l05First_L2 S K X0 p3_ s8_ s9_ s10_ i11_ n1 s17 n20 (w64 (i1_ - (2))) h18)
 else
 spec_l05First_C0 S K h
theorem spec_l05First_link0 (S : SatT) (K : AVal → H → Prop) (X0 : Frame → H → Prop) (i1_ : Int) (p3_ : Pt) (s8_ : Sl) (s9_ : Sl) (s10_ : Sl) (i11_ : Int) (i12_ : Int) (h : H) : spec_l05First_w0 S K X0 (spec_l05First_e0 i1_ p3_ s8_ s9_ s10_ i11_ i12_) h = spec_l05First_b0 S K X0 i1_ p3_ s8_ s9_ s10_ i11_ i12_ h := by kernel_rfl
theorem spec_l05First_rule0 (S : SatT) (K : AVal → H → Prop) (i1_ : Int) (p3_ : Pt) (s8_ : Sl) (s9_ : Sl) (s10_ : Sl) (i11_ : Int) (I_ : Int → H → Prop) (m_ : Int → H → Nat)
    (hs : ∀ (X0 : Frame → H → Prop) (i12_ : Int) (h : H), I_ i12_ h → (∀ (i12_' : Int) (h' : H), I_ i12_' h' → m_ i12_' h' < m_ i12_ h → X0 (spec_l05First_e0 i1_ p3_ s8_ s9_ s10_ i11_ i12_') h') → spec_l05First_b0 S K X0 i1_ p3_ s8_ s9_ s10_ i11_ i12_ h) (i12_ : Int) {h : H} (h0 : I_ i12_ h) : spec_l05First_L0 S K i1_ p3_ s8_ s9_ s10_ i11_ i12_ h :=
  loop_rule (σ := (Int)) (fun s_ => spec_l05First_e0 i1_ p3_ s8_ s9_ s10_ i11_ (s_)) (fun s_ h => I_ (s_) h) (fun s_ h => m_ (s_) h)
    (fun X s_ h hi hx => (spec_l05First_link0 S K X i1_ p3_ s8_ s9_ s10_ i11_ (s_) h).mpr (hs X (s_) h hi fun i12_' h' hi' hm' => hx (i12_') h' hi' hm')) (i12_) h0
theorem spec_l05First_unroll0 (S : SatT) (K : AVal → H → Prop) (i1_ : Int) (p3_ : Pt) (s8_ : Sl) (s9_ : Sl) (s10_ : Sl) (i11_ : Int) (i12_ : Int) (h : H) (hb : spec_l05First_b0 S K (fun fr h => loopK (spec_l05First_w0 S K) fr h) i1_ p3_ s8_ s9_ s10_ i11_ i12_ h) : spec_l05First_L0 S K i1_ p3_ s8_ s9_ s10_ i11_ i12_ h := loop_unroll ((spec_l05First_link0 S K _ i1_ p3_ s8_ s9_ s10_ i11_ i12_ h).mpr hb)
def spec_l05First_main (S : SatT) (K : AVal → H → Prop) (x0 : List AVal) (x1 : Int) (x2 : Int) (h : H) : Prop :=
 newK 2 x0 h fun p0 h1 =>
 ldA p0 2 h1 fun cs2 =>
 callV S i_spec_l05Words [.agg cs2, .int .i64 x2] h1 fun v4 h3 =>
 viaT v4 fun vs5 =>
 exS vs5 0 fun s6 =>
 viaT v4 fun vs7 =>
 exS vs7 1 fun s8 =>
 viaT v4 fun vs9 =>
 exS vs9 2 fun s10 =>
 isPt p0 (
 ldI .i64 (Pt.add p0 0) h3 fun n11 =>
 callI S .i64 i_spec_l03Power [.int .i64 n11, .int .i64 x2] h3 fun n13 h12 =>
 spec_l05First_L0 S K x1 p0 s6 s8 s10 n13 (0) h12)
theorem spec_l05First_main_link (S : SatT) (K : AVal → H → Prop) (x0 : List AVal) (x1 : Int) (x2 : Int) (h : H) : cwp S tab spec_l05First_M [] (bodyOf Try.f81) (kFun tab Try.f81.results.toList K) (fr0 Try.f81 [.agg x0, .int .i64 x1, .int .i64 x2]) h = spec_l05First_main S K x0 x1 x2 h := by kernel_rfl
theorem spec_l05First_call (x0 : List AVal) (x1 : Int) (x2 : Int) (h : H) (K : AVal → H → Prop) (hm : spec_l05First_main (Sat Try.prog) (fun v h' => K v h') x0 x1 x2 h) : callV (Sat Try.prog) i_spec_l05First [.agg x0, .int .i64 x1, .int .i64 x2] h K := by
  have := Sat.ex tok mixed spec_l05First_M Try.func81 (c := bodyOf Try.f81) (by kernel_rfl) (calls_of Try.func81 (c := bodyOf Try.f81) (by kernel_rfl) (by decide)) ((spec_l05First_main_link _ _ x0 x1 x2 h).mpr hm)
  exact this

/-! ### loop.example/g01354/spec.l01Good -/
def spec_l01Good_M : Nat → List Nat := fun i => bif i == 2 then [1, 2, 5, 6] else bif i == 0 then [1, 2, 5] else []
def spec_l01Good_ks1 (S : SatT) (K : AVal → H → Prop) : Kont := kSeq (cwp S tab spec_l01Good_M [] (sub [1, 1] (bodyOf Try.f66)) (kFun tab (Try.f66).results.toList K)) (kFun tab (Try.f66).results.toList K)
def spec_l01Good_e0 (s1_ : Sl) (p2_ : Pt) (i5_ : Int) : Frame := [U, .sl s1_, .ptr p2_, U, U, .int .i64 i5_, U, U, U, U, U, U, U, U, U, U, U, U, U, U, U, U, U, U, U, U, U, U, U, U, U, U, U, U, U, U, U, U, U, U, U, U, U, U, U, U, U, U, U, U, U, U, U, U, U, U, U, U, U, U, U, U, U, U, U, U, U, U, U, U, U, U, U, U, U, U]
def spec_l01Good_w0 (S : SatT) (K : AVal → H → Prop) : (Frame → H → Prop) → Frame → H → Prop := fun X fr h => cwp S tab spec_l01Good_M (spec_l01Good_M 0) (sub [1, 0, 1, 0, 0] (bodyOf Try.f66)) (kSeq (fun fr h => X (mask (spec_l01Good_M 0) fr) h) (kBlk 0 (spec_l01Good_ks1 S K))) fr h
def spec_l01Good_L0 (S : SatT) (K : AVal → H → Prop) (s1_ : Sl) (p2_ : Pt) (i5_ : Int) (h : H) : Prop := loopK (spec_l01Good_w0 S K) (spec_l01Good_e0 s1_ p2_ i5_) h
def spec_l01Good_ks5 (S : SatT) (K : AVal → H → Prop) (X0 : Frame → H → Prop) : Kont := kSeq (cwp S tab spec_l01Good_M (spec_l01Good_M 0) (sub [1, 0, 1, 0, 0, 1, 1] (bodyOf Try.f66)) (kSeq (fun fr h => X0 (mask (spec_l01Good_M 0) fr) h) (kBlk 0 (spec_l01Good_ks1 S K)))) (kSeq (fun fr h => X0 (mask (spec_l01Good_M 0) fr) h) (kBlk 0 (spec_l01Good_ks1 S K)))
def spec_l01Good_e2 (s1_ : Sl) (p2_ : Pt) (i5_ : Int) (i6_ : Int) : Frame := [U, .sl s1_, .ptr p2_, U, U, .int .i64 i5_, .int .i64 i6_, U, U, U, U, U, U, U, U, U, U, U, U, U, U, U, U, U, U, U, U, U, U, U, U, U, U, U, U, U, U, U, U, U, U, U, U, U, U, U, U, U, U, U, U, U, U, U, U, U, U, U, U, U, U, U, U, U, U, U, U, U, U, U, U, U, U, U, U, U]
def spec_l01Good_w2 (S : SatT) (K : AVal → H → Prop) (X0 : Frame → H → Prop) : (Frame → H → Prop) → Frame → H → Prop := fun X fr h => cwp S tab spec_l01Good_M (spec_l01Good_M 2) (sub [1, 0, 1, 0, 0, 1, 0, 0, 1, 0, 0] (bodyOf Try.f66)) (kSeq (fun fr h => X (mask (spec_l01Good_M 2) fr) h) (kBlk 2 (kBlk 1 (spec_l01Good_ks5 S K X0)))) fr h
def spec_l01Good_L2 (S : SatT) (K : AVal → H → Prop) (X0 : Frame → H → Prop) (s1_ : Sl) (p2_ : Pt) (i5_ : Int) (i6_ : Int) (h : H) : Prop := loopK (spec_l01Good_w2 S K X0) (spec_l01Good_e2 s1_ p2_ i5_ i6_) h
def spec_l01Good_C1 (S : SatT) (K : AVal → H → Prop) (X0 : Frame → H → Prop) (s1_ : Sl) (p2_ : Pt) (i5_ : Int) (h : H) : Prop :=
 X0 (spec_l01Good_e0 s1_ p2_ (w64 (i5_ + (1)))) h
def spec_l01Good_C2 (S : SatT) (K : AVal → H → Prop) (X0 : Frame → H → Prop) (s1_ : Sl) (p2_ : Pt) (i5_ : Int) (h : H) : Prop :=
 spec_l01Good_C1 S K X0 s1_ p2_ i5_ h
def spec_l01Good_b2 (S : SatT) (K : AVal → H → Prop) (X0 : Frame → H → Prop) (X2 : Frame → H → Prop) (s1_ : Sl) (p2_ : Pt) (i5_ : Int) (i6_ : Int) (h : H) : Prop :=
 ixS s1_ 1 i5_ fun p0 =>
 ldS p0 h fun s1 =>
 bif (decide (i6_ < (s1.len : Int))) then
 isPt p2_ (
 ldS (Pt.add p2_ 1) h fun s2 =>
 ixS s1_ 1 i5_ fun p3 =>
 ldS p3 h fun s4 =>
 ixS s4 1 i6_ fun p5 =>
 ldI .i64 p5 h fun n6 =>
 ixS s2 4 n6 fun p7 =>
 ldA p7 4 h fun cs8 =>
 newO [.int .i64 (0), .int .i64 (0), .int .i64 (0), .int .i64 (0)] h fun p9 h10 =>
(range h10 p7.o p7.n p7.off 4 = range h p7.o p7.n p7.off 4) ∧ (
(cell h10 p5 = cell h p5) ∧ (
(cell h10 p3 = cell h p3) ∧ (
(cell h10 (Pt.add p2_ 1) = cell h (Pt.add p2_ 1)) ∧ (
 stN p9 4 cs8 h10 fun h11 =>
 bif (decide (i6_ > (0))) then
 isPt p2_ (
 ldS (Pt.add p2_ 1) h11 fun s12 =>
 ixS s1_ 1 i5_ fun p13 =>
 ldS p13 h11 fun s14 =>
 ixS s14 1 (w64 (i6_ - (1))) fun p15 =>
 ldI .i64 p15 h11 fun n16 =>
 ixS s12 4 n16 fun p17 =>
 ixA p17 4 1 (2) fun p18 =>
 ldI .i64 p18 h11 fun n19 =>
 ixA p9 4 1 (0) fun p20 =>
 ldI .i64 p20 h11 fun n21 =>
 bif (n19 != n21) then
 K (.bool false) h11
 else
 bif (decide (i5_ > (0))) then
 isPt p2_ (
 ldS (Pt.add p2_ 1) h11 fun s22 =>
 ixS s1_ 1 (w64 (i5_ - (1))) fun p23 =>
 ldS p23 h11 fun s24 =>
 ixS s24 1 i6_ fun p25 =>
 ldI .i64 p25 h11 fun n26 =>
 ixS s22 4 n26 fun p27 =>
 ixA p27 4 1 (3) fun p28 =>
 ldI .i64 p28 h11 fun n29 =>
 ixA p9 4 1 (1) fun p30 =>
 ldI .i64 p30 h11 fun n31 =>
 bif (n29 != n31) then
 K (.bool false) h11
 else
 X2 (spec_l01Good_e2 s1_ p2_ i5_ (w64 (i6_ + (1)))) h11)
 else
 X2 (spec_l01Good_e2 s1_ p2_ i5_ (w64 (i6_ + (1)))) h11)
 else
 bif (decide (i5_ > (0))) then
 isPt p2_ (
 ldS (Pt.add p2_ 1) h11 fun s32 =>
 ixS s1_ 1 (w64 (i5_ - (1))) fun p33 =>
 ldS p33 h11 fun s34 =>
 ixS s34 1 i6_ fun p35 =>
 ldI .i64 p35 h11 fun n36 =>
 ixS s32 4 n36 fun p37 =>
 ixA p37 4 1 (3) fun p38 =>
 ldI .i64 p38 h11 fun n39 =>
 ixA p9 4 1 (1) fun p40 =>
 ldI .i64 p40 h11 fun n41 =>
 bif (n39 != n41) then
 K (.bool false) h11
 else
 X2 (spec_l01Good_e2 s1_ p2_ i5_ (w64 (i6_ + (1)))) h11)
 else
 X2 (spec_l01Good_e2 s1_ p2_ i5_ (w64 (i6_ + (1)))) h11)))))
 else
 spec_l01Good_C2 S K X0 s1_ p2_ i5_ h
theorem spec_l01Good_link2 (S : SatT) (K : AVal → H → Prop) (X0 : Frame → H → Prop) (X2 : Frame → H → Prop) (s1_ : Sl) (p2_ : Pt) (i5_ : Int) (i6_ : Int) (h : H) : spec_l01Good_w2 S K X0 X2 (spec_l01Good_e2 s1_ p2_ i5_ i6_) h = spec_l01Good_b2 S K X0 X2 s1_ p2_ i5_ i6_ h := by kernel_rfl
theorem spec_l01Good_rule2 (S : SatT) (K : AVal → H → Prop) (X0 : Frame → H → Prop) (s1_ : Sl) (p2_ : Pt) (i5_ : Int) (I_ : Int → H → Prop) (m_ : Int → H → Nat)
    (hs : ∀ (X2 : Frame → H → Prop) (i6_ : Int) (h : H), I_ i6_ h → (∀ (i6_' : Int) (h' : H), I_ i6_' h' → m_ i6_' h' < m_ i6_ h → X2 (spec_l01Good_e2 s1_ p2_ i5_ i6_') h') → spec_l01Good_b2 S K X0 X2 s1_ p2_ i5_ i6_ h) (i6_ : Int) {h : H} (h0 : I_ i6_ h) : spec_l01Good_L2 S K X0 s1_ p2_ i5_ i6_ h :=
  loop_rule (σ := (Int)) (fun s_ => spec_l01Good_e2 s1_ p2_ i5_ (s_)) (fun s_ h => I_ (s_) h) (fun s_ h => m_ (s_) h)
    (fun X s_ h hi hx => (spec_l01Good_link2 S K X0 X s1_ p2_ i5_ (s_) h).mpr (hs X (s_) h hi fun i6_' h' hi' hm' => hx (i6_') h' hi' hm')) (i6_) h0
theorem spec_l01Good_unroll2 (S : SatT) (K : AVal → H → Prop) (X0 : Frame → H → Prop) (s1_ : Sl) (p2_ : Pt) (i5_ : Int) (i6_ : Int) (h : H) (hb : spec_l01Good_b2 S K X0 (fun fr h => loopK (spec_l01Good_w2 S K X0) fr h) s1_ p2_ i5_ i6_ h) : spec_l01Good_L2 S K X0 s1_ p2_ i5_ i6_ h := loop_unroll ((spec_l01Good_link2 S K X0 _ s1_ p2_ i5_ i6_ h).mpr hb)
def spec_l01Good_C0 (S : SatT) (K : AVal → H → Prop) (h : H) : Prop :=
 K (.bool true) h
def spec_l01Good_b0 (S : SatT) (K : AVal → H → Prop) (X0 : Frame → H → Prop) (s1_ : Sl) (p2_ : Pt) (i5_ : Int) (h : H) : Prop :=
 bif (decide (i5_ < (s1_.len : Int))) then
 spec_l01Good_L2 S K X0 s1_ p2_ i5_ (0) h
 else
 spec_l01Good_C0 S K h
theorem spec_l01Good_link0 (S : SatT) (K : AVal → H → Prop) (X0 : Frame → H → Prop) (s1_ : Sl) (p2_ : Pt) (i5_ : Int) (h : H) : spec_l01Good_w0 S K X0 (spec_l01Good_e0 s1_ p2_ i5_) h = spec_l01Good_b0 S K X0 s1_ p2_ i5_ h := by kernel_rfl
theorem spec_l01Good_rule0 (S : SatT) (K : AVal → H → Prop) (s1_ : Sl) (p2_ : Pt) (I_ : Int → H → Prop) (m_ : Int → H → Nat)
    (hs : ∀ (X0 : Frame → H → Prop) (i5_ : Int) (h : H), I_ i5_ h → (∀ (i5_' : Int) (h' : H), I_ i5_' h' → m_ i5_' h' < m_ i5_ h → X0 (spec_l01Good_e0 s1_ p2_ i5_') h') → spec_l01Good_b0 S K X0 s1_ p2_ i5_ h) (i5_ : Int) {h : H} (h0 : I_ i5_ h) : spec_l01Good_L0 S K s1_ p2_ i5_ h :=
  loop_rule (σ := (Int)) (fun s_ => spec_l01Good_e0 s1_ p2_ (s_)) (fun s_ h => I_ (s_) h) (fun s_ h => m_ (s_) h)
    (fun X s_ h hi hx => (spec_l01Good_link0 S K X s1_ p2_ (s_) h).mpr (hs X (s_) h hi fun i5_' h' hi' hm' => hx (i5_') h' hi' hm')) (i5_) h0
theorem spec_l01Good_unroll0 (S : SatT) (K : AVal → H → Prop) (s1_ : Sl) (p2_ : Pt) (i5_ : Int) (h : H) (hb : spec_l01Good_b0 S K (fun fr h => loopK (spec_l01Good_w0 S K) fr h) s1_ p2_ i5_ h) : spec_l01Good_L0 S K s1_ p2_ i5_ h := loop_unroll ((spec_l01Good_link0 S K _ s1_ p2_ i5_ h).mpr hb)
def spec_l01Good_main (S : SatT) (K : AVal → H → Prop) (x0 : List AVal) (x1 : Sl) (h : H) : Prop :=
 newK 2 x0 h fun p0 h1 =>
 spec_l01Good_L0 S K x1 p0 (0) h1
theorem spec_l01Good_main_link (S : SatT) (K : AVal → H → Prop) (x0 : List AVal) (x1 : Sl) (h : H) : cwp S tab spec_l01Good_M [] (bodyOf Try.f66) (kFun tab Try.f66.results.toList K) (fr0 Try.f66 [.agg x0, .sl x1]) h = spec_l01Good_main S K x0 x1 h := by kernel_rfl
theorem spec_l01Good_call (x0 : List AVal) (x1 : Sl) (h : H) (K : Bool → H → Prop) (hm : spec_l01Good_main (Sat Try.prog) (fun v h' => ∃ r, v = .bool r ∧ K r h') x0 x1 h) : callB (Sat Try.prog) i_spec_l01Good [.agg x0, .sl x1] h K := by
  have := Sat.ex tok mixed spec_l01Good_M Try.func66 (c := bodyOf Try.f66) (by kernel_rfl) (calls_of Try.func66 (c := bodyOf Try.f66) (by kernel_rfl) (by decide)) ((spec_l01Good_main_link _ _ x0 x1 h).mpr hm)
  obtain ⟨v, h2, h3, r, rfl, h4⟩ := this; exact ⟨r, h2, h3, h4⟩

/-! ### loop.example/g01354/spec.l01Rows -/
def spec_l01Rows_M : Nat → List Nat := fun i => bif i == 2 then [1, 2, 5, 6] else bif i == 0 then [1, 2, 5] else []
def spec_l01Rows_ks10 (S : SatT) (K : AVal → H → Prop) : Kont := kSeq (cwp S tab spec_l01Rows_M [] (sub [1, 1, 1, 1] (bodyOf Try.f65)) (kFun tab (Try.f65).results.toList K)) (kFun tab (Try.f65).results.toList K)
def spec_l01Rows_e0 (s1_ : Sl) (p2_ : Pt) (i5_ : Int) : Frame := [U, .sl s1_, .ptr p2_, U, U, .int .i64 i5_, U, U, U, U, U, U, U, U, U, U, U, U, U, U, U, U, U, U, U, U, U, U, U, U, U, U, U, U, U, U, U, U, U, U, U, U, U, U, U, U, U, U, U, U, U, U, U, U, U, U, U, U, U, U, U, U, U, U, U, U, U, U, U, U]
def spec_l01Rows_w0 (S : SatT) (K : AVal → H → Prop) : (Frame → H → Prop) → Frame → H → Prop := fun X fr h => cwp S tab spec_l01Rows_M (spec_l01Rows_M 0) (sub [1, 1, 1, 0, 1, 0, 0] (bodyOf Try.f65)) (kSeq (fun fr h => X (mask (spec_l01Rows_M 0) fr) h) (kBlk 0 (spec_l01Rows_ks10 S K))) fr h
def spec_l01Rows_L0 (S : SatT) (K : AVal → H → Prop) (s1_ : Sl) (p2_ : Pt) (i5_ : Int) (h : H) : Prop := loopK (spec_l01Rows_w0 S K) (spec_l01Rows_e0 s1_ p2_ i5_) h
def spec_l01Rows_ks14 (S : SatT) (K : AVal → H → Prop) (X0 : Frame → H → Prop) : Kont := kSeq (cwp S tab spec_l01Rows_M (spec_l01Rows_M 0) (sub [1, 1, 1, 0, 1, 0, 0, 1, 1] (bodyOf Try.f65)) (kSeq (fun fr h => X0 (mask (spec_l01Rows_M 0) fr) h) (kBlk 0 (spec_l01Rows_ks10 S K)))) (kSeq (fun fr h => X0 (mask (spec_l01Rows_M 0) fr) h) (kBlk 0 (spec_l01Rows_ks10 S K)))
def spec_l01Rows_e2 (s1_ : Sl) (p2_ : Pt) (i5_ : Int) (i6_ : Int) : Frame := [U, .sl s1_, .ptr p2_, U, U, .int .i64 i5_, .int .i64 i6_, U, U, U, U, U, U, U, U, U, U, U, U, U, U, U, U, U, U, U, U, U, U, U, U, U, U, U, U, U, U, U, U, U, U, U, U, U, U, U, U, U, U, U, U, U, U, U, U, U, U, U, U, U, U, U, U, U, U, U, U, U, U, U]
def spec_l01Rows_w2 (S : SatT) (K : AVal → H → Prop) (X0 : Frame → H → Prop) : (Frame → H → Prop) → Frame → H → Prop := fun X fr h => cwp S tab spec_l01Rows_M (spec_l01Rows_M 2) (sub [1, 1, 1, 0, 1, 0, 0, 1, 0, 0, 1, 1, 0, 0] (bodyOf Try.f65)) (kSeq (fun fr h => X (mask (spec_l01Rows_M 2) fr) h) (kBlk 2 (kBlk 1 (spec_l01Rows_ks14 S K X0)))) fr h
def spec_l01Rows_L2 (S : SatT) (K : AVal → H → Prop) (X0 : Frame → H → Prop) (s1_ : Sl) (p2_ : Pt) (i5_ : Int) (i6_ : Int) (h : H) : Prop := loopK (spec_l01Rows_w2 S K X0) (spec_l01Rows_e2 s1_ p2_ i5_ i6_) h
def spec_l01Rows_C1 (S : SatT) (K : AVal → H → Prop) (X0 : Frame → H → Prop) (s1_ : Sl) (p2_ : Pt) (i5_ : Int) (h : H) : Prop :=
 X0 (spec_l01Rows_e0 s1_ p2_ (w64 (i5_ + (1)))) h
def spec_l01Rows_C2 (S : SatT) (K : AVal → H → Prop) (X0 : Frame → H → Prop) (s1_ : Sl) (p2_ : Pt) (i5_ : Int) (h : H) : Prop :=
 spec_l01Rows_C1 S K X0 s1_ p2_ i5_ h
def spec_l01Rows_b2 (S : SatT) (K : AVal → H → Prop) (X0 : Frame → H → Prop) (X2 : Frame → H → Prop) (s1_ : Sl) (p2_ : Pt) (i5_ : Int) (i6_ : Int) (h : H) : Prop :=
 ixS s1_ 1 i5_ fun p0 =>
 ldS p0 h fun s1 =>
 bif (decide (i6_ < (s1.len : Int))) then
 ixS s1_ 1 i5_ fun p2 =>
 ldS p2 h fun s3 =>
 ixS s3 1 i6_ fun p4 =>
 ldI .i64 p4 h fun n5 =>
 isPt p2_ (
 ldS (Pt.add p2_ 1) h fun s6 =>
 callB S i_spec_l01In [.int .i64 n5, .int .i64 (0), .int .i64 (w64 ((s6.len : Int) - (1)))] h fun b8 h7 =>
 bif (!b8) then
 K (.int .i64 (2)) h7
 else
 X2 (spec_l01Rows_e2 s1_ p2_ i5_ (w64 (i6_ + (1)))) h7)
 else
 spec_l01Rows_C2 S K X0 s1_ p2_ i5_ h
theorem spec_l01Rows_link2 (S : SatT) (K : AVal → H → Prop) (X0 : Frame → H → Prop) (X2 : Frame → H → Prop) (s1_ : Sl) (p2_ : Pt) (i5_ : Int) (i6_ : Int) (h : H) : spec_l01Rows_w2 S K X0 X2 (spec_l01Rows_e2 s1_ p2_ i5_ i6_) h = spec_l01Rows_b2 S K X0 X2 s1_ p2_ i5_ i6_ h := by kernel_rfl
theorem spec_l01Rows_rule2 (S : SatT) (K : AVal → H → Prop) (X0 : Frame → H → Prop) (s1_ : Sl) (p2_ : Pt) (i5_ : Int) (I_ : Int → H → Prop) (m_ : Int → H → Nat)
    (hs : ∀ (X2 : Frame → H → Prop) (i6_ : Int) (h : H), I_ i6_ h → (∀ (i6_' : Int) (h' : H), I_ i6_' h' → m_ i6_' h' < m_ i6_ h → X2 (spec_l01Rows_e2 s1_ p2_ i5_ i6_') h') → spec_l01Rows_b2 S K X0 X2 s1_ p2_ i5_ i6_ h) (i6_ : Int) {h : H} (h0 : I_ i6_ h) : spec_l01Rows_L2 S K X0 s1_ p2_ i5_ i6_ h :=
  loop_rule (σ := (Int)) (fun s_ => spec_l01Rows_e2 s1_ p2_ i5_ (s_)) (fun s_ h => I_ (s_) h) (fun s_ h => m_ (s_) h)
    (fun X s_ h hi hx => (spec_l01Rows_link2 S K X0 X s1_ p2_ i5_ (s_) h).mpr (hs X (s_) h hi fun i6_' h' hi' hm' => hx (i6_') h' hi' hm')) (i6_) h0
theorem spec_l01Rows_unroll2 (S : SatT) (K : AVal → H → Prop) (X0 : Frame → H → Prop) (s1_ : Sl) (p2_ : Pt) (i5_ : Int) (i6_ : Int) (h : H) (hb : spec_l01Rows_b2 S K X0 (fun fr h => loopK (spec_l01Rows_w2 S K X0) fr h) s1_ p2_ i5_ i6_ h) : spec_l01Rows_L2 S K X0 s1_ p2_ i5_ i6_ h := loop_unroll ((spec_l01Rows_link2 S K X0 _ s1_ p2_ i5_ i6_ h).mpr hb)
def spec_l01Rows_C0 (S : SatT) (K : AVal → H → Prop) (h : H) : Prop :=
 K (.int .i64 (0)) h
def spec_l01Rows_b0 (S : SatT) (K : AVal → H → Prop) (X0 : Frame → H → Prop) (s1_ : Sl) (p2_ : Pt) (i5_ : Int) (h : H) : Prop :=
 bif (decide (i5_ < (s1_.len : Int))) then
 ixS s1_ 1 i5_ fun p0 =>
 ldS p0 h fun s1 =>
 ixS s1_ 1 (0) fun p2 =>
 ldS p2 h fun s3 =>
 bif ((s1.len : Int) != (s3.len : Int)) then
 K (.int .i64 (2)) h
 else
 spec_l01Rows_L2 S K X0 s1_ p2_ i5_ (0) h
 else
 spec_l01Rows_C0 S K h
theorem spec_l01Rows_link0 (S : SatT) (K : AVal → H → Prop) (X0 : Frame → H → Prop) (s1_ : Sl) (p2_ : Pt) (i5_ : Int) (h : H) : spec_l01Rows_w0 S K X0 (spec_l01Rows_e0 s1_ p2_ i5_) h = spec_l01Rows_b0 S K X0 s1_ p2_ i5_ h := by kernel_rfl
theorem spec_l01Rows_rule0 (S : SatT) (K : AVal → H → Prop) (s1_ : Sl) (p2_ : Pt) (I_ : Int → H → Prop) (m_ : Int → H → Nat)
    (hs : ∀ (X0 : Frame → H → Prop) (i5_ : Int) (h : H), I_ i5_ h → (∀ (i5_' : Int) (h' : H), I_ i5_' h' → m_ i5_' h' < m_ i5_ h → X0 (spec_l01Rows_e0 s1_ p2_ i5_') h') → spec_l01Rows_b0 S K X0 s1_ p2_ i5_ h) (i5_ : Int) {h : H} (h0 : I_ i5_ h) : spec_l01Rows_L0 S K s1_ p2_ i5_ h :=
  loop_rule (σ := (Int)) (fun s_ => spec_l01Rows_e0 s1_ p2_ (s_)) (fun s_ h => I_ (s_) h) (fun s_ h => m_ (s_) h)
    (fun X s_ h hi hx => (spec_l01Rows_link0 S K X s1_ p2_ (s_) h).mpr (hs X (s_) h hi fun i5_' h' hi' hm' => hx (i5_') h' hi' hm')) (i5_) h0
theorem spec_l01Rows_unroll0 (S : SatT) (K : AVal → H → Prop) (s1_ : Sl) (p2_ : Pt) (i5_ : Int) (h : H) (hb : spec_l01Rows_b0 S K (fun fr h => loopK (spec_l01Rows_w0 S K) fr h) s1_ p2_ i5_ h) : spec_l01Rows_L0 S K s1_ p2_ i5_ h := loop_unroll ((spec_l01Rows_link0 S K _ s1_ p2_ i5_ h).mpr hb)
def spec_l01Rows_main (S : SatT) (K : AVal → H → Prop) (x0 : List AVal) (x1 : Sl) (h : H) : Prop :=
 newK 2 x0 h fun p0 h1 =>
 ldA p0 2 h1 fun cs2 =>
 callB S i_spec_l01Is [.agg cs2] h1 fun b4 h3 =>
 bif (!b4) then
 K (.int .i64 (1)) h3
 else
 bif (decide ((x1.len : Int) < (1))) then
 K (.int .i64 (2)) h3
 else
 bif (decide ((x1.len : Int) > (8))) then
 K (.int .i64 (2)) h3
 else
 ixS x1 1 (0) fun p5 =>
 ldS p5 h3 fun s6 =>
 bif (decide ((s6.len : Int) < (1))) then
 K (.int .i64 (2)) h3
 else
 ixS x1 1 (0) fun p7 =>
 ldS p7 h3 fun s8 =>
 bif (decide ((s8.len : Int) > (8))) then
 K (.int .i64 (2)) h3
 else
 spec_l01Rows_L0 S K x1 p0 (0) h3
theorem spec_l01Rows_main_link (S : SatT) (K : AVal → H → Prop) (x0 : List AVal) (x1 : Sl) (h : H) : cwp S tab spec_l01Rows_M [] (bodyOf Try.f65) (kFun tab Try.f65.results.toList K) (fr0 Try.f65 [.agg x0, .sl x1]) h = spec_l01Rows_main S K x0 x1 h := by kernel_rfl
theorem spec_l01Rows_call (x0 : List AVal) (x1 : Sl) (h : H) (K : Int → H → Prop) (hm : spec_l01Rows_main (Sat Try.prog) (fun v h' => ∃ r, v = .int .i64 r ∧ K r h') x0 x1 h) : callI (Sat Try.prog) .i64 i_spec_l01Rows [.agg x0, .sl x1] h K := by
  have := Sat.ex tok mixed spec_l01Rows_M Try.func65 (c := bodyOf Try.f65) (by kernel_rfl) (calls_of Try.func65 (c := bodyOf Try.f65) (by kernel_rfl) (by decide)) ((spec_l01Rows_main_link _ _ x0 x1 h).mpr hm)
  obtain ⟨v, h2, h3, r, rfl, h4⟩ := this; exact ⟨r, h2, h3, h4⟩

/-! ### loop.example/g01354/spec.LeastTorus -/
def spec_LeastTorus_M : Nat → List Nat := fun i => bif i == 2 then [1, 4, 5] else bif i == 0 then [1, 4] else []
def spec_LeastTorus_ks4 (S : SatT) (K : AVal → H → Prop) : Kont := kSeq (cwp S tab spec_LeastTorus_M [] (sub [1, 1, 1] (bodyOf Try.f34)) (kFun tab (Try.f34).results.toList K)) (kFun tab (Try.f34).results.toList K)
def spec_LeastTorus_e0 (p1_ : Pt) (i4_ : Int) : Frame := [U, .ptr p1_, U, U, .int .i64 i4_, U, U, U, U, U, U, U, U, U, U, U, U, U, U, U, U, U, U, U, U, U, U, U, U, U, U, U, U, U, U, U, U, U, U, U]
def spec_LeastTorus_w0 (S : SatT) (K : AVal → H → Prop) : (Frame → H → Prop) → Frame → H → Prop := fun X fr h => cwp S tab spec_LeastTorus_M (spec_LeastTorus_M 0) (sub [1, 1, 0, 1, 0, 0] (bodyOf Try.f34)) (kSeq (fun fr h => X (mask (spec_LeastTorus_M 0) fr) h) (kBlk 0 (spec_LeastTorus_ks4 S K))) fr h
def spec_LeastTorus_L0 (S : SatT) (K : AVal → H → Prop) (p1_ : Pt) (i4_ : Int) (h : H) : Prop := loopK (spec_LeastTorus_w0 S K) (spec_LeastTorus_e0 p1_ i4_) h
def spec_LeastTorus_ks8 (S : SatT) (K : AVal → H → Prop) (X0 : Frame → H → Prop) : Kont := kSeq (cwp S tab spec_LeastTorus_M (spec_LeastTorus_M 0) (sub [1, 1, 0, 1, 0, 0, 1, 1] (bodyOf Try.f34)) (kSeq (fun fr h => X0 (mask (spec_LeastTorus_M 0) fr) h) (kBlk 0 (spec_LeastTorus_ks4 S K)))) (kSeq (fun fr h => X0 (mask (spec_LeastTorus_M 0) fr) h) (kBlk 0 (spec_LeastTorus_ks4 S K)))
def spec_LeastTorus_e2 (p1_ : Pt) (i4_ : Int) (i5_ : Int) : Frame := [U, .ptr p1_, U, U, .int .i64 i4_, .int .i64 i5_, U, U, U, U, U, U, U, U, U, U, U, U, U, U, U, U, U, U, U, U, U, U, U, U, U, U, U, U, U, U, U, U, U, U]
def spec_LeastTorus_w2 (S : SatT) (K : AVal → H → Prop) (X0 : Frame → H → Prop) : (Frame → H → Prop) → Frame → H → Prop := fun X fr h => cwp S tab spec_LeastTorus_M (spec_LeastTorus_M 2) (sub [1, 1, 0, 1, 0, 0, 1, 0, 0, 1, 0, 0] (bodyOf Try.f34)) (kSeq (fun fr h => X (mask (spec_LeastTorus_M 2) fr) h) (kBlk 2 (kBlk 1 (spec_LeastTorus_ks8 S K X0)))) fr h
def spec_LeastTorus_L2 (S : SatT) (K : AVal → H → Prop) (X0 : Frame → H → Prop) (p1_ : Pt) (i4_ : Int) (i5_ : Int) (h : H) : Prop := loopK (spec_LeastTorus_w2 S K X0) (spec_LeastTorus_e2 p1_ i4_ i5_) h
def spec_LeastTorus_C1 (S : SatT) (K : AVal → H → Prop) (X0 : Frame → H → Prop) (p1_ : Pt) (i4_ : Int) (h : H) : Prop :=
 X0 (spec_LeastTorus_e0 p1_ (w64 (i4_ + (1)))) h
def spec_LeastTorus_C2 (S : SatT) (K : AVal → H → Prop) (X0 : Frame → H → Prop) (p1_ : Pt) (i4_ : Int) (h : H) : Prop :=
 spec_LeastTorus_C1 S K X0 p1_ i4_ h
def spec_LeastTorus_b2 (S : SatT) (K : AVal → H → Prop) (X0 : Frame → H → Prop) (X2 : Frame → H → Prop) (p1_ : Pt) (i4_ : Int) (i5_ : Int) (h : H) : Prop :=
 bif (decide (i5_ ≤ (3))) then
 nz i5_ (
 bif ((Int.tmod i4_ i5_) != (0)) then
 X2 (spec_LeastTorus_e2 p1_ i4_ (w64 (i5_ + (1)))) h
 else
 nz i5_ (
 bif (decide ((w64 (Int.tdiv i4_ i5_)) > (3))) then
 X2 (spec_LeastTorus_e2 p1_ i4_ (w64 (i5_ + (1)))) h
 else
 ldA p1_ 2 h fun cs0 =>
 nz i5_ (
 callV S i_spec_l05First [.agg cs0, .int .i64 i5_, .int .i64 (w64 (Int.tdiv i4_ i5_))] h fun v2 h1 =>
 viaT v2 fun vs3 =>
 exS vs3 0 fun s4 =>
 viaT v2 fun vs5 =>
 exB vs5 1 fun b6 =>
 bif b6 then
 K (.tuple [.sl s4, .int .i64 (0)]) h1
 else
 X2 (spec_LeastTorus_e2 p1_ i4_ (w64 (i5_ + (1)))) h1)))
 else
 spec_LeastTorus_C2 S K X0 p1_ i4_ h
theorem spec_LeastTorus_link2 (S : SatT) (K : AVal → H → Prop) (X0 : Frame → H → Prop) (X2 : Frame → H → Prop) (p1_ : Pt) (i4_ : Int) (i5_ : Int) (h : H) : spec_LeastTorus_w2 S K X0 X2 (spec_LeastTorus_e2 p1_ i4_ i5_) h = spec_LeastTorus_b2 S K X0 X2 p1_ i4_ i5_ h := by kernel_rfl
theorem spec_LeastTorus_rule2 (S : SatT) (K : AVal → H → Prop) (X0 : Frame → H → Prop) (p1_ : Pt) (i4_ : Int) (I_ : Int → H → Prop) (m_ : Int → H → Nat)
    (hs : ∀ (X2 : Frame → H → Prop) (i5_ : Int) (h : H), I_ i5_ h → (∀ (i5_' : Int) (h' : H), I_ i5_' h' → m_ i5_' h' < m_ i5_ h → X2 (spec_LeastTorus_e2 p1_ i4_ i5_') h') → spec_LeastTorus_b2 S K X0 X2 p1_ i4_ i5_ h) (i5_ : Int) {h : H} (h0 : I_ i5_ h) : spec_LeastTorus_L2 S K X0 p1_ i4_ i5_ h :=
  loop_rule (σ := (Int)) (fun s_ => spec_LeastTorus_e2 p1_ i4_ (s_)) (fun s_ h => I_ (s_) h) (fun s_ h => m_ (s_) h)
    (fun X s_ h hi hx => (spec_LeastTorus_link2 S K X0 X p1_ i4_ (s_) h).mpr (hs X (s_) h hi fun i5_' h' hi' hm' => hx (i5_') h' hi' hm')) (i5_) h0
theorem spec_LeastTorus_unroll2 (S : SatT) (K : AVal → H → Prop) (X0 : Frame → H → Prop) (p1_ : Pt) (i4_ : Int) (i5_ : Int) (h : H) (hb : spec_LeastTorus_b2 S K X0 (fun fr h => loopK (spec_LeastTorus_w2 S K X0) fr h) p1_ i4_ i5_ h) : spec_LeastTorus_L2 S K X0 p1_ i4_ i5_ h := loop_unroll ((spec_LeastTorus_link2 S K X0 _ p1_ i4_ i5_ h).mpr hb)
def spec_LeastTorus_C0 (S : SatT) (K : AVal → H → Prop) (h : H) : Prop :=
 K (.tuple [.sl Sl.nil, .int .i64 (4)]) h
def spec_LeastTorus_b0 (S : SatT) (K : AVal → H → Prop) (X0 : Frame → H → Prop) (p1_ : Pt) (i4_ : Int) (h : H) : Prop :=
 bif (decide (i4_ ≤ (9))) then
 spec_LeastTorus_L2 S K X0 p1_ i4_ (1) h
 else
 spec_LeastTorus_C0 S K h
theorem spec_LeastTorus_link0 (S : SatT) (K : AVal → H → Prop) (X0 : Frame → H → Prop) (p1_ : Pt) (i4_ : Int) (h : H) : spec_LeastTorus_w0 S K X0 (spec_LeastTorus_e0 p1_ i4_) h = spec_LeastTorus_b0 S K X0 p1_ i4_ h := by kernel_rfl
theorem spec_LeastTorus_rule0 (S : SatT) (K : AVal → H → Prop) (p1_ : Pt) (I_ : Int → H → Prop) (m_ : Int → H → Nat)
    (hs : ∀ (X0 : Frame → H → Prop) (i4_ : Int) (h : H), I_ i4_ h → (∀ (i4_' : Int) (h' : H), I_ i4_' h' → m_ i4_' h' < m_ i4_ h → X0 (spec_LeastTorus_e0 p1_ i4_') h') → spec_LeastTorus_b0 S K X0 p1_ i4_ h) (i4_ : Int) {h : H} (h0 : I_ i4_ h) : spec_LeastTorus_L0 S K p1_ i4_ h :=
  loop_rule (σ := (Int)) (fun s_ => spec_LeastTorus_e0 p1_ (s_)) (fun s_ h => I_ (s_) h) (fun s_ h => m_ (s_) h)
    (fun X s_ h hi hx => (spec_LeastTorus_link0 S K X p1_ (s_) h).mpr (hs X (s_) h hi fun i4_' h' hi' hm' => hx (i4_') h' hi' hm')) (i4_) h0
theorem spec_LeastTorus_unroll0 (S : SatT) (K : AVal → H → Prop) (p1_ : Pt) (i4_ : Int) (h : H) (hb : spec_LeastTorus_b0 S K (fun fr h => loopK (spec_LeastTorus_w0 S K) fr h) p1_ i4_ h) : spec_LeastTorus_L0 S K p1_ i4_ h := loop_unroll ((spec_LeastTorus_link0 S K _ p1_ i4_ h).mpr hb)
def spec_LeastTorus_main (S : SatT) (K : AVal → H → Prop) (x0 : List AVal) (h : H) : Prop :=
 newK 2 x0 h fun p0 h1 =>
 ldA p0 2 h1 fun cs2 =>
 callB S i_spec_l01Is [.agg cs2] h1 fun b4 h3 =>
 bif (!b4) then
 K (.tuple [.sl Sl.nil, .int .i64 (1)]) h3
 else
 spec_LeastTorus_L0 S K p0 (1) h3
theorem spec_LeastTorus_main_link (S : SatT) (K : AVal → H → Prop) (x0 : List AVal) (h : H) : cwp S tab spec_LeastTorus_M [] (bodyOf Try.f34) (kFun tab Try.f34.results.toList K) (fr0 Try.f34 [.agg x0]) h = spec_LeastTorus_main S K x0 h := by kernel_rfl
theorem spec_LeastTorus_call (x0 : List AVal) (h : H) (K : AVal → H → Prop) (hm : spec_LeastTorus_main (Sat Try.prog) (fun v h' => K v h') x0 h) : callV (Sat Try.prog) i_spec_LeastTorus [.agg x0] h K := by
  have := Sat.ex tok mixed spec_LeastTorus_M Try.func34 (c := bodyOf Try.f34) (by kernel_rfl) (calls_of Try.func34 (c := bodyOf Try.f34) (by kernel_rfl) (by decide)) ((spec_LeastTorus_main_link _ _ x0 h).mpr hm)
  exact this

/-! ### loop.example/g01354/impl.shifts -/
def impl_shifts_M : Nat → List Nat := fun i => bif i == 2 then [0, 1, 4, 7, 8, 14, 15] else bif i == 0 then [0, 1, 7, 8] else []
def impl_shifts_e0 (s0_ : Sl) (f1_ : AVal) (i7_ : Int) (i8_ : Int) : Frame := [.sl s0_, f1_, U, U, U, U, U, .int .i64 i7_, .int .i64 i8_, U, U, U, U, U, U, U, U, U, U, U, U, U, U, U, U, U, U, U]
def impl_shifts_w0 (S : SatT) (K : AVal → H → Prop) : (Frame → H → Prop) → Frame → H → Prop := fun X fr h => cwp S tab impl_shifts_M (impl_shifts_M 0) (sub [1, 0, 0] (bodyOf Try.f120)) (kSeq (fun fr h => X (mask (impl_shifts_M 0) fr) h) (kBlk 0 (kFun tab (Try.f120).results.toList K))) fr h
def impl_shifts_L0 (S : SatT) (K : AVal → H → Prop) (s0_ : Sl) (f1_ : AVal) (i7_ : Int) (i8_ : Int) (h : H) : Prop := loopK (impl_shifts_w0 S K) (impl_shifts_e0 s0_ f1_ i7_ i8_) h
def impl_shifts_ks3 (S : SatT) (K : AVal → H → Prop) (X0 : Frame → H → Prop) : Kont := kSeq (cwp S tab impl_shifts_M (impl_shifts_M 0) (sub [1, 0, 0, 1, 1, 1] (bodyOf Try.f120)) (kSeq (fun fr h => X0 (mask (impl_shifts_M 0) fr) h) (kBlk 0 (kFun tab (Try.f120).results.toList K)))) (kSeq (fun fr h => X0 (mask (impl_shifts_M 0) fr) h) (kBlk 0 (kFun tab (Try.f120).results.toList K)))
def impl_shifts_e2 (s0_ : Sl) (f1_ : AVal) (i4_ : Int) (i7_ : Int) (i8_ : Int) (i14_ : Int) (i15_ : Int) : Frame := [.sl s0_, f1_, U, U, .int .i64 i4_, U, U, .int .i64 i7_, .int .i64 i8_, U, U, U, U, U, .int .i64 i14_, .int .i64 i15_, U, U, U, U, U, U, U, U, U, U, U, U]
def impl_shifts_w2 (S : SatT) (K : AVal → H → Prop) (X0 : Frame → H → Prop) : (Frame → H → Prop) → Frame → H → Prop := fun X fr h => cwp S tab impl_shifts_M (impl_shifts_M 2) (sub [1, 0, 0, 1, 1, 0, 0, 1, 1, 0, 0] (bodyOf Try.f120)) (kSeq (fun fr h => X (mask (impl_shifts_M 2) fr) h) (kBlk 2 (kBlk 1 (impl_shifts_ks3 S K X0)))) fr h
def impl_shifts_L2 (S : SatT) (K : AVal → H → Prop) (X0 : Frame → H → Prop) (s0_ : Sl) (f1_ : AVal) (i4_ : Int) (i7_ : Int) (i8_ : Int) (i14_ : Int) (i15_ : Int) (h : H) : Prop := loopK (impl_shifts_w2 S K X0) (impl_shifts_e2 s0_ f1_ i4_ i7_ i8_ i14_ i15_) h
def impl_shifts_C1 (S : SatT) (K : AVal → H → Prop) (X0 : Frame → H → Prop) (s0_ : Sl) (f1_ : AVal) (i7_ : Int) (i8_ : Int) (h : H) : Prop :=
 X0 (impl_shifts_e0 s0_ f1_ i7_ (w64 (i8_ + (1)))) h
def impl_shifts_C2 (S : SatT) (K : AVal → H → Prop) (X0 : Frame → H → Prop) (s0_ : Sl) (f1_ : AVal) (i7_ : Int) (i8_ : Int) (h : H) : Prop :=
 impl_shifts_C1 S K X0 s0_ f1_ i7_ i8_ h
def impl_shifts_b2 (S : SatT) (K : AVal → H → Prop) (X0 : Frame → H → Prop) (X2 : Frame → H → Prop) (s0_ : Sl) (f1_ : AVal) (i4_ : Int) (i7_ : Int) (i8_ : Int) (i14_ : Int) (i15_ : Int) (h : H) : Prop :=
 bif (decide (i15_ < i14_)) then
 callS S i_impl_shifted [.sl s0_, .int .i64 i4_, .int .i64 i15_] h fun s1 h0 =>
 viaF f1_ [.int .i64 i4_, .int .i64 i15_, .sl s1] fun g2 ys3 =>
 callV S g2 ys3 h0 fun v5 h4 =>
 X2 (impl_shifts_e2 s0_ f1_ i4_ i7_ i8_ i14_ (w64 (i15_ + (1)))) h4
 else
 impl_shifts_C2 S K X0 s0_ f1_ i7_ i8_ h
theorem impl_shifts_link2 (S : SatT) (K : AVal → H → Prop) (X0 : Frame → H → Prop) (X2 : Frame → H → Prop) (s0_ : Sl) (f1_ : AVal) (i4_ : Int) (i7_ : Int) (i8_ : Int) (i14_ : Int) (i15_ : Int) (h : H) : impl_shifts_w2 S K X0 X2 (impl_shifts_e2 s0_ f1_ i4_ i7_ i8_ i14_ i15_) h = impl_shifts_b2 S K X0 X2 s0_ f1_ i4_ i7_ i8_ i14_ i15_ h := by kernel_rfl
theorem impl_shifts_rule2 (S : SatT) (K : AVal → H → Prop) (X0 : Frame → H → Prop) (s0_ : Sl) (f1_ : AVal) (i4_ : Int) (i7_ : Int) (i8_ : Int) (i14_ : Int) (I_ : Int → H → Prop) (m_ : Int → H → Nat)
    (hs : ∀ (X2 : Frame → H → Prop) (i15_ : Int) (h : H), I_ i15_ h → (∀ (i15_' : Int) (h' : H), I_ i15_' h' → m_ i15_' h' < m_ i15_ h → X2 (impl_shifts_e2 s0_ f1_ i4_ i7_ i8_ i14_ i15_') h') → impl_shifts_b2 S K X0 X2 s0_ f1_ i4_ i7_ i8_ i14_ i15_ h) (i15_ : Int) {h : H} (h0 : I_ i15_ h) : impl_shifts_L2 S K X0 s0_ f1_ i4_ i7_ i8_ i14_ i15_ h :=
  loop_rule (σ := (Int)) (fun s_ => impl_shifts_e2 s0_ f1_ i4_ i7_ i8_ i14_ (s_)) (fun s_ h => I_ (s_) h) (fun s_ h => m_ (s_) h)
    (fun X s_ h hi hx => (impl_shifts_link2 S K X0 X s0_ f1_ i4_ i7_ i8_ i14_ (s_) h).mpr (hs X (s_) h hi fun i15_' h' hi' hm' => hx (i15_') h' hi' hm')) (i15_) h0
theorem impl_shifts_unroll2 (S : SatT) (K : AVal → H → Prop) (X0 : Frame → H → Prop) (s0_ : Sl) (f1_ : AVal) (i4_ : Int) (i7_ : Int) (i8_ : Int) (i14_ : Int) (i15_ : Int) (h : H) (hb : impl_shifts_b2 S K X0 (fun fr h => loopK (impl_shifts_w2 S K X0) fr h) s0_ f1_ i4_ i7_ i8_ i14_ i15_ h) : impl_shifts_L2 S K X0 s0_ f1_ i4_ i7_ i8_ i14_ i15_ h := loop_unroll ((impl_shifts_link2 S K X0 _ s0_ f1_ i4_ i7_ i8_ i14_ i15_ h).mpr hb)
def impl_shifts_b0 (S : SatT) (K : AVal → H → Prop) (X0 : Frame → H → Prop) (s0_ : Sl) (f1_ : AVal) (i7_ : Int) (i8_ : Int) (h : H) : Prop :=
 bif (decide (i8_ < i7_)) then
 ixS s0_ 1 (0) fun p0 =>
 ldS p0 h fun s1 =>
 impl_shifts_L2 S K X0 s0_ f1_ i8_ i7_ i8_ (s1.len : Int) (0) h
 else
 K (.tuple []) h
theorem impl_shifts_link0 (S : SatT) (K : AVal → H → Prop) (X0 : Frame → H → Prop) (s0_ : Sl) (f1_ : AVal) (i7_ : Int) (i8_ : Int) (h : H) : impl_shifts_w0 S K X0 (impl_shifts_e0 s0_ f1_ i7_ i8_) h = impl_shifts_b0 S K X0 s0_ f1_ i7_ i8_ h := by kernel_rfl
theorem impl_shifts_rule0 (S : SatT) (K : AVal → H → Prop) (s0_ : Sl) (f1_ : AVal) (i7_ : Int) (I_ : Int → H → Prop) (m_ : Int → H → Nat)
    (hs : ∀ (X0 : Frame → H → Prop) (i8_ : Int) (h : H), I_ i8_ h → (∀ (i8_' : Int) (h' : H), I_ i8_' h' → m_ i8_' h' < m_ i8_ h → X0 (impl_shifts_e0 s0_ f1_ i7_ i8_') h') → impl_shifts_b0 S K X0 s0_ f1_ i7_ i8_ h) (i8_ : Int) {h : H} (h0 : I_ i8_ h) : impl_shifts_L0 S K s0_ f1_ i7_ i8_ h :=
  loop_rule (σ := (Int)) (fun s_ => impl_shifts_e0 s0_ f1_ i7_ (s_)) (fun s_ h => I_ (s_) h) (fun s_ h => m_ (s_) h)
    (fun X s_ h hi hx => (impl_shifts_link0 S K X s0_ f1_ i7_ (s_) h).mpr (hs X (s_) h hi fun i8_' h' hi' hm' => hx (i8_') h' hi' hm')) (i8_) h0
theorem impl_shifts_unroll0 (S : SatT) (K : AVal → H → Prop) (s0_ : Sl) (f1_ : AVal) (i7_ : Int) (i8_ : Int) (h : H) (hb : impl_shifts_b0 S K (fun fr h => loopK (impl_shifts_w0 S K) fr h) s0_ f1_ i7_ i8_ h) : impl_shifts_L0 S K s0_ f1_ i7_ i8_ h := loop_unroll ((impl_shifts_link0 S K _ s0_ f1_ i7_ i8_ h).mpr hb)
def impl_shifts_main (S : SatT) (K : AVal → H → Prop) (x0 : Sl) (x1 : AVal) (h : H) : Prop :=
 impl_shifts_L0 S K x0 x1 (x0.len : Int) (0) h
theorem impl_shifts_main_link (S : SatT) (K : AVal → H → Prop) (x0 : Sl) (x1 : AVal) (h : H) : cwp S tab impl_shifts_M [] (bodyOf Try.f120) (kFun tab Try.f120.results.toList K) (fr0 Try.f120 [.sl x0, x1]) h = impl_shifts_main S K x0 x1 h := by kernel_rfl
theorem impl_shifts_call (x0 : Sl) (x1 : AVal) (h : H) (K : AVal → H → Prop) (hm : impl_shifts_main (Sat Try.prog) (fun v h' => K v h') x0 x1 h) : callV (Sat Try.prog) i_impl_shifts [.sl x0, x1] h K := by
  have := Sat.ex tok mixed impl_shifts_M Try.func120 (c := bodyOf Try.f120) (by kernel_rfl) (calls_of Try.func120 (c := bodyOf Try.f120) (by kernel_rfl) (by decide)) ((impl_shifts_main_link _ _ x0 x1 h).mpr hm)
  exact this

/-! ### loop.example/g01354/spec.CountForms -/
def spec_CountForms_M : Nat → List Nat := fun i => bif i == 0 then [12, 13, 14] else []
def spec_CountForms_ks10 (S : SatT) (K : AVal → H → Prop) : Kont := kSeq (cwp S tab spec_CountForms_M [] (sub [1, 1, 1, 1, 1, 1] (bodyOf Try.f38)) (kFun tab (Try.f38).results.toList K)) (kFun tab (Try.f38).results.toList K)
def spec_CountForms_e0 (s12_ : Sl) (i13_ : Int) (i14_ : Int) : Frame := [U, U, U, U, U, U, U, U, U, U, U, U, .sl s12_, .int .i64 i13_, .int .i64 i14_, U, U, U, U, U, U, U, U, U, U, U, U, U, U, U, U, U, U, U, U, U, U, U, U, U, U, U, U, U, U, U, U, U, U, U, U, U, U, U, U, U, U, U, U, U, U, U, U]
def spec_CountForms_w0 (S : SatT) (K : AVal → H → Prop) : (Frame → H → Prop) → Frame → H → Prop := fun X fr h => cwp S tab spec_CountForms_M (spec_CountForms_M 0) (sub [1, 1, 1, 1, 1, 0, 1, 0, 0] (bodyOf Try.f38)) (kSeq (fun fr h => X (mask (spec_CountForms_M 0) fr) h) (kBlk 0 (spec_CountForms_ks10 S K))) fr h
def spec_CountForms_L0 (S : SatT) (K : AVal → H → Prop) (s12_ : Sl) (i13_ : Int) (i14_ : Int) (h : H) : Prop := loopK (spec_CountForms_w0 S K) (spec_CountForms_e0 s12_ i13_ i14_) h
def spec_CountForms_C0 (S : SatT) (K : AVal → H → Prop) (i13_ : Int) (h : H) : Prop :=
 K (.tuple [.int .i64 i13_, .int .i64 (0)]) h
def spec_CountForms_b0 (S : SatT) (K : AVal → H → Prop) (X0 : Frame → H → Prop) (s12_ : Sl) (i13_ : Int) (i14_ : Int) (h : H) : Prop :=
 bif (decide (i14_ < (s12_.len : Int))) then
 ixS s12_ 1 i14_ fun p0 =>
 ldS p0 h fun s1 =>
 callS S i_spec_l05Least [.sl s1] h fun s3 h2 =>
 ixS s12_ 1 i14_ fun p4 =>
 ldS p4 h2 fun s5 =>
 callB S i_spec_l05Less [.sl s3, .sl s5] h2 fun b7 h6 =>
 bif (!b7) then
 X0 (spec_CountForms_e0 s12_ (w64 (i13_ + (1))) (w64 (i14_ + (1)))) h6
 else
 X0 (spec_CountForms_e0 s12_ i13_ (w64 (i14_ + (1)))) h6
 else
 spec_CountForms_C0 S K i13_ h
theorem spec_CountForms_link0 (S : SatT) (K : AVal → H → Prop) (X0 : Frame → H → Prop) (s12_ : Sl) (i13_ : Int) (i14_ : Int) (h : H) : spec_CountForms_w0 S K X0 (spec_CountForms_e0 s12_ i13_ i14_) h = spec_CountForms_b0 S K X0 s12_ i13_ i14_ h := by kernel_rfl
theorem spec_CountForms_rule0 (S : SatT) (K : AVal → H → Prop) (s12_ : Sl) (I_ : Int → Int → H → Prop) (m_ : Int → Int → H → Nat)
    (hs : ∀ (X0 : Frame → H → Prop) (i13_ : Int) (i14_ : Int) (h : H), I_ i13_ i14_ h → (∀ (i13_' : Int) (i14_' : Int) (h' : H), I_ i13_' i14_' h' → m_ i13_' i14_' h' < m_ i13_ i14_ h → X0 (spec_CountForms_e0 s12_ i13_' i14_') h') → spec_CountForms_b0 S K X0 s12_ i13_ i14_ h) (i13_ : Int) (i14_ : Int) {h : H} (h0 : I_ i13_ i14_ h) : spec_CountForms_L0 S K s12_ i13_ i14_ h :=
  loop_rule (σ := (Int) × (Int)) (fun s_ => spec_CountForms_e0 s12_ (s_.1) (s_.2)) (fun s_ h => I_ (s_.1) (s_.2) h) (fun s_ h => m_ (s_.1) (s_.2) h)
    (fun X s_ h hi hx => (spec_CountForms_link0 S K X s12_ (s_.1) (s_.2) h).mpr (hs X (s_.1) (s_.2) h hi fun i13_' i14_' h' hi' hm' => hx (i13_', i14_') h' hi' hm')) (i13_, i14_) h0
theorem spec_CountForms_unroll0 (S : SatT) (K : AVal → H → Prop) (s12_ : Sl) (i13_ : Int) (i14_ : Int) (h : H) (hb : spec_CountForms_b0 S K (fun fr h => loopK (spec_CountForms_w0 S K) fr h) s12_ i13_ i14_ h) : spec_CountForms_L0 S K s12_ i13_ i14_ h := loop_unroll ((spec_CountForms_link0 S K _ s12_ i13_ i14_ h).mpr hb)
def spec_CountForms_main (S : SatT) (K : AVal → H → Prop) (x0 : List AVal) (x1 : Int) (x2 : Int) (h : H) : Prop :=
 newK 2 x0 h fun p0 h1 =>
 ldA p0 2 h1 fun cs2 =>
 callI S .i64 i_spec_l05Code [.agg cs2, .int .i64 x1, .int .i64 x2, .int .i64 (3)] h1 fun n4 h3 =>
 bif (n4 != (0)) then
 K (.tuple [.int .i64 (0), .int .i64 n4]) h3
 else
 ldA p0 2 h3 fun cs5 =>
 callI S .i64 i_spec_l05Count [.agg cs5, .int .i64 x1, .int .i64 x2] h3 fun n7 h6 =>
 bif (decide (n7 > (4000))) then
 K (.tuple [.int .i64 (0), .int .i64 (3)]) h6
 else
 ldA p0 2 h6 fun cs8 =>
 callV S i_spec_l05Words [.agg cs8, .int .i64 x2] h6 fun v10 h9 =>
 viaT v10 fun vs11 =>
 exS vs11 0 fun s12 =>
 viaT v10 fun vs13 =>
 exS vs13 1 fun s14 =>
 viaT v10 fun vs15 =>
 exS vs15 2 fun s16 =>
 ldA p0 2 h9 fun cs17 =>
 newS 0 1 [] h9 fun s18 h19 =>
 callS S i_spec_l05All [.agg cs17, .sl s12, .sl s14, .sl s16, .sl s18, .int .i64 (0), .int .i64 (0), .int .i64 x1] h19 fun s21 h20 =>
 spec_CountForms_L0 S K s21 (0) (0) h20
theorem spec_CountForms_main_link (S : SatT) (K : AVal → H → Prop) (x0 : List AVal) (x1 : Int) (x2 : Int) (h : H) : cwp S tab spec_CountForms_M [] (bodyOf Try.f38) (kFun tab Try.f38.results.toList K) (fr0 Try.f38 [.agg x0, .int .i64 x1, .int .i64 x2]) h = spec_CountForms_main S K x0 x1 x2 h := by kernel_rfl
theorem spec_CountForms_call (x0 : List AVal) (x1 : Int) (x2 : Int) (h : H) (K : AVal → H → Prop) (hm : spec_CountForms_main (Sat Try.prog) (fun v h' => K v h') x0 x1 x2 h) : callV (Sat Try.prog) i_spec_CountForms [.agg x0, .int .i64 x1, .int .i64 x2] h K := by
  have := Sat.ex tok mixed spec_CountForms_M Try.func38 (c := bodyOf Try.f38) (by kernel_rfl) (calls_of Try.func38 (c := bodyOf Try.f38) (by kernel_rfl) (by decide)) ((spec_CountForms_main_link _ _ x0 x1 x2 h).mpr hm)
  exact this

/-! ### (loop.example/g01354/impl.Set).isCylinder -/
def impl_Set_isCylinder_M : Nat → List Nat := fun i => bif i == 0 then [1, 2, 7, 8, 9] else []
def impl_Set_isCylinder_ks1 (S : SatT) (K : AVal → H → Prop) : Kont := kSeq (cwp S tab impl_Set_isCylinder_M [] (sub [1, 1] (bodyOf Try.f71)) (kFun tab (Try.f71).results.toList K)) (kFun tab (Try.f71).results.toList K)
def impl_Set_isCylinder_e0 (s1_ : Sl) (p2_ : Pt) (s7_ : Sl) (i8_ : Int) (i9_ : Int) : Frame := [U, .sl s1_, .ptr p2_, U, U, U, U, .sl s7_, .int .i64 i8_, .int .i64 i9_, U, U, U, U, U, U, U, U, U, U, U, U, U, U, U, U, U, U, U, U, U, U, U, U, U, U, U]
def impl_Set_isCylinder_w0 (S : SatT) (K : AVal → H → Prop) : (Frame → H → Prop) → Frame → H → Prop := fun X fr h => cwp S tab impl_Set_isCylinder_M (impl_Set_isCylinder_M 0) (sub [1, 0, 1, 0, 0] (bodyOf Try.f71)) (kSeq (fun fr h => X (mask (impl_Set_isCylinder_M 0) fr) h) (kBlk 0 (impl_Set_isCylinder_ks1 S K))) fr h
def impl_Set_isCylinder_L0 (S : SatT) (K : AVal → H → Prop) (s1_ : Sl) (p2_ : Pt) (s7_ : Sl) (i8_ : Int) (i9_ : Int) (h : H) : Prop := loopK (impl_Set_isCylinder_w0 S K) (impl_Set_isCylinder_e0 s1_ p2_ s7_ i8_ i9_) h
def impl_Set_isCylinder_C0 (S : SatT) (K : AVal → H → Prop) (s1_ : Sl) (p2_ : Pt) (h : H) : Prop :=
 ldA p2_ 2 h fun cs0 =>
 callB S i_impl_Set_isFilling [.agg cs0, .sl s1_] h fun b2 h1 =>
 K (.bool b2) h1
def impl_Set_isCylinder_b0 (S : SatT) (K : AVal → H → Prop) (X0 : Frame → H → Prop) (s1_ : Sl) (p2_ : Pt) (s7_ : Sl) (i8_ : Int) (i9_ : Int) (h : H) : Prop :=
 bif (decide (i9_ < i8_)) then
 ixS s7_ 1 i9_ fun p0 =>
 ldS p0 h fun s1 =>
 isPt p2_ (
 ldS (Pt.add p2_ 1) h fun s2 =>
 ixS s1 1 (w64 ((s1.len : Int) - (1))) fun p3 =>
 ldI .i64 p3 h fun n4 =>
 ixS s2 4 n4 fun p5 =>
 ixA p5 4 1 (2) fun p6 =>
 ldI .i64 p6 h fun n7 =>
 isPt p2_ (
 ldS (Pt.add p2_ 1) h fun s8 =>
 ixS s1 1 (0) fun p9 =>
 ldI .i64 p9 h fun n10 =>
 ixS s8 4 n10 fun p11 =>
 ixA p11 4 1 (0) fun p12 =>
 ldI .i64 p12 h fun n13 =>
 bif (n7 != n13) then
 K (.bool false) h
 else
 X0 (impl_Set_isCylinder_e0 s1_ p2_ s7_ i8_ (w64 (i9_ + (1)))) h))
 else
 impl_Set_isCylinder_C0 S K s1_ p2_ h
theorem impl_Set_isCylinder_link0 (S : SatT) (K : AVal → H → Prop) (X0 : Frame → H → Prop) (s1_ : Sl) (p2_ : Pt) (s7_ : Sl) (i8_ : Int) (i9_ : Int) (h : H) : impl_Set_isCylinder_w0 S K X0 (impl_Set_isCylinder_e0 s1_ p2_ s7_ i8_ i9_) h = impl_Set_isCylinder_b0 S K X0 s1_ p2_ s7_ i8_ i9_ h := by kernel_rfl
theorem impl_Set_isCylinder_rule0 (S : SatT) (K : AVal → H → Prop) (s1_ : Sl) (p2_ : Pt) (s7_ : Sl) (i8_ : Int) (I_ : Int → H → Prop) (m_ : Int → H → Nat)
    (hs : ∀ (X0 : Frame → H → Prop) (i9_ : Int) (h : H), I_ i9_ h → (∀ (i9_' : Int) (h' : H), I_ i9_' h' → m_ i9_' h' < m_ i9_ h → X0 (impl_Set_isCylinder_e0 s1_ p2_ s7_ i8_ i9_') h') → impl_Set_isCylinder_b0 S K X0 s1_ p2_ s7_ i8_ i9_ h) (i9_ : Int) {h : H} (h0 : I_ i9_ h) : impl_Set_isCylinder_L0 S K s1_ p2_ s7_ i8_ i9_ h :=
  loop_rule (σ := (Int)) (fun s_ => impl_Set_isCylinder_e0 s1_ p2_ s7_ i8_ (s_)) (fun s_ h => I_ (s_) h) (fun s_ h => m_ (s_) h)
    (fun X s_ h hi hx => (impl_Set_isCylinder_link0 S K X s1_ p2_ s7_ i8_ (s_) h).mpr (hs X (s_) h hi fun i9_' h' hi' hm' => hx (i9_') h' hi' hm')) (i9_) h0
theorem impl_Set_isCylinder_unroll0 (S : SatT) (K : AVal → H → Prop) (s1_ : Sl) (p2_ : Pt) (s7_ : Sl) (i8_ : Int) (i9_ : Int) (h : H) (hb : impl_Set_isCylinder_b0 S K (fun fr h => loopK (impl_Set_isCylinder_w0 S K) fr h) s1_ p2_ s7_ i8_ i9_ h) : impl_Set_isCylinder_L0 S K s1_ p2_ s7_ i8_ i9_ h := loop_unroll ((impl_Set_isCylinder_link0 S K _ s1_ p2_ s7_ i8_ i9_ h).mpr hb)
def impl_Set_isCylinder_main (S : SatT) (K : AVal → H → Prop) (x0 : List AVal) (x1 : Sl) (h : H) : Prop :=
 newK 2 x0 h fun p0 h1 =>
 impl_Set_isCylinder_L0 S K x1 p0 x1 (x1.len : Int) (0) h1
theorem impl_Set_isCylinder_main_link (S : SatT) (K : AVal → H → Prop) (x0 : List AVal) (x1 : Sl) (h : H) : cwp S tab impl_Set_isCylinder_M [] (bodyOf Try.f71) (kFun tab Try.f71.results.toList K) (fr0 Try.f71 [.agg x0, .sl x1]) h = impl_Set_isCylinder_main S K x0 x1 h := by kernel_rfl
theorem impl_Set_isCylinder_call (x0 : List AVal) (x1 : Sl) (h : H) (K : Bool → H → Prop) (hm : impl_Set_isCylinder_main (Sat Try.prog) (fun v h' => ∃ r, v = .bool r ∧ K r h') x0 x1 h) : callB (Sat Try.prog) i_impl_Set_isCylinder [.agg x0, .sl x1] h K := by
  have := Sat.ex tok mixed impl_Set_isCylinder_M Try.func71 (c := bodyOf Try.f71) (by kernel_rfl) (calls_of Try.func71 (c := bodyOf Try.f71) (by kernel_rfl) (by decide)) ((impl_Set_isCylinder_main_link _ _ x0 x1 h).mpr hm)
  obtain ⟨v, h2, h3, r, rfl, h4⟩ := this; exact ⟨r, h2, h3, h4⟩

/-! ### loop.example/g01354/spec.l05Torus -/
def spec_l05Torus_M : Nat → List Nat := fun i => bif i == 0 then [1, 2, 5] else []
def spec_l05Torus_ks1 (S : SatT) (K : AVal → H → Prop) : Kont := kSeq (cwp S tab spec_l05Torus_M [] (sub [1, 1] (bodyOf Try.f73)) (kFun tab (Try.f73).results.toList K)) (kFun tab (Try.f73).results.toList K)
def spec_l05Torus_e0 (s1_ : Sl) (p2_ : Pt) (i5_ : Int) : Frame := [U, .sl s1_, .ptr p2_, U, U, .int .i64 i5_, U, U, U, U, U, U, U, U, U, U, U, U, U, U, U, U, U, U, U, U, U, U, U, U, U, U, U, U, U, U, U, U, U, U, U, U, U, U, U, U, U, U]
def spec_l05Torus_w0 (S : SatT) (K : AVal → H → Prop) : (Frame → H → Prop) → Frame → H → Prop := fun X fr h => cwp S tab spec_l05Torus_M (spec_l05Torus_M 0) (sub [1, 0, 1, 0, 0] (bodyOf Try.f73)) (kSeq (fun fr h => X (mask (spec_l05Torus_M 0) fr) h) (kBlk 0 (spec_l05Torus_ks1 S K))) fr h
def spec_l05Torus_L0 (S : SatT) (K : AVal → H → Prop) (s1_ : Sl) (p2_ : Pt) (i5_ : Int) (h : H) : Prop := loopK (spec_l05Torus_w0 S K) (spec_l05Torus_e0 s1_ p2_ i5_) h
def spec_l05Torus_C0 (S : SatT) (K : AVal → H → Prop) (s1_ : Sl) (p2_ : Pt) (h : H) : Prop :=
 ldA p2_ 2 h fun cs0 =>
 callB S i_spec_l01Good [.agg cs0, .sl s1_] h fun b2 h1 =>
 bif b2 then
 ldA p2_ 2 h1 fun cs3 =>
 callB S i_spec_l05Cylinder [.agg cs3, .sl s1_] h1 fun b5 h4 =>
 K (.bool b5) h4
 else
 K (.bool false) h1
def spec_l05Torus_b0 (S : SatT) (K : AVal → H → Prop) (X0 : Frame → H → Prop) (s1_ : Sl) (p2_ : Pt) (i5_ : Int) (h : H) : Prop :=
 ixS s1_ 1 (0) fun p0 =>
 ldS p0 h fun s1 =>
 bif (decide (i5_ < (s1.len : Int))) then
 isPt p2_ (
 ldS (Pt.add p2_ 1) h fun s2 =>
 ixS s1_ 1 (w64 ((s1_.len : Int) - (1))) fun p3 =>
 ldS p3 h fun s4 =>
 ixS s4 1 i5_ fun p5 =>
 ldI .i64 p5 h fun n6 =>
 ixS s2 4 n6 fun p7 =>
 ixA p7 4 1 (3) fun p8 =>
 ldI .i64 p8 h fun n9 =>
 isPt p2_ (
 ldS (Pt.add p2_ 1) h fun s10 =>
 ixS s1_ 1 (0) fun p11 =>
 ldS p11 h fun s12 =>
 ixS s12 1 i5_ fun p13 =>
 ldI .i64 p13 h fun n14 =>
 ixS s10 4 n14 fun p15 =>
 ixA p15 4 1 (1) fun p16 =>
 ldI .i64 p16 h fun n17 =>
 bif (n9 != n17) then
 K (.bool false) h
 else
 X0 (spec_l05Torus_e0 s1_ p2_ (w64 (i5_ + (1)))) h))
 else
 spec_l05Torus_C0 S K s1_ p2_ h
theorem spec_l05Torus_link0 (S : SatT) (K : AVal → H → Prop) (X0 : Frame → H → Prop) (s1_ : Sl) (p2_ : Pt) (i5_ : Int) (h : H) : spec_l05Torus_w0 S K X0 (spec_l05Torus_e0 s1_ p2_ i5_) h = spec_l05Torus_b0 S K X0 s1_ p2_ i5_ h := by kernel_rfl
theorem spec_l05Torus_rule0 (S : SatT) (K : AVal → H → Prop) (s1_ : Sl) (p2_ : Pt) (I_ : Int → H → Prop) (m_ : Int → H → Nat)
    (hs : ∀ (X0 : Frame → H → Prop) (i5_ : Int) (h : H), I_ i5_ h → (∀ (i5_' : Int) (h' : H), I_ i5_' h' → m_ i5_' h' < m_ i5_ h → X0 (spec_l05Torus_e0 s1_ p2_ i5_') h') → spec_l05Torus_b0 S K X0 s1_ p2_ i5_ h) (i5_ : Int) {h : H} (h0 : I_ i5_ h) : spec_l05Torus_L0 S K s1_ p2_ i5_ h :=
  loop_rule (σ := (Int)) (fun s_ => spec_l05Torus_e0 s1_ p2_ (s_)) (fun s_ h => I_ (s_) h) (fun s_ h => m_ (s_) h)
    (fun X s_ h hi hx => (spec_l05Torus_link0 S K X s1_ p2_ (s_) h).mpr (hs X (s_) h hi fun i5_' h' hi' hm' => hx (i5_') h' hi' hm')) (i5_) h0
theorem spec_l05Torus_unroll0 (S : SatT) (K : AVal → H → Prop) (s1_ : Sl) (p2_ : Pt) (i5_ : Int) (h : H) (hb : spec_l05Torus_b0 S K (fun fr h => loopK (spec_l05Torus_w0 S K) fr h) s1_ p2_ i5_ h) : spec_l05Torus_L0 S K s1_ p2_ i5_ h := loop_unroll ((spec_l05Torus_link0 S K _ s1_ p2_ i5_ h).mpr hb)
def spec_l05Torus_main (S : SatT) (K : AVal → H → Prop) (x0 : List AVal) (x1 : Sl) (h : H) : Prop :=
 newK 2 x0 h fun p0 h1 =>
 spec_l05Torus_L0 S K x1 p0 (0) h1
theorem spec_l05Torus_main_link (S : SatT) (K : AVal → H → Prop) (x0 : List AVal) (x1 : Sl) (h : H) : cwp S tab spec_l05Torus_M [] (bodyOf Try.f73) (kFun tab Try.f73.results.toList K) (fr0 Try.f73 [.agg x0, .sl x1]) h = spec_l05Torus_main S K x0 x1 h := by kernel_rfl
theorem spec_l05Torus_call (x0 : List AVal) (x1 : Sl) (h : H) (K : Bool → H → Prop) (hm : spec_l05Torus_main (Sat Try.prog) (fun v h' => ∃ r, v = .bool r ∧ K r h') x0 x1 h) : callB (Sat Try.prog) i_spec_l05Torus [.agg x0, .sl x1] h K := by
  have := Sat.ex tok mixed spec_l05Torus_M Try.func73 (c := bodyOf Try.f73) (by kernel_rfl) (calls_of Try.func73 (c := bodyOf Try.f73) (by kernel_rfl) (by decide)) ((spec_l05Torus_main_link _ _ x0 x1 h).mpr hm)
  obtain ⟨v, h2, h3, r, rfl, h4⟩ := this; exact ⟨r, h2, h3, h4⟩

/-! ### loop.example/g01354/spec.l01Is -/
def spec_l01Is_M : Nat → List Nat := fun i => bif i == 0 then [1, 3] else []
def spec_l01Is_ks5 (S : SatT) (K : AVal → H → Prop) : Kont := kSeq (cwp S tab spec_l01Is_M [] (sub [1, 1, 1] (bodyOf Try.f76)) (kFun tab (Try.f76).results.toList K)) (kFun tab (Try.f76).results.toList K)
def spec_l01Is_e0 (p1_ : Pt) (i3_ : Int) : Frame := [U, .ptr p1_, U, .int .i64 i3_, U, U, U, U, U, U, U, U, U, U, U, U, U, U, U, U, U, U, U, U, U, U, U, U, U, U, U, U, U, U, U, U, U, U, U, U, U, U, U, U, U, U, U, U, U]
def spec_l01Is_w0 (S : SatT) (K : AVal → H → Prop) : (Frame → H → Prop) → Frame → H → Prop := fun X fr h => cwp S tab spec_l01Is_M (spec_l01Is_M 0) (sub [1, 1, 0, 1, 0, 0] (bodyOf Try.f76)) (kSeq (fun fr h => X (mask (spec_l01Is_M 0) fr) h) (kBlk 0 (spec_l01Is_ks5 S K))) fr h
def spec_l01Is_L0 (S : SatT) (K : AVal → H → Prop) (p1_ : Pt) (i3_ : Int) (h : H) : Prop := loopK (spec_l01Is_w0 S K) (spec_l01Is_e0 p1_ i3_) h
def spec_l01Is_C0 (S : SatT) (K : AVal → H → Prop) (h : H) : Prop :=
 K (.bool true) h
def spec_l01Is_b0 (S : SatT) (K : AVal → H → Prop) (X0 : Frame → H → Prop) (p1_ : Pt) (i3_ : Int) (h : H) : Prop :=
 isPt p1_ (
 ldS (Pt.add p1_ 1) h fun s0 =>
 bif (decide (i3_ < (s0.len : Int))) then
 isPt p1_ (
 ldI .i64 (Pt.add p1_ 0) h fun n1 =>
 isPt p1_ (
 ldS (Pt.add p1_ 1) h fun s2 =>
 ixS s2 4 i3_ fun p3 =>
 ldA p3 4 h fun cs4 =>
 callB S i_spec_l01Tile [.int .i64 n1, .agg cs4] h fun b6 h5 =>
 bif (!b6) then
 K (.bool false) h5
 else
 bif (decide (i3_ > (0))) then
 isPt p1_ (
 ldS (Pt.add p1_ 1) h5 fun s7 =>
 ixS s7 4 (w64 (i3_ - (1))) fun p8 =>
 ldA p8 4 h5 fun cs9 =>
 isPt p1_ (
 ldS (Pt.add p1_ 1) h5 fun s10 =>
 ixS s10 4 i3_ fun p11 =>
 ldA p11 4 h5 fun cs12 =>
 callB S i_spec_l01Before [.agg cs9, .agg cs12] h5 fun b14 h13 =>
 bif (!b14) then
 K (.bool false) h13
 else
 X0 (spec_l01Is_e0 p1_ (w64 (i3_ + (1)))) h13))
 else
 X0 (spec_l01Is_e0 p1_ (w64 (i3_ + (1)))) h5))
 else
 spec_l01Is_C0 S K h)
theorem spec_l01Is_link0 (S : SatT) (K : AVal → H → Prop) (X0 : Frame → H → Prop) (p1_ : Pt) (i3_ : Int) (h : H) : spec_l01Is_w0 S K X0 (spec_l01Is_e0 p1_ i3_) h = spec_l01Is_b0 S K X0 p1_ i3_ h := by kernel_rfl
theorem spec_l01Is_rule0 (S : SatT) (K : AVal → H → Prop) (p1_ : Pt) (I_ : Int → H → Prop) (m_ : Int → H → Nat)
    (hs : ∀ (X0 : Frame → H → Prop) (i3_ : Int) (h : H), I_ i3_ h → (∀ (i3_' : Int) (h' : H), I_ i3_' h' → m_ i3_' h' < m_ i3_ h → X0 (spec_l01Is_e0 p1_ i3_') h') → spec_l01Is_b0 S K X0 p1_ i3_ h) (i3_ : Int) {h : H} (h0 : I_ i3_ h) : spec_l01Is_L0 S K p1_ i3_ h :=
  loop_rule (σ := (Int)) (fun s_ => spec_l01Is_e0 p1_ (s_)) (fun s_ h => I_ (s_) h) (fun s_ h => m_ (s_) h)
    (fun X s_ h hi hx => (spec_l01Is_link0 S K X p1_ (s_) h).mpr (hs X (s_) h hi fun i3_' h' hi' hm' => hx (i3_') h' hi' hm')) (i3_) h0
theorem spec_l01Is_unroll0 (S : SatT) (K : AVal → H → Prop) (p1_ : Pt) (i3_ : Int) (h : H) (hb : spec_l01Is_b0 S K (fun fr h => loopK (spec_l01Is_w0 S K) fr h) p1_ i3_ h) : spec_l01Is_L0 S K p1_ i3_ h := loop_unroll ((spec_l01Is_link0 S K _ p1_ i3_ h).mpr hb)
def spec_l01Is_main (S : SatT) (K : AVal → H → Prop) (x0 : List AVal) (h : H) : Prop :=
 newK 2 x0 h fun p0 h1 =>
 isPt p0 (
 ldI .i64 (Pt.add p0 0) h1 fun n2 =>
 callB S i_spec_l01In [.int .i64 n2, .int .i64 (1), .int .i64 (6)] h1 fun b4 h3 =>
 bif (!b4) then
 K (.bool false) h3
 else
 isPt p0 (
 ldS (Pt.add p0 1) h3 fun s5 =>
 bif (decide ((s5.len : Int) > (16))) then
 K (.bool false) h3
 else
 spec_l01Is_L0 S K p0 (0) h3))
theorem spec_l01Is_main_link (S : SatT) (K : AVal → H → Prop) (x0 : List AVal) (h : H) : cwp S tab spec_l01Is_M [] (bodyOf Try.f76) (kFun tab Try.f76.results.toList K) (fr0 Try.f76 [.agg x0]) h = spec_l01Is_main S K x0 h := by kernel_rfl
theorem spec_l01Is_call (x0 : List AVal) (h : H) (K : Bool → H → Prop) (hm : spec_l01Is_main (Sat Try.prog) (fun v h' => ∃ r, v = .bool r ∧ K r h') x0 h) : callB (Sat Try.prog) i_spec_l01Is [.agg x0] h K := by
  have := Sat.ex tok mixed spec_l01Is_M Try.func76 (c := bodyOf Try.f76) (by kernel_rfl) (calls_of Try.func76 (c := bodyOf Try.f76) (by kernel_rfl) (by decide)) ((spec_l01Is_main_link _ _ x0 h).mpr hm)
  obtain ⟨v, h2, h3, r, rfl, h4⟩ := this; exact ⟨r, h2, h3, h4⟩

/-! ### loop.example/g01354/laws.szInt64SS -/
def laws_szInt64SS_M : Nat → List Nat := fun i => bif i == 0 then [0, 1, 5] else []
def laws_szInt64SS_ks5 (S : SatT) (K : AVal → H → Prop) : Kont := kSeq (cwp S tab laws_szInt64SS_M [] (sub [1, 1, 1, 1] (bodyOf Try.f22)) (kFun tab (Try.f22).results.toList K)) (kFun tab (Try.f22).results.toList K)
def laws_szInt64SS_e0 (s0_ : Sl) (i1_ : Int) (i5_ : Int) : Frame := [.sl s0_, .int .i64 i1_, U, U, U, .int .i64 i5_, U, U, U, U, U, U, U, U, U, U, U, U, U, U, U, U, U, U, U, U, U]
def laws_szInt64SS_w0 (S : SatT) (K : AVal → H → Prop) : (Frame → H → Prop) → Frame → H → Prop := fun X fr h => cwp S tab laws_szInt64SS_M (laws_szInt64SS_M 0) (sub [1, 1, 1, 0, 1, 0, 0] (bodyOf Try.f22)) (kSeq (fun fr h => X (mask (laws_szInt64SS_M 0) fr) h) (kBlk 0 (laws_szInt64SS_ks5 S K))) fr h
def laws_szInt64SS_L0 (S : SatT) (K : AVal → H → Prop) (s0_ : Sl) (i1_ : Int) (i5_ : Int) (h : H) : Prop := loopK (laws_szInt64SS_w0 S K) (laws_szInt64SS_e0 s0_ i1_ i5_) h
def laws_szInt64SS_C0 (S : SatT) (K : AVal → H → Prop) (i1_ : Int) (h : H) : Prop :=
 K (.int .i64 i1_) h
def laws_szInt64SS_b0 (S : SatT) (K : AVal → H → Prop) (X0 : Frame → H → Prop) (s0_ : Sl) (i1_ : Int) (i5_ : Int) (h : H) : Prop :=
 bif (decide (i5_ < (s0_.len : Int))) then
 ixS s0_ 1 i5_ fun p0 =>
 ldS p0 h fun s1 =>
 callI S .i64 i_laws_szInt64S [.sl s1, .int .i64 i1_] h fun n3 h2 =>
 bif (decide (n3 < (0))) then
 K (.int .i64 (-1)) h2
 else
 X0 (laws_szInt64SS_e0 s0_ n3 (w64 (i5_ + (1)))) h2
 else
 laws_szInt64SS_C0 S K i1_ h
theorem laws_szInt64SS_link0 (S : SatT) (K : AVal → H → Prop) (X0 : Frame → H → Prop) (s0_ : Sl) (i1_ : Int) (i5_ : Int) (h : H) : laws_szInt64SS_w0 S K X0 (laws_szInt64SS_e0 s0_ i1_ i5_) h = laws_szInt64SS_b0 S K X0 s0_ i1_ i5_ h := by kernel_rfl
theorem laws_szInt64SS_rule0 (S : SatT) (K : AVal → H → Prop) (s0_ : Sl) (I_ : Int → Int → H → Prop) (m_ : Int → Int → H → Nat)
    (hs : ∀ (X0 : Frame → H → Prop) (i1_ : Int) (i5_ : Int) (h : H), I_ i1_ i5_ h → (∀ (i1_' : Int) (i5_' : Int) (h' : H), I_ i1_' i5_' h' → m_ i1_' i5_' h' < m_ i1_ i5_ h → X0 (laws_szInt64SS_e0 s0_ i1_' i5_') h') → laws_szInt64SS_b0 S K X0 s0_ i1_ i5_ h) (i1_ : Int) (i5_ : Int) {h : H} (h0 : I_ i1_ i5_ h) : laws_szInt64SS_L0 S K s0_ i1_ i5_ h :=
  loop_rule (σ := (Int) × (Int)) (fun s_ => laws_szInt64SS_e0 s0_ (s_.1) (s_.2)) (fun s_ h => I_ (s_.1) (s_.2) h) (fun s_ h => m_ (s_.1) (s_.2) h)
    (fun X s_ h hi hx => (laws_szInt64SS_link0 S K X s0_ (s_.1) (s_.2) h).mpr (hs X (s_.1) (s_.2) h hi fun i1_' i5_' h' hi' hm' => hx (i1_', i5_') h' hi' hm')) (i1_, i5_) h0
theorem laws_szInt64SS_unroll0 (S : SatT) (K : AVal → H → Prop) (s0_ : Sl) (i1_ : Int) (i5_ : Int) (h : H) (hb : laws_szInt64SS_b0 S K (fun fr h => loopK (laws_szInt64SS_w0 S K) fr h) s0_ i1_ i5_ h) : laws_szInt64SS_L0 S K s0_ i1_ i5_ h := loop_unroll ((laws_szInt64SS_link0 S K _ s0_ i1_ i5_ h).mpr hb)
def laws_szInt64SS_main (S : SatT) (K : AVal → H → Prop) (x0 : Sl) (x1 : Int) (h : H) : Prop :=
 bif (decide ((w64 (x1 - (x0.len : Int))) < (0))) then
 K (.int .i64 (-1)) h
 else
 laws_szInt64SS_L0 S K x0 (w64 (x1 - (x0.len : Int))) (0) h
theorem laws_szInt64SS_main_link (S : SatT) (K : AVal → H → Prop) (x0 : Sl) (x1 : Int) (h : H) : cwp S tab laws_szInt64SS_M [] (bodyOf Try.f22) (kFun tab Try.f22.results.toList K) (fr0 Try.f22 [.sl x0, .int .i64 x1]) h = laws_szInt64SS_main S K x0 x1 h := by kernel_rfl
theorem laws_szInt64SS_call (x0 : Sl) (x1 : Int) (h : H) (K : Int → H → Prop) (hm : laws_szInt64SS_main (Sat Try.prog) (fun v h' => ∃ r, v = .int .i64 r ∧ K r h') x0 x1 h) : callI (Sat Try.prog) .i64 i_laws_szInt64SS [.sl x0, .int .i64 x1] h K := by
  have := Sat.ex tok mixed laws_szInt64SS_M Try.func22 (c := bodyOf Try.f22) (by kernel_rfl) (calls_of Try.func22 (c := bodyOf Try.f22) (by kernel_rfl) (by decide)) ((laws_szInt64SS_main_link _ _ x0 x1 h).mpr hm)
  obtain ⟨v, h2, h3, r, rfl, h4⟩ := this; exact ⟨r, h2, h3, h4⟩

/-! ### loop.example/g01354/laws.toTile -/
def laws_toTile_M : Nat → List Nat := fun i => bif i == 0 then [1, 2, 3, 4] else []
def laws_toTile_ks2 (S : SatT) (K : AVal → H → Prop) : Kont := kSeq (cwp S tab laws_toTile_M [] (sub [1, 1, 1] (bodyOf Try.f102)) (kFun tab (Try.f102).results.toList K)) (kFun tab (Try.f102).results.toList K)
def laws_toTile_e0 (p1_ : Pt) (p2_ : Pt) (p3_ : Pt) (i4_ : Int) : Frame := [U, .ptr p1_, .ptr p2_, .ptr p3_, .int .i64 i4_, U, U, U, U, U, U, U, U, U, U]
def laws_toTile_w0 (S : SatT) (K : AVal → H → Prop) : (Frame → H → Prop) → Frame → H → Prop := fun X fr h => cwp S tab laws_toTile_M (laws_toTile_M 0) (sub [1, 1, 0, 1, 0, 0] (bodyOf Try.f102)) (kSeq (fun fr h => X (mask (laws_toTile_M 0) fr) h) (kBlk 0 (laws_toTile_ks2 S K))) fr h
def laws_toTile_L0 (S : SatT) (K : AVal → H → Prop) (p1_ : Pt) (p2_ : Pt) (p3_ : Pt) (i4_ : Int) (h : H) : Prop := loopK (laws_toTile_w0 S K) (laws_toTile_e0 p1_ p2_ p3_ i4_) h
def laws_toTile_C0 (S : SatT) (K : AVal → H → Prop) (p2_ : Pt) (p3_ : Pt) (h : H) : Prop :=
 ldA p3_ 4 h fun cs0 =>
 stN p2_ 4 cs0 h fun h1 =>
 ldA p2_ 4 h1 fun cs2 =>
 K (.agg cs2) h1
def laws_toTile_b0 (S : SatT) (K : AVal → H → Prop) (X0 : Frame → H → Prop) (p1_ : Pt) (p2_ : Pt) (p3_ : Pt) (i4_ : Int) (h : H) : Prop :=
 bif (decide (i4_ < (4))) then
 ixA p1_ 4 1 i4_ fun p0 =>
 ldI .i64 p0 h fun n1 =>
 ixA p3_ 4 1 i4_ fun p2 =>
 st1 p2 (.int .i64 n1) h fun h3 =>
 X0 (laws_toTile_e0 p1_ p2_ p3_ (w64 (i4_ + (1)))) h3
 else
 laws_toTile_C0 S K p2_ p3_ h
theorem laws_toTile_link0 (S : SatT) (K : AVal → H → Prop) (X0 : Frame → H → Prop) (p1_ : Pt) (p2_ : Pt) (p3_ : Pt) (i4_ : Int) (h : H) : laws_toTile_w0 S K X0 (laws_toTile_e0 p1_ p2_ p3_ i4_) h = laws_toTile_b0 S K X0 p1_ p2_ p3_ i4_ h := by kernel_rfl
theorem laws_toTile_rule0 (S : SatT) (K : AVal → H → Prop) (p1_ : Pt) (p2_ : Pt) (p3_ : Pt) (I_ : Int → H → Prop) (m_ : Int → H → Nat)
    (hs : ∀ (X0 : Frame → H → Prop) (i4_ : Int) (h : H), I_ i4_ h → (∀ (i4_' : Int) (h' : H), I_ i4_' h' → m_ i4_' h' < m_ i4_ h → X0 (laws_toTile_e0 p1_ p2_ p3_ i4_') h') → laws_toTile_b0 S K X0 p1_ p2_ p3_ i4_ h) (i4_ : Int) {h : H} (h0 : I_ i4_ h) : laws_toTile_L0 S K p1_ p2_ p3_ i4_ h :=
  loop_rule (σ := (Int)) (fun s_ => laws_toTile_e0 p1_ p2_ p3_ (s_)) (fun s_ h => I_ (s_) h) (fun s_ h => m_ (s_) h)
    (fun X s_ h hi hx => (laws_toTile_link0 S K X p1_ p2_ p3_ (s_) h).mpr (hs X (s_) h hi fun i4_' h' hi' hm' => hx (i4_') h' hi' hm')) (i4_) h0
theorem laws_toTile_unroll0 (S : SatT) (K : AVal → H → Prop) (p1_ : Pt) (p2_ : Pt) (p3_ : Pt) (i4_ : Int) (h : H) (hb : laws_toTile_b0 S K (fun fr h => loopK (laws_toTile_w0 S K) fr h) p1_ p2_ p3_ i4_ h) : laws_toTile_L0 S K p1_ p2_ p3_ i4_ h := loop_unroll ((laws_toTile_link0 S K _ p1_ p2_ p3_ i4_ h).mpr hb)
def laws_toTile_main (S : SatT) (K : AVal → H → Prop) (x0 : List AVal) (h : H) : Prop :=
 newK 4 x0 h fun p0 h1 =>
 newO [.int .i64 (0), .int .i64 (0), .int .i64 (0), .int .i64 (0)] h1 fun p2 h3 =>
 newO [.int .i64 (0), .int .i64 (0), .int .i64 (0), .int .i64 (0)] h3 fun p4 h5 =>
 laws_toTile_L0 S K p0 p2 p4 (0) h5
theorem laws_toTile_main_link (S : SatT) (K : AVal → H → Prop) (x0 : List AVal) (h : H) : cwp S tab laws_toTile_M [] (bodyOf Try.f102) (kFun tab Try.f102.results.toList K) (fr0 Try.f102 [.agg x0]) h = laws_toTile_main S K x0 h := by kernel_rfl
theorem laws_toTile_call (x0 : List AVal) (h : H) (K : List AVal → H → Prop) (hm : laws_toTile_main (Sat Try.prog) (fun v h' => ∃ r, v = .agg r ∧ K r h') x0 h) : callA (Sat Try.prog) i_laws_toTile [.agg x0] h K := by
  have := Sat.ex tok mixed laws_toTile_M Try.func102 (c := bodyOf Try.f102) (by kernel_rfl) (calls_of Try.func102 (c := bodyOf Try.f102) (by kernel_rfl) (by decide)) ((laws_toTile_main_link _ _ x0 h).mpr hm)
  obtain ⟨v, h2, h3, r, rfl, h4⟩ := this; exact ⟨r, h2, h3, h4⟩

/-! ### loop.example/g01354/laws.eqInt64SS -/
def laws_eqInt64SS_M : Nat → List Nat := fun i => bif i == 0 then [0, 1, 5] else []
def laws_eqInt64SS_ks4 (S : SatT) (K : AVal → H → Prop) : Kont := kSeq (cwp S tab laws_eqInt64SS_M [] (sub [1, 1, 1] (bodyOf Try.f26)) (kFun tab (Try.f26).results.toList K)) (kFun tab (Try.f26).results.toList K)
def laws_eqInt64SS_e0 (s0_ : Sl) (s1_ : Sl) (i5_ : Int) : Frame := [.sl s0_, .sl s1_, U, U, U, .int .i64 i5_, U, U, U, U, U, U, U, U, U, U, U, U, U, U, U, U, U, U, U, U, U]
def laws_eqInt64SS_w0 (S : SatT) (K : AVal → H → Prop) : (Frame → H → Prop) → Frame → H → Prop := fun X fr h => cwp S tab laws_eqInt64SS_M (laws_eqInt64SS_M 0) (sub [1, 1, 0, 1, 0, 0] (bodyOf Try.f26)) (kSeq (fun fr h => X (mask (laws_eqInt64SS_M 0) fr) h) (kBlk 0 (laws_eqInt64SS_ks4 S K))) fr h
def laws_eqInt64SS_L0 (S : SatT) (K : AVal → H → Prop) (s0_ : Sl) (s1_ : Sl) (i5_ : Int) (h : H) : Prop := loopK (laws_eqInt64SS_w0 S K) (laws_eqInt64SS_e0 s0_ s1_ i5_) h
def laws_eqInt64SS_C0 (S : SatT) (K : AVal → H → Prop) (h : H) : Prop :=
 K (.bool true) h
def laws_eqInt64SS_b0 (S : SatT) (K : AVal → H → Prop) (X0 : Frame → H → Prop) (s0_ : Sl) (s1_ : Sl) (i5_ : Int) (h : H) : Prop :=
 bif (decide (i5_ < (s0_.len : Int))) then
 ixS s0_ 1 i5_ fun p0 =>
 ldS p0 h fun s1 =>
 ixS s1_ 1 i5_ fun p2 =>
 ldS p2 h fun s3 =>
 callB S i_laws_eqInt64S [.sl s1, .sl s3] h fun b5 h4 =>
 bif (!b5) then
 K (.bool false) h4
 else
 X0 (laws_eqInt64SS_e0 s0_ s1_ (w64 (i5_ + (1)))) h4
 else
 laws_eqInt64SS_C0 S K h
theorem laws_eqInt64SS_link0 (S : SatT) (K : AVal → H → Prop) (X0 : Frame → H → Prop) (s0_ : Sl) (s1_ : Sl) (i5_ : Int) (h : H) : laws_eqInt64SS_w0 S K X0 (laws_eqInt64SS_e0 s0_ s1_ i5_) h = laws_eqInt64SS_b0 S K X0 s0_ s1_ i5_ h := by kernel_rfl
theorem laws_eqInt64SS_rule0 (S : SatT) (K : AVal → H → Prop) (s0_ : Sl) (s1_ : Sl) (I_ : Int → H → Prop) (m_ : Int → H → Nat)
    (hs : ∀ (X0 : Frame → H → Prop) (i5_ : Int) (h : H), I_ i5_ h → (∀ (i5_' : Int) (h' : H), I_ i5_' h' → m_ i5_' h' < m_ i5_ h → X0 (laws_eqInt64SS_e0 s0_ s1_ i5_') h') → laws_eqInt64SS_b0 S K X0 s0_ s1_ i5_ h) (i5_ : Int) {h : H} (h0 : I_ i5_ h) : laws_eqInt64SS_L0 S K s0_ s1_ i5_ h :=
  loop_rule (σ := (Int)) (fun s_ => laws_eqInt64SS_e0 s0_ s1_ (s_)) (fun s_ h => I_ (s_) h) (fun s_ h => m_ (s_) h)
    (fun X s_ h hi hx => (laws_eqInt64SS_link0 S K X s0_ s1_ (s_) h).mpr (hs X (s_) h hi fun i5_' h' hi' hm' => hx (i5_') h' hi' hm')) (i5_) h0
theorem laws_eqInt64SS_unroll0 (S : SatT) (K : AVal → H → Prop) (s0_ : Sl) (s1_ : Sl) (i5_ : Int) (h : H) (hb : laws_eqInt64SS_b0 S K (fun fr h => loopK (laws_eqInt64SS_w0 S K) fr h) s0_ s1_ i5_ h) : laws_eqInt64SS_L0 S K s0_ s1_ i5_ h := loop_unroll ((laws_eqInt64SS_link0 S K _ s0_ s1_ i5_ h).mpr hb)
def laws_eqInt64SS_main (S : SatT) (K : AVal → H → Prop) (x0 : Sl) (x1 : Sl) (h : H) : Prop :=
 bif ((x0.len : Int) != (x1.len : Int)) then
 K (.bool false) h
 else
 laws_eqInt64SS_L0 S K x0 x1 (0) h
theorem laws_eqInt64SS_main_link (S : SatT) (K : AVal → H → Prop) (x0 : Sl) (x1 : Sl) (h : H) : cwp S tab laws_eqInt64SS_M [] (bodyOf Try.f26) (kFun tab Try.f26.results.toList K) (fr0 Try.f26 [.sl x0, .sl x1]) h = laws_eqInt64SS_main S K x0 x1 h := by kernel_rfl
theorem laws_eqInt64SS_call (x0 : Sl) (x1 : Sl) (h : H) (K : Bool → H → Prop) (hm : laws_eqInt64SS_main (Sat Try.prog) (fun v h' => ∃ r, v = .bool r ∧ K r h') x0 x1 h) : callB (Sat Try.prog) i_laws_eqInt64SS [.sl x0, .sl x1] h K := by
  have := Sat.ex tok mixed laws_eqInt64SS_M Try.func26 (c := bodyOf Try.f26) (by kernel_rfl) (calls_of Try.func26 (c := bodyOf Try.f26) (by kernel_rfl) (by decide)) ((laws_eqInt64SS_main_link _ _ x0 x1 h).mpr hm)
  obtain ⟨v, h2, h3, r, rfl, h4⟩ := this; exact ⟨r, h2, h3, h4⟩

/-! ### loop.example/g01354/laws.toInt64SS -/
def laws_toInt64SS_M : Nat → List Nat := fun i => bif i == 0 then [0, 3, 4] else []
def laws_toInt64SS_ks2 (S : SatT) (K : AVal → H → Prop) : Kont := kSeq (cwp S tab laws_toInt64SS_M [] (sub [1, 1, 1] (bodyOf Try.f24)) (kFun tab (Try.f24).results.toList K)) (kFun tab (Try.f24).results.toList K)
def laws_toInt64SS_e0 (s0_ : Sl) (s3_ : Sl) (i4_ : Int) : Frame := [.sl s0_, U, U, .sl s3_, .int .i64 i4_, U, U, U, U, U, U, U, U, U, U, U, U, U, U, U, U, U, U]
def laws_toInt64SS_w0 (S : SatT) (K : AVal → H → Prop) : (Frame → H → Prop) → Frame → H → Prop := fun X fr h => cwp S tab laws_toInt64SS_M (laws_toInt64SS_M 0) (sub [1, 1, 0, 1, 0, 0] (bodyOf Try.f24)) (kSeq (fun fr h => X (mask (laws_toInt64SS_M 0) fr) h) (kBlk 0 (laws_toInt64SS_ks2 S K))) fr h
def laws_toInt64SS_L0 (S : SatT) (K : AVal → H → Prop) (s0_ : Sl) (s3_ : Sl) (i4_ : Int) (h : H) : Prop := loopK (laws_toInt64SS_w0 S K) (laws_toInt64SS_e0 s0_ s3_ i4_) h
def laws_toInt64SS_C0 (S : SatT) (K : AVal → H → Prop) (s3_ : Sl) (h : H) : Prop :=
 K (.sl s3_) h
def laws_toInt64SS_b0 (S : SatT) (K : AVal → H → Prop) (X0 : Frame → H → Prop) (s0_ : Sl) (s3_ : Sl) (i4_ : Int) (h : H) : Prop :=
 bif (decide (i4_ < (s0_.len : Int))) then
 ixS s0_ 1 i4_ fun p0 =>
 ldS p0 h fun s1 =>
 callS S i_laws_toInt64S [.sl s1] h fun s3 h2 =>
 ixS s3_ 1 i4_ fun p4 =>
 st1 p4 (.sl s3) h2 fun h5 =>
 X0 (laws_toInt64SS_e0 s0_ s3_ (w64 (i4_ + (1)))) h5
 else
 laws_toInt64SS_C0 S K s3_ h
theorem laws_toInt64SS_link0 (S : SatT) (K : AVal → H → Prop) (X0 : Frame → H → Prop) (s0_ : Sl) (s3_ : Sl) (i4_ : Int) (h : H) : laws_toInt64SS_w0 S K X0 (laws_toInt64SS_e0 s0_ s3_ i4_) h = laws_toInt64SS_b0 S K X0 s0_ s3_ i4_ h := by kernel_rfl
theorem laws_toInt64SS_rule0 (S : SatT) (K : AVal → H → Prop) (s0_ : Sl) (s3_ : Sl) (I_ : Int → H → Prop) (m_ : Int → H → Nat)
    (hs : ∀ (X0 : Frame → H → Prop) (i4_ : Int) (h : H), I_ i4_ h → (∀ (i4_' : Int) (h' : H), I_ i4_' h' → m_ i4_' h' < m_ i4_ h → X0 (laws_toInt64SS_e0 s0_ s3_ i4_') h') → laws_toInt64SS_b0 S K X0 s0_ s3_ i4_ h) (i4_ : Int) {h : H} (h0 : I_ i4_ h) : laws_toInt64SS_L0 S K s0_ s3_ i4_ h :=
  loop_rule (σ := (Int)) (fun s_ => laws_toInt64SS_e0 s0_ s3_ (s_)) (fun s_ h => I_ (s_) h) (fun s_ h => m_ (s_) h)
    (fun X s_ h hi hx => (laws_toInt64SS_link0 S K X s0_ s3_ (s_) h).mpr (hs X (s_) h hi fun i4_' h' hi' hm' => hx (i4_') h' hi' hm')) (i4_) h0
theorem laws_toInt64SS_unroll0 (S : SatT) (K : AVal → H → Prop) (s0_ : Sl) (s3_ : Sl) (i4_ : Int) (h : H) (hb : laws_toInt64SS_b0 S K (fun fr h => loopK (laws_toInt64SS_w0 S K) fr h) s0_ s3_ i4_ h) : laws_toInt64SS_L0 S K s0_ s3_ i4_ h := loop_unroll ((laws_toInt64SS_link0 S K _ s0_ s3_ i4_ h).mpr hb)
def laws_toInt64SS_main (S : SatT) (K : AVal → H → Prop) (x0 : Sl) (h : H) : Prop :=
 mkS (x0.len : Int) [.sl Sl.nil] h fun s0 h1 =>
 laws_toInt64SS_L0 S K x0 s0 (0) h1
theorem laws_toInt64SS_main_link (S : SatT) (K : AVal → H → Prop) (x0 : Sl) (h : H) : cwp S tab laws_toInt64SS_M [] (bodyOf Try.f24) (kFun tab Try.f24.results.toList K) (fr0 Try.f24 [.sl x0]) h = laws_toInt64SS_main S K x0 h := by kernel_rfl
theorem laws_toInt64SS_call (x0 : Sl) (h : H) (K : Sl → H → Prop) (hm : laws_toInt64SS_main (Sat Try.prog) (fun v h' => ∃ r, v = .sl r ∧ K r h') x0 h) : callS (Sat Try.prog) i_laws_toInt64SS [.sl x0] h K := by
  have := Sat.ex tok mixed laws_toInt64SS_M Try.func24 (c := bodyOf Try.f24) (by kernel_rfl) (calls_of Try.func24 (c := bodyOf Try.f24) (by kernel_rfl) (by decide)) ((laws_toInt64SS_main_link _ _ x0 h).mpr hm)
  obtain ⟨v, h2, h3, r, rfl, h4⟩ := this; exact ⟨r, h2, h3, h4⟩

/-! ### loop.example/g01354/laws.FnExactFirstTorus -/
def laws_FnExactFirstTorus_M : Nat → List Nat := fun i => []
def laws_FnExactFirstTorus_main (S : SatT) (K : AVal → H → Prop) (x0 : List AVal) (x1 : Int) (x2 : Int) (h : H) : Prop :=
 newK 2 x0 h fun p0 h1 =>
 ldA p0 2 h1 fun cs2 =>
 callI S .i64 i_laws_szSet [.agg cs2, .int .i64 (1048576)] h1 fun n4 h3 =>
 bif (decide (n4 < (0))) then
 K (.bool true) h3
 else
 ldA p0 2 h3 fun cs5 =>
 callA S i_laws_toSet [.agg cs5] h3 fun cs7 h6 =>
 callV S i_spec_FirstTorus [.agg cs7, .int .i64 x1, .int .i64 x2] h6 fun v9 h8 =>
 viaT v9 fun vs10 =>
 exS vs10 0 fun s11 =>
 viaT v9 fun vs12 =>
 exI .i64 vs12 1 fun n13 =>
 ldA p0 2 h8 fun cs14 =>
 callA S i_laws_toSet [.agg cs14] h8 fun cs16 h15 =>
 newO [.int .i64 (0), .sl Sl.nil] h15 fun p17 h18 =>
 stN p17 2 cs16 h18 fun h19 =>
 ldA p17 2 h19 fun cs20 =>
 callV S i_impl_FirstTorus [.agg cs20, .int .i64 x1, .int .i64 x2] h19 fun v22 h21 =>
 viaT v22 fun vs23 =>
 exS vs23 0 fun s24 =>
 viaT v22 fun vs25 =>
 exI .i64 vs25 1 fun n26 =>
 callB S i_laws_eqInt64SS [.sl s24, .sl s11] h21 fun b28 h27 =>
 bif (!b28) then
 K (.bool false) h27
 else
 bif (n26 != n13) then
 K (.bool false) h27
 else
 ldA p17 2 h27 fun cs29 =>
 ldA p0 2 h27 fun cs30 =>
 callA S i_laws_toSet [.agg cs30] h27 fun cs32 h31 =>
(range h31 p17.o p17.n p17.off 2 = range h27 p17.o p17.n p17.off 2) ∧ (
 callB S i_laws_eqSet [.agg cs29, .agg cs32] h31 fun b34 h33 =>
 bif (!b34) then
 K (.bool false) h33
 else
 ldA p17 2 h33 fun cs35 =>
 callI S .i64 i_laws_markSet [.agg cs35, .int .i64 (1)] h33 fun n37 h36 =>
 bif (decide (n37 < (0))) then
 K (.bool false) h36
 else
 callB S i_laws_eqInt64SS [.sl s24, .sl s11] h36 fun b39 h38 =>
 bif (!b39) then
 K (.bool false) h38
 else
 bif (n26 != n13) then
 K (.bool false) h38
 else
 callI S .i64 i_laws_markInt64SS [.sl s24, .int .i64 (1)] h38 fun n41 h40 =>
 callI S .i64 i_laws_heldInt64SS [.sl s24, .int .i64 (1)] h40 fun n43 h42 =>
 bif (decide (n43 < (0))) then
 K (.bool false) h42
 else
 bif (n43 != n41) then
 K (.bool false) h42
 else
 ldA p0 2 h42 fun cs44 =>
 callA S i_laws_toSet [.agg cs44] h42 fun cs46 h45 =>
 callV S i_impl_FirstTorus [.agg cs46, .int .i64 x1, .int .i64 x2] h45 fun v48 h47 =>
 viaT v48 fun vs49 =>
 exS vs49 0 fun s50 =>
 viaT v48 fun vs51 =>
 exI .i64 vs51 1 fun n52 =>
 callB S i_laws_eqInt64SS [.sl s50, .sl s11] h47 fun b54 h53 =>
 bif (!b54) then
 K (.bool false) h53
 else
 bif (n52 != n13) then
 K (.bool false) h53
 else
 callI S .i64 i_laws_heldInt64SS [.sl s24, .int .i64 (1)] h53 fun n56 h55 =>
 bif (decide (n56 < (0))) then
 K (.bool false) h55
 else
 bif (n56 != n41) then
 K (.bool false) h55
 else
 K (.bool true) h55)
theorem laws_FnExactFirstTorus_main_link (S : SatT) (K : AVal → H → Prop) (x0 : List AVal) (x1 : Int) (x2 : Int) (h : H) : cwp S tab laws_FnExactFirstTorus_M [] (bodyOf Try.f9) (kFun tab Try.f9.results.toList K) (fr0 Try.f9 [.agg x0, .int .i64 x1, .int .i64 x2]) h = laws_FnExactFirstTorus_main S K x0 x1 x2 h := by kernel_rfl
theorem laws_FnExactFirstTorus_call (x0 : List AVal) (x1 : Int) (x2 : Int) (h : H) (K : Bool → H → Prop) (hm : laws_FnExactFirstTorus_main (Sat Try.prog) (fun v h' => ∃ r, v = .bool r ∧ K r h') x0 x1 x2 h) : callB (Sat Try.prog) i_laws_FnExactFirstTorus [.agg x0, .int .i64 x1, .int .i64 x2] h K := by
  have := Sat.ex tok mixed laws_FnExactFirstTorus_M Try.func9 (c := bodyOf Try.f9) (by kernel_rfl) (calls_of Try.func9 (c := bodyOf Try.f9) (by kernel_rfl) (by decide)) ((laws_FnExactFirstTorus_main_link _ _ x0 x1 x2 h).mpr hm)
  obtain ⟨v, h2, h3, r, rfl, h4⟩ := this; exact ⟨r, h2, h3, h4⟩

/-! ### loop.example/g01354/laws.FnExactLeastTorus -/
def laws_FnExactLeastTorus_M : Nat → List Nat := fun i => []
def laws_FnExactLeastTorus_main (S : SatT) (K : AVal → H → Prop) (x0 : List AVal) (h : H) : Prop :=
 newK 2 x0 h fun p0 h1 =>
 ldA p0 2 h1 fun cs2 =>
 callI S .i64 i_laws_szSet [.agg cs2, .int .i64 (1048576)] h1 fun n4 h3 =>
 bif (decide (n4 < (0))) then
 K (.bool true) h3
 else
 ldA p0 2 h3 fun cs5 =>
 callA S i_laws_toSet [.agg cs5] h3 fun cs7 h6 =>
 callV S i_spec_LeastTorus [.agg cs7] h6 fun v9 h8 =>
 viaT v9 fun vs10 =>
 exS vs10 0 fun s11 =>
 viaT v9 fun vs12 =>
 exI .i64 vs12 1 fun n13 =>
 ldA p0 2 h8 fun cs14 =>
 callA S i_laws_toSet [.agg cs14] h8 fun cs16 h15 =>
 newO [.int .i64 (0), .sl Sl.nil] h15 fun p17 h18 =>
 stN p17 2 cs16 h18 fun h19 =>
 ldA p17 2 h19 fun cs20 =>
 callV S i_impl_LeastTorus [.agg cs20] h19 fun v22 h21 =>
 viaT v22 fun vs23 =>
 exS vs23 0 fun s24 =>
 viaT v22 fun vs25 =>
 exI .i64 vs25 1 fun n26 =>
 callB S i_laws_eqInt64SS [.sl s24, .sl s11] h21 fun b28 h27 =>
 bif (!b28) then
 K (.bool false) h27
 else
 bif (n26 != n13) then
 K (.bool false) h27
 else
 ldA p17 2 h27 fun cs29 =>
 ldA p0 2 h27 fun cs30 =>
 callA S i_laws_toSet [.agg cs30] h27 fun cs32 h31 =>
(range h31 p17.o p17.n p17.off 2 = range h27 p17.o p17.n p17.off 2) ∧ (
 callB S i_laws_eqSet [.agg cs29, .agg cs32] h31 fun b34 h33 =>
 bif (!b34) then
 K (.bool false) h33
 else
 ldA p17 2 h33 fun cs35 =>
 callI S .i64 i_laws_markSet [.agg cs35, .int .i64 (1)] h33 fun n37 h36 =>
 bif (decide (n37 < (0))) then
 K (.bool false) h36
 else
 callB S i_laws_eqInt64SS [.sl s24, .sl s11] h36 fun b39 h38 =>
 bif (!b39) then
 K (.bool false) h38
 else
 bif (n26 != n13) then
 K (.bool false) h38
 else
 callI S .i64 i_laws_markInt64SS [.sl s24, .int .i64 (1)] h38 fun n41 h40 =>
 callI S .i64 i_laws_heldInt64SS [.sl s24, .int .i64 (1)] h40 fun n43 h42 =>
 bif (decide (n43 < (0))) then
 K (.bool false) h42
 else
 bif (n43 != n41) then
 K (.bool false) h42
 else
 ldA p0 2 h42 fun cs44 =>
 callA S i_laws_toSet [.agg cs44] h42 fun cs46 h45 =>
 callV S i_impl_LeastTorus [.agg cs46] h45 fun v48 h47 =>
 viaT v48 fun vs49 =>
 exS vs49 0 fun s50 =>
 viaT v48 fun vs51 =>
 exI .i64 vs51 1 fun n52 =>
 callB S i_laws_eqInt64SS [.sl s50, .sl s11] h47 fun b54 h53 =>
 bif (!b54) then
 K (.bool false) h53
 else
 bif (n52 != n13) then
 K (.bool false) h53
 else
 callI S .i64 i_laws_heldInt64SS [.sl s24, .int .i64 (1)] h53 fun n56 h55 =>
 bif (decide (n56 < (0))) then
 K (.bool false) h55
 else
 bif (n56 != n41) then
 K (.bool false) h55
 else
 K (.bool true) h55)
theorem laws_FnExactLeastTorus_main_link (S : SatT) (K : AVal → H → Prop) (x0 : List AVal) (h : H) : cwp S tab laws_FnExactLeastTorus_M [] (bodyOf Try.f8) (kFun tab Try.f8.results.toList K) (fr0 Try.f8 [.agg x0]) h = laws_FnExactLeastTorus_main S K x0 h := by kernel_rfl
theorem laws_FnExactLeastTorus_call (x0 : List AVal) (h : H) (K : Bool → H → Prop) (hm : laws_FnExactLeastTorus_main (Sat Try.prog) (fun v h' => ∃ r, v = .bool r ∧ K r h') x0 h) : callB (Sat Try.prog) i_laws_FnExactLeastTorus [.agg x0] h K := by
  have := Sat.ex tok mixed laws_FnExactLeastTorus_M Try.func8 (c := bodyOf Try.f8) (by kernel_rfl) (calls_of Try.func8 (c := bodyOf Try.f8) (by kernel_rfl) (by decide)) ((laws_FnExactLeastTorus_main_link _ _ x0 h).mpr hm)
  obtain ⟨v, h2, h3, r, rfl, h4⟩ := this; exact ⟨r, h2, h3, h4⟩

/-! ### loop.example/g01354/laws.FnExactCountCylinders -/
def laws_FnExactCountCylinders_M : Nat → List Nat := fun i => []
def laws_FnExactCountCylinders_main (S : SatT) (K : AVal → H → Prop) (x0 : List AVal) (x1 : Int) (x2 : Int) (h : H) : Prop :=
 newK 2 x0 h fun p0 h1 =>
 ldA p0 2 h1 fun cs2 =>
 callI S .i64 i_laws_szSet [.agg cs2, .int .i64 (1048576)] h1 fun n4 h3 =>
 bif (decide (n4 < (0))) then
 K (.bool true) h3
 else
 ldA p0 2 h3 fun cs5 =>
 callA S i_laws_toSet [.agg cs5] h3 fun cs7 h6 =>
 callV S i_spec_CountCylinders [.agg cs7, .int .i64 x1, .int .i64 x2] h6 fun v9 h8 =>
 viaT v9 fun vs10 =>
 exI .i64 vs10 0 fun n11 =>
 viaT v9 fun vs12 =>
 exI .i64 vs12 1 fun n13 =>
 ldA p0 2 h8 fun cs14 =>
 callA S i_laws_toSet [.agg cs14] h8 fun cs16 h15 =>
 newO [.int .i64 (0), .sl Sl.nil] h15 fun p17 h18 =>
 stN p17 2 cs16 h18 fun h19 =>
 ldA p17 2 h19 fun cs20 =>
 callV S i_impl_CountCylinders [.agg cs20, .int .i64 x1, .int .i64 x2] h19 fun v22 h21 =>
 viaT v22 fun vs23 =>
 exI .i64 vs23 0 fun n24 =>
 viaT v22 fun vs25 =>
 exI .i64 vs25 1 fun n26 =>
 bif (n24 != n11) then
 K (.bool false) h21
 else
 bif (n26 != n13) then
 K (.bool false) h21
 else
 ldA p17 2 h21 fun cs27 =>
 ldA p0 2 h21 fun cs28 =>
 callA S i_laws_toSet [.agg cs28] h21 fun cs30 h29 =>
(range h29 p17.o p17.n p17.off 2 = range h21 p17.o p17.n p17.off 2) ∧ (
 callB S i_laws_eqSet [.agg cs27, .agg cs30] h29 fun b32 h31 =>
 bif (!b32) then
 K (.bool false) h31
 else
 K (.bool true) h31)
theorem laws_FnExactCountCylinders_main_link (S : SatT) (K : AVal → H → Prop) (x0 : List AVal) (x1 : Int) (x2 : Int) (h : H) : cwp S tab laws_FnExactCountCylinders_M [] (bodyOf Try.f3) (kFun tab Try.f3.results.toList K) (fr0 Try.f3 [.agg x0, .int .i64 x1, .int .i64 x2]) h = laws_FnExactCountCylinders_main S K x0 x1 x2 h := by kernel_rfl
theorem laws_FnExactCountCylinders_call (x0 : List AVal) (x1 : Int) (x2 : Int) (h : H) (K : Bool → H → Prop) (hm : laws_FnExactCountCylinders_main (Sat Try.prog) (fun v h' => ∃ r, v = .bool r ∧ K r h') x0 x1 x2 h) : callB (Sat Try.prog) i_laws_FnExactCountCylinders [.agg x0, .int .i64 x1, .int .i64 x2] h K := by
  have := Sat.ex tok mixed laws_FnExactCountCylinders_M Try.func3 (c := bodyOf Try.f3) (by kernel_rfl) (calls_of Try.func3 (c := bodyOf Try.f3) (by kernel_rfl) (by decide)) ((laws_FnExactCountCylinders_main_link _ _ x0 x1 x2 h).mpr hm)
  obtain ⟨v, h2, h3, r, rfl, h4⟩ := this; exact ⟨r, h2, h3, h4⟩

/-! ### loop.example/g01354/impl.ShiftTorus -/
def impl_ShiftTorus_M : Nat → List Nat := fun i => []
def impl_ShiftTorus_main (S : SatT) (K : AVal → H → Prop) (x0 : List AVal) (x1 : Sl) (x2 : Int) (x3 : Int) (h : H) : Prop :=
 newK 2 x0 h fun p0 h1 =>
 newO [.sl x1] h1 fun p2 h3 =>
 newO [.int .i64 x2] h3 fun p4 h5 =>
 newO [.int .i64 x3] h5 fun p6 h7 =>
 ldA p0 2 h7 fun cs8 =>
 callI S .i64 i_impl_setCode [.agg cs8, .func 95 [.ptr p0, .ptr p2, .ptr p4, .ptr p6]] h7 fun n10 h9 =>
 bif (n10 != (0)) then
 K (.tuple [.sl Sl.nil, .int .i64 n10]) h9
 else
 ldA p0 2 h9 fun cs11 =>
 ldS p2 h9 fun s12 =>
 callB S i_impl_Set_isTorus [.agg cs11, .sl s12] h9 fun b14 h13 =>
 bif (!b14) then
 K (.tuple [.sl Sl.nil, .int .i64 (5)]) h13
 else
 ldS p2 h13 fun s15 =>
 ldI .i64 p4 h13 fun n16 =>
 ldI .i64 p6 h13 fun n17 =>
 callS S i_impl_shifted [.sl s15, .int .i64 n16, .int .i64 n17] h13 fun s19 h18 =>
 K (.tuple [.sl s19, .int .i64 (0)]) h18
theorem impl_ShiftTorus_main_link (S : SatT) (K : AVal → H → Prop) (x0 : List AVal) (x1 : Sl) (x2 : Int) (x3 : Int) (h : H) : cwp S tab impl_ShiftTorus_M [] (bodyOf Try.f41) (kFun tab Try.f41.results.toList K) (fr0 Try.f41 [.agg x0, .sl x1, .int .i64 x2, .int .i64 x3]) h = impl_ShiftTorus_main S K x0 x1 x2 x3 h := by kernel_rfl
theorem impl_ShiftTorus_call (x0 : List AVal) (x1 : Sl) (x2 : Int) (x3 : Int) (h : H) (K : AVal → H → Prop) (hm : impl_ShiftTorus_main (Sat Try.prog) (fun v h' => K v h') x0 x1 x2 x3 h) : callV (Sat Try.prog) i_impl_ShiftTorus [.agg x0, .sl x1, .int .i64 x2, .int .i64 x3] h K := by
  have := Sat.ex tok mixed impl_ShiftTorus_M Try.func41 (c := bodyOf Try.f41) (by kernel_rfl) (calls_of Try.func41 (c := bodyOf Try.f41) (by kernel_rfl) (by decide)) ((impl_ShiftTorus_main_link _ _ x0 x1 x2 x3 h).mpr hm)
  exact this

/-! ### loop.example/g01354/impl.CountForms$2 -/
def impl_CountForms_2_M : Nat → List Nat := fun i => []
def impl_CountForms_2_main (S : SatT) (K : AVal → H → Prop) (x0 : Sl) (x1 : Pt) (x2 : Pt) (h : H) : Prop :=
 ldI .i64 x1 h fun n0 =>
 st1 x1 (.int .i64 (w64 (n0 + (1)))) h fun h1 =>
 ldI .i64 x1 h1 fun n2 =>
 bif (decide (n2 ≤ (4000))) then
 callS S i_impl_leastForm [.sl x0] h1 fun s4 h3 =>
 callI S .i64 i_impl_compareRows [.sl x0, .sl s4] h3 fun n6 h5 =>
 bif (n6 == (0)) then
 ldI .i64 x2 h5 fun n7 =>
 st1 x2 (.int .i64 (w64 (n7 + (1)))) h5 fun h8 =>
 ldI .i64 x1 h8 fun n9 =>
 K (.bool (decide (n9 ≤ (4000)))) h8
 else
 ldI .i64 x1 h5 fun n10 =>
 K (.bool (decide (n10 ≤ (4000)))) h5
 else
 ldI .i64 x1 h1 fun n11 =>
 K (.bool (decide (n11 ≤ (4000)))) h1
theorem impl_CountForms_2_main_link (S : SatT) (K : AVal → H → Prop) (x0 : Sl) (x1 : Pt) (x2 : Pt) (h : H) : cwp S tab impl_CountForms_2_M [] (bodyOf Try.f89) (kFun tab Try.f89.results.toList K) (fr0 Try.f89 [.sl x0, .ptr x1, .ptr x2]) h = impl_CountForms_2_main S K x0 x1 x2 h := by kernel_rfl
theorem impl_CountForms_2_call (x0 : Sl) (x1 : Pt) (x2 : Pt) (h : H) (K : Bool → H → Prop) (hm : impl_CountForms_2_main (Sat Try.prog) (fun v h' => ∃ r, v = .bool r ∧ K r h') x0 x1 x2 h) : callB (Sat Try.prog) i_impl_CountForms_2 [.sl x0, .ptr x1, .ptr x2] h K := by
  have := Sat.ex tok mixed impl_CountForms_2_M Try.func89 (c := bodyOf Try.f89) (by kernel_rfl) (calls_of Try.func89 (c := bodyOf Try.f89) (by kernel_rfl) (by decide)) ((impl_CountForms_2_main_link _ _ x0 x1 x2 h).mpr hm)
  obtain ⟨v, h2, h3, r, rfl, h4⟩ := this; exact ⟨r, h2, h3, h4⟩

/-! ### loop.example/g01354/impl.CountTori -/
def impl_CountTori_M : Nat → List Nat := fun i => []
def impl_CountTori_main (S : SatT) (K : AVal → H → Prop) (x0 : List AVal) (x1 : Int) (x2 : Int) (h : H) : Prop :=
 newK 2 x0 h fun p0 h1 =>
 newO [.int .i64 x1] h1 fun p2 h3 =>
 newO [.int .i64 x2] h3 fun p4 h5 =>
 ldA p0 2 h5 fun cs6 =>
 callI S .i64 i_impl_setCode [.agg cs6, .func 61 [.ptr p2, .ptr p4]] h5 fun n8 h7 =>
 bif (n8 != (0)) then
 K (.tuple [.int .i64 (0), .int .i64 n8]) h7
 else
 ldA p0 2 h7 fun cs9 =>
 ldI .i64 p2 h7 fun n10 =>
 ldI .i64 p4 h7 fun n11 =>
 callI S .i64 i_impl_Set_countTori [.agg cs9, .int .i64 n10, .int .i64 n11] h7 fun n13 h12 =>
 K (.tuple [.int .i64 n13, .int .i64 (0)]) h12
theorem impl_CountTori_main_link (S : SatT) (K : AVal → H → Prop) (x0 : List AVal) (x1 : Int) (x2 : Int) (h : H) : cwp S tab impl_CountTori_M [] (bodyOf Try.f21) (kFun tab Try.f21.results.toList K) (fr0 Try.f21 [.agg x0, .int .i64 x1, .int .i64 x2]) h = impl_CountTori_main S K x0 x1 x2 h := by kernel_rfl
theorem impl_CountTori_call (x0 : List AVal) (x1 : Int) (x2 : Int) (h : H) (K : AVal → H → Prop) (hm : impl_CountTori_main (Sat Try.prog) (fun v h' => K v h') x0 x1 x2 h) : callV (Sat Try.prog) i_impl_CountTori [.agg x0, .int .i64 x1, .int .i64 x2] h K := by
  have := Sat.ex tok mixed impl_CountTori_M Try.func21 (c := bodyOf Try.f21) (by kernel_rfl) (calls_of Try.func21 (c := bodyOf Try.f21) (by kernel_rfl) (by decide)) ((impl_CountTori_main_link _ _ x0 x1 x2 h).mpr hm)
  exact this

/-! ### (loop.example/g01354/impl.Set).countTori -/
def impl_Set_countTori_M : Nat → List Nat := fun i => []
def impl_Set_countTori_main (S : SatT) (K : AVal → H → Prop) (x0 : List AVal) (x1 : Int) (x2 : Int) (h : H) : Prop :=
 newK 2 x0 h fun p0 h1 =>
 newO [.int .i64 (0)] h1 fun p2 h3 =>
 st1 p2 (.int .i64 (0)) h3 fun h4 =>
 ldA p0 2 h4 fun cs5 =>
 callV S i_impl_Set_tori [.agg cs5, .int .i64 x1, .int .i64 x2, .func 105 [.ptr p2]] h4 fun v7 h6 =>
 ldI .i64 p2 h6 fun n8 =>
 K (.int .i64 n8) h6
theorem impl_Set_countTori_main_link (S : SatT) (K : AVal → H → Prop) (x0 : List AVal) (x1 : Int) (x2 : Int) (h : H) : cwp S tab impl_Set_countTori_M [] (bodyOf Try.f63) (kFun tab Try.f63.results.toList K) (fr0 Try.f63 [.agg x0, .int .i64 x1, .int .i64 x2]) h = impl_Set_countTori_main S K x0 x1 x2 h := by kernel_rfl
theorem impl_Set_countTori_call (x0 : List AVal) (x1 : Int) (x2 : Int) (h : H) (K : Int → H → Prop) (hm : impl_Set_countTori_main (Sat Try.prog) (fun v h' => ∃ r, v = .int .i64 r ∧ K r h') x0 x1 x2 h) : callI (Sat Try.prog) .i64 i_impl_Set_countTori [.agg x0, .int .i64 x1, .int .i64 x2] h K := by
  have := Sat.ex tok mixed impl_Set_countTori_M Try.func63 (c := bodyOf Try.f63) (by kernel_rfl) (calls_of Try.func63 (c := bodyOf Try.f63) (by kernel_rfl) (by decide)) ((impl_Set_countTori_main_link _ _ x0 x1 x2 h).mpr hm)
  obtain ⟨v, h2, h3, r, rfl, h4⟩ := this; exact ⟨r, h2, h3, h4⟩

/-! ### (loop.example/g01354/impl.Set).firstTorus -/
def impl_Set_firstTorus_M : Nat → List Nat := fun i => []
def impl_Set_firstTorus_main (S : SatT) (K : AVal → H → Prop) (x0 : List AVal) (x1 : Int) (x2 : Int) (h : H) : Prop :=
 newK 2 x0 h fun p0 h1 =>
 newO [.sl Sl.nil] h1 fun p2 h3 =>
 st1 p2 (.sl Sl.nil) h3 fun h4 =>
 ldA p0 2 h4 fun cs5 =>
 callV S i_impl_Set_tori [.agg cs5, .int .i64 x1, .int .i64 x2, .func 114 [.ptr p2]] h4 fun v7 h6 =>
 ldS p2 h6 fun s8 =>
 K (.sl s8) h6
theorem impl_Set_firstTorus_main_link (S : SatT) (K : AVal → H → Prop) (x0 : List AVal) (x1 : Int) (x2 : Int) (h : H) : cwp S tab impl_Set_firstTorus_M [] (bodyOf Try.f82) (kFun tab Try.f82.results.toList K) (fr0 Try.f82 [.agg x0, .int .i64 x1, .int .i64 x2]) h = impl_Set_firstTorus_main S K x0 x1 x2 h := by kernel_rfl
theorem impl_Set_firstTorus_call (x0 : List AVal) (x1 : Int) (x2 : Int) (h : H) (K : Sl → H → Prop) (hm : impl_Set_firstTorus_main (Sat Try.prog) (fun v h' => ∃ r, v = .sl r ∧ K r h') x0 x1 x2 h) : callS (Sat Try.prog) i_impl_Set_firstTorus [.agg x0, .int .i64 x1, .int .i64 x2] h K := by
  have := Sat.ex tok mixed impl_Set_firstTorus_M Try.func82 (c := bodyOf Try.f82) (by kernel_rfl) (calls_of Try.func82 (c := bodyOf Try.f82) (by kernel_rfl) (by decide)) ((impl_Set_firstTorus_main_link _ _ x0 x1 x2 h).mpr hm)
  obtain ⟨v, h2, h3, r, rfl, h4⟩ := this; exact ⟨r, h2, h3, h4⟩

/-! ### loop.example/g01354/laws.eqSet -/
def laws_eqSet_M : Nat → List Nat := fun i => []
def laws_eqSet_main (S : SatT) (K : AVal → H → Prop) (x0 : List AVal) (x1 : List AVal) (h : H) : Prop :=
 newK 2 x0 h fun p0 h1 =>
 newK 2 x1 h1 fun p2 h3 =>
 isPt p0 (
 ldI .i64 (Pt.add p0 0) h3 fun n4 =>
 isPt p2 (
 ldI .i64 (Pt.add p2 0) h3 fun n5 =>
 bif (n4 != n5) then
 K (.bool false) h3
 else
 isPt p0 (
 ldS (Pt.add p0 1) h3 fun s6 =>
 isPt p2 (
 ldS (Pt.add p2 1) h3 fun s7 =>
 callB S i_laws_eqTileS [.sl s6, .sl s7] h3 fun b9 h8 =>
 bif (!b9) then
 K (.bool false) h8
 else
 K (.bool true) h8))))
theorem laws_eqSet_main_link (S : SatT) (K : AVal → H → Prop) (x0 : List AVal) (x1 : List AVal) (h : H) : cwp S tab laws_eqSet_M [] (bodyOf Try.f19) (kFun tab Try.f19.results.toList K) (fr0 Try.f19 [.agg x0, .agg x1]) h = laws_eqSet_main S K x0 x1 h := by kernel_rfl
theorem laws_eqSet_call (x0 : List AVal) (x1 : List AVal) (h : H) (K : Bool → H → Prop) (hm : laws_eqSet_main (Sat Try.prog) (fun v h' => ∃ r, v = .bool r ∧ K r h') x0 x1 h) : callB (Sat Try.prog) i_laws_eqSet [.agg x0, .agg x1] h K := by
  have := Sat.ex tok mixed laws_eqSet_M Try.func19 (c := bodyOf Try.f19) (by kernel_rfl) (calls_of Try.func19 (c := bodyOf Try.f19) (by kernel_rfl) (by decide)) ((laws_eqSet_main_link _ _ x0 x1 h).mpr hm)
  obtain ⟨v, h2, h3, r, rfl, h4⟩ := this; exact ⟨r, h2, h3, h4⟩

/-! ### slices.ContainsFunc[[]int64,int64] -/
def slices_ContainsFunc_s_int64_int64__M : Nat → List Nat := fun i => []
def slices_ContainsFunc_s_int64_int64__main (S : SatT) (K : AVal → H → Prop) (x0 : Sl) (x1 : AVal) (h : H) : Prop :=
 callI S .i64 i_slices_IndexFunc_s_int64_int64_ [.sl x0, x1] h fun n1 h0 =>
 K (.bool (decide (n1 ≥ (0)))) h0
theorem slices_ContainsFunc_s_int64_int64__main_link (S : SatT) (K : AVal → H → Prop) (x0 : Sl) (x1 : AVal) (h : H) : cwp S tab slices_ContainsFunc_s_int64_int64__M [] (bodyOf Try.f124) (kFun tab Try.f124.results.toList K) (fr0 Try.f124 [.sl x0, x1]) h = slices_ContainsFunc_s_int64_int64__main S K x0 x1 h := by kernel_rfl
theorem slices_ContainsFunc_s_int64_int64__call (x0 : Sl) (x1 : AVal) (h : H) (K : Bool → H → Prop) (hm : slices_ContainsFunc_s_int64_int64__main (Sat Try.prog) (fun v h' => ∃ r, v = .bool r ∧ K r h') x0 x1 h) : callB (Sat Try.prog) i_slices_ContainsFunc_s_int64_int64_ [.sl x0, x1] h K := by
  have := Sat.ex tok mixed slices_ContainsFunc_s_int64_int64__M Try.func124 (c := bodyOf Try.f124) (by kernel_rfl) (calls_of Try.func124 (c := bodyOf Try.f124) (by kernel_rfl) (by decide)) ((slices_ContainsFunc_s_int64_int64__main_link _ _ x0 x1 h).mpr hm)
  obtain ⟨v, h2, h3, r, rfl, h4⟩ := this; exact ⟨r, h2, h3, h4⟩

/-! ### (loop.example/g01354/impl.Set).isNumber -/
def impl_Set_isNumber_M : Nat → List Nat := fun i => []
def impl_Set_isNumber_main (S : SatT) (K : AVal → H → Prop) (x0 : List AVal) (x1 : Int) (h : H) : Prop :=
 newK 2 x0 h fun p0 h1 =>
 isPt p0 (
 ldS (Pt.add p0 1) h1 fun s2 =>
 callB S i_impl_within [.int .i64 x1, .int .i64 (0), .int .i64 (w64 ((s2.len : Int) - (1)))] h1 fun b4 h3 =>
 K (.bool b4) h3)
theorem impl_Set_isNumber_main_link (S : SatT) (K : AVal → H → Prop) (x0 : List AVal) (x1 : Int) (h : H) : cwp S tab impl_Set_isNumber_M [] (bodyOf Try.f106) (kFun tab Try.f106.results.toList K) (fr0 Try.f106 [.agg x0, .int .i64 x1]) h = impl_Set_isNumber_main S K x0 x1 h := by kernel_rfl
theorem impl_Set_isNumber_call (x0 : List AVal) (x1 : Int) (h : H) (K : Bool → H → Prop) (hm : impl_Set_isNumber_main (Sat Try.prog) (fun v h' => ∃ r, v = .bool r ∧ K r h') x0 x1 h) : callB (Sat Try.prog) i_impl_Set_isNumber [.agg x0, .int .i64 x1] h K := by
  have := Sat.ex tok mixed impl_Set_isNumber_M Try.func106 (c := bodyOf Try.f106) (by kernel_rfl) (calls_of Try.func106 (c := bodyOf Try.f106) (by kernel_rfl) (by decide)) ((impl_Set_isNumber_main_link _ _ x0 x1 h).mpr hm)
  obtain ⟨v, h2, h3, r, rfl, h4⟩ := this; exact ⟨r, h2, h3, h4⟩

/-! ### loop.example/g01354/impl.ShiftsKept -/
def impl_ShiftsKept_M : Nat → List Nat := fun i => []
def impl_ShiftsKept_main (S : SatT) (K : AVal → H → Prop) (x0 : List AVal) (x1 : Sl) (h : H) : Prop :=
 newK 2 x0 h fun p0 h1 =>
 ldA p0 2 h1 fun cs2 =>
 callI S .i64 i_impl_torusCode [.agg cs2, .sl x1] h1 fun n4 h3 =>
 bif (n4 != (0)) then
 K (.tuple [.sl Sl.nil, .int .i64 n4]) h3
 else
 callS S i_impl_keeping [.sl x1] h3 fun s6 h5 =>
 K (.tuple [.sl s6, .int .i64 (0)]) h5
theorem impl_ShiftsKept_main_link (S : SatT) (K : AVal → H → Prop) (x0 : List AVal) (x1 : Sl) (h : H) : cwp S tab impl_ShiftsKept_M [] (bodyOf Try.f47) (kFun tab Try.f47.results.toList K) (fr0 Try.f47 [.agg x0, .sl x1]) h = impl_ShiftsKept_main S K x0 x1 h := by kernel_rfl
theorem impl_ShiftsKept_call (x0 : List AVal) (x1 : Sl) (h : H) (K : AVal → H → Prop) (hm : impl_ShiftsKept_main (Sat Try.prog) (fun v h' => K v h') x0 x1 h) : callV (Sat Try.prog) i_impl_ShiftsKept [.agg x0, .sl x1] h K := by
  have := Sat.ex tok mixed impl_ShiftsKept_M Try.func47 (c := bodyOf Try.f47) (by kernel_rfl) (calls_of Try.func47 (c := bodyOf Try.f47) (by kernel_rfl) (by decide)) ((impl_ShiftsKept_main_link _ _ x0 x1 h).mpr hm)
  exact this

/-! ### loop.example/g01354/spec.LeastForm -/
def spec_LeastForm_M : Nat → List Nat := fun i => []
def spec_LeastForm_main (S : SatT) (K : AVal → H → Prop) (x0 : List AVal) (x1 : Sl) (h : H) : Prop :=
 newK 2 x0 h fun p0 h1 =>
 ldA p0 2 h1 fun cs2 =>
 callI S .i64 i_spec_l05Given [.agg cs2, .sl x1] h1 fun n4 h3 =>
 bif (n4 != (0)) then
 K (.tuple [.sl Sl.nil, .int .i64 n4]) h3
 else
 callS S i_spec_l05Least [.sl x1] h3 fun s6 h5 =>
 K (.tuple [.sl s6, .int .i64 (0)]) h5
theorem spec_LeastForm_main_link (S : SatT) (K : AVal → H → Prop) (x0 : List AVal) (x1 : Sl) (h : H) : cwp S tab spec_LeastForm_M [] (bodyOf Try.f44) (kFun tab Try.f44.results.toList K) (fr0 Try.f44 [.agg x0, .sl x1]) h = spec_LeastForm_main S K x0 x1 h := by kernel_rfl
theorem spec_LeastForm_call (x0 : List AVal) (x1 : Sl) (h : H) (K : AVal → H → Prop) (hm : spec_LeastForm_main (Sat Try.prog) (fun v h' => K v h') x0 x1 h) : callV (Sat Try.prog) i_spec_LeastForm [.agg x0, .sl x1] h K := by
  have := Sat.ex tok mixed spec_LeastForm_M Try.func44 (c := bodyOf Try.f44) (by kernel_rfl) (calls_of Try.func44 (c := bodyOf Try.f44) (by kernel_rfl) (by decide)) ((spec_LeastForm_main_link _ _ x0 x1 h).mpr hm)
  exact this

/-! ### loop.example/g01354/laws.markSet -/
def laws_markSet_M : Nat → List Nat := fun i => []
def laws_markSet_main (S : SatT) (K : AVal → H → Prop) (x0 : List AVal) (x1 : Int) (h : H) : Prop :=
 newK 2 x0 h fun p0 h1 =>
 isPt p0 (
 ldS (Pt.add p0 1) h1 fun s2 =>
 callI S .i64 i_laws_markTileS [.sl s2, .int .i64 x1] h1 fun n4 h3 =>
 K (.int .i64 n4) h3)
theorem laws_markSet_main_link (S : SatT) (K : AVal → H → Prop) (x0 : List AVal) (x1 : Int) (h : H) : cwp S tab laws_markSet_M [] (bodyOf Try.f31) (kFun tab Try.f31.results.toList K) (fr0 Try.f31 [.agg x0, .int .i64 x1]) h = laws_markSet_main S K x0 x1 h := by kernel_rfl
theorem laws_markSet_call (x0 : List AVal) (x1 : Int) (h : H) (K : Int → H → Prop) (hm : laws_markSet_main (Sat Try.prog) (fun v h' => ∃ r, v = .int .i64 r ∧ K r h') x0 x1 h) : callI (Sat Try.prog) .i64 i_laws_markSet [.agg x0, .int .i64 x1] h K := by
  have := Sat.ex tok mixed laws_markSet_M Try.func31 (c := bodyOf Try.f31) (by kernel_rfl) (calls_of Try.func31 (c := bodyOf Try.f31) (by kernel_rfl) (by decide)) ((laws_markSet_main_link _ _ x0 x1 h).mpr hm)
  obtain ⟨v, h2, h3, r, rfl, h4⟩ := this; exact ⟨r, h2, h3, h4⟩

/-! ### (loop.example/g01354/impl.Set).countTori$1 -/
def impl_Set_countTori_1_M : Nat → List Nat := fun i => []
def impl_Set_countTori_1_main (S : SatT) (K : AVal → H → Prop) (x0 : Sl) (x1 : Pt) (h : H) : Prop :=
 ldI .i64 x1 h fun n0 =>
 st1 x1 (.int .i64 (w64 (n0 + (1)))) h fun h1 =>
 K (.bool true) h1
theorem impl_Set_countTori_1_main_link (S : SatT) (K : AVal → H → Prop) (x0 : Sl) (x1 : Pt) (h : H) : cwp S tab impl_Set_countTori_1_M [] (bodyOf Try.f105) (kFun tab Try.f105.results.toList K) (fr0 Try.f105 [.sl x0, .ptr x1]) h = impl_Set_countTori_1_main S K x0 x1 h := by kernel_rfl
theorem impl_Set_countTori_1_call (x0 : Sl) (x1 : Pt) (h : H) (K : Bool → H → Prop) (hm : impl_Set_countTori_1_main (Sat Try.prog) (fun v h' => ∃ r, v = .bool r ∧ K r h') x0 x1 h) : callB (Sat Try.prog) i_impl_Set_countTori_1 [.sl x0, .ptr x1] h K := by
  have := Sat.ex tok mixed impl_Set_countTori_1_M Try.func105 (c := bodyOf Try.f105) (by kernel_rfl) (calls_of Try.func105 (c := bodyOf Try.f105) (by kernel_rfl) (by decide)) ((impl_Set_countTori_1_main_link _ _ x0 x1 h).mpr hm)
  obtain ⟨v, h2, h3, r, rfl, h4⟩ := this; exact ⟨r, h2, h3, h4⟩

/-! ### loop.example/g01354/impl.compareRows$1 -/
def impl_compareRows_1_M : Nat → List Nat := fun i => []
def impl_compareRows_1_main (S : SatT) (K : AVal → H → Prop) (x0 : Sl) (x1 : Sl) (h : H) : Prop :=
 callI S .i64 i_slices_Compare_s_int64_int64_ [.sl x0, .sl x1] h fun n1 h0 =>
 K (.int .i64 n1) h0
theorem impl_compareRows_1_main_link (S : SatT) (K : AVal → H → Prop) (x0 : Sl) (x1 : Sl) (h : H) : cwp S tab impl_compareRows_1_M [] (bodyOf Try.f118) (kFun tab Try.f118.results.toList K) (fr0 Try.f118 [.sl x0, .sl x1]) h = impl_compareRows_1_main S K x0 x1 h := by kernel_rfl
theorem impl_compareRows_1_call (x0 : Sl) (x1 : Sl) (h : H) (K : Int → H → Prop) (hm : impl_compareRows_1_main (Sat Try.prog) (fun v h' => ∃ r, v = .int .i64 r ∧ K r h') x0 x1 h) : callI (Sat Try.prog) .i64 i_impl_compareRows_1 [.sl x0, .sl x1] h K := by
  have := Sat.ex tok mixed impl_compareRows_1_M Try.func118 (c := bodyOf Try.f118) (by kernel_rfl) (calls_of Try.func118 (c := bodyOf Try.f118) (by kernel_rfl) (by decide)) ((impl_compareRows_1_main_link _ _ x0 x1 h).mpr hm)
  obtain ⟨v, h2, h3, r, rfl, h4⟩ := this; exact ⟨r, h2, h3, h4⟩

/-! ### loop.example/g01354/spec.l01In -/
def spec_l01In_M : Nat → List Nat := fun i => []
def spec_l01In_main (S : SatT) (K : AVal → H → Prop) (x0 : Int) (x1 : Int) (x2 : Int) (h : H) : Prop :=
 bif (decide (x0 ≥ x1)) then
 K (.bool (decide (x0 ≤ x2))) h
 else
 K (.bool false) h
theorem spec_l01In_main_link (S : SatT) (K : AVal → H → Prop) (x0 : Int) (x1 : Int) (x2 : Int) (h : H) : cwp S tab spec_l01In_M [] (bodyOf Try.f92) (kFun tab Try.f92.results.toList K) (fr0 Try.f92 [.int .i64 x0, .int .i64 x1, .int .i64 x2]) h = spec_l01In_main S K x0 x1 x2 h := by kernel_rfl
theorem spec_l01In_call (x0 : Int) (x1 : Int) (x2 : Int) (h : H) (K : Bool → H → Prop) (hm : spec_l01In_main (Sat Try.prog) (fun v h' => ∃ r, v = .bool r ∧ K r h') x0 x1 x2 h) : callB (Sat Try.prog) i_spec_l01In [.int .i64 x0, .int .i64 x1, .int .i64 x2] h K := by
  have := Sat.ex tok mixed spec_l01In_M Try.func92 (c := bodyOf Try.f92) (by kernel_rfl) (calls_of Try.func92 (c := bodyOf Try.f92) (by kernel_rfl) (by decide)) ((spec_l01In_main_link _ _ x0 x1 x2 h).mpr hm)
  obtain ⟨v, h2, h3, r, rfl, h4⟩ := this; exact ⟨r, h2, h3, h4⟩

/-! ### loop.example/g01354/laws.szTileS -/
def laws_szTileS_M : Nat → List Nat := fun i => []
def laws_szTileS_main (S : SatT) (K : AVal → H → Prop) (x0 : Sl) (x1 : Int) (h : H) : Prop :=
 bif (decide ((w64 (x1 - (x0.len : Int))) < (0))) then
 K (.int .i64 (-1)) h
 else
 K (.int .i64 (w64 (x1 - (x0.len : Int)))) h
theorem laws_szTileS_main_link (S : SatT) (K : AVal → H → Prop) (x0 : Sl) (x1 : Int) (h : H) : cwp S tab laws_szTileS_M [] (bodyOf Try.f48) (kFun tab Try.f48.results.toList K) (fr0 Try.f48 [.sl x0, .int .i64 x1]) h = laws_szTileS_main S K x0 x1 h := by kernel_rfl
theorem laws_szTileS_call (x0 : Sl) (x1 : Int) (h : H) (K : Int → H → Prop) (hm : laws_szTileS_main (Sat Try.prog) (fun v h' => ∃ r, v = .int .i64 r ∧ K r h') x0 x1 h) : callI (Sat Try.prog) .i64 i_laws_szTileS [.sl x0, .int .i64 x1] h K := by
  have := Sat.ex tok mixed laws_szTileS_M Try.func48 (c := bodyOf Try.f48) (by kernel_rfl) (calls_of Try.func48 (c := bodyOf Try.f48) (by kernel_rfl) (by decide)) ((laws_szTileS_main_link _ _ x0 x1 h).mpr hm)
  obtain ⟨v, h2, h3, r, rfl, h4⟩ := this; exact ⟨r, h2, h3, h4⟩

/-! ### gosem.cut.init -/
def gosem_cut_init_M : Nat → List Nat := fun i => []
def gosem_cut_init_main (S : SatT) (K : AVal → H → Prop) (h : H) : Prop :=
 callV S i_gosem_cut [] h fun v1 h0 =>
 K (.tuple []) h0
theorem gosem_cut_init_main_link (S : SatT) (K : AVal → H → Prop) (h : H) : cwp S tab gosem_cut_init_M [] (bodyOf Try.f2) (kFun tab Try.f2.results.toList K) (fr0 Try.f2 []) h = gosem_cut_init_main S K h := by kernel_rfl
theorem gosem_cut_init_call (h : H) (K : AVal → H → Prop) (hm : gosem_cut_init_main (Sat Try.prog) (fun v h' => K v h') h) : callV (Sat Try.prog) i_gosem_cut_init [] h K := by
  have := Sat.ex tok mixed gosem_cut_init_M Try.func2 (c := bodyOf Try.f2) (by kernel_rfl) (calls_of Try.func2 (c := bodyOf Try.f2) (by kernel_rfl) (by decide)) ((gosem_cut_init_main_link _ _ h).mpr hm)
  exact this

end Go.Proofs.Ytfmjjpophipfbaa.Cl
