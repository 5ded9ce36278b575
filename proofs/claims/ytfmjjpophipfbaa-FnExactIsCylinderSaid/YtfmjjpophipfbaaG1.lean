/- Typed forms of functions of the program, and their links. Printed by program. No claim is stated here. -/
import Derived.Test.YtfmjjpophipfbaaGTab
set_option linter.unusedVariables false
namespace Go.Proofs.Ytfmjjpophipfbaa.Cl
open Go
/-! ### loop.example/g01354/spec.l05First -/
def spec_l05First_M : Nat → List Nat := fun i => bif i == 4 then [3, 8, 9, 10, 11, 13, 14, 15, 16, 17, 18] else bif i == 2 then [3, 8, 9, 10, 11, 13, 14, 15, 16] else bif i == 0 then [1, 3, 8, 9, 10, 11, 12] else []
def spec_l05First_ks3 (S : SatT) (K : AVal → H → Prop) : Kont := kSeq (cwp S tab spec_l05First_M [] (sub [1, 1, 1, 1] (bodyOf Try.f81)) (kFun tab (Try.f81).results.toList K)) (kFun tab (Try.f81).results.toList K)
def spec_l05First_e0 (i1_ : Int) (p3_ : Pt) (s8_ : Sl) (s9_ : Sl) (s10_ : Sl) (i11_ : Int) (i12_ : Int) : Frame := [U, .int .i64 i1_, U, .ptr p3_, U, U, U, U, .sl s8_, .sl s9_, .sl s10_, .int .i64 i11_, .int .i64 i12_, U, U, U, U, U, U, U, U, U, U, U, U, U, U, U, U, U, U, U, U, U, U, U, U, U, U, U, U, U, U, U, U, U, U, U, U, U, U, U, U, U, U, U, U, U, U, U, U, U, U, U, U, U, U, U, U, U, U, U, U, U, U, U, U, U, U, U, U, U, U, U, U, U, U, U, U, U, U, U, U, U, U, U, U, U, U, U, U, U, U, U, U, U, U, U, U, U, U, U, U, U, U, U]
def spec_l05First_w0 (S : SatT) (K : AVal → H → Prop) : (Frame → H → Prop) → Frame → H → Prop := fun X fr h => cwp S tab spec_l05First_M (spec_l05First_M 0) (sub [1, 1, 1, 0, 1, 0, 0] (bodyOf Try.f81)) (kSeq (fun fr h => X (mask (spec_l05First_M 0) fr) h) (kBlk 0 (spec_l05First_ks3 S K))) fr h
def spec_l05First_L0 (S : SatT) (K : AVal → H → Prop) (i1_ : Int) (p3_ : Pt) (s8_ : Sl) (s9_ : Sl) (s10_ : Sl) (i11_ : Int) (i12_ : Int) (h : H) : Prop := loopK (spec_l05First_w0 S K) (spec_l05First_e0 i1_ p3_ s8_ s9_ s10_ i11_ i12_) h
def spec_l05First_C1 (S : SatT) (K : AVal → H → Prop) (X0 : Frame → H → Prop) (i1_ : Int) (p3_ : Pt) (s8_ : Sl) (s9_ : Sl) (s10_ : Sl) (i11_ : Int) (i12_ : Int) (h : H) : Prop :=
 X0 (spec_l05First_e0 i1_ p3_ s8_ s9_ s10_ i11_ (w64 (i12_ + (1)))) h
def spec_l05First_ks7 (S : SatT) (K : AVal → H → Prop) (X0 : Frame → H → Prop) : Kont := kSeq (cwp S tab spec_l05First_M (spec_l05First_M 0) (sub [1, 1, 1, 0, 1, 0, 0, 1, 1] (bodyOf Try.f81)) (kSeq (fun fr h => X0 (mask (spec_l05First_M 0) fr) h) (kBlk 0 (spec_l05First_ks3 S K)))) (kSeq (fun fr h => X0 (mask (spec_l05First_M 0) fr) h) (kBlk 0 (spec_l05First_ks3 S K)))
def spec_l05First_ks13 (S : SatT) (K : AVal → H → Prop) (X0 : Frame → H → Prop) : Kont := kSeq (cwp S tab spec_l05First_M (spec_l05First_M 1) (sub [1, 1, 1, 0, 1, 0, 0, 1, 0, 0, 1, 1, 1, 1, 1] (bodyOf Try.f81)) (kBlk 1 (spec_l05First_ks7 S K X0))) (kBlk 1 (spec_l05First_ks7 S K X0))
def spec_l05First_e2 (p3_ : Pt) (s8_ : Sl) (s9_ : Sl) (s10_ : Sl) (i11_ : Int) (i13_ : Int) (s14_ : Sl) (i15_ : Int) (i16_ : Int) : Frame := [U, U, U, .ptr p3_, U, U, U, U, .sl s8_, .sl s9_, .sl s10_, .int .i64 i11_, U, .int .i64 i13_, .sl s14_, .int .i64 i15_, .int .i64 i16_, U, U, U, U, U, U, U, U, U, U, U, U, U, U, U, U, U, U, U, U, U, U, U, U, U, U, U, U, U, U, U, U, U, U, U, U, U, U, U, U, U, U, U, U, U, U, U, U, U, U, U, U, U, U, U, U, U, U, U, U, U, U, U, U, U, U, U, U, U, U, U, U, U, U, U, U, U, U, U, U, U, U, U, U, U, U, U, U, U, U, U, U, U, U, U, U, U, U, U]
def spec_l05First_w2 (S : SatT) (K : AVal → H → Prop) (X0 : Frame → H → Prop) : (Frame → H → Prop) → Frame → H → Prop := fun X fr h => cwp S tab spec_l05First_M (spec_l05First_M 2) (sub [1, 1, 1, 0, 1, 0, 0, 1, 0, 0, 1, 1, 1, 1, 0, 1, 0, 0] (bodyOf Try.f81)) (kSeq (fun fr h => X (mask (spec_l05First_M 2) fr) h) (kBlk 2 (spec_l05First_ks13 S K X0))) fr h
def spec_l05First_L2 (S : SatT) (K : AVal → H → Prop) (X0 : Frame → H → Prop) (p3_ : Pt) (s8_ : Sl) (s9_ : Sl) (s10_ : Sl) (i11_ : Int) (i13_ : Int) (s14_ : Sl) (i15_ : Int) (i16_ : Int) (h : H) : Prop := loopK (spec_l05First_w2 S K X0) (spec_l05First_e2 p3_ s8_ s9_ s10_ i11_ i13_ s14_ i15_ i16_) h
def spec_l05First_ks17 (S : SatT) (K : AVal → H → Prop) (X0 : Frame → H → Prop) (X2 : Frame → H → Prop) : Kont := kSeq (cwp S tab spec_l05First_M (spec_l05First_M 2) (sub [1, 1, 1, 0, 1, 0, 0, 1, 0, 0, 1, 1, 1, 1, 0, 1, 0, 0, 1, 1] (bodyOf Try.f81)) (kSeq (fun fr h => X2 (mask (spec_l05First_M 2) fr) h) (kBlk 2 (spec_l05First_ks13 S K X0)))) (kSeq (fun fr h => X2 (mask (spec_l05First_M 2) fr) h) (kBlk 2 (spec_l05First_ks13 S K X0)))
def spec_l05First_e4 (p3_ : Pt) (s8_ : Sl) (s9_ : Sl) (s10_ : Sl) (i11_ : Int) (i13_ : Int) (s14_ : Sl) (i15_ : Int) (i16_ : Int) (s17_ : Sl) (i18_ : Int) : Frame := [U, U, U, .ptr p3_, U, U, U, U, .sl s8_, .sl s9_, .sl s10_, .int .i64 i11_, U, .int .i64 i13_, .sl s14_, .int .i64 i15_, .int .i64 i16_, .sl s17_, .int .i64 i18_, U, U, U, U, U, U, U, U, U, U, U, U, U, U, U, U, U, U, U, U, U, U, U, U, U, U, U, U, U, U, U, U, U, U, U, U, U, U, U, U, U, U, U, U, U, U, U, U, U, U, U, U, U, U, U, U, U, U, U, U, U, U, U, U, U, U, U, U, U, U, U, U, U, U, U, U, U, U, U, U, U, U, U, U, U, U, U, U, U, U, U, U, U, U, U, U, U]
def spec_l05First_w4 (S : SatT) (K : AVal → H → Prop) (X0 : Frame → H → Prop) (X2 : Frame → H → Prop) : (Frame → H → Prop) → Frame → H → Prop := fun X fr h => cwp S tab spec_l05First_M (spec_l05First_M 4) (sub [1, 1, 1, 0, 1, 0, 0, 1, 0, 0, 1, 1, 1, 1, 0, 1, 0, 0, 1, 0, 0, 1, 1, 0, 0] (bodyOf Try.f81)) (kSeq (fun fr h => X (mask (spec_l05First_M 4) fr) h) (kBlk 4 (kBlk 3 (spec_l05First_ks17 S K X0 X2)))) fr h
def spec_l05First_L4 (S : SatT) (K : AVal → H → Prop) (X0 : Frame → H → Prop) (X2 : Frame → H → Prop) (p3_ : Pt) (s8_ : Sl) (s9_ : Sl) (s10_ : Sl) (i11_ : Int) (i13_ : Int) (s14_ : Sl) (i15_ : Int) (i16_ : Int) (s17_ : Sl) (i18_ : Int) (h : H) : Prop := loopK (spec_l05First_w4 S K X0 X2) (spec_l05First_e4 p3_ s8_ s9_ s10_ i11_ i13_ s14_ i15_ i16_ s17_ i18_) h
def spec_l05First_C3 (S : SatT) (K : AVal → H → Prop) (X0 : Frame → H → Prop) (X2 : Frame → H → Prop) (p3_ : Pt) (s8_ : Sl) (s9_ : Sl) (s10_ : Sl) (i11_ : Int) (i13_ : Int) (s14_ : Sl) (i15_ : Int) (i16_ : Int) (h : H) : Prop :=
 X2 (spec_l05First_e2 p3_ s8_ s9_ s10_ i11_ i13_ s14_ i15_ (w64 (i16_ - (1)))) h
def spec_l05First_C4 (S : SatT) (K : AVal → H → Prop) (X0 : Frame → H → Prop) (X2 : Frame → H → Prop) (p3_ : Pt) (s8_ : Sl) (s9_ : Sl) (s10_ : Sl) (i11_ : Int) (i13_ : Int) (s14_ : Sl) (i15_ : Int) (i16_ : Int) (h : H) : Prop :=
 spec_l05First_C3 S K X0 X2 p3_ s8_ s9_ s10_ i11_ i13_ s14_ i15_ i16_ h
def spec_l05First_b4 (S : SatT) (K : AVal → H → Prop) (X0 : Frame → H → Prop) (X2 : Frame → H → Prop) (X4 : Frame → H → Prop) (p3_ : Pt) (s8_ : Sl) (s9_ : Sl) (s10_ : Sl) (i11_ : Int) (i13_ : Int) (s14_ : Sl) (i15_ : Int) (i16_ : Int) (s17_ : Sl) (i18_ : Int) (h : H) : Prop :=
 bif (decide (i18_ < (s8_.len : Int))) then
 ixS s9_ 1 i18_ fun p0 =>
 ldI .i64 p0 h fun n1 =>
 bif (n1 == i15_) then
 ixS s10_ 1 i18_ fun p2 =>
 ldI .i64 p2 h fun n3 =>
 ixS s17_ 1 n3 fun p4 =>
 ldI .i64 p4 h fun n5 =>
 bif (decide (n5 > (0))) then
 ixS s8_ 1 i18_ fun p6 =>
 ldS p6 h fun s7 =>
 callS S i_spec_l01Own [.sl s7] h fun s9 h8 =>
 newS 1 1 [.sl s9] h8 fun s10 h11 =>
 app s14_ s10 1 h11 fun s12 h13 =>
 ixS s10_ 1 i18_ fun p14 =>
 ldI .i64 p14 h13 fun n15 =>
 spec_l05First_C4 S K X0 X2 p3_ s8_ s9_ s10_ i11_ i13_ s12 n15 i16_ h13
 else
 X4 (spec_l05First_e4 p3_ s8_ s9_ s10_ i11_ i13_ s14_ i15_ i16_ s17_ (w64 (i18_ + (1)))) h
 else
 X4 (spec_l05First_e4 p3_ s8_ s9_ s10_ i11_ i13_ s14_ i15_ i16_ s17_ (w64 (i18_ + (1)))) h
 else
 spec_l05First_C4 S K X0 X2 p3_ s8_ s9_ s10_ i11_ i13_ s14_ i15_ i16_ h
theorem spec_l05First_link4 (S : SatT) (K : AVal → H → Prop) (X0 : Frame → H → Prop) (X2 : Frame → H → Prop) (X4 : Frame → H → Prop) (p3_ : Pt) (s8_ : Sl) (s9_ : Sl) (s10_ : Sl) (i11_ : Int) (i13_ : Int) (s14_ : Sl) (i15_ : Int) (i16_ : Int) (s17_ : Sl) (i18_ : Int) (h : H) : spec_l05First_w4 S K X0 X2 X4 (spec_l05First_e4 p3_ s8_ s9_ s10_ i11_ i13_ s14_ i15_ i16_ s17_ i18_) h = spec_l05First_b4 S K X0 X2 X4 p3_ s8_ s9_ s10_ i11_ i13_ s14_ i15_ i16_ s17_ i18_ h := by kernel_rfl
theorem spec_l05First_rule4 (S : SatT) (K : AVal → H → Prop) (X0 : Frame → H → Prop) (X2 : Frame → H → Prop) (p3_ : Pt) (s8_ : Sl) (s9_ : Sl) (s10_ : Sl) (i11_ : Int) (i13_ : Int) (i16_ : Int) (s17_ : Sl) (I_ : Sl → Int → Int → H → Prop) (m_ : Sl → Int → Int → H → Nat)
    (hs : ∀ (X4 : Frame → H → Prop) (s14_ : Sl) (i15_ : Int) (i18_ : Int) (h : H), I_ s14_ i15_ i18_ h → (∀ (s14_' : Sl) (i15_' : Int) (i18_' : Int) (h' : H), I_ s14_' i15_' i18_' h' → m_ s14_' i15_' i18_' h' < m_ s14_ i15_ i18_ h → X4 (spec_l05First_e4 p3_ s8_ s9_ s10_ i11_ i13_ s14_' i15_' i16_ s17_ i18_') h') → spec_l05First_b4 S K X0 X2 X4 p3_ s8_ s9_ s10_ i11_ i13_ s14_ i15_ i16_ s17_ i18_ h) (s14_ : Sl) (i15_ : Int) (i18_ : Int) {h : H} (h0 : I_ s14_ i15_ i18_ h) : spec_l05First_L4 S K X0 X2 p3_ s8_ s9_ s10_ i11_ i13_ s14_ i15_ i16_ s17_ i18_ h :=
  loop_rule (σ := (Sl) × (Int) × (Int)) (fun s_ => spec_l05First_e4 p3_ s8_ s9_ s10_ i11_ i13_ (s_.1) (s_.2.1) i16_ s17_ (s_.2.2)) (fun s_ h => I_ (s_.1) (s_.2.1) (s_.2.2) h) (fun s_ h => m_ (s_.1) (s_.2.1) (s_.2.2) h)
    (fun X s_ h hi hx => (spec_l05First_link4 S K X0 X2 X p3_ s8_ s9_ s10_ i11_ i13_ (s_.1) (s_.2.1) i16_ s17_ (s_.2.2) h).mpr (hs X (s_.1) (s_.2.1) (s_.2.2) h hi fun s14_' i15_' i18_' h' hi' hm' => hx (s14_', i15_', i18_') h' hi' hm')) (s14_, i15_, i18_) h0
theorem spec_l05First_unroll4 (S : SatT) (K : AVal → H → Prop) (X0 : Frame → H → Prop) (X2 : Frame → H → Prop) (p3_ : Pt) (s8_ : Sl) (s9_ : Sl) (s10_ : Sl) (i11_ : Int) (i13_ : Int) (s14_ : Sl) (i15_ : Int) (i16_ : Int) (s17_ : Sl) (i18_ : Int) (h : H) (hb : spec_l05First_b4 S K X0 X2 (fun fr h => loopK (spec_l05First_w4 S K X0 X2) fr h) p3_ s8_ s9_ s10_ i11_ i13_ s14_ i15_ i16_ s17_ i18_ h) : spec_l05First_L4 S K X0 X2 p3_ s8_ s9_ s10_ i11_ i13_ s14_ i15_ i16_ s17_ i18_ h := loop_unroll ((spec_l05First_link4 S K X0 X2 _ p3_ s8_ s9_ s10_ i11_ i13_ s14_ i15_ i16_ s17_ i18_ h).mpr hb)
def spec_l05First_C2 (S : SatT) (K : AVal → H → Prop) (X0 : Frame → H → Prop) (s14_ : Sl) (h : H) : Prop :=
 K (.tuple [.sl s14_, .bool true]) h
def spec_l05First_b2 (S : SatT) (K : AVal → H → Prop) (X0 : Frame → H → Prop) (X2 : Frame → H → Prop) (p3_ : Pt) (s8_ : Sl) (s9_ : Sl) (s10_ : Sl) (i11_ : Int) (i13_ : Int) (s14_ : Sl) (i15_ : Int) (i16_ : Int) (h : H) : Prop :=
 bif (decide (i16_ ≥ (0))) then
 ldA p3_ 2 h fun cs0 =>
 callS S i_spec_l05Paths [.agg cs0, .sl s9_, .sl s10_, .int .i64 i11_, .int .i64 i16_, .int .i64 i13_] h fun s2 h1 =>
 spec_l05First_L4 S K X0 X2 p3_ s8_ s9_ s10_ i11_ i13_ s14_ i15_ i16_ s2 (0) h1
 else
 spec_l05First_C2 S K X0 s14_ h
theorem spec_l05First_link2 (S : SatT) (K : AVal → H → Prop) (X0 : Frame → H → Prop) (X2 : Frame → H → Prop) (p3_ : Pt) (s8_ : Sl) (s9_ : Sl) (s10_ : Sl) (i11_ : Int) (i13_ : Int) (s14_ : Sl) (i15_ : Int) (i16_ : Int) (h : H) : spec_l05First_w2 S K X0 X2 (spec_l05First_e2 p3_ s8_ s9_ s10_ i11_ i13_ s14_ i15_ i16_) h = spec_l05First_b2 S K X0 X2 p3_ s8_ s9_ s10_ i11_ i13_ s14_ i15_ i16_ h := by kernel_rfl
theorem spec_l05First_rule2 (S : SatT) (K : AVal → H → Prop) (X0 : Frame → H → Prop) (p3_ : Pt) (s8_ : Sl) (s9_ : Sl) (s10_ : Sl) (i11_ : Int) (i13_ : Int) (I_ : Sl → Int → Int → H → Prop) (m_ : Sl → Int → Int → H → Nat)
    (hs : ∀ (X2 : Frame → H → Prop) (s14_ : Sl) (i15_ : Int) (i16_ : Int) (h : H), I_ s14_ i15_ i16_ h → (∀ (s14_' : Sl) (i15_' : Int) (i16_' : Int) (h' : H), I_ s14_' i15_' i16_' h' → m_ s14_' i15_' i16_' h' < m_ s14_ i15_ i16_ h → X2 (spec_l05First_e2 p3_ s8_ s9_ s10_ i11_ i13_ s14_' i15_' i16_') h') → spec_l05First_b2 S K X0 X2 p3_ s8_ s9_ s10_ i11_ i13_ s14_ i15_ i16_ h) (s14_ : Sl) (i15_ : Int) (i16_ : Int) {h : H} (h0 : I_ s14_ i15_ i16_ h) : spec_l05First_L2 S K X0 p3_ s8_ s9_ s10_ i11_ i13_ s14_ i15_ i16_ h :=
  loop_rule (σ := (Sl) × (Int) × (Int)) (fun s_ => spec_l05First_e2 p3_ s8_ s9_ s10_ i11_ i13_ (s_.1) (s_.2.1) (s_.2.2)) (fun s_ h => I_ (s_.1) (s_.2.1) (s_.2.2) h) (fun s_ h => m_ (s_.1) (s_.2.1) (s_.2.2) h)
    (fun X s_ h hi hx => (spec_l05First_link2 S K X0 X p3_ s8_ s9_ s10_ i11_ i13_ (s_.1) (s_.2.1) (s_.2.2) h).mpr (hs X (s_.1) (s_.2.1) (s_.2.2) h hi fun s14_' i15_' i16_' h' hi' hm' => hx (s14_', i15_', i16_') h' hi' hm')) (s14_, i15_, i16_) h0
theorem spec_l05First_unroll2 (S : SatT) (K : AVal → H → Prop) (X0 : Frame → H → Prop) (p3_ : Pt) (s8_ : Sl) (s9_ : Sl) (s10_ : Sl) (i11_ : Int) (i13_ : Int) (s14_ : Sl) (i15_ : Int) (i16_ : Int) (h : H) (hb : spec_l05First_b2 S K X0 (fun fr h => loopK (spec_l05First_w2 S K X0) fr h) p3_ s8_ s9_ s10_ i11_ i13_ s14_ i15_ i16_ h) : spec_l05First_L2 S K X0 p3_ s8_ s9_ s10_ i11_ i13_ s14_ i15_ i16_ h := loop_unroll ((spec_l05First_link2 S K X0 _ p3_ s8_ s9_ s10_ i11_ i13_ s14_ i15_ i16_ h).mpr hb)
def spec_l05First_C0 (S : SatT) (K : AVal → H → Prop) (h : H) : Prop :=
 K (.tuple [.sl Sl.nil, .bool false]) h
def spec_l05First_b0 (S : SatT) (K : AVal → H → Prop) (X0 : Frame → H → Prop) (i1_ : Int) (p3_ : Pt) (s8_ : Sl) (s9_ : Sl) (s10_ : Sl) (i11_ : Int) (i12_ : Int) (h : H) : Prop :=
 bif (decide (i12_ < (s8_.len : Int))) then
 ixS s9_ 1 i12_ fun p0 =>
 ldI .i64 p0 h fun n1 =>
 newS 0 1 [] h fun s2 h3 =>
 ldA p3_ 2 h3 fun cs4 =>
 callS S i_spec_l05Paths [.agg cs4, .sl s9_, .sl s10_, .int .i64 i11_, .int .i64 (w64 (i1_ - (1))), .int .i64 n1] h3 fun s6 h5 =>
 ixS s10_ 1 i12_ fun p7 =>
 ldI .i64 p7 h5 fun n8 =>
(cell h3 p7 = cell h5 p7) ∧ (
 ixS s6 1 n8 fun p9 =>
 ldI .i64 p9 h5 fun n10 =>
 bif (n10 == (0)) then
 spec_l05First_C1 S K X0 i1_ p3_ s8_ s9_ s10_ i11_ i12_ h5
 else
 ixS s8_ 1 i12_ fun p11 =>
 ldS p11 h5 fun s12 =>
 callS S i_spec_l01Own [.sl s12] h5 fun s14 h13 =>
 newS 1 1 [.sl s14] h13 fun s15 h16 =>
 app s2 s15 1 h16 fun s17 h18 =>
 ixS s10_ 1 i12_ fun p19 =>
 ldI .i64 p19 h18 fun n20 =>
 spec_l05First_L2 S K X0 p3_ s8_ s9_ s10_ i11_ n1 s17 n20 (w64 (i1_ - (2))) h18)
 else
 spec_l05First_C0 S K h
theorem spec_l05First_link0 (S : SatT) (K : AVal → H → Prop) (X0 : Frame → H → Prop) (i1_ : Int) (p3_ : Pt) (s8_ : Sl) (s9_ : Sl) (s10_ : Sl) (i11_ : Int) (i12_ : Int) (h : H) : spec_l05First_w0 S K X0 (spec_l05First_e0 i1_ p3_ s8_ s9_ s10_ i11_ i12_) h = spec_l05First_b0 S K X0 i1_ p3_ s8_ s9_ s10_ i11_ i12_ h := by kernel_rfl
theorem spec_l05First_rule0 (S : SatT) (K : AVal → H → Prop) (i1_ : Int) (p3_ : Pt) (s8_ : Sl) (s9_ : Sl) (s10_ : Sl) (i11_ : Int) (I_ : Int → H → Prop) (m_ : Int → H → Nat)
    (hs : ∀ (X0 : Frame → H → Prop) (i12_ : Int) (h : H), I_ i12_ h → (∀ (i12_' : Int) (h' : H), I_ i12_' h' → m_ i12_' h' < m_ i12_ h → X0 (spec_l05First_e0 i1_ p3_ s8_ s9_ s10_ i11_ i12_') h') → spec_l05First_b0 S K X0 i1_ p3_ s8_ s9_ s10_ i11_ i12_ h) (i12_ : Int) {h : H} (h0 : I_ i12_ h) : spec_l05First_L0 S K i1_ p3_ s8_ s9_ s10_ i11_ i12_ h :=
  loop_rule (σ := (Int)) (fun s_ => spec_l05First_e0 i1_ p3_ s8_ s9_ s10_ i11_ (s_)) (fun s_ h => I_ (s_) h) (fun s_ h => m_ (s_) h)
    (fun X s_ h hi hx => (spec_l05First_link0 S K X i1_ p3_ s8_ s9_ s10_ i11_ (s_) h).mpr (hs X (s_) h hi fun i12_' h' hi' hm' => hx (i12_') h' hi' hm')) (i12_) h0
theorem spec_l05First_unroll0 (S : SatT) (K : AVal → H → Prop) (i1_ : Int) (p3_ : Pt) (s8_ : Sl) (s9_ : Sl) (s10_ : Sl) (i11_ : Int) (i12_ : Int) (h : H) (hb : spec_l05First_b0 S K (fun fr h => loopK (spec_l05First_w0 S K) fr h) i1_ p3_ s8_ s9_ s10_ i11_ i12_ h) : spec_l05First_L0 S K i1_ p3_ s8_ s9_ s10_ i11_ i12_ h := loop_unroll ((spec_l05First_link0 S K _ i1_ p3_ s8_ s9_ s10_ i11_ i12_ h).mpr hb)
def spec_l05First_main (S : SatT) (K : AVal → H → Prop) (x0 : List AVal) (x1 : Int) (x2 : Int) (h : H) : Prop :=
 newK 2 x0 h fun p0 h1 =>
 ldA p0 2 h1 fun cs2 =>
 callV S i_spec_l05Words [.agg cs2, .int .i64 x2] h1 fun v4 h3 =>
 viaT v4 fun vs5 =>
 exS vs5 0 fun s6 =>
 viaT v4 fun vs7 =>
 exS vs7 1 fun s8 =>
 viaT v4 fun vs9 =>
 exS vs9 2 fun s10 =>
 isPt p0 (
 ldI .i64 (Pt.add p0 0) h3 fun n11 =>
 callI S .i64 i_spec_l03Power [.int .i64 n11, .int .i64 x2] h3 fun n13 h12 =>
 spec_l05First_L0 S K x1 p0 s6 s8 s10 n13 (0) h12)
theorem spec_l05First_main_link (S : SatT) (K : AVal → H → Prop) (x0 : List AVal) (x1 : Int) (x2 : Int) (h : H) : cwp S tab spec_l05First_M [] (bodyOf Try.f81) (kFun tab Try.f81.results.toList K) (fr0 Try.f81 [.agg x0, .int .i64 x1, .int .i64 x2]) h = spec_l05First_main S K x0 x1 x2 h := by kernel_rfl
theorem spec_l05First_call (x0 : List AVal) (x1 : Int) (x2 : Int) (h : H) (K : AVal → H → Prop) (hm : spec_l05First_main (Sat Try.prog) (fun v h' => K v h') x0 x1 x2 h) : callV (Sat Try.prog) i_spec_l05First [.agg x0, .int .i64 x1, .int .i64 x2] h K := by
  have := Sat.ex tok mixed spec_l05First_M Try.func81 (c := bodyOf Try.f81) (by kernel_rfl) (calls_of Try.func81 (c := bodyOf Try.f81) (by kernel_rfl) (by decide)) ((spec_l05First_main_link _ _ x0 x1 x2 h).mpr hm)
  exact this

/-! ### loop.example/g01354/spec.l05Shift -/
def spec_l05Shift_M : Nat → List Nat := fun i => bif i == 2 then [0, 1, 2, 7, 8, 9, 10, 11, 12] else bif i == 0 then [0, 1, 2, 7, 8, 9, 10] else []
def spec_l05Shift_ks2 (S : SatT) (K : AVal → H → Prop) : Kont := kSeq (cwp S tab spec_l05Shift_M [] (sub [1, 1, 1] (bodyOf Try.f94)) (kFun tab (Try.f94).results.toList K)) (kFun tab (Try.f94).results.toList K)
def spec_l05Shift_e0 (s0_ : Sl) (i1_ : Int) (i2_ : Int) (i7_ : Int) (i8_ : Int) (s9_ : Sl) (i10_ : Int) : Frame := [.sl s0_, .int .i64 i1_, .int .i64 i2_, U, U, U, U, .int .i64 i7_, .int .i64 i8_, .sl s9_, .int .i64 i10_, U, U, U, U, U, U, U, U, U, U, U, U, U, U, U, U, U, U, U, U, U, U, U, U, U, U, U, U, U, U, U, U, U, U, U, U, U, U, U, U, U, U, U]
def spec_l05Shift_w0 (S : SatT) (K : AVal → H → Prop) : (Frame → H → Prop) → Frame → H → Prop := fun X fr h => cwp S tab spec_l05Shift_M (spec_l05Shift_M 0) (sub [1, 1, 0, 1, 0, 0] (bodyOf Try.f94)) (kSeq (fun fr h => X (mask (spec_l05Shift_M 0) fr) h) (kBlk 0 (spec_l05Shift_ks2 S K))) fr h
def spec_l05Shift_L0 (S : SatT) (K : AVal → H → Prop) (s0_ : Sl) (i1_ : Int) (i2_ : Int) (i7_ : Int) (i8_ : Int) (s9_ : Sl) (i10_ : Int) (h : H) : Prop := loopK (spec_l05Shift_w0 S K) (spec_l05Shift_e0 s0_ i1_ i2_ i7_ i8_ s9_ i10_) h
def spec_l05Shift_ks6 (S : SatT) (K : AVal → H → Prop) (X0 : Frame → H → Prop) : Kont := kSeq (cwp S tab spec_l05Shift_M (spec_l05Shift_M 0) (sub [1, 1, 0, 1, 0, 0, 1, 1] (bodyOf Try.f94)) (kSeq (fun fr h => X0 (mask (spec_l05Shift_M 0) fr) h) (kBlk 0 (spec_l05Shift_ks2 S K)))) (kSeq (fun fr h => X0 (mask (spec_l05Shift_M 0) fr) h) (kBlk 0 (spec_l05Shift_ks2 S K)))
def spec_l05Shift_ks8 (S : SatT) (K : AVal → H → Prop) (X0 : Frame → H → Prop) : Kont := kSeq (cwp S tab spec_l05Shift_M (spec_l05Shift_M 1) (sub [1, 1, 0, 1, 0, 0, 1, 0, 0, 1, 1] (bodyOf Try.f94)) (kBlk 1 (spec_l05Shift_ks6 S K X0))) (kBlk 1 (spec_l05Shift_ks6 S K X0))
def spec_l05Shift_e2 (s0_ : Sl) (i1_ : Int) (i2_ : Int) (i7_ : Int) (i8_ : Int) (s9_ : Sl) (i10_ : Int) (s11_ : Sl) (i12_ : Int) : Frame := [.sl s0_, .int .i64 i1_, .int .i64 i2_, U, U, U, U, .int .i64 i7_, .int .i64 i8_, .sl s9_, .int .i64 i10_, .sl s11_, .int .i64 i12_, U, U, U, U, U, U, U, U, U, U, U, U, U, U, U, U, U, U, U, U, U, U, U, U, U, U, U, U, U, U, U, U, U, U, U, U, U, U, U, U, U]
def spec_l05Shift_w2 (S : SatT) (K : AVal → H → Prop) (X0 : Frame → H → Prop) : (Frame → H → Prop) → Frame → H → Prop := fun X fr h => cwp S tab spec_l05Shift_M (spec_l05Shift_M 2) (sub [1, 1, 0, 1, 0, 0, 1, 0, 0, 1, 0, 1, 0, 0] (bodyOf Try.f94)) (kSeq (fun fr h => X (mask (spec_l05Shift_M 2) fr) h) (kBlk 2 (spec_l05Shift_ks8 S K X0))) fr h
def spec_l05Shift_L2 (S : SatT) (K : AVal → H → Prop) (X0 : Frame → H → Prop) (s0_ : Sl) (i1_ : Int) (i2_ : Int) (i7_ : Int) (i8_ : Int) (s9_ : Sl) (i10_ : Int) (s11_ : Sl) (i12_ : Int) (h : H) : Prop := loopK (spec_l05Shift_w2 S K X0) (spec_l05Shift_e2 s0_ i1_ i2_ i7_ i8_ s9_ i10_ s11_ i12_) h
def spec_l05Shift_C1 (S : SatT) (K : AVal → H → Prop) (X0 : Frame → H → Prop) (s0_ : Sl) (i1_ : Int) (i2_ : Int) (i7_ : Int) (i8_ : Int) (s9_ : Sl) (i10_ : Int) (h : H) : Prop :=
 X0 (spec_l05Shift_e0 s0_ i1_ i2_ i7_ i8_ s9_ (w64 (i10_ + (1)))) h
def spec_l05Shift_C2 (S : SatT) (K : AVal → H → Prop) (X0 : Frame → H → Prop) (s0_ : Sl) (i1_ : Int) (i2_ : Int) (i7_ : Int) (i8_ : Int) (s9_ : Sl) (i10_ : Int) (s11_ : Sl) (h : H) : Prop :=
 newS 1 1 [.sl s11_] h fun s0 h1 =>
 app s9_ s0 1 h1 fun s2 h3 =>
 spec_l05Shift_C1 S K X0 s0_ i1_ i2_ i7_ i8_ s2 i10_ h3
def spec_l05Shift_b2 (S : SatT) (K : AVal → H → Prop) (X0 : Frame → H → Prop) (X2 : Frame → H → Prop) (s0_ : Sl) (i1_ : Int) (i2_ : Int) (i7_ : Int) (i8_ : Int) (s9_ : Sl) (i10_ : Int) (s11_ : Sl) (i12_ : Int) (h : H) : Prop :=
 bif (decide (i12_ < i8_)) then
 nz i7_ (
 ixS s0_ 1 (Int.tmod (w64 (i10_ + i1_)) i7_) fun p0 =>
 ldS p0 h fun s1 =>
 nz i8_ (
 ixS s1 1 (Int.tmod (w64 (i12_ + i2_)) i8_) fun p2 =>
 ldI .i64 p2 h fun n3 =>
 newS 1 1 [.int .i64 n3] h fun s4 h5 =>
 app s11_ s4 1 h5 fun s6 h7 =>
 X2 (spec_l05Shift_e2 s0_ i1_ i2_ i7_ i8_ s9_ i10_ s6 (w64 (i12_ + (1)))) h7))
 else
 spec_l05Shift_C2 S K X0 s0_ i1_ i2_ i7_ i8_ s9_ i10_ s11_ h
theorem spec_l05Shift_link2 (S : SatT) (K : AVal → H → Prop) (X0 : Frame → H → Prop) (X2 : Frame → H → Prop) (s0_ : Sl) (i1_ : Int) (i2_ : Int) (i7_ : Int) (i8_ : Int) (s9_ : Sl) (i10_ : Int) (s11_ : Sl) (i12_ : Int) (h : H) : spec_l05Shift_w2 S K X0 X2 (spec_l05Shift_e2 s0_ i1_ i2_ i7_ i8_ s9_ i10_ s11_ i12_) h = spec_l05Shift_b2 S K X0 X2 s0_ i1_ i2_ i7_ i8_ s9_ i10_ s11_ i12_ h := by kernel_rfl
theorem spec_l05Shift_rule2 (S : SatT) (K : AVal → H → Prop) (X0 : Frame → H → Prop) (s0_ : Sl) (i1_ : Int) (i2_ : Int) (i7_ : Int) (i8_ : Int) (s9_ : Sl) (i10_ : Int) (I_ : Sl → Int → H → Prop) (m_ : Sl → Int → H → Nat)
    (hs : ∀ (X2 : Frame → H → Prop) (s11_ : Sl) (i12_ : Int) (h : H), I_ s11_ i12_ h → (∀ (s11_' : Sl) (i12_' : Int) (h' : H), I_ s11_' i12_' h' → m_ s11_' i12_' h' < m_ s11_ i12_ h → X2 (spec_l05Shift_e2 s0_ i1_ i2_ i7_ i8_ s9_ i10_ s11_' i12_') h') → spec_l05Shift_b2 S K X0 X2 s0_ i1_ i2_ i7_ i8_ s9_ i10_ s11_ i12_ h) (s11_ : Sl) (i12_ : Int) {h : H} (h0 : I_ s11_ i12_ h) : spec_l05Shift_L2 S K X0 s0_ i1_ i2_ i7_ i8_ s9_ i10_ s11_ i12_ h :=
  loop_rule (σ := (Sl) × (Int)) (fun s_ => spec_l05Shift_e2 s0_ i1_ i2_ i7_ i8_ s9_ i10_ (s_.1) (s_.2)) (fun s_ h => I_ (s_.1) (s_.2) h) (fun s_ h => m_ (s_.1) (s_.2) h)
    (fun X s_ h hi hx => (spec_l05Shift_link2 S K X0 X s0_ i1_ i2_ i7_ i8_ s9_ i10_ (s_.1) (s_.2) h).mpr (hs X (s_.1) (s_.2) h hi fun s11_' i12_' h' hi' hm' => hx (s11_', i12_') h' hi' hm')) (s11_, i12_) h0
theorem spec_l05Shift_unroll2 (S : SatT) (K : AVal → H → Prop) (X0 : Frame → H → Prop) (s0_ : Sl) (i1_ : Int) (i2_ : Int) (i7_ : Int) (i8_ : Int) (s9_ : Sl) (i10_ : Int) (s11_ : Sl) (i12_ : Int) (h : H) (hb : spec_l05Shift_b2 S K X0 (fun fr h => loopK (spec_l05Shift_w2 S K X0) fr h) s0_ i1_ i2_ i7_ i8_ s9_ i10_ s11_ i12_ h) : spec_l05Shift_L2 S K X0 s0_ i1_ i2_ i7_ i8_ s9_ i10_ s11_ i12_ h := loop_unroll ((spec_l05Shift_link2 S K X0 _ s0_ i1_ i2_ i7_ i8_ s9_ i10_ s11_ i12_ h).mpr hb)
def spec_l05Shift_C0 (S : SatT) (K : AVal → H → Prop) (s9_ : Sl) (h : H) : Prop :=
 K (.sl s9_) h
def spec_l05Shift_b0 (S : SatT) (K : AVal → H → Prop) (X0 : Frame → H → Prop) (s0_ : Sl) (i1_ : Int) (i2_ : Int) (i7_ : Int) (i8_ : Int) (s9_ : Sl) (i10_ : Int) (h : H) : Prop :=
 bif (decide (i10_ < i7_)) then
 newS 0 1 [] h fun s0 h1 =>
 spec_l05Shift_L2 S K X0 s0_ i1_ i2_ i7_ i8_ s9_ i10_ s0 (0) h1
 else
 spec_l05Shift_C0 S K s9_ h
theorem spec_l05Shift_link0 (S : SatT) (K : AVal → H → Prop) (X0 : Frame → H → Prop) (s0_ : Sl) (i1_ : Int) (i2_ : Int) (i7_ : Int) (i8_ : Int) (s9_ : Sl) (i10_ : Int) (h : H) : spec_l05Shift_w0 S K X0 (spec_l05Shift_e0 s0_ i1_ i2_ i7_ i8_ s9_ i10_) h = spec_l05Shift_b0 S K X0 s0_ i1_ i2_ i7_ i8_ s9_ i10_ h := by kernel_rfl
theorem spec_l05Shift_rule0 (S : SatT) (K : AVal → H → Prop) (s0_ : Sl) (i1_ : Int) (i2_ : Int) (i7_ : Int) (i8_ : Int) (I_ : Sl → Int → H → Prop) (m_ : Sl → Int → H → Nat)
    (hs : ∀ (X0 : Frame → H → Prop) (s9_ : Sl) (i10_ : Int) (h : H), I_ s9_ i10_ h → (∀ (s9_' : Sl) (i10_' : Int) (h' : H), I_ s9_' i10_' h' → m_ s9_' i10_' h' < m_ s9_ i10_ h → X0 (spec_l05Shift_e0 s0_ i1_ i2_ i7_ i8_ s9_' i10_') h') → spec_l05Shift_b0 S K X0 s0_ i1_ i2_ i7_ i8_ s9_ i10_ h) (s9_ : Sl) (i10_ : Int) {h : H} (h0 : I_ s9_ i10_ h) : spec_l05Shift_L0 S K s0_ i1_ i2_ i7_ i8_ s9_ i10_ h :=
  loop_rule (σ := (Sl) × (Int)) (fun s_ => spec_l05Shift_e0 s0_ i1_ i2_ i7_ i8_ (s_.1) (s_.2)) (fun s_ h => I_ (s_.1) (s_.2) h) (fun s_ h => m_ (s_.1) (s_.2) h)
    (fun X s_ h hi hx => (spec_l05Shift_link0 S K X s0_ i1_ i2_ i7_ i8_ (s_.1) (s_.2) h).mpr (hs X (s_.1) (s_.2) h hi fun s9_' i10_' h' hi' hm' => hx (s9_', i10_') h' hi' hm')) (s9_, i10_) h0
theorem spec_l05Shift_unroll0 (S : SatT) (K : AVal → H → Prop) (s0_ : Sl) (i1_ : Int) (i2_ : Int) (i7_ : Int) (i8_ : Int) (s9_ : Sl) (i10_ : Int) (h : H) (hb : spec_l05Shift_b0 S K (fun fr h => loopK (spec_l05Shift_w0 S K) fr h) s0_ i1_ i2_ i7_ i8_ s9_ i10_ h) : spec_l05Shift_L0 S K s0_ i1_ i2_ i7_ i8_ s9_ i10_ h := loop_unroll ((spec_l05Shift_link0 S K _ s0_ i1_ i2_ i7_ i8_ s9_ i10_ h).mpr hb)
def spec_l05Shift_main (S : SatT) (K : AVal → H → Prop) (x0 : Sl) (x1 : Int) (x2 : Int) (h : H) : Prop :=
 ixS x0 1 (0) fun p0 =>
 ldS p0 h fun s1 =>
 newS 0 1 [] h fun s2 h3 =>
(cell h3 p0 = cell h p0) ∧ (
 spec_l05Shift_L0 S K x0 x1 x2 (x0.len : Int) (s1.len : Int) s2 (0) h3)
theorem spec_l05Shift_main_link (S : SatT) (K : AVal → H → Prop) (x0 : Sl) (x1 : Int) (x2 : Int) (h : H) : cwp S tab spec_l05Shift_M [] (bodyOf Try.f94) (kFun tab Try.f94.results.toList K) (fr0 Try.f94 [.sl x0, .int .i64 x1, .int .i64 x2]) h = spec_l05Shift_main S K x0 x1 x2 h := by kernel_rfl
theorem spec_l05Shift_call (x0 : Sl) (x1 : Int) (x2 : Int) (h : H) (K : Sl → H → Prop) (hm : spec_l05Shift_main (Sat Try.prog) (fun v h' => ∃ r, v = .sl r ∧ K r h') x0 x1 x2 h) : callS (Sat Try.prog) i_spec_l05Shift [.sl x0, .int .i64 x1, .int .i64 x2] h K := by
  have := Sat.ex tok mixed spec_l05Shift_M Try.func94 (c := bodyOf Try.f94) (by kernel_rfl) (calls_of Try.func94 (c := bodyOf Try.f94) (by kernel_rfl) (by decide)) ((spec_l05Shift_main_link _ _ x0 x1 x2 h).mpr hm)
  obtain ⟨v, h2, h3, r, rfl, h4⟩ := this; exact ⟨r, h2, h3, h4⟩

/-! ### loop.example/g01354/spec.TorusTable -/
def spec_TorusTable_M : Nat → List Nat := fun i => bif i == 2 then [1, 4, 5, 6, 7] else bif i == 0 then [1, 4, 5] else []
def spec_TorusTable_ks5 (S : SatT) (K : AVal → H → Prop) : Kont := kSeq (cwp S tab spec_TorusTable_M [] (sub [1, 1, 1, 1] (bodyOf Try.f29)) (kFun tab (Try.f29).results.toList K)) (kFun tab (Try.f29).results.toList K)
def spec_TorusTable_e0 (p1_ : Pt) (s4_ : Sl) (i5_ : Int) : Frame := [U, .ptr p1_, U, U, .sl s4_, .int .i64 i5_, U, U, U, U, U, U, U, U, U, U, U, U, U, U, U, U, U, U, U, U, U, U, U, U, U, U, U]
def spec_TorusTable_w0 (S : SatT) (K : AVal → H → Prop) : (Frame → H → Prop) → Frame → H → Prop := fun X fr h => cwp S tab spec_TorusTable_M (spec_TorusTable_M 0) (sub [1, 1, 1, 0, 1, 0, 0] (bodyOf Try.f29)) (kSeq (fun fr h => X (mask (spec_TorusTable_M 0) fr) h) (kBlk 0 (spec_TorusTable_ks5 S K))) fr h
def spec_TorusTable_L0 (S : SatT) (K : AVal → H → Prop) (p1_ : Pt) (s4_ : Sl) (i5_ : Int) (h : H) : Prop := loopK (spec_TorusTable_w0 S K) (spec_TorusTable_e0 p1_ s4_ i5_) h
def spec_TorusTable_ks9 (S : SatT) (K : AVal → H → Prop) (X0 : Frame → H → Prop) : Kont := kSeq (cwp S tab spec_TorusTable_M (spec_TorusTable_M 0) (sub [1, 1, 1, 0, 1, 0, 0, 1, 1] (bodyOf Try.f29)) (kSeq (fun fr h => X0 (mask (spec_TorusTable_M 0) fr) h) (kBlk 0 (spec_TorusTable_ks5 S K)))) (kSeq (fun fr h => X0 (mask (spec_TorusTable_M 0) fr) h) (kBlk 0 (spec_TorusTable_ks5 S K)))
def spec_TorusTable_ks11 (S : SatT) (K : AVal → H → Prop) (X0 : Frame → H → Prop) : Kont := kSeq (cwp S tab spec_TorusTable_M (spec_TorusTable_M 1) (sub [1, 1, 1, 0, 1, 0, 0, 1, 0, 0, 1, 1] (bodyOf Try.f29)) (kBlk 1 (spec_TorusTable_ks9 S K X0))) (kBlk 1 (spec_TorusTable_ks9 S K X0))
def spec_TorusTable_e2 (p1_ : Pt) (s4_ : Sl) (i5_ : Int) (s6_ : Sl) (i7_ : Int) : Frame := [U, .ptr p1_, U, U, .sl s4_, .int .i64 i5_, .sl s6_, .int .i64 i7_, U, U, U, U, U, U, U, U, U, U, U, U, U, U, U, U, U, U, U, U, U, U, U, U, U]
def spec_TorusTable_w2 (S : SatT) (K : AVal → H → Prop) (X0 : Frame → H → Prop) : (Frame → H → Prop) → Frame → H → Prop := fun X fr h => cwp S tab spec_TorusTable_M (spec_TorusTable_M 2) (sub [1, 1, 1, 0, 1, 0, 0, 1, 0, 0, 1, 0, 1, 0, 0] (bodyOf Try.f29)) (kSeq (fun fr h => X (mask (spec_TorusTable_M 2) fr) h) (kBlk 2 (spec_TorusTable_ks11 S K X0))) fr h
def spec_TorusTable_L2 (S : SatT) (K : AVal → H → Prop) (X0 : Frame → H → Prop) (p1_ : Pt) (s4_ : Sl) (i5_ : Int) (s6_ : Sl) (i7_ : Int) (h : H) : Prop := loopK (spec_TorusTable_w2 S K X0) (spec_TorusTable_e2 p1_ s4_ i5_ s6_ i7_) h
def spec_TorusTable_C1 (S : SatT) (K : AVal → H → Prop) (X0 : Frame → H → Prop) (p1_ : Pt) (s4_ : Sl) (i5_ : Int) (h : H) : Prop :=
 X0 (spec_TorusTable_e0 p1_ s4_ (w64 (i5_ + (1)))) h
def spec_TorusTable_C2 (S : SatT) (K : AVal → H → Prop) (X0 : Frame → H → Prop) (p1_ : Pt) (s4_ : Sl) (i5_ : Int) (s6_ : Sl) (h : H) : Prop :=
 newS 1 1 [.sl s6_] h fun s0 h1 =>
 app s4_ s0 1 h1 fun s2 h3 =>
 spec_TorusTable_C1 S K X0 p1_ s2 i5_ h3
def spec_TorusTable_b2 (S : SatT) (K : AVal → H → Prop) (X0 : Frame → H → Prop) (X2 : Frame → H → Prop) (p1_ : Pt) (s4_ : Sl) (i5_ : Int) (s6_ : Sl) (i7_ : Int) (h : H) : Prop :=
 bif (decide (i7_ ≤ (3))) then
 ldA p1_ 2 h fun cs0 =>
 callI S .i64 i_spec_l05Count [.agg cs0, .int .i64 i5_, .int .i64 i7_] h fun n2 h1 =>
 newS 1 1 [.int .i64 n2] h1 fun s3 h4 =>
 app s6_ s3 1 h4 fun s5 h6 =>
 X2 (spec_TorusTable_e2 p1_ s4_ i5_ s5 (w64 (i7_ + (1)))) h6
 else
 spec_TorusTable_C2 S K X0 p1_ s4_ i5_ s6_ h
theorem spec_TorusTable_link2 (S : SatT) (K : AVal → H → Prop) (X0 : Frame → H → Prop) (X2 : Frame → H → Prop) (p1_ : Pt) (s4_ : Sl) (i5_ : Int) (s6_ : Sl) (i7_ : Int) (h : H) : spec_TorusTable_w2 S K X0 X2 (spec_TorusTable_e2 p1_ s4_ i5_ s6_ i7_) h = spec_TorusTable_b2 S K X0 X2 p1_ s4_ i5_ s6_ i7_ h := by kernel_rfl
theorem spec_TorusTable_rule2 (S : SatT) (K : AVal → H → Prop) (X0 : Frame → H → Prop) (p1_ : Pt) (s4_ : Sl) (i5_ : Int) (I_ : Sl → Int → H → Prop) (m_ : Sl → Int → H → Nat)
    (hs : ∀ (X2 : Frame → H → Prop) (s6_ : Sl) (i7_ : Int) (h : H), I_ s6_ i7_ h → (∀ (s6_' : Sl) (i7_' : Int) (h' : H), I_ s6_' i7_' h' → m_ s6_' i7_' h' < m_ s6_ i7_ h → X2 (spec_TorusTable_e2 p1_ s4_ i5_ s6_' i7_') h') → spec_TorusTable_b2 S K X0 X2 p1_ s4_ i5_ s6_ i7_ h) (s6_ : Sl) (i7_ : Int) {h : H} (h0 : I_ s6_ i7_ h) : spec_TorusTable_L2 S K X0 p1_ s4_ i5_ s6_ i7_ h :=
  loop_rule (σ := (Sl) × (Int)) (fun s_ => spec_TorusTable_e2 p1_ s4_ i5_ (s_.1) (s_.2)) (fun s_ h => I_ (s_.1) (s_.2) h) (fun s_ h => m_ (s_.1) (s_.2) h)
    (fun X s_ h hi hx => (spec_TorusTable_link2 S K X0 X p1_ s4_ i5_ (s_.1) (s_.2) h).mpr (hs X (s_.1) (s_.2) h hi fun s6_' i7_' h' hi' hm' => hx (s6_', i7_') h' hi' hm')) (s6_, i7_) h0
theorem spec_TorusTable_unroll2 (S : SatT) (K : AVal → H → Prop) (X0 : Frame → H → Prop) (p1_ : Pt) (s4_ : Sl) (i5_ : Int) (s6_ : Sl) (i7_ : Int) (h : H) (hb : spec_TorusTable_b2 S K X0 (fun fr h => loopK (spec_TorusTable_w2 S K X0) fr h) p1_ s4_ i5_ s6_ i7_ h) : spec_TorusTable_L2 S K X0 p1_ s4_ i5_ s6_ i7_ h := loop_unroll ((spec_TorusTable_link2 S K X0 _ p1_ s4_ i5_ s6_ i7_ h).mpr hb)
def spec_TorusTable_C0 (S : SatT) (K : AVal → H → Prop) (s4_ : Sl) (h : H) : Prop :=
 K (.tuple [.sl s4_, .int .i64 (0)]) h
def spec_TorusTable_b0 (S : SatT) (K : AVal → H → Prop) (X0 : Frame → H → Prop) (p1_ : Pt) (s4_ : Sl) (i5_ : Int) (h : H) : Prop :=
 bif (decide (i5_ ≤ (3))) then
 newS 0 1 [] h fun s0 h1 =>
 spec_TorusTable_L2 S K X0 p1_ s4_ i5_ s0 (1) h1
 else
 spec_TorusTable_C0 S K s4_ h
theorem spec_TorusTable_link0 (S : SatT) (K : AVal → H → Prop) (X0 : Frame → H → Prop) (p1_ : Pt) (s4_ : Sl) (i5_ : Int) (h : H) : spec_TorusTable_w0 S K X0 (spec_TorusTable_e0 p1_ s4_ i5_) h = spec_TorusTable_b0 S K X0 p1_ s4_ i5_ h := by kernel_rfl
theorem spec_TorusTable_rule0 (S : SatT) (K : AVal → H → Prop) (p1_ : Pt) (I_ : Sl → Int → H → Prop) (m_ : Sl → Int → H → Nat)
    (hs : ∀ (X0 : Frame → H → Prop) (s4_ : Sl) (i5_ : Int) (h : H), I_ s4_ i5_ h → (∀ (s4_' : Sl) (i5_' : Int) (h' : H), I_ s4_' i5_' h' → m_ s4_' i5_' h' < m_ s4_ i5_ h → X0 (spec_TorusTable_e0 p1_ s4_' i5_') h') → spec_TorusTable_b0 S K X0 p1_ s4_ i5_ h) (s4_ : Sl) (i5_ : Int) {h : H} (h0 : I_ s4_ i5_ h) : spec_TorusTable_L0 S K p1_ s4_ i5_ h :=
  loop_rule (σ := (Sl) × (Int)) (fun s_ => spec_TorusTable_e0 p1_ (s_.1) (s_.2)) (fun s_ h => I_ (s_.1) (s_.2) h) (fun s_ h => m_ (s_.1) (s_.2) h)
    (fun X s_ h hi hx => (spec_TorusTable_link0 S K X p1_ (s_.1) (s_.2) h).mpr (hs X (s_.1) (s_.2) h hi fun s4_' i5_' h' hi' hm' => hx (s4_', i5_') h' hi' hm')) (s4_, i5_) h0
theorem spec_TorusTable_unroll0 (S : SatT) (K : AVal → H → Prop) (p1_ : Pt) (s4_ : Sl) (i5_ : Int) (h : H) (hb : spec_TorusTable_b0 S K (fun fr h => loopK (spec_TorusTable_w0 S K) fr h) p1_ s4_ i5_ h) : spec_TorusTable_L0 S K p1_ s4_ i5_ h := loop_unroll ((spec_TorusTable_link0 S K _ p1_ s4_ i5_ h).mpr hb)
def spec_TorusTable_main (S : SatT) (K : AVal → H → Prop) (x0 : List AVal) (h : H) : Prop :=
 newK 2 x0 h fun p0 h1 =>
 ldA p0 2 h1 fun cs2 =>
 callB S i_spec_l01Is [.agg cs2] h1 fun b4 h3 =>
 bif (!b4) then
 K (.tuple [.sl Sl.nil, .int .i64 (1)]) h3
 else
 newS 0 1 [] h3 fun s5 h6 =>
 spec_TorusTable_L0 S K p0 s5 (1) h6
theorem spec_TorusTable_main_link (S : SatT) (K : AVal → H → Prop) (x0 : List AVal) (h : H) : cwp S tab spec_TorusTable_M [] (bodyOf Try.f29) (kFun tab Try.f29.results.toList K) (fr0 Try.f29 [.agg x0]) h = spec_TorusTable_main S K x0 h := by kernel_rfl
theorem spec_TorusTable_call (x0 : List AVal) (h : H) (K : AVal → H → Prop) (hm : spec_TorusTable_main (Sat Try.prog) (fun v h' => K v h') x0 h) : callV (Sat Try.prog) i_spec_TorusTable [.agg x0] h K := by
  have := Sat.ex tok mixed spec_TorusTable_M Try.func29 (c := bodyOf Try.f29) (by kernel_rfl) (calls_of Try.func29 (c := bodyOf Try.f29) (by kernel_rfl) (by decide)) ((spec_TorusTable_main_link _ _ x0 h).mpr hm)
  exact this

/-! ### loop.example/g01354/spec.l05Less -/
def spec_l05Less_M : Nat → List Nat := fun i => bif i == 2 then [0, 1, 5, 6] else bif i == 0 then [0, 1, 5] else []
def spec_l05Less_ks1 (S : SatT) (K : AVal → H → Prop) : Kont := kSeq (cwp S tab spec_l05Less_M [] (sub [1, 1] (bodyOf Try.f86)) (kFun tab (Try.f86).results.toList K)) (kFun tab (Try.f86).results.toList K)
def spec_l05Less_e0 (s0_ : Sl) (s1_ : Sl) (i5_ : Int) : Frame := [.sl s0_, .sl s1_, U, U, U, .int .i64 i5_, U, U, U, U, U, U, U, U, U, U, U, U, U, U, U, U, U, U, U, U, U, U, U, U, U, U, U, U, U, U, U, U, U, U, U, U, U, U, U, U, U, U, U, U, U, U]
def spec_l05Less_w0 (S : SatT) (K : AVal → H → Prop) : (Frame → H → Prop) → Frame → H → Prop := fun X fr h => cwp S tab spec_l05Less_M (spec_l05Less_M 0) (sub [1, 0, 1, 0, 0] (bodyOf Try.f86)) (kSeq (fun fr h => X (mask (spec_l05Less_M 0) fr) h) (kBlk 0 (spec_l05Less_ks1 S K))) fr h
def spec_l05Less_L0 (S : SatT) (K : AVal → H → Prop) (s0_ : Sl) (s1_ : Sl) (i5_ : Int) (h : H) : Prop := loopK (spec_l05Less_w0 S K) (spec_l05Less_e0 s0_ s1_ i5_) h
def spec_l05Less_ks5 (S : SatT) (K : AVal → H → Prop) (X0 : Frame → H → Prop) : Kont := kSeq (cwp S tab spec_l05Less_M (spec_l05Less_M 0) (sub [1, 0, 1, 0, 0, 1, 1] (bodyOf Try.f86)) (kSeq (fun fr h => X0 (mask (spec_l05Less_M 0) fr) h) (kBlk 0 (spec_l05Less_ks1 S K)))) (kSeq (fun fr h => X0 (mask (spec_l05Less_M 0) fr) h) (kBlk 0 (spec_l05Less_ks1 S K)))
def spec_l05Less_e2 (s0_ : Sl) (s1_ : Sl) (i5_ : Int) (i6_ : Int) : Frame := [.sl s0_, .sl s1_, U, U, U, .int .i64 i5_, .int .i64 i6_, U, U, U, U, U, U, U, U, U, U, U, U, U, U, U, U, U, U, U, U, U, U, U, U, U, U, U, U, U, U, U, U, U, U, U, U, U, U, U, U, U, U, U, U, U]
def spec_l05Less_w2 (S : SatT) (K : AVal → H → Prop) (X0 : Frame → H → Prop) : (Frame → H → Prop) → Frame → H → Prop := fun X fr h => cwp S tab spec_l05Less_M (spec_l05Less_M 2) (sub [1, 0, 1, 0, 0, 1, 0, 0, 1, 0, 0] (bodyOf Try.f86)) (kSeq (fun fr h => X (mask (spec_l05Less_M 2) fr) h) (kBlk 2 (kBlk 1 (spec_l05Less_ks5 S K X0)))) fr h
def spec_l05Less_L2 (S : SatT) (K : AVal → H → Prop) (X0 : Frame → H → Prop) (s0_ : Sl) (s1_ : Sl) (i5_ : Int) (i6_ : Int) (h : H) : Prop := loopK (spec_l05Less_w2 S K X0) (spec_l05Less_e2 s0_ s1_ i5_ i6_) h
def spec_l05Less_C1 (S : SatT) (K : AVal → H → Prop) (X0 : Frame → H → Prop) (s0_ : Sl) (s1_ : Sl) (i5_ : Int) (h : H) : Prop :=
 X0 (spec_l05Less_e0 s0_ s1_ (w64 (i5_ + (1)))) h
def spec_l05Less_C2 (S : SatT) (K : AVal → H → Prop) (X0 : Frame → H → Prop) (s0_ : Sl) (s1_ : Sl) (i5_ : Int) (h : H) : Prop :=
 spec_l05Less_C1 S K X0 s0_ s1_ i5_ h
def spec_l05Less_b2 (S : SatT) (K : AVal → H → Prop) (X0 : Frame → H → Prop) (X2 : Frame → H → Prop) (s0_ : Sl) (s1_ : Sl) (i5_ : Int) (i6_ : Int) (h : H) : Prop :=
 ixS s0_ 1 i5_ fun p0 =>
 ldS p0 h fun s1 =>
 bif (decide (i6_ < (s1.len : Int))) then
 ixS s0_ 1 i5_ fun p2 =>
 ldS p2 h fun s3 =>
 ixS s3 1 i6_ fun p4 =>
 ldI .i64 p4 h fun n5 =>
 ixS s1_ 1 i5_ fun p6 =>
 ldS p6 h fun s7 =>
 ixS s7 1 i6_ fun p8 =>
 ldI .i64 p8 h fun n9 =>
 bif (n5 != n9) then
 ixS s0_ 1 i5_ fun p10 =>
 ldS p10 h fun s11 =>
 ixS s11 1 i6_ fun p12 =>
 ldI .i64 p12 h fun n13 =>
 ixS s1_ 1 i5_ fun p14 =>
 ldS p14 h fun s15 =>
 ixS s15 1 i6_ fun p16 =>
 ldI .i64 p16 h fun n17 =>
 K (.bool (decide (n13 < n17))) h
 else
 X2 (spec_l05Less_e2 s0_ s1_ i5_ (w64 (i6_ + (1)))) h
 else
 spec_l05Less_C2 S K X0 s0_ s1_ i5_ h
theorem spec_l05Less_link2 (S : SatT) (K : AVal → H → Prop) (X0 : Frame → H → Prop) (X2 : Frame → H → Prop) (s0_ : Sl) (s1_ : Sl) (i5_ : Int) (i6_ : Int) (h : H) : spec_l05Less_w2 S K X0 X2 (spec_l05Less_e2 s0_ s1_ i5_ i6_) h = spec_l05Less_b2 S K X0 X2 s0_ s1_ i5_ i6_ h := by kernel_rfl
theorem spec_l05Less_rule2 (S : SatT) (K : AVal → H → Prop) (X0 : Frame → H → Prop) (s0_ : Sl) (s1_ : Sl) (i5_ : Int) (I_ : Int → H → Prop) (m_ : Int → H → Nat)
    (hs : ∀ (X2 : Frame → H → Prop) (i6_ : Int) (h : H), I_ i6_ h → (∀ (i6_' : Int) (h' : H), I_ i6_' h' → m_ i6_' h' < m_ i6_ h → X2 (spec_l05Less_e2 s0_ s1_ i5_ i6_') h') → spec_l05Less_b2 S K X0 X2 s0_ s1_ i5_ i6_ h) (i6_ : Int) {h : H} (h0 : I_ i6_ h) : spec_l05Less_L2 S K X0 s0_ s1_ i5_ i6_ h :=
  loop_rule (σ := (Int)) (fun s_ => spec_l05Less_e2 s0_ s1_ i5_ (s_)) (fun s_ h => I_ (s_) h) (fun s_ h => m_ (s_) h)
    (fun X s_ h hi hx => (spec_l05Less_link2 S K X0 X s0_ s1_ i5_ (s_) h).mpr (hs X (s_) h hi fun i6_' h' hi' hm' => hx (i6_') h' hi' hm')) (i6_) h0
theorem spec_l05Less_unroll2 (S : SatT) (K : AVal → H → Prop) (X0 : Frame → H → Prop) (s0_ : Sl) (s1_ : Sl) (i5_ : Int) (i6_ : Int) (h : H) (hb : spec_l05Less_b2 S K X0 (fun fr h => loopK (spec_l05Less_w2 S K X0) fr h) s0_ s1_ i5_ i6_ h) : spec_l05Less_L2 S K X0 s0_ s1_ i5_ i6_ h := loop_unroll ((spec_l05Less_link2 S K X0 _ s0_ s1_ i5_ i6_ h).mpr hb)
def spec_l05Less_C0 (S : SatT) (K : AVal → H → Prop) (h : H) : Prop :=
 K (.bool false) h
def spec_l05Less_b0 (S : SatT) (K : AVal → H → Prop) (X0 : Frame → H → Prop) (s0_ : Sl) (s1_ : Sl) (i5_ : Int) (h : H) : Prop :=
 bif (decide (i5_ < (s0_.len : Int))) then
 spec_l05Less_L2 S K X0 s0_ s1_ i5_ (0) h
 else
 spec_l05Less_C0 S K h
theorem spec_l05Less_link0 (S : SatT) (K : AVal → H → Prop) (X0 : Frame → H → Prop) (s0_ : Sl) (s1_ : Sl) (i5_ : Int) (h : H) : spec_l05Less_w0 S K X0 (spec_l05Less_e0 s0_ s1_ i5_) h = spec_l05Less_b0 S K X0 s0_ s1_ i5_ h := by kernel_rfl
theorem spec_l05Less_rule0 (S : SatT) (K : AVal → H → Prop) (s0_ : Sl) (s1_ : Sl) (I_ : Int → H → Prop) (m_ : Int → H → Nat)
    (hs : ∀ (X0 : Frame → H → Prop) (i5_ : Int) (h : H), I_ i5_ h → (∀ (i5_' : Int) (h' : H), I_ i5_' h' → m_ i5_' h' < m_ i5_ h → X0 (spec_l05Less_e0 s0_ s1_ i5_') h') → spec_l05Less_b0 S K X0 s0_ s1_ i5_ h) (i5_ : Int) {h : H} (h0 : I_ i5_ h) : spec_l05Less_L0 S K s0_ s1_ i5_ h :=
  loop_rule (σ := (Int)) (fun s_ => spec_l05Less_e0 s0_ s1_ (s_)) (fun s_ h => I_ (s_) h) (fun s_ h => m_ (s_) h)
    (fun X s_ h hi hx => (spec_l05Less_link0 S K X s0_ s1_ (s_) h).mpr (hs X (s_) h hi fun i5_' h' hi' hm' => hx (i5_') h' hi' hm')) (i5_) h0
theorem spec_l05Less_unroll0 (S : SatT) (K : AVal → H → Prop) (s0_ : Sl) (s1_ : Sl) (i5_ : Int) (h : H) (hb : spec_l05Less_b0 S K (fun fr h => loopK (spec_l05Less_w0 S K) fr h) s0_ s1_ i5_ h) : spec_l05Less_L0 S K s0_ s1_ i5_ h := loop_unroll ((spec_l05Less_link0 S K _ s0_ s1_ i5_ h).mpr hb)
def spec_l05Less_main (S : SatT) (K : AVal → H → Prop) (x0 : Sl) (x1 : Sl) (h : H) : Prop :=
 spec_l05Less_L0 S K x0 x1 (0) h
theorem spec_l05Less_main_link (S : SatT) (K : AVal → H → Prop) (x0 : Sl) (x1 : Sl) (h : H) : cwp S tab spec_l05Less_M [] (bodyOf Try.f86) (kFun tab Try.f86.results.toList K) (fr0 Try.f86 [.sl x0, .sl x1]) h = spec_l05Less_main S K x0 x1 h := by kernel_rfl
theorem spec_l05Less_call (x0 : Sl) (x1 : Sl) (h : H) (K : Bool → H → Prop) (hm : spec_l05Less_main (Sat Try.prog) (fun v h' => ∃ r, v = .bool r ∧ K r h') x0 x1 h) : callB (Sat Try.prog) i_spec_l05Less [.sl x0, .sl x1] h K := by
  have := Sat.ex tok mixed spec_l05Less_M Try.func86 (c := bodyOf Try.f86) (by kernel_rfl) (calls_of Try.func86 (c := bodyOf Try.f86) (by kernel_rfl) (by decide)) ((spec_l05Less_main_link _ _ x0 x1 h).mpr hm)
  obtain ⟨v, h2, h3, r, rfl, h4⟩ := this; exact ⟨r, h2, h3, h4⟩

/-! ### loop.example/g01354/spec.l05All -/
def spec_l05All_M : Nat → List Nat := fun i => bif i == 0 then [1, 2, 3, 4, 5, 6, 7, 8, 17, 18] else []
def spec_l05All_ks8 (S : SatT) (K : AVal → H → Prop) : Kont := kSeq (cwp S tab spec_l05All_M [] (sub [1, 1, 1, 1] (bodyOf Try.f84)) (kFun tab (Try.f84).results.toList K)) (kFun tab (Try.f84).results.toList K)
def spec_l05All_e0 (s1_ : Sl) (s2_ : Sl) (s3_ : Sl) (s4_ : Sl) (i5_ : Int) (i6_ : Int) (i7_ : Int) (p8_ : Pt) (s17_ : Sl) (i18_ : Int) : Frame := [U, .sl s1_, .sl s2_, .sl s3_, .sl s4_, .int .i64 i5_, .int .i64 i6_, .int .i64 i7_, .ptr p8_, U, U, U, U, U, U, U, U, .sl s17_, .int .i64 i18_, U, U, U, U, U, U, U, U, U, U, U, U, U, U, U, U, U, U, U, U, U, U, U, U, U, U, U, U, U, U, U, U, U, U, U, U, U, U, U, U, U, U, U, U, U, U, U, U, U, U, U, U, U, U, U, U, U, U, U, U, U, U, U, U, U, U, U, U, U, U, U, U]
def spec_l05All_w0 (S : SatT) (K : AVal → H → Prop) : (Frame → H → Prop) → Frame → H → Prop := fun X fr h => cwp S tab spec_l05All_M (spec_l05All_M 0) (sub [1, 1, 1, 0, 1, 0, 0] (bodyOf Try.f84)) (kSeq (fun fr h => X (mask (spec_l05All_M 0) fr) h) (kBlk 0 (spec_l05All_ks8 S K))) fr h
def spec_l05All_L0 (S : SatT) (K : AVal → H → Prop) (s1_ : Sl) (s2_ : Sl) (s3_ : Sl) (s4_ : Sl) (i5_ : Int) (i6_ : Int) (i7_ : Int) (p8_ : Pt) (s17_ : Sl) (i18_ : Int) (h : H) : Prop := loopK (spec_l05All_w0 S K) (spec_l05All_e0 s1_ s2_ s3_ s4_ i5_ i6_ i7_ p8_ s17_ i18_) h
def spec_l05All_C0 (S : SatT) (K : AVal → H → Prop) (s17_ : Sl) (h : H) : Prop :=
 K (.sl s17_) h
def spec_l05All_b0 (S : SatT) (K : AVal → H → Prop) (X0 : Frame → H → Prop) (s1_ : Sl) (s2_ : Sl) (s3_ : Sl) (s4_ : Sl) (i5_ : Int) (i6_ : Int) (i7_ : Int) (p8_ : Pt) (s17_ : Sl) (i18_ : Int) (h : H) : Prop :=
 bif (decide (i18_ < (s1_.len : Int))) then
 bif ((s4_.len : Int) == (0)) then
 ldA p8_ 2 h fun cs0 =>
 ixS s1_ 1 i18_ fun p1 =>
 ldS p1 h fun s2 =>
 newS 1 1 [.sl s2] h fun s3 h4 =>
(range h4 p8_.o p8_.n p8_.off 2 = range h p8_.o p8_.n p8_.off 2) ∧ (
 ixS s2_ 1 i18_ fun p5 =>
 ldI .i64 p5 h4 fun n6 =>
(cell h p5 = cell h4 p5) ∧ (
 ixS s3_ 1 i18_ fun p7 =>
 ldI .i64 p7 h4 fun n8 =>
(cell h p7 = cell h4 p7) ∧ (
 callS S i_spec_l05All [.agg cs0, .sl s1_, .sl s2_, .sl s3_, .sl s3, .int .i64 n6, .int .i64 n8, .int .i64 (w64 (i7_ - (1)))] h4 fun s10 h9 =>
 app s17_ s10 1 h9 fun s11 h12 =>
 X0 (spec_l05All_e0 s1_ s2_ s3_ s4_ i5_ i6_ i7_ p8_ s11 (w64 (i18_ + (1)))) h12)))
 else
 ixS s2_ 1 i18_ fun p13 =>
 ldI .i64 p13 h fun n14 =>
 bif (n14 == i6_) then
 slotK 24 h fun h15 =>
 ldA p8_ 2 h15 fun cs16 =>
 ixS s1_ 1 i18_ fun p17 =>
 ldS p17 h15 fun s18 =>
 ixS s3_ 1 i18_ fun p19 =>
 ldI .i64 p19 h15 fun n20 =>
 newSat 0 1 [] h15 (h.length + 5) fun s21 h22 =>
(cell h22 p19 = cell h15 p19) ∧ (
(cell h22 p17 = cell h15 p17) ∧ (
(range h22 p8_.o p8_.n p8_.off 2 = range h15 p8_.o p8_.n p8_.off 2) ∧ (
 app s21 s4_ 1 h22 fun s23 h24 =>
(cell h24 p19 = cell h15 p19) ∧ (
(cell h24 p17 = cell h15 p17) ∧ (
(range h24 p8_.o p8_.n p8_.off 2 = range h15 p8_.o p8_.n p8_.off 2) ∧ (
 newSat 1 1 [.sl s18] h24 (h.length + 12) fun s25 h26 =>
(cell h26 p19 = cell h15 p19) ∧ (
(range h26 p8_.o p8_.n p8_.off 2 = range h15 p8_.o p8_.n p8_.off 2) ∧ (
 app s23 s25 1 h26 fun s27 h28 =>
(cell h28 p19 = cell h15 p19) ∧ (
(range h28 p8_.o p8_.n p8_.off 2 = range h15 p8_.o p8_.n p8_.off 2) ∧ (
 callS S i_spec_l05All [.agg cs16, .sl s1_, .sl s2_, .sl s3_, .sl s27, .int .i64 i5_, .int .i64 n20, .int .i64 (w64 (i7_ - (1)))] h28 fun s30 h29 =>
 app s17_ s30 1 h29 fun s31 h32 =>
 X0 (spec_l05All_e0 s1_ s2_ s3_ s4_ i5_ i6_ i7_ p8_ s31 (w64 (i18_ + (1)))) h32))))))))))
 else
 X0 (spec_l05All_e0 s1_ s2_ s3_ s4_ i5_ i6_ i7_ p8_ s17_ (w64 (i18_ + (1)))) h
 else
 spec_l05All_C0 S K s17_ h
theorem spec_l05All_link0 (S : SatT) (K : AVal → H → Prop) (X0 : Frame → H → Prop) (s1_ : Sl) (s2_ : Sl) (s3_ : Sl) (s4_ : Sl) (i5_ : Int) (i6_ : Int) (i7_ : Int) (p8_ : Pt) (s17_ : Sl) (i18_ : Int) (h : H) : spec_l05All_w0 S K X0 (spec_l05All_e0 s1_ s2_ s3_ s4_ i5_ i6_ i7_ p8_ s17_ i18_) h = spec_l05All_b0 S K X0 s1_ s2_ s3_ s4_ i5_ i6_ i7_ p8_ s17_ i18_ h := by kernel_rfl
theorem spec_l05All_rule0 (S : SatT) (K : AVal → H → Prop) (s1_ : Sl) (s2_ : Sl) (s3_ : Sl) (s4_ : Sl) (i5_ : Int) (i6_ : Int) (i7_ : Int) (p8_ : Pt) (I_ : Sl → Int → H → Prop) (m_ : Sl → Int → H → Nat)
    (hs : ∀ (X0 : Frame → H → Prop) (s17_ : Sl) (i18_ : Int) (h : H), I_ s17_ i18_ h → (∀ (s17_' : Sl) (i18_' : Int) (h' : H), I_ s17_' i18_' h' → m_ s17_' i18_' h' < m_ s17_ i18_ h → X0 (spec_l05All_e0 s1_ s2_ s3_ s4_ i5_ i6_ i7_ p8_ s17_' i18_') h') → spec_l05All_b0 S K X0 s1_ s2_ s3_ s4_ i5_ i6_ i7_ p8_ s17_ i18_ h) (s17_ : Sl) (i18_ : Int) {h : H} (h0 : I_ s17_ i18_ h) : spec_l05All_L0 S K s1_ s2_ s3_ s4_ i5_ i6_ i7_ p8_ s17_ i18_ h :=
  loop_rule (σ := (Sl) × (Int)) (fun s_ => spec_l05All_e0 s1_ s2_ s3_ s4_ i5_ i6_ i7_ p8_ (s_.1) (s_.2)) (fun s_ h => I_ (s_.1) (s_.2) h) (fun s_ h => m_ (s_.1) (s_.2) h)
    (fun X s_ h hi hx => (spec_l05All_link0 S K X s1_ s2_ s3_ s4_ i5_ i6_ i7_ p8_ (s_.1) (s_.2) h).mpr (hs X (s_.1) (s_.2) h hi fun s17_' i18_' h' hi' hm' => hx (s17_', i18_') h' hi' hm')) (s17_, i18_) h0
theorem spec_l05All_unroll0 (S : SatT) (K : AVal → H → Prop) (s1_ : Sl) (s2_ : Sl) (s3_ : Sl) (s4_ : Sl) (i5_ : Int) (i6_ : Int) (i7_ : Int) (p8_ : Pt) (s17_ : Sl) (i18_ : Int) (h : H) (hb : spec_l05All_b0 S K (fun fr h => loopK (spec_l05All_w0 S K) fr h) s1_ s2_ s3_ s4_ i5_ i6_ i7_ p8_ s17_ i18_ h) : spec_l05All_L0 S K s1_ s2_ s3_ s4_ i5_ i6_ i7_ p8_ s17_ i18_ h := loop_unroll ((spec_l05All_link0 S K _ s1_ s2_ s3_ s4_ i5_ i6_ i7_ p8_ s17_ i18_ h).mpr hb)
def spec_l05All_main (S : SatT) (K : AVal → H → Prop) (x0 : List AVal) (x1 : Sl) (x2 : Sl) (x3 : Sl) (x4 : Sl) (x5 : Int) (x6 : Int) (x7 : Int) (h : H) : Prop :=
 newK 2 x0 h fun p0 h1 =>
 bif (x7 == (0)) then
 bif (x6 == x5) then
 newS 1 1 [.sl x4] h1 fun s2 h3 =>
 K (.sl s2) h3
 else
 newS 0 1 [] h1 fun s4 h5 =>
 K (.sl s4) h5
 else
 newS 0 1 [] h1 fun s6 h7 =>
 spec_l05All_L0 S K x1 x2 x3 x4 x5 x6 x7 p0 s6 (0) h7
theorem spec_l05All_main_link (S : SatT) (K : AVal → H → Prop) (x0 : List AVal) (x1 : Sl) (x2 : Sl) (x3 : Sl) (x4 : Sl) (x5 : Int) (x6 : Int) (x7 : Int) (h : H) : cwp S tab spec_l05All_M [] (bodyOf Try.f84) (kFun tab Try.f84.results.toList K) (fr0 Try.f84 [.agg x0, .sl x1, .sl x2, .sl x3, .sl x4, .int .i64 x5, .int .i64 x6, .int .i64 x7]) h = spec_l05All_main S K x0 x1 x2 x3 x4 x5 x6 x7 h := by kernel_rfl
theorem spec_l05All_call (x0 : List AVal) (x1 : Sl) (x2 : Sl) (x3 : Sl) (x4 : Sl) (x5 : Int) (x6 : Int) (x7 : Int) (h : H) (K : Sl → H → Prop) (hm : spec_l05All_main (Sat Try.prog) (fun v h' => ∃ r, v = .sl r ∧ K r h') x0 x1 x2 x3 x4 x5 x6 x7 h) : callS (Sat Try.prog) i_spec_l05All [.agg x0, .sl x1, .sl x2, .sl x3, .sl x4, .int .i64 x5, .int .i64 x6, .int .i64 x7] h K := by
  have := Sat.ex tok mixed spec_l05All_M Try.func84 (c := bodyOf Try.f84) (by kernel_rfl) (calls_of Try.func84 (c := bodyOf Try.f84) (by kernel_rfl) (by decide)) ((spec_l05All_main_link _ _ x0 x1 x2 x3 x4 x5 x6 x7 h).mpr hm)
  obtain ⟨v, h2, h3, r, rfl, h4⟩ := this; exact ⟨r, h2, h3, h4⟩

/-! ### (loop.example/g01354/impl.Set).rounds$1 -/
def impl_Set_rounds_1_M : Nat → List Nat := fun i => bif i == 0 then [0, 1, 2, 3, 4, 6, 7, 27, 28, 29] else []
def impl_Set_rounds_1_e0 (i0_ : Int) (i1_ : Int) (i2_ : Int) (i3_ : Int) (i4_ : Int) (p6_ : Pt) (p7_ : Pt) (s27_ : Sl) (i28_ : Int) (i29_ : Int) : Frame := [.int .i64 i0_, .int .i64 i1_, .int .i64 i2_, .int .i64 i3_, .int .i64 i4_, U, .ptr p6_, .ptr p7_, U, U, U, U, U, U, U, U, U, U, U, U, U, U, U, U, U, U, U, .sl s27_, .int .i64 i28_, .int .i64 i29_, U, U, U, U, U, U, U, U, U, U, U, U, U, U, U, U, U, U, U, U, U, U, U, U, U, U, U, U, U]
def impl_Set_rounds_1_w0 (S : SatT) (K : AVal → H → Prop) : (Frame → H → Prop) → Frame → H → Prop := fun X fr h => cwp S tab impl_Set_rounds_1_M (impl_Set_rounds_1_M 0) (sub [1, 1, 0, 0] (bodyOf Try.f103)) (kSeq (fun fr h => X (mask (impl_Set_rounds_1_M 0) fr) h) (kBlk 0 (kFun tab (Try.f103).results.toList K))) fr h
def impl_Set_rounds_1_L0 (S : SatT) (K : AVal → H → Prop) (i0_ : Int) (i1_ : Int) (i2_ : Int) (i3_ : Int) (i4_ : Int) (p6_ : Pt) (p7_ : Pt) (s27_ : Sl) (i28_ : Int) (i29_ : Int) (h : H) : Prop := loopK (impl_Set_rounds_1_w0 S K) (impl_Set_rounds_1_e0 i0_ i1_ i2_ i3_ i4_ p6_ p7_ s27_ i28_ i29_) h
def impl_Set_rounds_1_b0 (S : SatT) (K : AVal → H → Prop) (X0 : Frame → H → Prop) (i0_ : Int) (i1_ : Int) (i2_ : Int) (i3_ : Int) (i4_ : Int) (p6_ : Pt) (p7_ : Pt) (s27_ : Sl) (i28_ : Int) (i29_ : Int) (h : H) : Prop :=
 bif (decide (i29_ < i28_)) then
 ixS s27_ 4 i29_ fun p0 =>
 ldA p0 4 h fun cs1 =>
 newO [.int .i64 (0), .int .i64 (0), .int .i64 (0), .int .i64 (0)] h fun p2 h3 =>
 stN p2 4 cs1 h3 fun h4 =>
 ixA p2 4 1 (0) fun p5 =>
 ldI .i64 p5 h4 fun n6 =>
 bif (n6 == i1_) then
 ldV p7_ h4 fun v7 =>
 ixA p2 4 1 (2) fun p8 =>
 ldI .i64 p8 h4 fun n9 =>
 isPt p6_ (
 ldI .i64 (Pt.add p6_ 0) h4 fun n10 =>
 ixA p2 4 1 (1) fun p11 =>
 ldI .i64 p11 h4 fun n12 =>
 isPt p6_ (
 ldI .i64 (Pt.add p6_ 0) h4 fun n13 =>
 ixA p2 4 1 (3) fun p14 =>
 ldI .i64 p14 h4 fun n15 =>
 viaF v7 [.int .i64 i0_, .int .i64 n9, .int .i64 (w64 ((w64 (i2_ * n10)) + n12)), .int .i64 (w64 ((w64 (i3_ * n13)) + n15)), .int .i64 (w64 (i4_ - (1)))] fun g16 ys17 =>
 callV S g16 ys17 h4 fun v19 h18 =>
 X0 (impl_Set_rounds_1_e0 i0_ i1_ i2_ i3_ i4_ p6_ p7_ s27_ i28_ (w64 (i29_ + (1)))) h18))
 else
 X0 (impl_Set_rounds_1_e0 i0_ i1_ i2_ i3_ i4_ p6_ p7_ s27_ i28_ (w64 (i29_ + (1)))) h4
 else
 K (.tuple []) h
theorem impl_Set_rounds_1_link0 (S : SatT) (K : AVal → H → Prop) (X0 : Frame → H → Prop) (i0_ : Int) (i1_ : Int) (i2_ : Int) (i3_ : Int) (i4_ : Int) (p6_ : Pt) (p7_ : Pt) (s27_ : Sl) (i28_ : Int) (i29_ : Int) (h : H) : impl_Set_rounds_1_w0 S K X0 (impl_Set_rounds_1_e0 i0_ i1_ i2_ i3_ i4_ p6_ p7_ s27_ i28_ i29_) h = impl_Set_rounds_1_b0 S K X0 i0_ i1_ i2_ i3_ i4_ p6_ p7_ s27_ i28_ i29_ h := by kernel_rfl
theorem impl_Set_rounds_1_rule0 (S : SatT) (K : AVal → H → Prop) (i0_ : Int) (i1_ : Int) (i2_ : Int) (i3_ : Int) (i4_ : Int) (p6_ : Pt) (p7_ : Pt) (s27_ : Sl) (i28_ : Int) (I_ : Int → H → Prop) (m_ : Int → H → Nat)
    (hs : ∀ (X0 : Frame → H → Prop) (i29_ : Int) (h : H), I_ i29_ h → (∀ (i29_' : Int) (h' : H), I_ i29_' h' → m_ i29_' h' < m_ i29_ h → X0 (impl_Set_rounds_1_e0 i0_ i1_ i2_ i3_ i4_ p6_ p7_ s27_ i28_ i29_') h') → impl_Set_rounds_1_b0 S K X0 i0_ i1_ i2_ i3_ i4_ p6_ p7_ s27_ i28_ i29_ h) (i29_ : Int) {h : H} (h0 : I_ i29_ h) : impl_Set_rounds_1_L0 S K i0_ i1_ i2_ i3_ i4_ p6_ p7_ s27_ i28_ i29_ h :=
  loop_rule (σ := (Int)) (fun s_ => impl_Set_rounds_1_e0 i0_ i1_ i2_ i3_ i4_ p6_ p7_ s27_ i28_ (s_)) (fun s_ h => I_ (s_) h) (fun s_ h => m_ (s_) h)
    (fun X s_ h hi hx => (impl_Set_rounds_1_link0 S K X i0_ i1_ i2_ i3_ i4_ p6_ p7_ s27_ i28_ (s_) h).mpr (hs X (s_) h hi fun i29_' h' hi' hm' => hx (i29_') h' hi' hm')) (i29_) h0
theorem impl_Set_rounds_1_unroll0 (S : SatT) (K : AVal → H → Prop) (i0_ : Int) (i1_ : Int) (i2_ : Int) (i3_ : Int) (i4_ : Int) (p6_ : Pt) (p7_ : Pt) (s27_ : Sl) (i28_ : Int) (i29_ : Int) (h : H) (hb : impl_Set_rounds_1_b0 S K (fun fr h => loopK (impl_Set_rounds_1_w0 S K) fr h) i0_ i1_ i2_ i3_ i4_ p6_ p7_ s27_ i28_ i29_ h) : impl_Set_rounds_1_L0 S K i0_ i1_ i2_ i3_ i4_ p6_ p7_ s27_ i28_ i29_ h := loop_unroll ((impl_Set_rounds_1_link0 S K _ i0_ i1_ i2_ i3_ i4_ p6_ p7_ s27_ i28_ i29_ h).mpr hb)
def impl_Set_rounds_1_main (S : SatT) (K : AVal → H → Prop) (x0 : Int) (x1 : Int) (x2 : Int) (x3 : Int) (x4 : Int) (x5 : Pt) (x6 : Pt) (x7 : Pt) (h : H) : Prop :=
 bif (x4 == (0)) then
 bif (x0 == x1) then
 ldS x5 h fun s0 =>
 lenA [.int .i64 x2, .int .i64 x3] 2 (
 newS 1 2 (spl [.int .i64 (0), .int .i64 (0)] 0 2 [.int .i64 x2, .int .i64 x3]) h fun s1 h2 =>
 app s0 s1 2 h2 fun s3 h4 =>
 st1 x5 (.sl s3) h4 fun h5 =>
 K (.tuple []) h5)
 else
 K (.tuple []) h
 else
 isPt x6 (
 ldS (Pt.add x6 1) h fun s6 =>
 impl_Set_rounds_1_L0 S K x0 x1 x2 x3 x4 x6 x7 s6 (s6.len : Int) (0) h)
theorem impl_Set_rounds_1_main_link (S : SatT) (K : AVal → H → Prop) (x0 : Int) (x1 : Int) (x2 : Int) (x3 : Int) (x4 : Int) (x5 : Pt) (x6 : Pt) (x7 : Pt) (h : H) : cwp S tab impl_Set_rounds_1_M [] (bodyOf Try.f103) (kFun tab Try.f103.results.toList K) (fr0 Try.f103 [.int .i64 x0, .int .i64 x1, .int .i64 x2, .int .i64 x3, .int .i64 x4, .ptr x5, .ptr x6, .ptr x7]) h = impl_Set_rounds_1_main S K x0 x1 x2 x3 x4 x5 x6 x7 h := by kernel_rfl
theorem impl_Set_rounds_1_call (x0 : Int) (x1 : Int) (x2 : Int) (x3 : Int) (x4 : Int) (x5 : Pt) (x6 : Pt) (x7 : Pt) (h : H) (K : AVal → H → Prop) (hm : impl_Set_rounds_1_main (Sat Try.prog) (fun v h' => K v h') x0 x1 x2 x3 x4 x5 x6 x7 h) : callV (Sat Try.prog) i_impl_Set_rounds_1 [.int .i64 x0, .int .i64 x1, .int .i64 x2, .int .i64 x3, .int .i64 x4, .ptr x5, .ptr x6, .ptr x7] h K := by
  have := Sat.ex tok mixed impl_Set_rounds_1_M Try.func103 (c := bodyOf Try.f103) (by kernel_rfl) (calls_of Try.func103 (c := bodyOf Try.f103) (by kernel_rfl) (by decide)) ((impl_Set_rounds_1_main_link _ _ x0 x1 x2 x3 x4 x5 x6 x7 h).mpr hm)
  exact this

/-! ### loop.example/g01354/spec.l05Words -/
def spec_l05Words_M : Nat → List Nat := fun i => bif i == 0 then [2, 7, 8, 9, 10] else []
def spec_l05Words_ks2 (S : SatT) (K : AVal → H → Prop) : Kont := kSeq (cwp S tab spec_l05Words_M [] (sub [1, 1, 1] (bodyOf Try.f50)) (kFun tab (Try.f50).results.toList K)) (kFun tab (Try.f50).results.toList K)
def spec_l05Words_e0 (p2_ : Pt) (s7_ : Sl) (s8_ : Sl) (s9_ : Sl) (i10_ : Int) : Frame := [U, U, .ptr p2_, U, U, U, U, .sl s7_, .sl s8_, .sl s9_, .int .i64 i10_, U, U, U, U, U, U, U, U, U, U, U, U, U, U, U, U, U, U, U, U, U, U, U, U, U, U, U, U, U, U, U, U, U]
def spec_l05Words_w0 (S : SatT) (K : AVal → H → Prop) : (Frame → H → Prop) → Frame → H → Prop := fun X fr h => cwp S tab spec_l05Words_M (spec_l05Words_M 0) (sub [1, 1, 0, 1, 0, 0] (bodyOf Try.f50)) (kSeq (fun fr h => X (mask (spec_l05Words_M 0) fr) h) (kBlk 0 (spec_l05Words_ks2 S K))) fr h
def spec_l05Words_L0 (S : SatT) (K : AVal → H → Prop) (p2_ : Pt) (s7_ : Sl) (s8_ : Sl) (s9_ : Sl) (i10_ : Int) (h : H) : Prop := loopK (spec_l05Words_w0 S K) (spec_l05Words_e0 p2_ s7_ s8_ s9_ i10_) h
def spec_l05Words_C0 (S : SatT) (K : AVal → H → Prop) (s7_ : Sl) (s8_ : Sl) (s9_ : Sl) (h : H) : Prop :=
 K (.tuple [.sl s7_, .sl s8_, .sl s9_]) h
def spec_l05Words_b0 (S : SatT) (K : AVal → H → Prop) (X0 : Frame → H → Prop) (p2_ : Pt) (s7_ : Sl) (s8_ : Sl) (s9_ : Sl) (i10_ : Int) (h : H) : Prop :=
 bif (decide (i10_ < (s7_.len : Int))) then
 ldA p2_ 2 h fun cs0 =>
 ixS s7_ 1 i10_ fun p1 =>
 ldS p1 h fun s2 =>
 callI S .i64 i_spec_l05Side [.agg cs0, .sl s2, .int .i64 (1)] h fun n4 h3 =>
 newS 1 1 [.int .i64 n4] h3 fun s5 h6 =>
 app s8_ s5 1 h6 fun s7 h8 =>
 ldA p2_ 2 h8 fun cs9 =>
 ixS s7_ 1 i10_ fun p10 =>
 ldS p10 h8 fun s11 =>
 callI S .i64 i_spec_l05Side [.agg cs9, .sl s11, .int .i64 (3)] h8 fun n13 h12 =>
 newS 1 1 [.int .i64 n13] h12 fun s14 h15 =>
 app s9_ s14 1 h15 fun s16 h17 =>
 X0 (spec_l05Words_e0 p2_ s7_ s7 s16 (w64 (i10_ + (1)))) h17
 else
 spec_l05Words_C0 S K s7_ s8_ s9_ h
theorem spec_l05Words_link0 (S : SatT) (K : AVal → H → Prop) (X0 : Frame → H → Prop) (p2_ : Pt) (s7_ : Sl) (s8_ : Sl) (s9_ : Sl) (i10_ : Int) (h : H) : spec_l05Words_w0 S K X0 (spec_l05Words_e0 p2_ s7_ s8_ s9_ i10_) h = spec_l05Words_b0 S K X0 p2_ s7_ s8_ s9_ i10_ h := by kernel_rfl
theorem spec_l05Words_rule0 (S : SatT) (K : AVal → H → Prop) (p2_ : Pt) (s7_ : Sl) (I_ : Sl → Sl → Int → H → Prop) (m_ : Sl → Sl → Int → H → Nat)
    (hs : ∀ (X0 : Frame → H → Prop) (s8_ : Sl) (s9_ : Sl) (i10_ : Int) (h : H), I_ s8_ s9_ i10_ h → (∀ (s8_' : Sl) (s9_' : Sl) (i10_' : Int) (h' : H), I_ s8_' s9_' i10_' h' → m_ s8_' s9_' i10_' h' < m_ s8_ s9_ i10_ h → X0 (spec_l05Words_e0 p2_ s7_ s8_' s9_' i10_') h') → spec_l05Words_b0 S K X0 p2_ s7_ s8_ s9_ i10_ h) (s8_ : Sl) (s9_ : Sl) (i10_ : Int) {h : H} (h0 : I_ s8_ s9_ i10_ h) : spec_l05Words_L0 S K p2_ s7_ s8_ s9_ i10_ h :=
  loop_rule (σ := (Sl) × (Sl) × (Int)) (fun s_ => spec_l05Words_e0 p2_ s7_ (s_.1) (s_.2.1) (s_.2.2)) (fun s_ h => I_ (s_.1) (s_.2.1) (s_.2.2) h) (fun s_ h => m_ (s_.1) (s_.2.1) (s_.2.2) h)
    (fun X s_ h hi hx => (spec_l05Words_link0 S K X p2_ s7_ (s_.1) (s_.2.1) (s_.2.2) h).mpr (hs X (s_.1) (s_.2.1) (s_.2.2) h hi fun s8_' s9_' i10_' h' hi' hm' => hx (s8_', s9_', i10_') h' hi' hm')) (s8_, s9_, i10_) h0
theorem spec_l05Words_unroll0 (S : SatT) (K : AVal → H → Prop) (p2_ : Pt) (s7_ : Sl) (s8_ : Sl) (s9_ : Sl) (i10_ : Int) (h : H) (hb : spec_l05Words_b0 S K (fun fr h => loopK (spec_l05Words_w0 S K) fr h) p2_ s7_ s8_ s9_ i10_ h) : spec_l05Words_L0 S K p2_ s7_ s8_ s9_ i10_ h := loop_unroll ((spec_l05Words_link0 S K _ p2_ s7_ s8_ s9_ i10_ h).mpr hb)
def spec_l05Words_main (S : SatT) (K : AVal → H → Prop) (x0 : List AVal) (x1 : Int) (h : H) : Prop :=
 newK 2 x0 h fun p0 h1 =>
 ldA p0 2 h1 fun cs2 =>
 newS 0 1 [] h1 fun s3 h4 =>
 callS S i_spec_l05Rounds [.agg cs2, .sl s3, .int .i64 x1] h4 fun s6 h5 =>
 newS 0 1 [] h5 fun s7 h8 =>
 newS 0 1 [] h8 fun s9 h10 =>
 spec_l05Words_L0 S K p0 s6 s7 s9 (0) h10
theorem spec_l05Words_main_link (S : SatT) (K : AVal → H → Prop) (x0 : List AVal) (x1 : Int) (h : H) : cwp S tab spec_l05Words_M [] (bodyOf Try.f50) (kFun tab Try.f50.results.toList K) (fr0 Try.f50 [.agg x0, .int .i64 x1]) h = spec_l05Words_main S K x0 x1 h := by kernel_rfl
theorem spec_l05Words_call (x0 : List AVal) (x1 : Int) (h : H) (K : AVal → H → Prop) (hm : spec_l05Words_main (Sat Try.prog) (fun v h' => K v h') x0 x1 h) : callV (Sat Try.prog) i_spec_l05Words [.agg x0, .int .i64 x1] h K := by
  have := Sat.ex tok mixed spec_l05Words_M Try.func50 (c := bodyOf Try.f50) (by kernel_rfl) (calls_of Try.func50 (c := bodyOf Try.f50) (by kernel_rfl) (by decide)) ((spec_l05Words_main_link _ _ x0 x1 h).mpr hm)
  exact this

/-! ### loop.example/g01354/impl.IsSet -/
def impl_IsSet_M : Nat → List Nat := fun i => bif i == 0 then [1, 6, 7, 8] else []
def impl_IsSet_ks1 (S : SatT) (K : AVal → H → Prop) : Kont := kSeq (cwp S tab impl_IsSet_M [] (sub [1, 1] (bodyOf Try.f77)) (kFun tab (Try.f77).results.toList K)) (kFun tab (Try.f77).results.toList K)
def impl_IsSet_e0 (p1_ : Pt) (s6_ : Sl) (i7_ : Int) (i8_ : Int) : Frame := [U, .ptr p1_, U, U, U, U, .sl s6_, .int .i64 i7_, .int .i64 i8_, U, U, U, U, U, U, U, U, U, U, U, U, U, U, U, U, U, U, U, U, U, U, U, U, U, U, U, U, U, U, U, U, U, U]
def impl_IsSet_w0 (S : SatT) (K : AVal → H → Prop) : (Frame → H → Prop) → Frame → H → Prop := fun X fr h => cwp S tab impl_IsSet_M (impl_IsSet_M 0) (sub [1, 0, 1, 0, 0] (bodyOf Try.f77)) (kSeq (fun fr h => X (mask (impl_IsSet_M 0) fr) h) (kBlk 0 (impl_IsSet_ks1 S K))) fr h
def impl_IsSet_L0 (S : SatT) (K : AVal → H → Prop) (p1_ : Pt) (s6_ : Sl) (i7_ : Int) (i8_ : Int) (h : H) : Prop := loopK (impl_IsSet_w0 S K) (impl_IsSet_e0 p1_ s6_ i7_ i8_) h
def impl_IsSet_C0 (S : SatT) (K : AVal → H → Prop) (p1_ : Pt) (h : H) : Prop :=
 isPt p1_ (
 ldI .i64 (Pt.add p1_ 0) h fun n0 =>
 callB S i_impl_within [.int .i64 n0, .int .i64 (1), .int .i64 (6)] h fun b2 h1 =>
 bif b2 then
 isPt p1_ (
 ldS (Pt.add p1_ 1) h1 fun s3 =>
 K (.bool (decide ((s3.len : Int) ≤ (16)))) h1)
 else
 K (.bool false) h1)
def impl_IsSet_b0 (S : SatT) (K : AVal → H → Prop) (X0 : Frame → H → Prop) (p1_ : Pt) (s6_ : Sl) (i7_ : Int) (i8_ : Int) (h : H) : Prop :=
 bif (decide (i8_ < i7_)) then
 ixS s6_ 4 i8_ fun p0 =>
 ldA p0 4 h fun cs1 =>
 newO [.int .i64 (0), .int .i64 (0), .int .i64 (0), .int .i64 (0)] h fun p2 h3 =>
 stN p2 4 cs1 h3 fun h4 =>
 ldA p2 4 h4 fun cs5 =>
 isPt p1_ (
 ldI .i64 (Pt.add p1_ 0) h4 fun n6 =>
 callB S i_impl_isTile [.agg cs5, .int .i64 n6] h4 fun b8 h7 =>
 bif (!b8) then
 K (.bool false) h7
 else
 bif (decide (i8_ > (0))) then
 isPt p1_ (
 ldS (Pt.add p1_ 1) h7 fun s9 =>
 ixS s9 4 (w64 (i8_ - (1))) fun p10 =>
 ldA p10 4 h7 fun cs11 =>
 ldA p2 4 h7 fun cs12 =>
 callI S .i64 i_impl_compare [.agg cs11, .agg cs12] h7 fun n14 h13 =>
 bif (decide (n14 ≥ (0))) then
 K (.bool false) h13
 else
 X0 (impl_IsSet_e0 p1_ s6_ i7_ (w64 (i8_ + (1)))) h13)
 else
 X0 (impl_IsSet_e0 p1_ s6_ i7_ (w64 (i8_ + (1)))) h7)
 else
 impl_IsSet_C0 S K p1_ h
theorem impl_IsSet_link0 (S : SatT) (K : AVal → H → Prop) (X0 : Frame → H → Prop) (p1_ : Pt) (s6_ : Sl) (i7_ : Int) (i8_ : Int) (h : H) : impl_IsSet_w0 S K X0 (impl_IsSet_e0 p1_ s6_ i7_ i8_) h = impl_IsSet_b0 S K X0 p1_ s6_ i7_ i8_ h := by kernel_rfl
theorem impl_IsSet_rule0 (S : SatT) (K : AVal → H → Prop) (p1_ : Pt) (s6_ : Sl) (i7_ : Int) (I_ : Int → H → Prop) (m_ : Int → H → Nat)
    (hs : ∀ (X0 : Frame → H → Prop) (i8_ : Int) (h : H), I_ i8_ h → (∀ (i8_' : Int) (h' : H), I_ i8_' h' → m_ i8_' h' < m_ i8_ h → X0 (impl_IsSet_e0 p1_ s6_ i7_ i8_') h') → impl_IsSet_b0 S K X0 p1_ s6_ i7_ i8_ h) (i8_ : Int) {h : H} (h0 : I_ i8_ h) : impl_IsSet_L0 S K p1_ s6_ i7_ i8_ h :=
  loop_rule (σ := (Int)) (fun s_ => impl_IsSet_e0 p1_ s6_ i7_ (s_)) (fun s_ h => I_ (s_) h) (fun s_ h => m_ (s_) h)
    (fun X s_ h hi hx => (impl_IsSet_link0 S K X p1_ s6_ i7_ (s_) h).mpr (hs X (s_) h hi fun i8_' h' hi' hm' => hx (i8_') h' hi' hm')) (i8_) h0
theorem impl_IsSet_unroll0 (S : SatT) (K : AVal → H → Prop) (p1_ : Pt) (s6_ : Sl) (i7_ : Int) (i8_ : Int) (h : H) (hb : impl_IsSet_b0 S K (fun fr h => loopK (impl_IsSet_w0 S K) fr h) p1_ s6_ i7_ i8_ h) : impl_IsSet_L0 S K p1_ s6_ i7_ i8_ h := loop_unroll ((impl_IsSet_link0 S K _ p1_ s6_ i7_ i8_ h).mpr hb)
def impl_IsSet_main (S : SatT) (K : AVal → H → Prop) (x0 : List AVal) (h : H) : Prop :=
 newK 2 x0 h fun p0 h1 =>
 isPt p0 (
 ldS (Pt.add p0 1) h1 fun s2 =>
 impl_IsSet_L0 S K p0 s2 (s2.len : Int) (0) h1)
theorem impl_IsSet_main_link (S : SatT) (K : AVal → H → Prop) (x0 : List AVal) (h : H) : cwp S tab impl_IsSet_M [] (bodyOf Try.f77) (kFun tab Try.f77.results.toList K) (fr0 Try.f77 [.agg x0]) h = impl_IsSet_main S K x0 h := by kernel_rfl
theorem impl_IsSet_call (x0 : List AVal) (h : H) (K : Bool → H → Prop) (hm : impl_IsSet_main (Sat Try.prog) (fun v h' => ∃ r, v = .bool r ∧ K r h') x0 h) : callB (Sat Try.prog) i_impl_IsSet [.agg x0] h K := by
  have := Sat.ex tok mixed impl_IsSet_M Try.func77 (c := bodyOf Try.f77) (by kernel_rfl) (calls_of Try.func77 (c := bodyOf Try.f77) (by kernel_rfl) (by decide)) ((impl_IsSet_main_link _ _ x0 h).mpr hm)
  obtain ⟨v, h2, h3, r, rfl, h4⟩ := this; exact ⟨r, h2, h3, h4⟩

/-! ### loop.example/g01354/spec.l05Side -/
def spec_l05Side_M : Nat → List Nat := fun i => bif i == 0 then [1, 2, 3, 7, 8] else []
def spec_l05Side_ks2 (S : SatT) (K : AVal → H → Prop) : Kont := kSeq (cwp S tab spec_l05Side_M [] (sub [1, 1, 1] (bodyOf Try.f101)) (kFun tab (Try.f101).results.toList K)) (kFun tab (Try.f101).results.toList K)
def spec_l05Side_e0 (s1_ : Sl) (i2_ : Int) (p3_ : Pt) (i7_ : Int) (i8_ : Int) : Frame := [U, .sl s1_, .int .i64 i2_, .ptr p3_, U, U, U, .int .i64 i7_, .int .i64 i8_, U, U, U, U, U, U, U, U, U, U, U, U, U, U, U, U, U, U, U, U, U, U]
def spec_l05Side_w0 (S : SatT) (K : AVal → H → Prop) : (Frame → H → Prop) → Frame → H → Prop := fun X fr h => cwp S tab spec_l05Side_M (spec_l05Side_M 0) (sub [1, 1, 0, 1, 0, 0] (bodyOf Try.f101)) (kSeq (fun fr h => X (mask (spec_l05Side_M 0) fr) h) (kBlk 0 (spec_l05Side_ks2 S K))) fr h
def spec_l05Side_L0 (S : SatT) (K : AVal → H → Prop) (s1_ : Sl) (i2_ : Int) (p3_ : Pt) (i7_ : Int) (i8_ : Int) (h : H) : Prop := loopK (spec_l05Side_w0 S K) (spec_l05Side_e0 s1_ i2_ p3_ i7_ i8_) h
def spec_l05Side_C0 (S : SatT) (K : AVal → H → Prop) (i7_ : Int) (h : H) : Prop :=
 K (.int .i64 i7_) h
def spec_l05Side_b0 (S : SatT) (K : AVal → H → Prop) (X0 : Frame → H → Prop) (s1_ : Sl) (i2_ : Int) (p3_ : Pt) (i7_ : Int) (i8_ : Int) (h : H) : Prop :=
 bif (decide (i8_ < (s1_.len : Int))) then
 isPt p3_ (
 ldI .i64 (Pt.add p3_ 0) h fun n0 =>
 isPt p3_ (
 ldS (Pt.add p3_ 1) h fun s1 =>
 ixS s1_ 1 i8_ fun p2 =>
 ldI .i64 p2 h fun n3 =>
 ixS s1 4 n3 fun p4 =>
 ixA p4 4 1 i2_ fun p5 =>
 ldI .i64 p5 h fun n6 =>
 X0 (spec_l05Side_e0 s1_ i2_ p3_ (w64 ((w64 (i7_ * n0)) + n6)) (w64 (i8_ + (1)))) h))
 else
 spec_l05Side_C0 S K i7_ h
theorem spec_l05Side_link0 (S : SatT) (K : AVal → H → Prop) (X0 : Frame → H → Prop) (s1_ : Sl) (i2_ : Int) (p3_ : Pt) (i7_ : Int) (i8_ : Int) (h : H) : spec_l05Side_w0 S K X0 (spec_l05Side_e0 s1_ i2_ p3_ i7_ i8_) h = spec_l05Side_b0 S K X0 s1_ i2_ p3_ i7_ i8_ h := by kernel_rfl
theorem spec_l05Side_rule0 (S : SatT) (K : AVal → H → Prop) (s1_ : Sl) (i2_ : Int) (p3_ : Pt) (I_ : Int → Int → H → Prop) (m_ : Int → Int → H → Nat)
    (hs : ∀ (X0 : Frame → H → Prop) (i7_ : Int) (i8_ : Int) (h : H), I_ i7_ i8_ h → (∀ (i7_' : Int) (i8_' : Int) (h' : H), I_ i7_' i8_' h' → m_ i7_' i8_' h' < m_ i7_ i8_ h → X0 (spec_l05Side_e0 s1_ i2_ p3_ i7_' i8_') h') → spec_l05Side_b0 S K X0 s1_ i2_ p3_ i7_ i8_ h) (i7_ : Int) (i8_ : Int) {h : H} (h0 : I_ i7_ i8_ h) : spec_l05Side_L0 S K s1_ i2_ p3_ i7_ i8_ h :=
  loop_rule (σ := (Int) × (Int)) (fun s_ => spec_l05Side_e0 s1_ i2_ p3_ (s_.1) (s_.2)) (fun s_ h => I_ (s_.1) (s_.2) h) (fun s_ h => m_ (s_.1) (s_.2) h)
    (fun X s_ h hi hx => (spec_l05Side_link0 S K X s1_ i2_ p3_ (s_.1) (s_.2) h).mpr (hs X (s_.1) (s_.2) h hi fun i7_' i8_' h' hi' hm' => hx (i7_', i8_') h' hi' hm')) (i7_, i8_) h0
theorem spec_l05Side_unroll0 (S : SatT) (K : AVal → H → Prop) (s1_ : Sl) (i2_ : Int) (p3_ : Pt) (i7_ : Int) (i8_ : Int) (h : H) (hb : spec_l05Side_b0 S K (fun fr h => loopK (spec_l05Side_w0 S K) fr h) s1_ i2_ p3_ i7_ i8_ h) : spec_l05Side_L0 S K s1_ i2_ p3_ i7_ i8_ h := loop_unroll ((spec_l05Side_link0 S K _ s1_ i2_ p3_ i7_ i8_ h).mpr hb)
def spec_l05Side_main (S : SatT) (K : AVal → H → Prop) (x0 : List AVal) (x1 : Sl) (x2 : Int) (h : H) : Prop :=
 newK 2 x0 h fun p0 h1 =>
 spec_l05Side_L0 S K x1 x2 p0 (0) (0) h1
theorem spec_l05Side_main_link (S : SatT) (K : AVal → H → Prop) (x0 : List AVal) (x1 : Sl) (x2 : Int) (h : H) : cwp S tab spec_l05Side_M [] (bodyOf Try.f101) (kFun tab Try.f101.results.toList K) (fr0 Try.f101 [.agg x0, .sl x1, .int .i64 x2]) h = spec_l05Side_main S K x0 x1 x2 h := by kernel_rfl
theorem spec_l05Side_call (x0 : List AVal) (x1 : Sl) (x2 : Int) (h : H) (K : Int → H → Prop) (hm : spec_l05Side_main (Sat Try.prog) (fun v h' => ∃ r, v = .int .i64 r ∧ K r h') x0 x1 x2 h) : callI (Sat Try.prog) .i64 i_spec_l05Side [.agg x0, .sl x1, .int .i64 x2] h K := by
  have := Sat.ex tok mixed spec_l05Side_M Try.func101 (c := bodyOf Try.f101) (by kernel_rfl) (calls_of Try.func101 (c := bodyOf Try.f101) (by kernel_rfl) (by decide)) ((spec_l05Side_main_link _ _ x0 x1 x2 h).mpr hm)
  obtain ⟨v, h2, h3, r, rfl, h4⟩ := this; exact ⟨r, h2, h3, h4⟩

/-! ### loop.example/g01354/laws.FnExactShiftsKept -/
def laws_FnExactShiftsKept_M : Nat → List Nat := fun i => []
def laws_FnExactShiftsKept_main (S : SatT) (K : AVal → H → Prop) (x0 : List AVal) (x1 : Sl) (h : H) : Prop :=
 newK 2 x0 h fun p0 h1 =>
 ldA p0 2 h1 fun cs2 =>
 callI S .i64 i_laws_szSet [.agg cs2, .int .i64 (1048576)] h1 fun n4 h3 =>
 bif (decide (n4 < (0))) then
 K (.bool true) h3
 else
 callI S .i64 i_laws_szInt64SS [.sl x1, .int .i64 n4] h3 fun n6 h5 =>
 bif (decide (n6 < (0))) then
 K (.bool true) h5
 else
 ldA p0 2 h5 fun cs7 =>
 callA S i_laws_toSet [.agg cs7] h5 fun cs9 h8 =>
 callS S i_laws_toInt64SS [.sl x1] h8 fun s11 h10 =>
 callV S i_spec_ShiftsKept [.agg cs9, .sl s11] h10 fun v13 h12 =>
 viaT v13 fun vs14 =>
 exS vs14 0 fun s15 =>
 viaT v13 fun vs16 =>
 exI .i64 vs16 1 fun n17 =>
 ldA p0 2 h12 fun cs18 =>
 callA S i_laws_toSet [.agg cs18] h12 fun cs20 h19 =>
 newO [.int .i64 (0), .sl Sl.nil] h19 fun p21 h22 =>
 stN p21 2 cs20 h22 fun h23 =>
 callS S i_laws_toInt64SS [.sl x1] h23 fun s25 h24 =>
 ldA p21 2 h24 fun cs26 =>
 callV S i_impl_ShiftsKept [.agg cs26, .sl s25] h24 fun v28 h27 =>
 viaT v28 fun vs29 =>
 exS vs29 0 fun s30 =>
 viaT v28 fun vs31 =>
 exI .i64 vs31 1 fun n32 =>
 callB S i_laws_eqInt64SS [.sl s30, .sl s15] h27 fun b34 h33 =>
 bif (!b34) then
 K (.bool false) h33
 else
 bif (n32 != n17) then
 K (.bool false) h33
 else
 ldA p21 2 h33 fun cs35 =>
 ldA p0 2 h33 fun cs36 =>
 callA S i_laws_toSet [.agg cs36] h33 fun cs38 h37 =>
(range h37 p21.o p21.n p21.off 2 = range h33 p21.o p21.n p21.off 2) ∧ (
 callB S i_laws_eqSet [.agg cs35, .agg cs38] h37 fun b40 h39 =>
 bif (!b40) then
 K (.bool false) h39
 else
 callS S i_laws_toInt64SS [.sl x1] h39 fun s42 h41 =>
 callB S i_laws_eqInt64SS [.sl s25, .sl s42] h41 fun b44 h43 =>
 bif (!b44) then
 K (.bool false) h43
 else
 ldA p21 2 h43 fun cs45 =>
 callI S .i64 i_laws_markSet [.agg cs45, .int .i64 (1)] h43 fun n47 h46 =>
 callI S .i64 i_laws_markInt64SS [.sl s25, .int .i64 n47] h46 fun n49 h48 =>
 bif (decide (n49 < (0))) then
 K (.bool false) h48
 else
 callB S i_laws_eqInt64SS [.sl s30, .sl s15] h48 fun b51 h50 =>
 bif (!b51) then
 K (.bool false) h50
 else
 bif (n32 != n17) then
 K (.bool false) h50
 else
 callI S .i64 i_laws_markInt64SS [.sl s30, .int .i64 (1)] h50 fun n53 h52 =>
 callI S .i64 i_laws_heldInt64SS [.sl s30, .int .i64 (1)] h52 fun n55 h54 =>
 bif (decide (n55 < (0))) then
 K (.bool false) h54
 else
 bif (n55 != n53) then
 K (.bool false) h54
 else
 ldA p0 2 h54 fun cs56 =>
 callA S i_laws_toSet [.agg cs56] h54 fun cs58 h57 =>
 callS S i_laws_toInt64SS [.sl x1] h57 fun s60 h59 =>
 callV S i_impl_ShiftsKept [.agg cs58, .sl s60] h59 fun v62 h61 =>
 viaT v62 fun vs63 =>
 exS vs63 0 fun s64 =>
 viaT v62 fun vs65 =>
 exI .i64 vs65 1 fun n66 =>
 callB S i_laws_eqInt64SS [.sl s64, .sl s15] h61 fun b68 h67 =>
 bif (!b68) then
 K (.bool false) h67
 else
 bif (n66 != n17) then
 K (.bool false) h67
 else
 callI S .i64 i_laws_heldInt64SS [.sl s30, .int .i64 (1)] h67 fun n70 h69 =>
 bif (decide (n70 < (0))) then
 K (.bool false) h69
 else
 bif (n70 != n53) then
 K (.bool false) h69
 else
 K (.bool true) h69)
theorem laws_FnExactShiftsKept_main_link (S : SatT) (K : AVal → H → Prop) (x0 : List AVal) (x1 : Sl) (h : H) : cwp S tab laws_FnExactShiftsKept_M [] (bodyOf Try.f14) (kFun tab Try.f14.results.toList K) (fr0 Try.f14 [.agg x0, .sl x1]) h = laws_FnExactShiftsKept_main S K x0 x1 h := by kernel_rfl
theorem laws_FnExactShiftsKept_call (x0 : List AVal) (x1 : Sl) (h : H) (K : Bool → H → Prop) (hm : laws_FnExactShiftsKept_main (Sat Try.prog) (fun v h' => ∃ r, v = .bool r ∧ K r h') x0 x1 h) : callB (Sat Try.prog) i_laws_FnExactShiftsKept [.agg x0, .sl x1] h K := by
  have := Sat.ex tok mixed laws_FnExactShiftsKept_M Try.func14 (c := bodyOf Try.f14) (by kernel_rfl) (calls_of Try.func14 (c := bodyOf Try.f14) (by kernel_rfl) (by decide)) ((laws_FnExactShiftsKept_main_link _ _ x0 x1 h).mpr hm)
  obtain ⟨v, h2, h3, r, rfl, h4⟩ := this; exact ⟨r, h2, h3, h4⟩

/-! ### loop.example/g01354/laws.markInt64SS -/
def laws_markInt64SS_M : Nat → List Nat := fun i => bif i == 0 then [0, 1, 5] else []
def laws_markInt64SS_ks1 (S : SatT) (K : AVal → H → Prop) : Kont := kSeq (cwp S tab laws_markInt64SS_M [] (sub [1, 1] (bodyOf Try.f32)) (kFun tab (Try.f32).results.toList K)) (kFun tab (Try.f32).results.toList K)
def laws_markInt64SS_e0 (s0_ : Sl) (i1_ : Int) (i5_ : Int) : Frame := [.sl s0_, .int .i64 i1_, U, U, U, .int .i64 i5_, U, U, U, U, U, U, U, U, U, U, U, U, U]
def laws_markInt64SS_w0 (S : SatT) (K : AVal → H → Prop) : (Frame → H → Prop) → Frame → H → Prop := fun X fr h => cwp S tab laws_markInt64SS_M (laws_markInt64SS_M 0) (sub [1, 0, 1, 0, 0] (bodyOf Try.f32)) (kSeq (fun fr h => X (mask (laws_markInt64SS_M 0) fr) h) (kBlk 0 (laws_markInt64SS_ks1 S K))) fr h
def laws_markInt64SS_L0 (S : SatT) (K : AVal → H → Prop) (s0_ : Sl) (i1_ : Int) (i5_ : Int) (h : H) : Prop := loopK (laws_markInt64SS_w0 S K) (laws_markInt64SS_e0 s0_ i1_ i5_) h
def laws_markInt64SS_C0 (S : SatT) (K : AVal → H → Prop) (i1_ : Int) (h : H) : Prop :=
 K (.int .i64 i1_) h
def laws_markInt64SS_b0 (S : SatT) (K : AVal → H → Prop) (X0 : Frame → H → Prop) (s0_ : Sl) (i1_ : Int) (i5_ : Int) (h : H) : Prop :=
 bif (decide (i5_ < (s0_.len : Int))) then
 ixS s0_ 1 i5_ fun p0 =>
 ldS p0 h fun s1 =>
 callI S .i64 i_laws_markInt64S [.sl s1, .int .i64 i1_] h fun n3 h2 =>
 X0 (laws_markInt64SS_e0 s0_ n3 (w64 (i5_ + (1)))) h2
 else
 laws_markInt64SS_C0 S K i1_ h
theorem laws_markInt64SS_link0 (S : SatT) (K : AVal → H → Prop) (X0 : Frame → H → Prop) (s0_ : Sl) (i1_ : Int) (i5_ : Int) (h : H) : laws_markInt64SS_w0 S K X0 (laws_markInt64SS_e0 s0_ i1_ i5_) h = laws_markInt64SS_b0 S K X0 s0_ i1_ i5_ h := by kernel_rfl
theorem laws_markInt64SS_rule0 (S : SatT) (K : AVal → H → Prop) (s0_ : Sl) (I_ : Int → Int → H → Prop) (m_ : Int → Int → H → Nat)
    (hs : ∀ (X0 : Frame → H → Prop) (i1_ : Int) (i5_ : Int) (h : H), I_ i1_ i5_ h → (∀ (i1_' : Int) (i5_' : Int) (h' : H), I_ i1_' i5_' h' → m_ i1_' i5_' h' < m_ i1_ i5_ h → X0 (laws_markInt64SS_e0 s0_ i1_' i5_') h') → laws_markInt64SS_b0 S K X0 s0_ i1_ i5_ h) (i1_ : Int) (i5_ : Int) {h : H} (h0 : I_ i1_ i5_ h) : laws_markInt64SS_L0 S K s0_ i1_ i5_ h :=
  loop_rule (σ := (Int) × (Int)) (fun s_ => laws_markInt64SS_e0 s0_ (s_.1) (s_.2)) (fun s_ h => I_ (s_.1) (s_.2) h) (fun s_ h => m_ (s_.1) (s_.2) h)
    (fun X s_ h hi hx => (laws_markInt64SS_link0 S K X s0_ (s_.1) (s_.2) h).mpr (hs X (s_.1) (s_.2) h hi fun i1_' i5_' h' hi' hm' => hx (i1_', i5_') h' hi' hm')) (i1_, i5_) h0
theorem laws_markInt64SS_unroll0 (S : SatT) (K : AVal → H → Prop) (s0_ : Sl) (i1_ : Int) (i5_ : Int) (h : H) (hb : laws_markInt64SS_b0 S K (fun fr h => loopK (laws_markInt64SS_w0 S K) fr h) s0_ i1_ i5_ h) : laws_markInt64SS_L0 S K s0_ i1_ i5_ h := loop_unroll ((laws_markInt64SS_link0 S K _ s0_ i1_ i5_ h).mpr hb)
def laws_markInt64SS_main (S : SatT) (K : AVal → H → Prop) (x0 : Sl) (x1 : Int) (h : H) : Prop :=
 laws_markInt64SS_L0 S K x0 x1 (0) h
theorem laws_markInt64SS_main_link (S : SatT) (K : AVal → H → Prop) (x0 : Sl) (x1 : Int) (h : H) : cwp S tab laws_markInt64SS_M [] (bodyOf Try.f32) (kFun tab Try.f32.results.toList K) (fr0 Try.f32 [.sl x0, .int .i64 x1]) h = laws_markInt64SS_main S K x0 x1 h := by kernel_rfl
theorem laws_markInt64SS_call (x0 : Sl) (x1 : Int) (h : H) (K : Int → H → Prop) (hm : laws_markInt64SS_main (Sat Try.prog) (fun v h' => ∃ r, v = .int .i64 r ∧ K r h') x0 x1 h) : callI (Sat Try.prog) .i64 i_laws_markInt64SS [.sl x0, .int .i64 x1] h K := by
  have := Sat.ex tok mixed laws_markInt64SS_M Try.func32 (c := bodyOf Try.f32) (by kernel_rfl) (calls_of Try.func32 (c := bodyOf Try.f32) (by kernel_rfl) (by decide)) ((laws_markInt64SS_main_link _ _ x0 x1 h).mpr hm)
  obtain ⟨v, h2, h3, r, rfl, h4⟩ := this; exact ⟨r, h2, h3, h4⟩

/-! ### loop.example/g01354/laws.markInt64S -/
def laws_markInt64S_M : Nat → List Nat := fun i => bif i == 0 then [0, 1, 5] else []
def laws_markInt64S_ks1 (S : SatT) (K : AVal → H → Prop) : Kont := kSeq (cwp S tab laws_markInt64S_M [] (sub [1, 1] (bodyOf Try.f79)) (kFun tab (Try.f79).results.toList K)) (kFun tab (Try.f79).results.toList K)
def laws_markInt64S_e0 (s0_ : Sl) (i1_ : Int) (i5_ : Int) : Frame := [.sl s0_, .int .i64 i1_, U, U, U, .int .i64 i5_, U, U, U, U, U, U, U, U, U, U, U, U, U]
def laws_markInt64S_w0 (S : SatT) (K : AVal → H → Prop) : (Frame → H → Prop) → Frame → H → Prop := fun X fr h => cwp S tab laws_markInt64S_M (laws_markInt64S_M 0) (sub [1, 0, 1, 0, 0] (bodyOf Try.f79)) (kSeq (fun fr h => X (mask (laws_markInt64S_M 0) fr) h) (kBlk 0 (laws_markInt64S_ks1 S K))) fr h
def laws_markInt64S_L0 (S : SatT) (K : AVal → H → Prop) (s0_ : Sl) (i1_ : Int) (i5_ : Int) (h : H) : Prop := loopK (laws_markInt64S_w0 S K) (laws_markInt64S_e0 s0_ i1_ i5_) h
def laws_markInt64S_C0 (S : SatT) (K : AVal → H → Prop) (i1_ : Int) (h : H) : Prop :=
 K (.int .i64 i1_) h
def laws_markInt64S_b0 (S : SatT) (K : AVal → H → Prop) (X0 : Frame → H → Prop) (s0_ : Sl) (i1_ : Int) (i5_ : Int) (h : H) : Prop :=
 bif (decide (i5_ < (s0_.len : Int))) then
 ixS s0_ 1 i5_ fun p0 =>
 st1 p0 (.int .i64 i1_) h fun h1 =>
 X0 (laws_markInt64S_e0 s0_ (w64 (i1_ + (1))) (w64 (i5_ + (1)))) h1
 else
 laws_markInt64S_C0 S K i1_ h
theorem laws_markInt64S_link0 (S : SatT) (K : AVal → H → Prop) (X0 : Frame → H → Prop) (s0_ : Sl) (i1_ : Int) (i5_ : Int) (h : H) : laws_markInt64S_w0 S K X0 (laws_markInt64S_e0 s0_ i1_ i5_) h = laws_markInt64S_b0 S K X0 s0_ i1_ i5_ h := by kernel_rfl
theorem laws_markInt64S_rule0 (S : SatT) (K : AVal → H → Prop) (s0_ : Sl) (I_ : Int → Int → H → Prop) (m_ : Int → Int → H → Nat)
    (hs : ∀ (X0 : Frame → H → Prop) (i1_ : Int) (i5_ : Int) (h : H), I_ i1_ i5_ h → (∀ (i1_' : Int) (i5_' : Int) (h' : H), I_ i1_' i5_' h' → m_ i1_' i5_' h' < m_ i1_ i5_ h → X0 (laws_markInt64S_e0 s0_ i1_' i5_') h') → laws_markInt64S_b0 S K X0 s0_ i1_ i5_ h) (i1_ : Int) (i5_ : Int) {h : H} (h0 : I_ i1_ i5_ h) : laws_markInt64S_L0 S K s0_ i1_ i5_ h :=
  loop_rule (σ := (Int) × (Int)) (fun s_ => laws_markInt64S_e0 s0_ (s_.1) (s_.2)) (fun s_ h => I_ (s_.1) (s_.2) h) (fun s_ h => m_ (s_.1) (s_.2) h)
    (fun X s_ h hi hx => (laws_markInt64S_link0 S K X s0_ (s_.1) (s_.2) h).mpr (hs X (s_.1) (s_.2) h hi fun i1_' i5_' h' hi' hm' => hx (i1_', i5_') h' hi' hm')) (i1_, i5_) h0
theorem laws_markInt64S_unroll0 (S : SatT) (K : AVal → H → Prop) (s0_ : Sl) (i1_ : Int) (i5_ : Int) (h : H) (hb : laws_markInt64S_b0 S K (fun fr h => loopK (laws_markInt64S_w0 S K) fr h) s0_ i1_ i5_ h) : laws_markInt64S_L0 S K s0_ i1_ i5_ h := loop_unroll ((laws_markInt64S_link0 S K _ s0_ i1_ i5_ h).mpr hb)
def laws_markInt64S_main (S : SatT) (K : AVal → H → Prop) (x0 : Sl) (x1 : Int) (h : H) : Prop :=
 laws_markInt64S_L0 S K x0 x1 (0) h
theorem laws_markInt64S_main_link (S : SatT) (K : AVal → H → Prop) (x0 : Sl) (x1 : Int) (h : H) : cwp S tab laws_markInt64S_M [] (bodyOf Try.f79) (kFun tab Try.f79.results.toList K) (fr0 Try.f79 [.sl x0, .int .i64 x1]) h = laws_markInt64S_main S K x0 x1 h := by kernel_rfl
theorem laws_markInt64S_call (x0 : Sl) (x1 : Int) (h : H) (K : Int → H → Prop) (hm : laws_markInt64S_main (Sat Try.prog) (fun v h' => ∃ r, v = .int .i64 r ∧ K r h') x0 x1 h) : callI (Sat Try.prog) .i64 i_laws_markInt64S [.sl x0, .int .i64 x1] h K := by
  have := Sat.ex tok mixed laws_markInt64S_M Try.func79 (c := bodyOf Try.f79) (by kernel_rfl) (calls_of Try.func79 (c := bodyOf Try.f79) (by kernel_rfl) (by decide)) ((laws_markInt64S_main_link _ _ x0 x1 h).mpr hm)
  obtain ⟨v, h2, h3, r, rfl, h4⟩ := this; exact ⟨r, h2, h3, h4⟩

/-! ### loop.example/g01354/spec.l01Tile -/
def spec_l01Tile_M : Nat → List Nat := fun i => bif i == 0 then [0, 3, 5] else []
def spec_l01Tile_ks1 (S : SatT) (K : AVal → H → Prop) : Kont := kSeq (cwp S tab spec_l01Tile_M [] (sub [1, 1] (bodyOf Try.f109)) (kFun tab (Try.f109).results.toList K)) (kFun tab (Try.f109).results.toList K)
def spec_l01Tile_e0 (i0_ : Int) (p3_ : Pt) (i5_ : Int) : Frame := [.int .i64 i0_, U, U, .ptr p3_, U, .int .i64 i5_, U, U, U, U, U, U, U, U, U, U, U]
def spec_l01Tile_w0 (S : SatT) (K : AVal → H → Prop) : (Frame → H → Prop) → Frame → H → Prop := fun X fr h => cwp S tab spec_l01Tile_M (spec_l01Tile_M 0) (sub [1, 0, 1, 0, 0] (bodyOf Try.f109)) (kSeq (fun fr h => X (mask (spec_l01Tile_M 0) fr) h) (kBlk 0 (spec_l01Tile_ks1 S K))) fr h
def spec_l01Tile_L0 (S : SatT) (K : AVal → H → Prop) (i0_ : Int) (p3_ : Pt) (i5_ : Int) (h : H) : Prop := loopK (spec_l01Tile_w0 S K) (spec_l01Tile_e0 i0_ p3_ i5_) h
def spec_l01Tile_C0 (S : SatT) (K : AVal → H → Prop) (h : H) : Prop :=
 K (.bool true) h
def spec_l01Tile_b0 (S : SatT) (K : AVal → H → Prop) (X0 : Frame → H → Prop) (i0_ : Int) (p3_ : Pt) (i5_ : Int) (h : H) : Prop :=
 bif (decide (i5_ < (4))) then
 ixA p3_ 4 1 i5_ fun p0 =>
 ldI .i64 p0 h fun n1 =>
 callB S i_spec_l01In [.int .i64 n1, .int .i64 (0), .int .i64 (w64 (i0_ - (1)))] h fun b3 h2 =>
 bif (!b3) then
 K (.bool false) h2
 else
 X0 (spec_l01Tile_e0 i0_ p3_ (w64 (i5_ + (1)))) h2
 else
 spec_l01Tile_C0 S K h
theorem spec_l01Tile_link0 (S : SatT) (K : AVal → H → Prop) (X0 : Frame → H → Prop) (i0_ : Int) (p3_ : Pt) (i5_ : Int) (h : H) : spec_l01Tile_w0 S K X0 (spec_l01Tile_e0 i0_ p3_ i5_) h = spec_l01Tile_b0 S K X0 i0_ p3_ i5_ h := by kernel_rfl
theorem spec_l01Tile_rule0 (S : SatT) (K : AVal → H → Prop) (i0_ : Int) (p3_ : Pt) (I_ : Int → H → Prop) (m_ : Int → H → Nat)
    (hs : ∀ (X0 : Frame → H → Prop) (i5_ : Int) (h : H), I_ i5_ h → (∀ (i5_' : Int) (h' : H), I_ i5_' h' → m_ i5_' h' < m_ i5_ h → X0 (spec_l01Tile_e0 i0_ p3_ i5_') h') → spec_l01Tile_b0 S K X0 i0_ p3_ i5_ h) (i5_ : Int) {h : H} (h0 : I_ i5_ h) : spec_l01Tile_L0 S K i0_ p3_ i5_ h :=
  loop_rule (σ := (Int)) (fun s_ => spec_l01Tile_e0 i0_ p3_ (s_)) (fun s_ h => I_ (s_) h) (fun s_ h => m_ (s_) h)
    (fun X s_ h hi hx => (spec_l01Tile_link0 S K X i0_ p3_ (s_) h).mpr (hs X (s_) h hi fun i5_' h' hi' hm' => hx (i5_') h' hi' hm')) (i5_) h0
theorem spec_l01Tile_unroll0 (S : SatT) (K : AVal → H → Prop) (i0_ : Int) (p3_ : Pt) (i5_ : Int) (h : H) (hb : spec_l01Tile_b0 S K (fun fr h => loopK (spec_l01Tile_w0 S K) fr h) i0_ p3_ i5_ h) : spec_l01Tile_L0 S K i0_ p3_ i5_ h := loop_unroll ((spec_l01Tile_link0 S K _ i0_ p3_ i5_ h).mpr hb)
def spec_l01Tile_main (S : SatT) (K : AVal → H → Prop) (x0 : Int) (x1 : List AVal) (h : H) : Prop :=
 newK 4 x1 h fun p0 h1 =>
 spec_l01Tile_L0 S K x0 p0 (0) h1
theorem spec_l01Tile_main_link (S : SatT) (K : AVal → H → Prop) (x0 : Int) (x1 : List AVal) (h : H) : cwp S tab spec_l01Tile_M [] (bodyOf Try.f109) (kFun tab Try.f109.results.toList K) (fr0 Try.f109 [.int .i64 x0, .agg x1]) h = spec_l01Tile_main S K x0 x1 h := by kernel_rfl
theorem spec_l01Tile_call (x0 : Int) (x1 : List AVal) (h : H) (K : Bool → H → Prop) (hm : spec_l01Tile_main (Sat Try.prog) (fun v h' => ∃ r, v = .bool r ∧ K r h') x0 x1 h) : callB (Sat Try.prog) i_spec_l01Tile [.int .i64 x0, .agg x1] h K := by
  have := Sat.ex tok mixed spec_l01Tile_M Try.func109 (c := bodyOf Try.f109) (by kernel_rfl) (calls_of Try.func109 (c := bodyOf Try.f109) (by kernel_rfl) (by decide)) ((spec_l01Tile_main_link _ _ x0 x1 h).mpr hm)
  obtain ⟨v, h2, h3, r, rfl, h4⟩ := this; exact ⟨r, h2, h3, h4⟩

/-! ### loop.example/g01354/laws.eqTile -/
def laws_eqTile_M : Nat → List Nat := fun i => bif i == 0 then [2, 3, 5] else []
def laws_eqTile_ks1 (S : SatT) (K : AVal → H → Prop) : Kont := kSeq (cwp S tab laws_eqTile_M [] (sub [1, 1] (bodyOf Try.f104)) (kFun tab (Try.f104).results.toList K)) (kFun tab (Try.f104).results.toList K)
def laws_eqTile_e0 (p2_ : Pt) (p3_ : Pt) (i5_ : Int) : Frame := [U, U, .ptr p2_, .ptr p3_, U, .int .i64 i5_, U, U, U, U, U, U, U, U, U, U, U]
def laws_eqTile_w0 (S : SatT) (K : AVal → H → Prop) : (Frame → H → Prop) → Frame → H → Prop := fun X fr h => cwp S tab laws_eqTile_M (laws_eqTile_M 0) (sub [1, 0, 1, 0, 0] (bodyOf Try.f104)) (kSeq (fun fr h => X (mask (laws_eqTile_M 0) fr) h) (kBlk 0 (laws_eqTile_ks1 S K))) fr h
def laws_eqTile_L0 (S : SatT) (K : AVal → H → Prop) (p2_ : Pt) (p3_ : Pt) (i5_ : Int) (h : H) : Prop := loopK (laws_eqTile_w0 S K) (laws_eqTile_e0 p2_ p3_ i5_) h
def laws_eqTile_C0 (S : SatT) (K : AVal → H → Prop) (h : H) : Prop :=
 K (.bool true) h
def laws_eqTile_b0 (S : SatT) (K : AVal → H → Prop) (X0 : Frame → H → Prop) (p2_ : Pt) (p3_ : Pt) (i5_ : Int) (h : H) : Prop :=
 bif (decide (i5_ < (4))) then
 ixA p2_ 4 1 i5_ fun p0 =>
 ldI .i64 p0 h fun n1 =>
 ixA p3_ 4 1 i5_ fun p2 =>
 ldI .i64 p2 h fun n3 =>
 bif (n1 != n3) then
 K (.bool false) h
 else
 X0 (laws_eqTile_e0 p2_ p3_ (w64 (i5_ + (1)))) h
 else
 laws_eqTile_C0 S K h
theorem laws_eqTile_link0 (S : SatT) (K : AVal → H → Prop) (X0 : Frame → H → Prop) (p2_ : Pt) (p3_ : Pt) (i5_ : Int) (h : H) : laws_eqTile_w0 S K X0 (laws_eqTile_e0 p2_ p3_ i5_) h = laws_eqTile_b0 S K X0 p2_ p3_ i5_ h := by kernel_rfl
theorem laws_eqTile_rule0 (S : SatT) (K : AVal → H → Prop) (p2_ : Pt) (p3_ : Pt) (I_ : Int → H → Prop) (m_ : Int → H → Nat)
    (hs : ∀ (X0 : Frame → H → Prop) (i5_ : Int) (h : H), I_ i5_ h → (∀ (i5_' : Int) (h' : H), I_ i5_' h' → m_ i5_' h' < m_ i5_ h → X0 (laws_eqTile_e0 p2_ p3_ i5_') h') → laws_eqTile_b0 S K X0 p2_ p3_ i5_ h) (i5_ : Int) {h : H} (h0 : I_ i5_ h) : laws_eqTile_L0 S K p2_ p3_ i5_ h :=
  loop_rule (σ := (Int)) (fun s_ => laws_eqTile_e0 p2_ p3_ (s_)) (fun s_ h => I_ (s_) h) (fun s_ h => m_ (s_) h)
    (fun X s_ h hi hx => (laws_eqTile_link0 S K X p2_ p3_ (s_) h).mpr (hs X (s_) h hi fun i5_' h' hi' hm' => hx (i5_') h' hi' hm')) (i5_) h0
theorem laws_eqTile_unroll0 (S : SatT) (K : AVal → H → Prop) (p2_ : Pt) (p3_ : Pt) (i5_ : Int) (h : H) (hb : laws_eqTile_b0 S K (fun fr h => loopK (laws_eqTile_w0 S K) fr h) p2_ p3_ i5_ h) : laws_eqTile_L0 S K p2_ p3_ i5_ h := loop_unroll ((laws_eqTile_link0 S K _ p2_ p3_ i5_ h).mpr hb)
def laws_eqTile_main (S : SatT) (K : AVal → H → Prop) (x0 : List AVal) (x1 : List AVal) (h : H) : Prop :=
 newK 4 x0 h fun p0 h1 =>
 newK 4 x1 h1 fun p2 h3 =>
 laws_eqTile_L0 S K p0 p2 (0) h3
theorem laws_eqTile_main_link (S : SatT) (K : AVal → H → Prop) (x0 : List AVal) (x1 : List AVal) (h : H) : cwp S tab laws_eqTile_M [] (bodyOf Try.f104) (kFun tab Try.f104.results.toList K) (fr0 Try.f104 [.agg x0, .agg x1]) h = laws_eqTile_main S K x0 x1 h := by kernel_rfl
theorem laws_eqTile_call (x0 : List AVal) (x1 : List AVal) (h : H) (K : Bool → H → Prop) (hm : laws_eqTile_main (Sat Try.prog) (fun v h' => ∃ r, v = .bool r ∧ K r h') x0 x1 h) : callB (Sat Try.prog) i_laws_eqTile [.agg x0, .agg x1] h K := by
  have := Sat.ex tok mixed laws_eqTile_M Try.func104 (c := bodyOf Try.f104) (by kernel_rfl) (calls_of Try.func104 (c := bodyOf Try.f104) (by kernel_rfl) (by decide)) ((laws_eqTile_main_link _ _ x0 x1 h).mpr hm)
  obtain ⟨v, h2, h3, r, rfl, h4⟩ := this; exact ⟨r, h2, h3, h4⟩

/-! ### loop.example/g01354/laws.FnExactTorusTable -/
def laws_FnExactTorusTable_M : Nat → List Nat := fun i => []
def laws_FnExactTorusTable_main (S : SatT) (K : AVal → H → Prop) (x0 : List AVal) (h : H) : Prop :=
 newK 2 x0 h fun p0 h1 =>
 ldA p0 2 h1 fun cs2 =>
 callI S .i64 i_laws_szSet [.agg cs2, .int .i64 (1048576)] h1 fun n4 h3 =>
 bif (decide (n4 < (0))) then
 K (.bool true) h3
 else
 ldA p0 2 h3 fun cs5 =>
 callA S i_laws_toSet [.agg cs5] h3 fun cs7 h6 =>
 callV S i_spec_TorusTable [.agg cs7] h6 fun v9 h8 =>
 viaT v9 fun vs10 =>
 exS vs10 0 fun s11 =>
 viaT v9 fun vs12 =>
 exI .i64 vs12 1 fun n13 =>
 ldA p0 2 h8 fun cs14 =>
 callA S i_laws_toSet [.agg cs14] h8 fun cs16 h15 =>
 newO [.int .i64 (0), .sl Sl.nil] h15 fun p17 h18 =>
 stN p17 2 cs16 h18 fun h19 =>
 ldA p17 2 h19 fun cs20 =>
 callV S i_impl_TorusTable [.agg cs20] h19 fun v22 h21 =>
 viaT v22 fun vs23 =>
 exS vs23 0 fun s24 =>
 viaT v22 fun vs25 =>
 exI .i64 vs25 1 fun n26 =>
 callB S i_laws_eqInt64SS [.sl s24, .sl s11] h21 fun b28 h27 =>
 bif (!b28) then
 K (.bool false) h27
 else
 bif (n26 != n13) then
 K (.bool false) h27
 else
 ldA p17 2 h27 fun cs29 =>
 ldA p0 2 h27 fun cs30 =>
 callA S i_laws_toSet [.agg cs30] h27 fun cs32 h31 =>
(range h31 p17.o p17.n p17.off 2 = range h27 p17.o p17.n p17.off 2) ∧ (
 callB S i_laws_eqSet [.agg cs29, .agg cs32] h31 fun b34 h33 =>
 bif (!b34) then
 K (.bool false) h33
 else
 ldA p17 2 h33 fun cs35 =>
 callI S .i64 i_laws_markSet [.agg cs35, .int .i64 (1)] h33 fun n37 h36 =>
 bif (decide (n37 < (0))) then
 K (.bool false) h36
 else
 callB S i_laws_eqInt64SS [.sl s24, .sl s11] h36 fun b39 h38 =>
 bif (!b39) then
 K (.bool false) h38
 else
 bif (n26 != n13) then
 K (.bool false) h38
 else
 callI S .i64 i_laws_markInt64SS [.sl s24, .int .i64 (1)] h38 fun n41 h40 =>
 callI S .i64 i_laws_heldInt64SS [.sl s24, .int .i64 (1)] h40 fun n43 h42 =>
 bif (decide (n43 < (0))) then
 K (.bool false) h42
 else
 bif (n43 != n41) then
 K (.bool false) h42
 else
 ldA p0 2 h42 fun cs44 =>
 callA S i_laws_toSet [.agg cs44] h42 fun cs46 h45 =>
 callV S i_impl_TorusTable [.agg cs46] h45 fun v48 h47 =>
 viaT v48 fun vs49 =>
 exS vs49 0 fun s50 =>
 viaT v48 fun vs51 =>
 exI .i64 vs51 1 fun n52 =>
 callB S i_laws_eqInt64SS [.sl s50, .sl s11] h47 fun b54 h53 =>
 bif (!b54) then
 K (.bool false) h53
 else
 bif (n52 != n13) then
 K (.bool false) h53
 else
 callI S .i64 i_laws_heldInt64SS [.sl s24, .int .i64 (1)] h53 fun n56 h55 =>
 bif (decide (n56 < (0))) then
 K (.bool false) h55
 else
 bif (n56 != n41) then
 K (.bool false) h55
 else
 K (.bool true) h55)
theorem laws_FnExactTorusTable_main_link (S : SatT) (K : AVal → H → Prop) (x0 : List AVal) (h : H) : cwp S tab laws_FnExactTorusTable_M [] (bodyOf Try.f7) (kFun tab Try.f7.results.toList K) (fr0 Try.f7 [.agg x0]) h = laws_FnExactTorusTable_main S K x0 h := by kernel_rfl
theorem laws_FnExactTorusTable_call (x0 : List AVal) (h : H) (K : Bool → H → Prop) (hm : laws_FnExactTorusTable_main (Sat Try.prog) (fun v h' => ∃ r, v = .bool r ∧ K r h') x0 h) : callB (Sat Try.prog) i_laws_FnExactTorusTable [.agg x0] h K := by
  have := Sat.ex tok mixed laws_FnExactTorusTable_M Try.func7 (c := bodyOf Try.f7) (by kernel_rfl) (calls_of Try.func7 (c := bodyOf Try.f7) (by kernel_rfl) (by decide)) ((laws_FnExactTorusTable_main_link _ _ x0 h).mpr hm)
  obtain ⟨v, h2, h3, r, rfl, h4⟩ := this; exact ⟨r, h2, h3, h4⟩

/-! ### loop.example/g01354/laws.FnExactIsTorus -/
def laws_FnExactIsTorus_M : Nat → List Nat := fun i => []
def laws_FnExactIsTorus_main (S : SatT) (K : AVal → H → Prop) (x0 : List AVal) (x1 : Sl) (h : H) : Prop :=
 newK 2 x0 h fun p0 h1 =>
 ldA p0 2 h1 fun cs2 =>
 callI S .i64 i_laws_szSet [.agg cs2, .int .i64 (1048576)] h1 fun n4 h3 =>
 bif (decide (n4 < (0))) then
 K (.bool true) h3
 else
 callI S .i64 i_laws_szInt64SS [.sl x1, .int .i64 n4] h3 fun n6 h5 =>
 bif (decide (n6 < (0))) then
 K (.bool true) h5
 else
 ldA p0 2 h5 fun cs7 =>
 callA S i_laws_toSet [.agg cs7] h5 fun cs9 h8 =>
 callS S i_laws_toInt64SS [.sl x1] h8 fun s11 h10 =>
 callV S i_spec_IsTorus [.agg cs9, .sl s11] h10 fun v13 h12 =>
 viaT v13 fun vs14 =>
 exB vs14 0 fun b15 =>
 viaT v13 fun vs16 =>
 exI .i64 vs16 1 fun n17 =>
 ldA p0 2 h12 fun cs18 =>
 callA S i_laws_toSet [.agg cs18] h12 fun cs20 h19 =>
 newO [.int .i64 (0), .sl Sl.nil] h19 fun p21 h22 =>
 stN p21 2 cs20 h22 fun h23 =>
 callS S i_laws_toInt64SS [.sl x1] h23 fun s25 h24 =>
 ldA p21 2 h24 fun cs26 =>
 callV S i_impl_IsTorus [.agg cs26, .sl s25] h24 fun v28 h27 =>
 viaT v28 fun vs29 =>
 exB vs29 0 fun b30 =>
 viaT v28 fun vs31 =>
 exI .i64 vs31 1 fun n32 =>
 bif (b30 != b15) then
 K (.bool false) h27
 else
 bif (n32 != n17) then
 K (.bool false) h27
 else
 ldA p21 2 h27 fun cs33 =>
 ldA p0 2 h27 fun cs34 =>
 callA S i_laws_toSet [.agg cs34] h27 fun cs36 h35 =>
(range h35 p21.o p21.n p21.off 2 = range h27 p21.o p21.n p21.off 2) ∧ (
 callB S i_laws_eqSet [.agg cs33, .agg cs36] h35 fun b38 h37 =>
 bif (!b38) then
 K (.bool false) h37
 else
 callS S i_laws_toInt64SS [.sl x1] h37 fun s40 h39 =>
 callB S i_laws_eqInt64SS [.sl s25, .sl s40] h39 fun b42 h41 =>
 bif (!b42) then
 K (.bool false) h41
 else
 K (.bool true) h41)
theorem laws_FnExactIsTorus_main_link (S : SatT) (K : AVal → H → Prop) (x0 : List AVal) (x1 : Sl) (h : H) : cwp S tab laws_FnExactIsTorus_M [] (bodyOf Try.f6) (kFun tab Try.f6.results.toList K) (fr0 Try.f6 [.agg x0, .sl x1]) h = laws_FnExactIsTorus_main S K x0 x1 h := by kernel_rfl
theorem laws_FnExactIsTorus_call (x0 : List AVal) (x1 : Sl) (h : H) (K : Bool → H → Prop) (hm : laws_FnExactIsTorus_main (Sat Try.prog) (fun v h' => ∃ r, v = .bool r ∧ K r h') x0 x1 h) : callB (Sat Try.prog) i_laws_FnExactIsTorus [.agg x0, .sl x1] h K := by
  have := Sat.ex tok mixed laws_FnExactIsTorus_M Try.func6 (c := bodyOf Try.f6) (by kernel_rfl) (calls_of Try.func6 (c := bodyOf Try.f6) (by kernel_rfl) (by decide)) ((laws_FnExactIsTorus_main_link _ _ x0 x1 h).mpr hm)
  obtain ⟨v, h2, h3, r, rfl, h4⟩ := this; exact ⟨r, h2, h3, h4⟩

/-! ### loop.example/g01354/impl.CountForms -/
def impl_CountForms_M : Nat → List Nat := fun i => []
def impl_CountForms_main (S : SatT) (K : AVal → H → Prop) (x0 : List AVal) (x1 : Int) (x2 : Int) (h : H) : Prop :=
 newK 2 x0 h fun p0 h1 =>
 newO [.int .i64 x1] h1 fun p2 h3 =>
 newO [.int .i64 x2] h3 fun p4 h5 =>
 ldA p0 2 h5 fun cs6 =>
 callI S .i64 i_impl_setCode [.agg cs6, .func 87 [.ptr p2, .ptr p4]] h5 fun n8 h7 =>
 bif (n8 != (0)) then
 K (.tuple [.int .i64 (0), .int .i64 n8]) h7
 else
 newO [.int .i64 (0)] h7 fun p9 h10 =>
 newO [.int .i64 (0)] h10 fun p11 h12 =>
 st1 p9 (.int .i64 (0)) h12 fun h13 =>
 st1 p11 (.int .i64 (0)) h13 fun h14 =>
 ldA p0 2 h14 fun cs15 =>
 ldI .i64 p2 h14 fun n16 =>
 ldI .i64 p4 h14 fun n17 =>
 callV S i_impl_Set_tori [.agg cs15, .int .i64 n16, .int .i64 n17, .func 89 [.ptr p9, .ptr p11]] h14 fun v19 h18 =>
 ldI .i64 p9 h18 fun n20 =>
 bif (decide (n20 > (4000))) then
 K (.tuple [.int .i64 (0), .int .i64 (3)]) h18
 else
 ldI .i64 p11 h18 fun n21 =>
 K (.tuple [.int .i64 n21, .int .i64 (0)]) h18
theorem impl_CountForms_main_link (S : SatT) (K : AVal → H → Prop) (x0 : List AVal) (x1 : Int) (x2 : Int) (h : H) : cwp S tab impl_CountForms_M [] (bodyOf Try.f39) (kFun tab Try.f39.results.toList K) (fr0 Try.f39 [.agg x0, .int .i64 x1, .int .i64 x2]) h = impl_CountForms_main S K x0 x1 x2 h := by kernel_rfl
theorem impl_CountForms_call (x0 : List AVal) (x1 : Int) (x2 : Int) (h : H) (K : AVal → H → Prop) (hm : impl_CountForms_main (Sat Try.prog) (fun v h' => K v h') x0 x1 x2 h) : callV (Sat Try.prog) i_impl_CountForms [.agg x0, .int .i64 x1, .int .i64 x2] h K := by
  have := Sat.ex tok mixed impl_CountForms_M Try.func39 (c := bodyOf Try.f39) (by kernel_rfl) (calls_of Try.func39 (c := bodyOf Try.f39) (by kernel_rfl) (by decide)) ((impl_CountForms_main_link _ _ x0 x1 x2 h).mpr hm)
  exact this

/-! ### loop.example/g01354/impl.CountForms$2 -/
def impl_CountForms_2_M : Nat → List Nat := fun i => []
def impl_CountForms_2_main (S : SatT) (K : AVal → H → Prop) (x0 : Sl) (x1 : Pt) (x2 : Pt) (h : H) : Prop :=
 ldI .i64 x1 h fun n0 =>
 st1 x1 (.int .i64 (w64 (n0 + (1)))) h fun h1 =>
 ldI .i64 x1 h1 fun n2 =>
 bif (decide (n2 ≤ (4000))) then
 callS S i_impl_leastForm [.sl x0] h1 fun s4 h3 =>
 callI S .i64 i_impl_compareRows [.sl x0, .sl s4] h3 fun n6 h5 =>
 bif (n6 == (0)) then
 ldI .i64 x2 h5 fun n7 =>
 st1 x2 (.int .i64 (w64 (n7 + (1)))) h5 fun h8 =>
 ldI .i64 x1 h8 fun n9 =>
 K (.bool (decide (n9 ≤ (4000)))) h8
 else
 ldI .i64 x1 h5 fun n10 =>
 K (.bool (decide (n10 ≤ (4000)))) h5
 else
 ldI .i64 x1 h1 fun n11 =>
 K (.bool (decide (n11 ≤ (4000)))) h1
theorem impl_CountForms_2_main_link (S : SatT) (K : AVal → H → Prop) (x0 : Sl) (x1 : Pt) (x2 : Pt) (h : H) : cwp S tab impl_CountForms_2_M [] (bodyOf Try.f89) (kFun tab Try.f89.results.toList K) (fr0 Try.f89 [.sl x0, .ptr x1, .ptr x2]) h = impl_CountForms_2_main S K x0 x1 x2 h := by kernel_rfl
theorem impl_CountForms_2_call (x0 : Sl) (x1 : Pt) (x2 : Pt) (h : H) (K : Bool → H → Prop) (hm : impl_CountForms_2_main (Sat Try.prog) (fun v h' => ∃ r, v = .bool r ∧ K r h') x0 x1 x2 h) : callB (Sat Try.prog) i_impl_CountForms_2 [.sl x0, .ptr x1, .ptr x2] h K := by
  have := Sat.ex tok mixed impl_CountForms_2_M Try.func89 (c := bodyOf Try.f89) (by kernel_rfl) (calls_of Try.func89 (c := bodyOf Try.f89) (by kernel_rfl) (by decide)) ((impl_CountForms_2_main_link _ _ x0 x1 x2 h).mpr hm)
  obtain ⟨v, h2, h3, r, rfl, h4⟩ := this; exact ⟨r, h2, h3, h4⟩

/-! ### loop.example/g01354/impl.CountTori -/
def impl_CountTori_M : Nat → List Nat := fun i => []
def impl_CountTori_main (S : SatT) (K : AVal → H → Prop) (x0 : List AVal) (x1 : Int) (x2 : Int) (h : H) : Prop :=
 newK 2 x0 h fun p0 h1 =>
 newO [.int .i64 x1] h1 fun p2 h3 =>
 newO [.int .i64 x2] h3 fun p4 h5 =>
 ldA p0 2 h5 fun cs6 =>
 callI S .i64 i_impl_setCode [.agg cs6, .func 61 [.ptr p2, .ptr p4]] h5 fun n8 h7 =>
 bif (n8 != (0)) then
 K (.tuple [.int .i64 (0), .int .i64 n8]) h7
 else
 ldA p0 2 h7 fun cs9 =>
 ldI .i64 p2 h7 fun n10 =>
 ldI .i64 p4 h7 fun n11 =>
 callI S .i64 i_impl_Set_countTori [.agg cs9, .int .i64 n10, .int .i64 n11] h7 fun n13 h12 =>
 K (.tuple [.int .i64 n13, .int .i64 (0)]) h12
theorem impl_CountTori_main_link (S : SatT) (K : AVal → H → Prop) (x0 : List AVal) (x1 : Int) (x2 : Int) (h : H) : cwp S tab impl_CountTori_M [] (bodyOf Try.f21) (kFun tab Try.f21.results.toList K) (fr0 Try.f21 [.agg x0, .int .i64 x1, .int .i64 x2]) h = impl_CountTori_main S K x0 x1 x2 h := by kernel_rfl
theorem impl_CountTori_call (x0 : List AVal) (x1 : Int) (x2 : Int) (h : H) (K : AVal → H → Prop) (hm : impl_CountTori_main (Sat Try.prog) (fun v h' => K v h') x0 x1 x2 h) : callV (Sat Try.prog) i_impl_CountTori [.agg x0, .int .i64 x1, .int .i64 x2] h K := by
  have := Sat.ex tok mixed impl_CountTori_M Try.func21 (c := bodyOf Try.f21) (by kernel_rfl) (calls_of Try.func21 (c := bodyOf Try.f21) (by kernel_rfl) (by decide)) ((impl_CountTori_main_link _ _ x0 x1 x2 h).mpr hm)
  exact this

/-! ### (loop.example/g01354/impl.Set).countTori -/
def impl_Set_countTori_M : Nat → List Nat := fun i => []
def impl_Set_countTori_main (S : SatT) (K : AVal → H → Prop) (x0 : List AVal) (x1 : Int) (x2 : Int) (h : H) : Prop :=
 newK 2 x0 h fun p0 h1 =>
 newO [.int .i64 (0)] h1 fun p2 h3 =>
 st1 p2 (.int .i64 (0)) h3 fun h4 =>
 ldA p0 2 h4 fun cs5 =>
 callV S i_impl_Set_tori [.agg cs5, .int .i64 x1, .int .i64 x2, .func 105 [.ptr p2]] h4 fun v7 h6 =>
 ldI .i64 p2 h6 fun n8 =>
 K (.int .i64 n8) h6
theorem impl_Set_countTori_main_link (S : SatT) (K : AVal → H → Prop) (x0 : List AVal) (x1 : Int) (x2 : Int) (h : H) : cwp S tab impl_Set_countTori_M [] (bodyOf Try.f63) (kFun tab Try.f63.results.toList K) (fr0 Try.f63 [.agg x0, .int .i64 x1, .int .i64 x2]) h = impl_Set_countTori_main S K x0 x1 x2 h := by kernel_rfl
theorem impl_Set_countTori_call (x0 : List AVal) (x1 : Int) (x2 : Int) (h : H) (K : Int → H → Prop) (hm : impl_Set_countTori_main (Sat Try.prog) (fun v h' => ∃ r, v = .int .i64 r ∧ K r h') x0 x1 x2 h) : callI (Sat Try.prog) .i64 i_impl_Set_countTori [.agg x0, .int .i64 x1, .int .i64 x2] h K := by
  have := Sat.ex tok mixed impl_Set_countTori_M Try.func63 (c := bodyOf Try.f63) (by kernel_rfl) (calls_of Try.func63 (c := bodyOf Try.f63) (by kernel_rfl) (by decide)) ((impl_Set_countTori_main_link _ _ x0 x1 x2 h).mpr hm)
  obtain ⟨v, h2, h3, r, rfl, h4⟩ := this; exact ⟨r, h2, h3, h4⟩

/-! ### (loop.example/g01354/impl.Set).firstTorus -/
def impl_Set_firstTorus_M : Nat → List Nat := fun i => []
def impl_Set_firstTorus_main (S : SatT) (K : AVal → H → Prop) (x0 : List AVal) (x1 : Int) (x2 : Int) (h : H) : Prop :=
 newK 2 x0 h fun p0 h1 =>
 newO [.sl Sl.nil] h1 fun p2 h3 =>
 st1 p2 (.sl Sl.nil) h3 fun h4 =>
 ldA p0 2 h4 fun cs5 =>
 callV S i_impl_Set_tori [.agg cs5, .int .i64 x1, .int .i64 x2, .func 114 [.ptr p2]] h4 fun v7 h6 =>
 ldS p2 h6 fun s8 =>
 K (.sl s8) h6
theorem impl_Set_firstTorus_main_link (S : SatT) (K : AVal → H → Prop) (x0 : List AVal) (x1 : Int) (x2 : Int) (h : H) : cwp S tab impl_Set_firstTorus_M [] (bodyOf Try.f82) (kFun tab Try.f82.results.toList K) (fr0 Try.f82 [.agg x0, .int .i64 x1, .int .i64 x2]) h = impl_Set_firstTorus_main S K x0 x1 x2 h := by kernel_rfl
theorem impl_Set_firstTorus_call (x0 : List AVal) (x1 : Int) (x2 : Int) (h : H) (K : Sl → H → Prop) (hm : impl_Set_firstTorus_main (Sat Try.prog) (fun v h' => ∃ r, v = .sl r ∧ K r h') x0 x1 x2 h) : callS (Sat Try.prog) i_impl_Set_firstTorus [.agg x0, .int .i64 x1, .int .i64 x2] h K := by
  have := Sat.ex tok mixed impl_Set_firstTorus_M Try.func82 (c := bodyOf Try.f82) (by kernel_rfl) (calls_of Try.func82 (c := bodyOf Try.f82) (by kernel_rfl) (by decide)) ((impl_Set_firstTorus_main_link _ _ x0 x1 x2 h).mpr hm)
  obtain ⟨v, h2, h3, r, rfl, h4⟩ := this; exact ⟨r, h2, h3, h4⟩

/-! ### loop.example/g01354/laws.eqSet -/
def laws_eqSet_M : Nat → List Nat := fun i => []
def laws_eqSet_main (S : SatT) (K : AVal → H → Prop) (x0 : List AVal) (x1 : List AVal) (h : H) : Prop :=
 newK 2 x0 h fun p0 h1 =>
 newK 2 x1 h1 fun p2 h3 =>
 isPt p0 (
 ldI .i64 (Pt.add p0 0) h3 fun n4 =>
 isPt p2 (
 ldI .i64 (Pt.add p2 0) h3 fun n5 =>
 bif (n4 != n5) then
 K (.bool false) h3
 else
 isPt p0 (
 ldS (Pt.add p0 1) h3 fun s6 =>
 isPt p2 (
 ldS (Pt.add p2 1) h3 fun s7 =>
 callB S i_laws_eqTileS [.sl s6, .sl s7] h3 fun b9 h8 =>
 bif (!b9) then
 K (.bool false) h8
 else
 K (.bool true) h8))))
theorem laws_eqSet_main_link (S : SatT) (K : AVal → H → Prop) (x0 : List AVal) (x1 : List AVal) (h : H) : cwp S tab laws_eqSet_M [] (bodyOf Try.f19) (kFun tab Try.f19.results.toList K) (fr0 Try.f19 [.agg x0, .agg x1]) h = laws_eqSet_main S K x0 x1 h := by kernel_rfl
theorem laws_eqSet_call (x0 : List AVal) (x1 : List AVal) (h : H) (K : Bool → H → Prop) (hm : laws_eqSet_main (Sat Try.prog) (fun v h' => ∃ r, v = .bool r ∧ K r h') x0 x1 h) : callB (Sat Try.prog) i_laws_eqSet [.agg x0, .agg x1] h K := by
  have := Sat.ex tok mixed laws_eqSet_M Try.func19 (c := bodyOf Try.f19) (by kernel_rfl) (calls_of Try.func19 (c := bodyOf Try.f19) (by kernel_rfl) (by decide)) ((laws_eqSet_main_link _ _ x0 x1 h).mpr hm)
  obtain ⟨v, h2, h3, r, rfl, h4⟩ := this; exact ⟨r, h2, h3, h4⟩

/-! ### slices.ContainsFunc[[]int64,int64] -/
def slices_ContainsFunc_s_int64_int64__M : Nat → List Nat := fun i => []
def slices_ContainsFunc_s_int64_int64__main (S : SatT) (K : AVal → H → Prop) (x0 : Sl) (x1 : AVal) (h : H) : Prop :=
 callI S .i64 i_slices_IndexFunc_s_int64_int64_ [.sl x0, x1] h fun n1 h0 =>
 K (.bool (decide (n1 ≥ (0)))) h0
theorem slices_ContainsFunc_s_int64_int64__main_link (S : SatT) (K : AVal → H → Prop) (x0 : Sl) (x1 : AVal) (h : H) : cwp S tab slices_ContainsFunc_s_int64_int64__M [] (bodyOf Try.f124) (kFun tab Try.f124.results.toList K) (fr0 Try.f124 [.sl x0, x1]) h = slices_ContainsFunc_s_int64_int64__main S K x0 x1 h := by kernel_rfl
theorem slices_ContainsFunc_s_int64_int64__call (x0 : Sl) (x1 : AVal) (h : H) (K : Bool → H → Prop) (hm : slices_ContainsFunc_s_int64_int64__main (Sat Try.prog) (fun v h' => ∃ r, v = .bool r ∧ K r h') x0 x1 h) : callB (Sat Try.prog) i_slices_ContainsFunc_s_int64_int64_ [.sl x0, x1] h K := by
  have := Sat.ex tok mixed slices_ContainsFunc_s_int64_int64__M Try.func124 (c := bodyOf Try.f124) (by kernel_rfl) (calls_of Try.func124 (c := bodyOf Try.f124) (by kernel_rfl) (by decide)) ((slices_ContainsFunc_s_int64_int64__main_link _ _ x0 x1 h).mpr hm)
  obtain ⟨v, h2, h3, r, rfl, h4⟩ := this; exact ⟨r, h2, h3, h4⟩

/-! ### (loop.example/g01354/impl.Set).isNumber -/
def impl_Set_isNumber_M : Nat → List Nat := fun i => []
def impl_Set_isNumber_main (S : SatT) (K : AVal → H → Prop) (x0 : List AVal) (x1 : Int) (h : H) : Prop :=
 newK 2 x0 h fun p0 h1 =>
 isPt p0 (
 ldS (Pt.add p0 1) h1 fun s2 =>
 callB S i_impl_within [.int .i64 x1, .int .i64 (0), .int .i64 (w64 ((s2.len : Int) - (1)))] h1 fun b4 h3 =>
 K (.bool b4) h3)
theorem impl_Set_isNumber_main_link (S : SatT) (K : AVal → H → Prop) (x0 : List AVal) (x1 : Int) (h : H) : cwp S tab impl_Set_isNumber_M [] (bodyOf Try.f106) (kFun tab Try.f106.results.toList K) (fr0 Try.f106 [.agg x0, .int .i64 x1]) h = impl_Set_isNumber_main S K x0 x1 h := by kernel_rfl
theorem impl_Set_isNumber_call (x0 : List AVal) (x1 : Int) (h : H) (K : Bool → H → Prop) (hm : impl_Set_isNumber_main (Sat Try.prog) (fun v h' => ∃ r, v = .bool r ∧ K r h') x0 x1 h) : callB (Sat Try.prog) i_impl_Set_isNumber [.agg x0, .int .i64 x1] h K := by
  have := Sat.ex tok mixed impl_Set_isNumber_M Try.func106 (c := bodyOf Try.f106) (by kernel_rfl) (calls_of Try.func106 (c := bodyOf Try.f106) (by kernel_rfl) (by decide)) ((impl_Set_isNumber_main_link _ _ x0 x1 h).mpr hm)
  obtain ⟨v, h2, h3, r, rfl, h4⟩ := this; exact ⟨r, h2, h3, h4⟩

/-! ### loop.example/g01354/impl.ShiftsKept -/
def impl_ShiftsKept_M : Nat → List Nat := fun i => []
def impl_ShiftsKept_main (S : SatT) (K : AVal → H → Prop) (x0 : List AVal) (x1 : Sl) (h : H) : Prop :=
 newK 2 x0 h fun p0 h1 =>
 ldA p0 2 h1 fun cs2 =>
 callI S .i64 i_impl_torusCode [.agg cs2, .sl x1] h1 fun n4 h3 =>
 bif (n4 != (0)) then
 K (.tuple [.sl Sl.nil, .int .i64 n4]) h3
 else
 callS S i_impl_keeping [.sl x1] h3 fun s6 h5 =>
 K (.tuple [.sl s6, .int .i64 (0)]) h5
theorem impl_ShiftsKept_main_link (S : SatT) (K : AVal → H → Prop) (x0 : List AVal) (x1 : Sl) (h : H) : cwp S tab impl_ShiftsKept_M [] (bodyOf Try.f47) (kFun tab Try.f47.results.toList K) (fr0 Try.f47 [.agg x0, .sl x1]) h = impl_ShiftsKept_main S K x0 x1 h := by kernel_rfl
theorem impl_ShiftsKept_call (x0 : List AVal) (x1 : Sl) (h : H) (K : AVal → H → Prop) (hm : impl_ShiftsKept_main (Sat Try.prog) (fun v h' => K v h') x0 x1 h) : callV (Sat Try.prog) i_impl_ShiftsKept [.agg x0, .sl x1] h K := by
  have := Sat.ex tok mixed impl_ShiftsKept_M Try.func47 (c := bodyOf Try.f47) (by kernel_rfl) (calls_of Try.func47 (c := bodyOf Try.f47) (by kernel_rfl) (by decide)) ((impl_ShiftsKept_main_link _ _ x0 x1 h).mpr hm)
  exact this

/-! ### loop.example/g01354/spec.LeastForm -/
def spec_LeastForm_M : Nat → List Nat := fun i => []
def spec_LeastForm_main (S : SatT) (K : AVal → H → Prop) (x0 : List AVal) (x1 : Sl) (h : H) : Prop :=
 newK 2 x0 h fun p0 h1 =>
 ldA p0 2 h1 fun cs2 =>
 callI S .i64 i_spec_l05Given [.agg cs2, .sl x1] h1 fun n4 h3 =>
 bif (n4 != (0)) then
 K (.tuple [.sl Sl.nil, .int .i64 n4]) h3
 else
 callS S i_spec_l05Least [.sl x1] h3 fun s6 h5 =>
 K (.tuple [.sl s6, .int .i64 (0)]) h5
theorem spec_LeastForm_main_link (S : SatT) (K : AVal → H → Prop) (x0 : List AVal) (x1 : Sl) (h : H) : cwp S tab spec_LeastForm_M [] (bodyOf Try.f44) (kFun tab Try.f44.results.toList K) (fr0 Try.f44 [.agg x0, .sl x1]) h = spec_LeastForm_main S K x0 x1 h := by kernel_rfl
theorem spec_LeastForm_call (x0 : List AVal) (x1 : Sl) (h : H) (K : AVal → H → Prop) (hm : spec_LeastForm_main (Sat Try.prog) (fun v h' => K v h') x0 x1 h) : callV (Sat Try.prog) i_spec_LeastForm [.agg x0, .sl x1] h K := by
  have := Sat.ex tok mixed spec_LeastForm_M Try.func44 (c := bodyOf Try.f44) (by kernel_rfl) (calls_of Try.func44 (c := bodyOf Try.f44) (by kernel_rfl) (by decide)) ((spec_LeastForm_main_link _ _ x0 x1 h).mpr hm)
  exact this

/-! ### loop.example/g01354/laws.markSet -/
def laws_markSet_M : Nat → List Nat := fun i => []
def laws_markSet_main (S : SatT) (K : AVal → H → Prop) (x0 : List AVal) (x1 : Int) (h : H) : Prop :=
 newK 2 x0 h fun p0 h1 =>
 isPt p0 (
 ldS (Pt.add p0 1) h1 fun s2 =>
 callI S .i64 i_laws_markTileS [.sl s2, .int .i64 x1] h1 fun n4 h3 =>
 K (.int .i64 n4) h3)
theorem laws_markSet_main_link (S : SatT) (K : AVal → H → Prop) (x0 : List AVal) (x1 : Int) (h : H) : cwp S tab laws_markSet_M [] (bodyOf Try.f31) (kFun tab Try.f31.results.toList K) (fr0 Try.f31 [.agg x0, .int .i64 x1]) h = laws_markSet_main S K x0 x1 h := by kernel_rfl
theorem laws_markSet_call (x0 : List AVal) (x1 : Int) (h : H) (K : Int → H → Prop) (hm : laws_markSet_main (Sat Try.prog) (fun v h' => ∃ r, v = .int .i64 r ∧ K r h') x0 x1 h) : callI (Sat Try.prog) .i64 i_laws_markSet [.agg x0, .int .i64 x1] h K := by
  have := Sat.ex tok mixed laws_markSet_M Try.func31 (c := bodyOf Try.f31) (by kernel_rfl) (calls_of Try.func31 (c := bodyOf Try.f31) (by kernel_rfl) (by decide)) ((laws_markSet_main_link _ _ x0 x1 h).mpr hm)
  obtain ⟨v, h2, h3, r, rfl, h4⟩ := this; exact ⟨r, h2, h3, h4⟩

/-! ### (loop.example/g01354/impl.Set).countTori$1 -/
def impl_Set_countTori_1_M : Nat → List Nat := fun i => []
def impl_Set_countTori_1_main (S : SatT) (K : AVal → H → Prop) (x0 : Sl) (x1 : Pt) (h : H) : Prop :=
 ldI .i64 x1 h fun n0 =>
 st1 x1 (.int .i64 (w64 (n0 + (1)))) h fun h1 =>
 K (.bool true) h1
theorem impl_Set_countTori_1_main_link (S : SatT) (K : AVal → H → Prop) (x0 : Sl) (x1 : Pt) (h : H) : cwp S tab impl_Set_countTori_1_M [] (bodyOf Try.f105) (kFun tab Try.f105.results.toList K) (fr0 Try.f105 [.sl x0, .ptr x1]) h = impl_Set_countTori_1_main S K x0 x1 h := by kernel_rfl
theorem impl_Set_countTori_1_call (x0 : Sl) (x1 : Pt) (h : H) (K : Bool → H → Prop) (hm : impl_Set_countTori_1_main (Sat Try.prog) (fun v h' => ∃ r, v = .bool r ∧ K r h') x0 x1 h) : callB (Sat Try.prog) i_impl_Set_countTori_1 [.sl x0, .ptr x1] h K := by
  have := Sat.ex tok mixed impl_Set_countTori_1_M Try.func105 (c := bodyOf Try.f105) (by kernel_rfl) (calls_of Try.func105 (c := bodyOf Try.f105) (by kernel_rfl) (by decide)) ((impl_Set_countTori_1_main_link _ _ x0 x1 h).mpr hm)
  obtain ⟨v, h2, h3, r, rfl, h4⟩ := this; exact ⟨r, h2, h3, h4⟩

/-! ### loop.example/g01354/impl.compareRows$1 -/
def impl_compareRows_1_M : Nat → List Nat := fun i => []
def impl_compareRows_1_main (S : SatT) (K : AVal → H → Prop) (x0 : Sl) (x1 : Sl) (h : H) : Prop :=
 callI S .i64 i_slices_Compare_s_int64_int64_ [.sl x0, .sl x1] h fun n1 h0 =>
 K (.int .i64 n1) h0
theorem impl_compareRows_1_main_link (S : SatT) (K : AVal → H → Prop) (x0 : Sl) (x1 : Sl) (h : H) : cwp S tab impl_compareRows_1_M [] (bodyOf Try.f118) (kFun tab Try.f118.results.toList K) (fr0 Try.f118 [.sl x0, .sl x1]) h = impl_compareRows_1_main S K x0 x1 h := by kernel_rfl
theorem impl_compareRows_1_call (x0 : Sl) (x1 : Sl) (h : H) (K : Int → H → Prop) (hm : impl_compareRows_1_main (Sat Try.prog) (fun v h' => ∃ r, v = .int .i64 r ∧ K r h') x0 x1 h) : callI (Sat Try.prog) .i64 i_impl_compareRows_1 [.sl x0, .sl x1] h K := by
  have := Sat.ex tok mixed impl_compareRows_1_M Try.func118 (c := bodyOf Try.f118) (by kernel_rfl) (calls_of Try.func118 (c := bodyOf Try.f118) (by kernel_rfl) (by decide)) ((impl_compareRows_1_main_link _ _ x0 x1 h).mpr hm)
  obtain ⟨v, h2, h3, r, rfl, h4⟩ := this; exact ⟨r, h2, h3, h4⟩

/-! ### loop.example/g01354/spec.l01In -/
def spec_l01In_M : Nat → List Nat := fun i => []
def spec_l01In_main (S : SatT) (K : AVal → H → Prop) (x0 : Int) (x1 : Int) (x2 : Int) (h : H) : Prop :=
 bif (decide (x0 ≥ x1)) then
 K (.bool (decide (x0 ≤ x2))) h
 else
 K (.bool false) h
theorem spec_l01In_main_link (S : SatT) (K : AVal → H → Prop) (x0 : Int) (x1 : Int) (x2 : Int) (h : H) : cwp S tab spec_l01In_M [] (bodyOf Try.f92) (kFun tab Try.f92.results.toList K) (fr0 Try.f92 [.int .i64 x0, .int .i64 x1, .int .i64 x2]) h = spec_l01In_main S K x0 x1 x2 h := by kernel_rfl
theorem spec_l01In_call (x0 : Int) (x1 : Int) (x2 : Int) (h : H) (K : Bool → H → Prop) (hm : spec_l01In_main (Sat Try.prog) (fun v h' => ∃ r, v = .bool r ∧ K r h') x0 x1 x2 h) : callB (Sat Try.prog) i_spec_l01In [.int .i64 x0, .int .i64 x1, .int .i64 x2] h K := by
  have := Sat.ex tok mixed spec_l01In_M Try.func92 (c := bodyOf Try.f92) (by kernel_rfl) (calls_of Try.func92 (c := bodyOf Try.f92) (by kernel_rfl) (by decide)) ((spec_l01In_main_link _ _ x0 x1 x2 h).mpr hm)
  obtain ⟨v, h2, h3, r, rfl, h4⟩ := this; exact ⟨r, h2, h3, h4⟩

/-! ### loop.example/g01354/impl.IsTorus$1 -/
def impl_IsTorus_1_M : Nat → List Nat := fun i => []
def impl_IsTorus_1_main (S : SatT) (K : AVal → H → Prop) (x0 : Pt) (x1 : Pt) (h : H) : Prop :=
 ldA x0 2 h fun cs0 =>
 ldS x1 h fun s1 =>
 callB S i_impl_Set_areNumbers [.agg cs0, .sl s1] h fun b3 h2 =>
 K (.bool b3) h2
theorem impl_IsTorus_1_main_link (S : SatT) (K : AVal → H → Prop) (x0 : Pt) (x1 : Pt) (h : H) : cwp S tab impl_IsTorus_1_M [] (bodyOf Try.f74) (kFun tab Try.f74.results.toList K) (fr0 Try.f74 [.ptr x0, .ptr x1]) h = impl_IsTorus_1_main S K x0 x1 h := by kernel_rfl
theorem impl_IsTorus_1_call (x0 : Pt) (x1 : Pt) (h : H) (K : Bool → H → Prop) (hm : impl_IsTorus_1_main (Sat Try.prog) (fun v h' => ∃ r, v = .bool r ∧ K r h') x0 x1 h) : callB (Sat Try.prog) i_impl_IsTorus_1 [.ptr x0, .ptr x1] h K := by
  have := Sat.ex tok mixed impl_IsTorus_1_M Try.func74 (c := bodyOf Try.f74) (by kernel_rfl) (calls_of Try.func74 (c := bodyOf Try.f74) (by kernel_rfl) (by decide)) ((impl_IsTorus_1_main_link _ _ x0 x1 h).mpr hm)
  obtain ⟨v, h2, h3, r, rfl, h4⟩ := this; exact ⟨r, h2, h3, h4⟩

end Go.Proofs.Ytfmjjpophipfbaa.Cl
