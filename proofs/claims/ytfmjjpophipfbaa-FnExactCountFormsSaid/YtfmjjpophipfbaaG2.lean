/- Typed forms of functions of the program, and their links. Printed by program. No claim is stated here. -/
import Derived.Test.YtfmjjpophipfbaaGTab
set_option linter.unusedVariables false
namespace Go.Proofs.Ytfmjjpophipfbaa.Cl
open Go
/-! ### loop.example/g01354/spec.l05Paths -/
def spec_l05Paths_M : Nat → List Nat := fun i => bif i == 4 then [1, 2, 3, 4, 13, 15, 16] else bif i == 2 then [1, 2, 3, 4, 13] else bif i == 0 then [1, 2, 3, 4, 5, 13, 14] else []
def spec_l05Paths_ks2 (S : SatT) (K : AVal → H → Prop) : Kont := kSeq (cwp S tab spec_l05Paths_M [] (sub [1, 1, 1] (bodyOf Try.f51)) (kFun tab (Try.f51).results.toList K)) (kFun tab (Try.f51).results.toList K)
def spec_l05Paths_e0 (s1_ : Sl) (s2_ : Sl) (i3_ : Int) (i4_ : Int) (i5_ : Int) (s13_ : Sl) (i14_ : Int) : Frame := [U, .sl s1_, .sl s2_, .int .i64 i3_, .int .i64 i4_, .int .i64 i5_, U, U, U, U, U, U, U, .sl s13_, .int .i64 i14_, U, U, U, U, U, U, U, U, U, U, U, U, U, U, U, U, U, U, U, U, U, U, U, U, U, U, U, U, U, U, U, U, U, U, U, U, U, U, U, U, U, U, U, U, U, U, U, U, U, U, U, U, U, U, U]
def spec_l05Paths_w0 (S : SatT) (K : AVal → H → Prop) : (Frame → H → Prop) → Frame → H → Prop := fun X fr h => cwp S tab spec_l05Paths_M (spec_l05Paths_M 0) (sub [1, 1, 0, 1, 0, 0] (bodyOf Try.f51)) (kSeq (fun fr h => X (mask (spec_l05Paths_M 0) fr) h) (kBlk 0 (spec_l05Paths_ks2 S K))) fr h
def spec_l05Paths_L0 (S : SatT) (K : AVal → H → Prop) (s1_ : Sl) (s2_ : Sl) (i3_ : Int) (i4_ : Int) (i5_ : Int) (s13_ : Sl) (i14_ : Int) (h : H) : Prop := loopK (spec_l05Paths_w0 S K) (spec_l05Paths_e0 s1_ s2_ i3_ i4_ i5_ s13_ i14_) h
def spec_l05Paths_ks8 (S : SatT) (K : AVal → H → Prop) : Kont := kSeq (cwp S tab spec_l05Paths_M [] (sub [1, 1, 1, 1] (bodyOf Try.f51)) (kFun tab (Try.f51).results.toList K)) (kFun tab (Try.f51).results.toList K)
def spec_l05Paths_e2 (s1_ : Sl) (s2_ : Sl) (i3_ : Int) (i4_ : Int) (s13_ : Sl) : Frame := [U, .sl s1_, .sl s2_, .int .i64 i3_, .int .i64 i4_, U, U, U, U, U, U, U, U, .sl s13_, U, U, U, U, U, U, U, U, U, U, U, U, U, U, U, U, U, U, U, U, U, U, U, U, U, U, U, U, U, U, U, U, U, U, U, U, U, U, U, U, U, U, U, U, U, U, U, U, U, U, U, U, U, U, U, U]
def spec_l05Paths_w2 (S : SatT) (K : AVal → H → Prop) : (Frame → H → Prop) → Frame → H → Prop := fun X fr h => cwp S tab spec_l05Paths_M (spec_l05Paths_M 2) (sub [1, 1, 1, 0, 0, 0] (bodyOf Try.f51)) (kSeq (fun fr h => X (mask (spec_l05Paths_M 2) fr) h) (kBlk 2 (spec_l05Paths_ks8 S K))) fr h
def spec_l05Paths_L2 (S : SatT) (K : AVal → H → Prop) (s1_ : Sl) (s2_ : Sl) (i3_ : Int) (i4_ : Int) (s13_ : Sl) (h : H) : Prop := loopK (spec_l05Paths_w2 S K) (spec_l05Paths_e2 s1_ s2_ i3_ i4_ s13_) h
def spec_l05Paths_ks11 (S : SatT) (K : AVal → H → Prop) (X2 : Frame → H → Prop) : Kont := kSeq (cwp S tab spec_l05Paths_M (spec_l05Paths_M 2) (sub [1, 1, 1, 0, 0, 0, 1, 1] (bodyOf Try.f51)) (kSeq (fun fr h => X2 (mask (spec_l05Paths_M 2) fr) h) (kBlk 2 (spec_l05Paths_ks8 S K)))) (kSeq (fun fr h => X2 (mask (spec_l05Paths_M 2) fr) h) (kBlk 2 (spec_l05Paths_ks8 S K)))
def spec_l05Paths_ks13 (S : SatT) (K : AVal → H → Prop) (X2 : Frame → H → Prop) : Kont := kSeq (cwp S tab spec_l05Paths_M (spec_l05Paths_M 3) (sub [1, 1, 1, 0, 0, 0, 1, 0, 0, 1, 1] (bodyOf Try.f51)) (kBlk 3 (spec_l05Paths_ks11 S K X2))) (kBlk 3 (spec_l05Paths_ks11 S K X2))
def spec_l05Paths_e4 (s1_ : Sl) (s2_ : Sl) (i3_ : Int) (i4_ : Int) (s13_ : Sl) (s15_ : Sl) (i16_ : Int) : Frame := [U, .sl s1_, .sl s2_, .int .i64 i3_, .int .i64 i4_, U, U, U, U, U, U, U, U, .sl s13_, U, .sl s15_, .int .i64 i16_, U, U, U, U, U, U, U, U, U, U, U, U, U, U, U, U, U, U, U, U, U, U, U, U, U, U, U, U, U, U, U, U, U, U, U, U, U, U, U, U, U, U, U, U, U, U, U, U, U, U, U, U, U]
def spec_l05Paths_w4 (S : SatT) (K : AVal → H → Prop) (X2 : Frame → H → Prop) : (Frame → H → Prop) → Frame → H → Prop := fun X fr h => cwp S tab spec_l05Paths_M (spec_l05Paths_M 4) (sub [1, 1, 1, 0, 0, 0, 1, 0, 0, 1, 0, 1, 0, 0] (bodyOf Try.f51)) (kSeq (fun fr h => X (mask (spec_l05Paths_M 4) fr) h) (kBlk 4 (spec_l05Paths_ks13 S K X2))) fr h
def spec_l05Paths_L4 (S : SatT) (K : AVal → H → Prop) (X2 : Frame → H → Prop) (s1_ : Sl) (s2_ : Sl) (i3_ : Int) (i4_ : Int) (s13_ : Sl) (s15_ : Sl) (i16_ : Int) (h : H) : Prop := loopK (spec_l05Paths_w4 S K X2) (spec_l05Paths_e4 s1_ s2_ i3_ i4_ s13_ s15_ i16_) h
def spec_l05Paths_C3 (S : SatT) (K : AVal → H → Prop) (X2 : Frame → H → Prop) (s1_ : Sl) (s2_ : Sl) (i3_ : Int) (i4_ : Int) (s13_ : Sl) (h : H) : Prop :=
 X2 (spec_l05Paths_e2 s1_ s2_ i3_ (w64 (i4_ - (1))) s13_) h
def spec_l05Paths_C4 (S : SatT) (K : AVal → H → Prop) (X2 : Frame → H → Prop) (s1_ : Sl) (s2_ : Sl) (i3_ : Int) (i4_ : Int) (s15_ : Sl) (h : H) : Prop :=
 spec_l05Paths_C3 S K X2 s1_ s2_ i3_ i4_ s15_ h
def spec_l05Paths_b4 (S : SatT) (K : AVal → H → Prop) (X2 : Frame → H → Prop) (X4 : Frame → H → Prop) (s1_ : Sl) (s2_ : Sl) (i3_ : Int) (i4_ : Int) (s13_ : Sl) (s15_ : Sl) (i16_ : Int) (h : H) : Prop :=
 bif (decide (i16_ < (s1_.len : Int))) then
 ixS s1_ 1 i16_ fun p0 =>
 ldI .i64 p0 h fun n1 =>
 ixS s1_ 1 i16_ fun p2 =>
 ldI .i64 p2 h fun n3 =>
 ixS s15_ 1 n3 fun p4 =>
 ldI .i64 p4 h fun n5 =>
 ixS s2_ 1 i16_ fun p6 =>
 ldI .i64 p6 h fun n7 =>
 ixS s13_ 1 n7 fun p8 =>
 ldI .i64 p8 h fun n9 =>
 ixS s15_ 1 n1 fun p10 =>
 st1 p10 (.int .i64 (mnI (w64 (n5 + n9)) (1000000000000001))) h fun h11 =>
 X4 (spec_l05Paths_e4 s1_ s2_ i3_ i4_ s13_ s15_ (w64 (i16_ + (1)))) h11
 else
 spec_l05Paths_C4 S K X2 s1_ s2_ i3_ i4_ s15_ h
theorem spec_l05Paths_link4 (S : SatT) (K : AVal → H → Prop) (X2 : Frame → H → Prop) (X4 : Frame → H → Prop) (s1_ : Sl) (s2_ : Sl) (i3_ : Int) (i4_ : Int) (s13_ : Sl) (s15_ : Sl) (i16_ : Int) (h : H) : spec_l05Paths_w4 S K X2 X4 (spec_l05Paths_e4 s1_ s2_ i3_ i4_ s13_ s15_ i16_) h = spec_l05Paths_b4 S K X2 X4 s1_ s2_ i3_ i4_ s13_ s15_ i16_ h := by kernel_rfl
theorem spec_l05Paths_rule4 (S : SatT) (K : AVal → H → Prop) (X2 : Frame → H → Prop) (s1_ : Sl) (s2_ : Sl) (i3_ : Int) (i4_ : Int) (s13_ : Sl) (s15_ : Sl) (I_ : Int → H → Prop) (m_ : Int → H → Nat)
    (hs : ∀ (X4 : Frame → H → Prop) (i16_ : Int) (h : H), I_ i16_ h → (∀ (i16_' : Int) (h' : H), I_ i16_' h' → m_ i16_' h' < m_ i16_ h → X4 (spec_l05Paths_e4 s1_ s2_ i3_ i4_ s13_ s15_ i16_') h') → spec_l05Paths_b4 S K X2 X4 s1_ s2_ i3_ i4_ s13_ s15_ i16_ h) (i16_ : Int) {h : H} (h0 : I_ i16_ h) : spec_l05Paths_L4 S K X2 s1_ s2_ i3_ i4_ s13_ s15_ i16_ h :=
  loop_rule (σ := (Int)) (fun s_ => spec_l05Paths_e4 s1_ s2_ i3_ i4_ s13_ s15_ (s_)) (fun s_ h => I_ (s_) h) (fun s_ h => m_ (s_) h)
    (fun X s_ h hi hx => (spec_l05Paths_link4 S K X2 X s1_ s2_ i3_ i4_ s13_ s15_ (s_) h).mpr (hs X (s_) h hi fun i16_' h' hi' hm' => hx (i16_') h' hi' hm')) (i16_) h0
theorem spec_l05Paths_unroll4 (S : SatT) (K : AVal → H → Prop) (X2 : Frame → H → Prop) (s1_ : Sl) (s2_ : Sl) (i3_ : Int) (i4_ : Int) (s13_ : Sl) (s15_ : Sl) (i16_ : Int) (h : H) (hb : spec_l05Paths_b4 S K X2 (fun fr h => loopK (spec_l05Paths_w4 S K X2) fr h) s1_ s2_ i3_ i4_ s13_ s15_ i16_ h) : spec_l05Paths_L4 S K X2 s1_ s2_ i3_ i4_ s13_ s15_ i16_ h := loop_unroll ((spec_l05Paths_link4 S K X2 _ s1_ s2_ i3_ i4_ s13_ s15_ i16_ h).mpr hb)
def spec_l05Paths_C2 (S : SatT) (K : AVal → H → Prop) (s13_ : Sl) (h : H) : Prop :=
 K (.sl s13_) h
def spec_l05Paths_b2 (S : SatT) (K : AVal → H → Prop) (X2 : Frame → H → Prop) (s1_ : Sl) (s2_ : Sl) (i3_ : Int) (i4_ : Int) (s13_ : Sl) (h : H) : Prop :=
 bif (decide (i4_ > (0))) then
 mkS i3_ [.int .i64 (0)] h fun s0 h1 =>
 spec_l05Paths_L4 S K X2 s1_ s2_ i3_ i4_ s13_ s0 (0) h1
 else
 spec_l05Paths_C2 S K s13_ h
theorem spec_l05Paths_link2 (S : SatT) (K : AVal → H → Prop) (X2 : Frame → H → Prop) (s1_ : Sl) (s2_ : Sl) (i3_ : Int) (i4_ : Int) (s13_ : Sl) (h : H) : spec_l05Paths_w2 S K X2 (spec_l05Paths_e2 s1_ s2_ i3_ i4_ s13_) h = spec_l05Paths_b2 S K X2 s1_ s2_ i3_ i4_ s13_ h := by kernel_rfl
theorem spec_l05Paths_rule2 (S : SatT) (K : AVal → H → Prop) (s1_ : Sl) (s2_ : Sl) (i3_ : Int) (I_ : Int → Sl → H → Prop) (m_ : Int → Sl → H → Nat)
    (hs : ∀ (X2 : Frame → H → Prop) (i4_ : Int) (s13_ : Sl) (h : H), I_ i4_ s13_ h → (∀ (i4_' : Int) (s13_' : Sl) (h' : H), I_ i4_' s13_' h' → m_ i4_' s13_' h' < m_ i4_ s13_ h → X2 (spec_l05Paths_e2 s1_ s2_ i3_ i4_' s13_') h') → spec_l05Paths_b2 S K X2 s1_ s2_ i3_ i4_ s13_ h) (i4_ : Int) (s13_ : Sl) {h : H} (h0 : I_ i4_ s13_ h) : spec_l05Paths_L2 S K s1_ s2_ i3_ i4_ s13_ h :=
  loop_rule (σ := (Int) × (Sl)) (fun s_ => spec_l05Paths_e2 s1_ s2_ i3_ (s_.1) (s_.2)) (fun s_ h => I_ (s_.1) (s_.2) h) (fun s_ h => m_ (s_.1) (s_.2) h)
    (fun X s_ h hi hx => (spec_l05Paths_link2 S K X s1_ s2_ i3_ (s_.1) (s_.2) h).mpr (hs X (s_.1) (s_.2) h hi fun i4_' s13_' h' hi' hm' => hx (i4_', s13_') h' hi' hm')) (i4_, s13_) h0
theorem spec_l05Paths_unroll2 (S : SatT) (K : AVal → H → Prop) (s1_ : Sl) (s2_ : Sl) (i3_ : Int) (i4_ : Int) (s13_ : Sl) (h : H) (hb : spec_l05Paths_b2 S K (fun fr h => loopK (spec_l05Paths_w2 S K) fr h) s1_ s2_ i3_ i4_ s13_ h) : spec_l05Paths_L2 S K s1_ s2_ i3_ i4_ s13_ h := loop_unroll ((spec_l05Paths_link2 S K _ s1_ s2_ i3_ i4_ s13_ h).mpr hb)
def spec_l05Paths_C0 (S : SatT) (K : AVal → H → Prop) (s1_ : Sl) (s2_ : Sl) (i3_ : Int) (i4_ : Int) (s13_ : Sl) (h : H) : Prop :=
 spec_l05Paths_L2 S K s1_ s2_ i3_ i4_ s13_ h
def spec_l05Paths_b0 (S : SatT) (K : AVal → H → Prop) (X0 : Frame → H → Prop) (s1_ : Sl) (s2_ : Sl) (i3_ : Int) (i4_ : Int) (i5_ : Int) (s13_ : Sl) (i14_ : Int) (h : H) : Prop :=
 bif (decide (i14_ < i3_)) then
 bif (decide (i5_ < (0))) then
 ixS s13_ 1 i14_ fun p0 =>
 st1 p0 (.int .i64 (1)) h fun h1 =>
 X0 (spec_l05Paths_e0 s1_ s2_ i3_ i4_ i5_ s13_ (w64 (i14_ + (1)))) h1
 else
 bif (i14_ == i5_) then
 ixS s13_ 1 i14_ fun p2 =>
 st1 p2 (.int .i64 (1)) h fun h3 =>
 X0 (spec_l05Paths_e0 s1_ s2_ i3_ i4_ i5_ s13_ (w64 (i14_ + (1)))) h3
 else
 X0 (spec_l05Paths_e0 s1_ s2_ i3_ i4_ i5_ s13_ (w64 (i14_ + (1)))) h
 else
 spec_l05Paths_C0 S K s1_ s2_ i3_ i4_ s13_ h
theorem spec_l05Paths_link0 (S : SatT) (K : AVal → H → Prop) (X0 : Frame → H → Prop) (s1_ : Sl) (s2_ : Sl) (i3_ : Int) (i4_ : Int) (i5_ : Int) (s13_ : Sl) (i14_ : Int) (h : H) : spec_l05Paths_w0 S K X0 (spec_l05Paths_e0 s1_ s2_ i3_ i4_ i5_ s13_ i14_) h = spec_l05Paths_b0 S K X0 s1_ s2_ i3_ i4_ i5_ s13_ i14_ h := by kernel_rfl
theorem spec_l05Paths_rule0 (S : SatT) (K : AVal → H → Prop) (s1_ : Sl) (s2_ : Sl) (i3_ : Int) (i4_ : Int) (i5_ : Int) (s13_ : Sl) (I_ : Int → H → Prop) (m_ : Int → H → Nat)
    (hs : ∀ (X0 : Frame → H → Prop) (i14_ : Int) (h : H), I_ i14_ h → (∀ (i14_' : Int) (h' : H), I_ i14_' h' → m_ i14_' h' < m_ i14_ h → X0 (spec_l05Paths_e0 s1_ s2_ i3_ i4_ i5_ s13_ i14_') h') → spec_l05Paths_b0 S K X0 s1_ s2_ i3_ i4_ i5_ s13_ i14_ h) (i14_ : Int) {h : H} (h0 : I_ i14_ h) : spec_l05Paths_L0 S K s1_ s2_ i3_ i4_ i5_ s13_ i14_ h :=
  loop_rule (σ := (Int)) (fun s_ => spec_l05Paths_e0 s1_ s2_ i3_ i4_ i5_ s13_ (s_)) (fun s_ h => I_ (s_) h) (fun s_ h => m_ (s_) h)
    (fun X s_ h hi hx => (spec_l05Paths_link0 S K X s1_ s2_ i3_ i4_ i5_ s13_ (s_) h).mpr (hs X (s_) h hi fun i14_' h' hi' hm' => hx (i14_') h' hi' hm')) (i14_) h0
theorem spec_l05Paths_unroll0 (S : SatT) (K : AVal → H → Prop) (s1_ : Sl) (s2_ : Sl) (i3_ : Int) (i4_ : Int) (i5_ : Int) (s13_ : Sl) (i14_ : Int) (h : H) (hb : spec_l05Paths_b0 S K (fun fr h => loopK (spec_l05Paths_w0 S K) fr h) s1_ s2_ i3_ i4_ i5_ s13_ i14_ h) : spec_l05Paths_L0 S K s1_ s2_ i3_ i4_ i5_ s13_ i14_ h := loop_unroll ((spec_l05Paths_link0 S K _ s1_ s2_ i3_ i4_ i5_ s13_ i14_ h).mpr hb)
def spec_l05Paths_main (S : SatT) (K : AVal → H → Prop) (x0 : List AVal) (x1 : Sl) (x2 : Sl) (x3 : Int) (x4 : Int) (x5 : Int) (h : H) : Prop :=
 newK 2 x0 h fun p0 h1 =>
 mkS x3 [.int .i64 (0)] h1 fun s2 h3 =>
 spec_l05Paths_L0 S K x1 x2 x3 x4 x5 s2 (0) h3
theorem spec_l05Paths_main_link (S : SatT) (K : AVal → H → Prop) (x0 : List AVal) (x1 : Sl) (x2 : Sl) (x3 : Int) (x4 : Int) (x5 : Int) (h : H) : cwp S tab spec_l05Paths_M [] (bodyOf Try.f51) (kFun tab Try.f51.results.toList K) (fr0 Try.f51 [.agg x0, .sl x1, .sl x2, .int .i64 x3, .int .i64 x4, .int .i64 x5]) h = spec_l05Paths_main S K x0 x1 x2 x3 x4 x5 h := by kernel_rfl
theorem spec_l05Paths_call (x0 : List AVal) (x1 : Sl) (x2 : Sl) (x3 : Int) (x4 : Int) (x5 : Int) (h : H) (K : Sl → H → Prop) (hm : spec_l05Paths_main (Sat Try.prog) (fun v h' => ∃ r, v = .sl r ∧ K r h') x0 x1 x2 x3 x4 x5 h) : callS (Sat Try.prog) i_spec_l05Paths [.agg x0, .sl x1, .sl x2, .int .i64 x3, .int .i64 x4, .int .i64 x5] h K := by
  have := Sat.ex tok mixed spec_l05Paths_M Try.func51 (c := bodyOf Try.f51) (by kernel_rfl) (calls_of Try.func51 (c := bodyOf Try.f51) (by kernel_rfl) (by decide)) ((spec_l05Paths_main_link _ _ x0 x1 x2 x3 x4 x5 h).mpr hm)
  obtain ⟨v, h2, h3, r, rfl, h4⟩ := this; exact ⟨r, h2, h3, h4⟩

/-! ### loop.example/g01354/spec.l05Count -/
def spec_l05Count_M : Nat → List Nat := fun i => bif i == 2 then [1, 3, 8, 9, 10, 11, 12, 13, 14] else bif i == 0 then [1, 3, 8, 9, 10, 11, 12] else []
def spec_l05Count_ks3 (S : SatT) (K : AVal → H → Prop) : Kont := kSeq (cwp S tab spec_l05Count_M [] (sub [1, 1, 1, 1] (bodyOf Try.f60)) (kFun tab (Try.f60).results.toList K)) (kFun tab (Try.f60).results.toList K)
def spec_l05Count_e0 (i1_ : Int) (p3_ : Pt) (s8_ : Sl) (s9_ : Sl) (i10_ : Int) (i11_ : Int) (i12_ : Int) : Frame := [U, .int .i64 i1_, U, .ptr p3_, U, U, U, U, .sl s8_, .sl s9_, .int .i64 i10_, .int .i64 i11_, .int .i64 i12_, U, U, U, U, U, U, U, U, U, U, U, U, U, U, U, U, U, U, U, U, U, U, U, U, U, U, U, U, U, U, U, U, U, U, U, U, U, U, U, U, U, U, U, U, U, U, U]
def spec_l05Count_w0 (S : SatT) (K : AVal → H → Prop) : (Frame → H → Prop) → Frame → H → Prop := fun X fr h => cwp S tab spec_l05Count_M (spec_l05Count_M 0) (sub [1, 1, 1, 0, 1, 0, 0] (bodyOf Try.f60)) (kSeq (fun fr h => X (mask (spec_l05Count_M 0) fr) h) (kBlk 0 (spec_l05Count_ks3 S K))) fr h
def spec_l05Count_L0 (S : SatT) (K : AVal → H → Prop) (i1_ : Int) (p3_ : Pt) (s8_ : Sl) (s9_ : Sl) (i10_ : Int) (i11_ : Int) (i12_ : Int) (h : H) : Prop := loopK (spec_l05Count_w0 S K) (spec_l05Count_e0 i1_ p3_ s8_ s9_ i10_ i11_ i12_) h
def spec_l05Count_ks7 (S : SatT) (K : AVal → H → Prop) (X0 : Frame → H → Prop) : Kont := kSeq (cwp S tab spec_l05Count_M (spec_l05Count_M 0) (sub [1, 1, 1, 0, 1, 0, 0, 1, 1] (bodyOf Try.f60)) (kSeq (fun fr h => X0 (mask (spec_l05Count_M 0) fr) h) (kBlk 0 (spec_l05Count_ks3 S K)))) (kSeq (fun fr h => X0 (mask (spec_l05Count_M 0) fr) h) (kBlk 0 (spec_l05Count_ks3 S K)))
def spec_l05Count_ks9 (S : SatT) (K : AVal → H → Prop) (X0 : Frame → H → Prop) : Kont := kSeq (cwp S tab spec_l05Count_M (spec_l05Count_M 1) (sub [1, 1, 1, 0, 1, 0, 0, 1, 0, 0, 1, 1] (bodyOf Try.f60)) (kBlk 1 (spec_l05Count_ks7 S K X0))) (kBlk 1 (spec_l05Count_ks7 S K X0))
def spec_l05Count_e2 (i1_ : Int) (p3_ : Pt) (s8_ : Sl) (s9_ : Sl) (i10_ : Int) (i11_ : Int) (i12_ : Int) (b13_ : Bool) (i14_ : Int) : Frame := [U, .int .i64 i1_, U, .ptr p3_, U, U, U, U, .sl s8_, .sl s9_, .int .i64 i10_, .int .i64 i11_, .int .i64 i12_, .bool b13_, .int .i64 i14_, U, U, U, U, U, U, U, U, U, U, U, U, U, U, U, U, U, U, U, U, U, U, U, U, U, U, U, U, U, U, U, U, U, U, U, U, U, U, U, U, U, U, U, U, U]
def spec_l05Count_w2 (S : SatT) (K : AVal → H → Prop) (X0 : Frame → H → Prop) : (Frame → H → Prop) → Frame → H → Prop := fun X fr h => cwp S tab spec_l05Count_M (spec_l05Count_M 2) (sub [1, 1, 1, 0, 1, 0, 0, 1, 0, 0, 1, 0, 1, 0, 0] (bodyOf Try.f60)) (kSeq (fun fr h => X (mask (spec_l05Count_M 2) fr) h) (kBlk 2 (spec_l05Count_ks9 S K X0))) fr h
def spec_l05Count_L2 (S : SatT) (K : AVal → H → Prop) (X0 : Frame → H → Prop) (i1_ : Int) (p3_ : Pt) (s8_ : Sl) (s9_ : Sl) (i10_ : Int) (i11_ : Int) (i12_ : Int) (b13_ : Bool) (i14_ : Int) (h : H) : Prop := loopK (spec_l05Count_w2 S K X0) (spec_l05Count_e2 i1_ p3_ s8_ s9_ i10_ i11_ i12_ b13_ i14_) h
def spec_l05Count_C1 (S : SatT) (K : AVal → H → Prop) (X0 : Frame → H → Prop) (i1_ : Int) (p3_ : Pt) (s8_ : Sl) (s9_ : Sl) (i10_ : Int) (i11_ : Int) (i12_ : Int) (h : H) : Prop :=
 X0 (spec_l05Count_e0 i1_ p3_ s8_ s9_ i10_ i11_ (w64 (i12_ + (1)))) h
def spec_l05Count_C2 (S : SatT) (K : AVal → H → Prop) (X0 : Frame → H → Prop) (i1_ : Int) (p3_ : Pt) (s8_ : Sl) (s9_ : Sl) (i10_ : Int) (i11_ : Int) (i12_ : Int) (b13_ : Bool) (h : H) : Prop :=
 bif b13_ then
 ldA p3_ 2 h fun cs0 =>
 callS S i_spec_l05Paths [.agg cs0, .sl s8_, .sl s9_, .int .i64 i10_, .int .i64 i1_, .int .i64 i12_] h fun s2 h1 =>
 ixS s2 1 i12_ fun p3 =>
 ldI .i64 p3 h1 fun n4 =>
 spec_l05Count_C1 S K X0 i1_ p3_ s8_ s9_ i10_ (w64 (i11_ + n4)) i12_ h1
 else
 spec_l05Count_C1 S K X0 i1_ p3_ s8_ s9_ i10_ i11_ i12_ h
def spec_l05Count_b2 (S : SatT) (K : AVal → H → Prop) (X0 : Frame → H → Prop) (X2 : Frame → H → Prop) (i1_ : Int) (p3_ : Pt) (s8_ : Sl) (s9_ : Sl) (i10_ : Int) (i11_ : Int) (i12_ : Int) (b13_ : Bool) (i14_ : Int) (h : H) : Prop :=
 bif (decide (i14_ < (s8_.len : Int))) then
 bif b13_ then
 X2 (spec_l05Count_e2 i1_ p3_ s8_ s9_ i10_ i11_ i12_ true (w64 (i14_ + (1)))) h
 else
 ixS s8_ 1 i14_ fun p0 =>
 ldI .i64 p0 h fun n1 =>
 X2 (spec_l05Count_e2 i1_ p3_ s8_ s9_ i10_ i11_ i12_ (n1 == i12_) (w64 (i14_ + (1)))) h
 else
 spec_l05Count_C2 S K X0 i1_ p3_ s8_ s9_ i10_ i11_ i12_ b13_ h
theorem spec_l05Count_link2 (S : SatT) (K : AVal → H → Prop) (X0 : Frame → H → Prop) (X2 : Frame → H → Prop) (i1_ : Int) (p3_ : Pt) (s8_ : Sl) (s9_ : Sl) (i10_ : Int) (i11_ : Int) (i12_ : Int) (b13_ : Bool) (i14_ : Int) (h : H) : spec_l05Count_w2 S K X0 X2 (spec_l05Count_e2 i1_ p3_ s8_ s9_ i10_ i11_ i12_ b13_ i14_) h = spec_l05Count_b2 S K X0 X2 i1_ p3_ s8_ s9_ i10_ i11_ i12_ b13_ i14_ h := by kernel_rfl
theorem spec_l05Count_rule2 (S : SatT) (K : AVal → H → Prop) (X0 : Frame → H → Prop) (i1_ : Int) (p3_ : Pt) (s8_ : Sl) (s9_ : Sl) (i10_ : Int) (i11_ : Int) (i12_ : Int) (I_ : Bool → Int → H → Prop) (m_ : Bool → Int → H → Nat)
    (hs : ∀ (X2 : Frame → H → Prop) (b13_ : Bool) (i14_ : Int) (h : H), I_ b13_ i14_ h → (∀ (b13_' : Bool) (i14_' : Int) (h' : H), I_ b13_' i14_' h' → m_ b13_' i14_' h' < m_ b13_ i14_ h → X2 (spec_l05Count_e2 i1_ p3_ s8_ s9_ i10_ i11_ i12_ b13_' i14_') h') → spec_l05Count_b2 S K X0 X2 i1_ p3_ s8_ s9_ i10_ i11_ i12_ b13_ i14_ h) (b13_ : Bool) (i14_ : Int) {h : H} (h0 : I_ b13_ i14_ h) : spec_l05Count_L2 S K X0 i1_ p3_ s8_ s9_ i10_ i11_ i12_ b13_ i14_ h :=
  loop_rule (σ := (Bool) × (Int)) (fun s_ => spec_l05Count_e2 i1_ p3_ s8_ s9_ i10_ i11_ i12_ (s_.1) (s_.2)) (fun s_ h => I_ (s_.1) (s_.2) h) (fun s_ h => m_ (s_.1) (s_.2) h)
    (fun X s_ h hi hx => (spec_l05Count_link2 S K X0 X i1_ p3_ s8_ s9_ i10_ i11_ i12_ (s_.1) (s_.2) h).mpr (hs X (s_.1) (s_.2) h hi fun b13_' i14_' h' hi' hm' => hx (b13_', i14_') h' hi' hm')) (b13_, i14_) h0
theorem spec_l05Count_unroll2 (S : SatT) (K : AVal → H → Prop) (X0 : Frame → H → Prop) (i1_ : Int) (p3_ : Pt) (s8_ : Sl) (s9_ : Sl) (i10_ : Int) (i11_ : Int) (i12_ : Int) (b13_ : Bool) (i14_ : Int) (h : H) (hb : spec_l05Count_b2 S K X0 (fun fr h => loopK (spec_l05Count_w2 S K X0) fr h) i1_ p3_ s8_ s9_ i10_ i11_ i12_ b13_ i14_ h) : spec_l05Count_L2 S K X0 i1_ p3_ s8_ s9_ i10_ i11_ i12_ b13_ i14_ h := loop_unroll ((spec_l05Count_link2 S K X0 _ i1_ p3_ s8_ s9_ i10_ i11_ i12_ b13_ i14_ h).mpr hb)
def spec_l05Count_C0 (S : SatT) (K : AVal → H → Prop) (i11_ : Int) (h : H) : Prop :=
 K (.int .i64 i11_) h
def spec_l05Count_b0 (S : SatT) (K : AVal → H → Prop) (X0 : Frame → H → Prop) (i1_ : Int) (p3_ : Pt) (s8_ : Sl) (s9_ : Sl) (i10_ : Int) (i11_ : Int) (i12_ : Int) (h : H) : Prop :=
 bif (decide (i12_ < i10_)) then
 spec_l05Count_L2 S K X0 i1_ p3_ s8_ s9_ i10_ i11_ i12_ false (0) h
 else
 spec_l05Count_C0 S K i11_ h
theorem spec_l05Count_link0 (S : SatT) (K : AVal → H → Prop) (X0 : Frame → H → Prop) (i1_ : Int) (p3_ : Pt) (s8_ : Sl) (s9_ : Sl) (i10_ : Int) (i11_ : Int) (i12_ : Int) (h : H) : spec_l05Count_w0 S K X0 (spec_l05Count_e0 i1_ p3_ s8_ s9_ i10_ i11_ i12_) h = spec_l05Count_b0 S K X0 i1_ p3_ s8_ s9_ i10_ i11_ i12_ h := by kernel_rfl
theorem spec_l05Count_rule0 (S : SatT) (K : AVal → H → Prop) (i1_ : Int) (p3_ : Pt) (s8_ : Sl) (s9_ : Sl) (i10_ : Int) (I_ : Int → Int → H → Prop) (m_ : Int → Int → H → Nat)
    (hs : ∀ (X0 : Frame → H → Prop) (i11_ : Int) (i12_ : Int) (h : H), I_ i11_ i12_ h → (∀ (i11_' : Int) (i12_' : Int) (h' : H), I_ i11_' i12_' h' → m_ i11_' i12_' h' < m_ i11_ i12_ h → X0 (spec_l05Count_e0 i1_ p3_ s8_ s9_ i10_ i11_' i12_') h') → spec_l05Count_b0 S K X0 i1_ p3_ s8_ s9_ i10_ i11_ i12_ h) (i11_ : Int) (i12_ : Int) {h : H} (h0 : I_ i11_ i12_ h) : spec_l05Count_L0 S K i1_ p3_ s8_ s9_ i10_ i11_ i12_ h :=
  loop_rule (σ := (Int) × (Int)) (fun s_ => spec_l05Count_e0 i1_ p3_ s8_ s9_ i10_ (s_.1) (s_.2)) (fun s_ h => I_ (s_.1) (s_.2) h) (fun s_ h => m_ (s_.1) (s_.2) h)
    (fun X s_ h hi hx => (spec_l05Count_link0 S K X i1_ p3_ s8_ s9_ i10_ (s_.1) (s_.2) h).mpr (hs X (s_.1) (s_.2) h hi fun i11_' i12_' h' hi' hm' => hx (i11_', i12_') h' hi' hm')) (i11_, i12_) h0
theorem spec_l05Count_unroll0 (S : SatT) (K : AVal → H → Prop) (i1_ : Int) (p3_ : Pt) (s8_ : Sl) (s9_ : Sl) (i10_ : Int) (i11_ : Int) (i12_ : Int) (h : H) (hb : spec_l05Count_b0 S K (fun fr h => loopK (spec_l05Count_w0 S K) fr h) i1_ p3_ s8_ s9_ i10_ i11_ i12_ h) : spec_l05Count_L0 S K i1_ p3_ s8_ s9_ i10_ i11_ i12_ h := loop_unroll ((spec_l05Count_link0 S K _ i1_ p3_ s8_ s9_ i10_ i11_ i12_ h).mpr hb)
def spec_l05Count_main (S : SatT) (K : AVal → H → Prop) (x0 : List AVal) (x1 : Int) (x2 : Int) (h : H) : Prop :=
 newK 2 x0 h fun p0 h1 =>
 ldA p0 2 h1 fun cs2 =>
 callV S i_spec_l05Words [.agg cs2, .int .i64 x2] h1 fun v4 h3 =>
 viaT v4 fun vs5 =>
 exS vs5 0 fun s6 =>
 viaT v4 fun vs7 =>
 exS vs7 1 fun s8 =>
 viaT v4 fun vs9 =>
 exS vs9 2 fun s10 =>
 isPt p0 (
 ldI .i64 (Pt.add p0 0) h3 fun n11 =>
 callI S .i64 i_spec_l03Power [.int .i64 n11, .int .i64 x2] h3 fun n13 h12 =>
 spec_l05Count_L0 S K x1 p0 s8 s10 n13 (0) (0) h12)
theorem spec_l05Count_main_link (S : SatT) (K : AVal → H → Prop) (x0 : List AVal) (x1 : Int) (x2 : Int) (h : H) : cwp S tab spec_l05Count_M [] (bodyOf Try.f60) (kFun tab Try.f60.results.toList K) (fr0 Try.f60 [.agg x0, .int .i64 x1, .int .i64 x2]) h = spec_l05Count_main S K x0 x1 x2 h := by kernel_rfl
theorem spec_l05Count_call (x0 : List AVal) (x1 : Int) (x2 : Int) (h : H) (K : Int → H → Prop) (hm : spec_l05Count_main (Sat Try.prog) (fun v h' => ∃ r, v = .int .i64 r ∧ K r h') x0 x1 x2 h) : callI (Sat Try.prog) .i64 i_spec_l05Count [.agg x0, .int .i64 x1, .int .i64 x2] h K := by
  have := Sat.ex tok mixed spec_l05Count_M Try.func60 (c := bodyOf Try.f60) (by kernel_rfl) (calls_of Try.func60 (c := bodyOf Try.f60) (by kernel_rfl) (by decide)) ((spec_l05Count_main_link _ _ x0 x1 x2 h).mpr hm)
  obtain ⟨v, h2, h3, r, rfl, h4⟩ := this; exact ⟨r, h2, h3, h4⟩

/-! ### loop.example/g01354/impl.TorusTable -/
def impl_TorusTable_M : Nat → List Nat := fun i => bif i == 2 then [1, 4, 5, 6, 7] else bif i == 0 then [1, 4, 5] else []
def impl_TorusTable_ks5 (S : SatT) (K : AVal → H → Prop) : Kont := kSeq (cwp S tab impl_TorusTable_M [] (sub [1, 1, 1, 1] (bodyOf Try.f30)) (kFun tab (Try.f30).results.toList K)) (kFun tab (Try.f30).results.toList K)
def impl_TorusTable_e0 (p1_ : Pt) (s4_ : Sl) (i5_ : Int) : Frame := [U, .ptr p1_, U, U, .sl s4_, .int .i64 i5_, U, U, U, U, U, U, U, U, U, U, U, U, U, U, U, U, U, U, U, U, U, U, U, U, U, U, U]
def impl_TorusTable_w0 (S : SatT) (K : AVal → H → Prop) : (Frame → H → Prop) → Frame → H → Prop := fun X fr h => cwp S tab impl_TorusTable_M (impl_TorusTable_M 0) (sub [1, 1, 1, 0, 1, 0, 0] (bodyOf Try.f30)) (kSeq (fun fr h => X (mask (impl_TorusTable_M 0) fr) h) (kBlk 0 (impl_TorusTable_ks5 S K))) fr h
def impl_TorusTable_L0 (S : SatT) (K : AVal → H → Prop) (p1_ : Pt) (s4_ : Sl) (i5_ : Int) (h : H) : Prop := loopK (impl_TorusTable_w0 S K) (impl_TorusTable_e0 p1_ s4_ i5_) h
def impl_TorusTable_ks9 (S : SatT) (K : AVal → H → Prop) (X0 : Frame → H → Prop) : Kont := kSeq (cwp S tab impl_TorusTable_M (impl_TorusTable_M 0) (sub [1, 1, 1, 0, 1, 0, 0, 1, 1] (bodyOf Try.f30)) (kSeq (fun fr h => X0 (mask (impl_TorusTable_M 0) fr) h) (kBlk 0 (impl_TorusTable_ks5 S K)))) (kSeq (fun fr h => X0 (mask (impl_TorusTable_M 0) fr) h) (kBlk 0 (impl_TorusTable_ks5 S K)))
def impl_TorusTable_ks11 (S : SatT) (K : AVal → H → Prop) (X0 : Frame → H → Prop) : Kont := kSeq (cwp S tab impl_TorusTable_M (impl_TorusTable_M 1) (sub [1, 1, 1, 0, 1, 0, 0, 1, 0, 0, 1, 1] (bodyOf Try.f30)) (kBlk 1 (impl_TorusTable_ks9 S K X0))) (kBlk 1 (impl_TorusTable_ks9 S K X0))
def impl_TorusTable_e2 (p1_ : Pt) (s4_ : Sl) (i5_ : Int) (s6_ : Sl) (i7_ : Int) : Frame := [U, .ptr p1_, U, U, .sl s4_, .int .i64 i5_, .sl s6_, .int .i64 i7_, U, U, U, U, U, U, U, U, U, U, U, U, U, U, U, U, U, U, U, U, U, U, U, U, U]
def impl_TorusTable_w2 (S : SatT) (K : AVal → H → Prop) (X0 : Frame → H → Prop) : (Frame → H → Prop) → Frame → H → Prop := fun X fr h => cwp S tab impl_TorusTable_M (impl_TorusTable_M 2) (sub [1, 1, 1, 0, 1, 0, 0, 1, 0, 0, 1, 0, 1, 0, 0] (bodyOf Try.f30)) (kSeq (fun fr h => X (mask (impl_TorusTable_M 2) fr) h) (kBlk 2 (impl_TorusTable_ks11 S K X0))) fr h
def impl_TorusTable_L2 (S : SatT) (K : AVal → H → Prop) (X0 : Frame → H → Prop) (p1_ : Pt) (s4_ : Sl) (i5_ : Int) (s6_ : Sl) (i7_ : Int) (h : H) : Prop := loopK (impl_TorusTable_w2 S K X0) (impl_TorusTable_e2 p1_ s4_ i5_ s6_ i7_) h
def impl_TorusTable_C1 (S : SatT) (K : AVal → H → Prop) (X0 : Frame → H → Prop) (p1_ : Pt) (s4_ : Sl) (i5_ : Int) (h : H) : Prop :=
 X0 (impl_TorusTable_e0 p1_ s4_ (w64 (i5_ + (1)))) h
def impl_TorusTable_C2 (S : SatT) (K : AVal → H → Prop) (X0 : Frame → H → Prop) (p1_ : Pt) (s4_ : Sl) (i5_ : Int) (s6_ : Sl) (h : H) : Prop :=
 newS 1 1 [.sl s6_] h fun s0 h1 =>
 app s4_ s0 1 h1 fun s2 h3 =>
 impl_TorusTable_C1 S K X0 p1_ s2 i5_ h3
def impl_TorusTable_b2 (S : SatT) (K : AVal → H → Prop) (X0 : Frame → H → Prop) (X2 : Frame → H → Prop) (p1_ : Pt) (s4_ : Sl) (i5_ : Int) (s6_ : Sl) (i7_ : Int) (h : H) : Prop :=
 bif (decide (i7_ ≤ (3))) then
 ldA p1_ 2 h fun cs0 =>
 callI S .i64 i_impl_Set_countTori [.agg cs0, .int .i64 i5_, .int .i64 i7_] h fun n2 h1 =>
 newS 1 1 [.int .i64 n2] h1 fun s3 h4 =>
 app s6_ s3 1 h4 fun s5 h6 =>
 X2 (impl_TorusTable_e2 p1_ s4_ i5_ s5 (w64 (i7_ + (1)))) h6
 else
 impl_TorusTable_C2 S K X0 p1_ s4_ i5_ s6_ h
theorem impl_TorusTable_link2 (S : SatT) (K : AVal → H → Prop) (X0 : Frame → H → Prop) (X2 : Frame → H → Prop) (p1_ : Pt) (s4_ : Sl) (i5_ : Int) (s6_ : Sl) (i7_ : Int) (h : H) : impl_TorusTable_w2 S K X0 X2 (impl_TorusTable_e2 p1_ s4_ i5_ s6_ i7_) h = impl_TorusTable_b2 S K X0 X2 p1_ s4_ i5_ s6_ i7_ h := by kernel_rfl
theorem impl_TorusTable_rule2 (S : SatT) (K : AVal → H → Prop) (X0 : Frame → H → Prop) (p1_ : Pt) (s4_ : Sl) (i5_ : Int) (I_ : Sl → Int → H → Prop) (m_ : Sl → Int → H → Nat)
    (hs : ∀ (X2 : Frame → H → Prop) (s6_ : Sl) (i7_ : Int) (h : H), I_ s6_ i7_ h → (∀ (s6_' : Sl) (i7_' : Int) (h' : H), I_ s6_' i7_' h' → m_ s6_' i7_' h' < m_ s6_ i7_ h → X2 (impl_TorusTable_e2 p1_ s4_ i5_ s6_' i7_') h') → impl_TorusTable_b2 S K X0 X2 p1_ s4_ i5_ s6_ i7_ h) (s6_ : Sl) (i7_ : Int) {h : H} (h0 : I_ s6_ i7_ h) : impl_TorusTable_L2 S K X0 p1_ s4_ i5_ s6_ i7_ h :=
  loop_rule (σ := (Sl) × (Int)) (fun s_ => impl_TorusTable_e2 p1_ s4_ i5_ (s_.1) (s_.2)) (fun s_ h => I_ (s_.1) (s_.2) h) (fun s_ h => m_ (s_.1) (s_.2) h)
    (fun X s_ h hi hx => (impl_TorusTable_link2 S K X0 X p1_ s4_ i5_ (s_.1) (s_.2) h).mpr (hs X (s_.1) (s_.2) h hi fun s6_' i7_' h' hi' hm' => hx (s6_', i7_') h' hi' hm')) (s6_, i7_) h0
theorem impl_TorusTable_unroll2 (S : SatT) (K : AVal → H → Prop) (X0 : Frame → H → Prop) (p1_ : Pt) (s4_ : Sl) (i5_ : Int) (s6_ : Sl) (i7_ : Int) (h : H) (hb : impl_TorusTable_b2 S K X0 (fun fr h => loopK (impl_TorusTable_w2 S K X0) fr h) p1_ s4_ i5_ s6_ i7_ h) : impl_TorusTable_L2 S K X0 p1_ s4_ i5_ s6_ i7_ h := loop_unroll ((impl_TorusTable_link2 S K X0 _ p1_ s4_ i5_ s6_ i7_ h).mpr hb)
def impl_TorusTable_C0 (S : SatT) (K : AVal → H → Prop) (s4_ : Sl) (h : H) : Prop :=
 K (.tuple [.sl s4_, .int .i64 (0)]) h
def impl_TorusTable_b0 (S : SatT) (K : AVal → H → Prop) (X0 : Frame → H → Prop) (p1_ : Pt) (s4_ : Sl) (i5_ : Int) (h : H) : Prop :=
 bif (decide (i5_ ≤ (3))) then
 newS 0 1 [] h fun s0 h1 =>
 impl_TorusTable_L2 S K X0 p1_ s4_ i5_ s0 (1) h1
 else
 impl_TorusTable_C0 S K s4_ h
theorem impl_TorusTable_link0 (S : SatT) (K : AVal → H → Prop) (X0 : Frame → H → Prop) (p1_ : Pt) (s4_ : Sl) (i5_ : Int) (h : H) : impl_TorusTable_w0 S K X0 (impl_TorusTable_e0 p1_ s4_ i5_) h = impl_TorusTable_b0 S K X0 p1_ s4_ i5_ h := by kernel_rfl
theorem impl_TorusTable_rule0 (S : SatT) (K : AVal → H → Prop) (p1_ : Pt) (I_ : Sl → Int → H → Prop) (m_ : Sl → Int → H → Nat)
    (hs : ∀ (X0 : Frame → H → Prop) (s4_ : Sl) (i5_ : Int) (h : H), I_ s4_ i5_ h → (∀ (s4_' : Sl) (i5_' : Int) (h' : H), I_ s4_' i5_' h' → m_ s4_' i5_' h' < m_ s4_ i5_ h → X0 (impl_TorusTable_e0 p1_ s4_' i5_') h') → impl_TorusTable_b0 S K X0 p1_ s4_ i5_ h) (s4_ : Sl) (i5_ : Int) {h : H} (h0 : I_ s4_ i5_ h) : impl_TorusTable_L0 S K p1_ s4_ i5_ h :=
  loop_rule (σ := (Sl) × (Int)) (fun s_ => impl_TorusTable_e0 p1_ (s_.1) (s_.2)) (fun s_ h => I_ (s_.1) (s_.2) h) (fun s_ h => m_ (s_.1) (s_.2) h)
    (fun X s_ h hi hx => (impl_TorusTable_link0 S K X p1_ (s_.1) (s_.2) h).mpr (hs X (s_.1) (s_.2) h hi fun s4_' i5_' h' hi' hm' => hx (s4_', i5_') h' hi' hm')) (s4_, i5_) h0
theorem impl_TorusTable_unroll0 (S : SatT) (K : AVal → H → Prop) (p1_ : Pt) (s4_ : Sl) (i5_ : Int) (h : H) (hb : impl_TorusTable_b0 S K (fun fr h => loopK (impl_TorusTable_w0 S K) fr h) p1_ s4_ i5_ h) : impl_TorusTable_L0 S K p1_ s4_ i5_ h := loop_unroll ((impl_TorusTable_link0 S K _ p1_ s4_ i5_ h).mpr hb)
def impl_TorusTable_main (S : SatT) (K : AVal → H → Prop) (x0 : List AVal) (h : H) : Prop :=
 newK 2 x0 h fun p0 h1 =>
 ldA p0 2 h1 fun cs2 =>
 callB S i_impl_IsSet [.agg cs2] h1 fun b4 h3 =>
 bif (!b4) then
 K (.tuple [.sl Sl.nil, .int .i64 (1)]) h3
 else
 newS 0 1 [] h3 fun s5 h6 =>
 impl_TorusTable_L0 S K p0 s5 (1) h6
theorem impl_TorusTable_main_link (S : SatT) (K : AVal → H → Prop) (x0 : List AVal) (h : H) : cwp S tab impl_TorusTable_M [] (bodyOf Try.f30) (kFun tab Try.f30.results.toList K) (fr0 Try.f30 [.agg x0]) h = impl_TorusTable_main S K x0 h := by kernel_rfl
theorem impl_TorusTable_call (x0 : List AVal) (h : H) (K : AVal → H → Prop) (hm : impl_TorusTable_main (Sat Try.prog) (fun v h' => K v h') x0 h) : callV (Sat Try.prog) i_impl_TorusTable [.agg x0] h K := by
  have := Sat.ex tok mixed impl_TorusTable_M Try.func30 (c := bodyOf Try.f30) (by kernel_rfl) (calls_of Try.func30 (c := bodyOf Try.f30) (by kernel_rfl) (by decide)) ((impl_TorusTable_main_link _ _ x0 h).mpr hm)
  exact this

/-! ### loop.example/g01354/spec.l05Least -/
def spec_l05Least_M : Nat → List Nat := fun i => bif i == 2 then [0, 3, 4, 5] else bif i == 0 then [0, 3, 4] else []
def spec_l05Least_ks2 (S : SatT) (K : AVal → H → Prop) : Kont := kSeq (cwp S tab spec_l05Least_M [] (sub [1, 1, 1] (bodyOf Try.f85)) (kFun tab (Try.f85).results.toList K)) (kFun tab (Try.f85).results.toList K)
def spec_l05Least_e0 (s0_ : Sl) (s3_ : Sl) (i4_ : Int) : Frame := [.sl s0_, U, U, .sl s3_, .int .i64 i4_, U, U, U, U, U, U, U, U, U, U, U, U, U, U, U, U, U, U, U, U, U, U, U, U, U, U, U]
def spec_l05Least_w0 (S : SatT) (K : AVal → H → Prop) : (Frame → H → Prop) → Frame → H → Prop := fun X fr h => cwp S tab spec_l05Least_M (spec_l05Least_M 0) (sub [1, 1, 0, 1, 0, 0] (bodyOf Try.f85)) (kSeq (fun fr h => X (mask (spec_l05Least_M 0) fr) h) (kBlk 0 (spec_l05Least_ks2 S K))) fr h
def spec_l05Least_L0 (S : SatT) (K : AVal → H → Prop) (s0_ : Sl) (s3_ : Sl) (i4_ : Int) (h : H) : Prop := loopK (spec_l05Least_w0 S K) (spec_l05Least_e0 s0_ s3_ i4_) h
def spec_l05Least_ks6 (S : SatT) (K : AVal → H → Prop) (X0 : Frame → H → Prop) : Kont := kSeq (cwp S tab spec_l05Least_M (spec_l05Least_M 0) (sub [1, 1, 0, 1, 0, 0, 1, 1] (bodyOf Try.f85)) (kSeq (fun fr h => X0 (mask (spec_l05Least_M 0) fr) h) (kBlk 0 (spec_l05Least_ks2 S K)))) (kSeq (fun fr h => X0 (mask (spec_l05Least_M 0) fr) h) (kBlk 0 (spec_l05Least_ks2 S K)))
def spec_l05Least_e2 (s0_ : Sl) (s3_ : Sl) (i4_ : Int) (i5_ : Int) : Frame := [.sl s0_, U, U, .sl s3_, .int .i64 i4_, .int .i64 i5_, U, U, U, U, U, U, U, U, U, U, U, U, U, U, U, U, U, U, U, U, U, U, U, U, U, U]
def spec_l05Least_w2 (S : SatT) (K : AVal → H → Prop) (X0 : Frame → H → Prop) : (Frame → H → Prop) → Frame → H → Prop := fun X fr h => cwp S tab spec_l05Least_M (spec_l05Least_M 2) (sub [1, 1, 0, 1, 0, 0, 1, 0, 0, 1, 0, 0] (bodyOf Try.f85)) (kSeq (fun fr h => X (mask (spec_l05Least_M 2) fr) h) (kBlk 2 (kBlk 1 (spec_l05Least_ks6 S K X0)))) fr h
def spec_l05Least_L2 (S : SatT) (K : AVal → H → Prop) (X0 : Frame → H → Prop) (s0_ : Sl) (s3_ : Sl) (i4_ : Int) (i5_ : Int) (h : H) : Prop := loopK (spec_l05Least_w2 S K X0) (spec_l05Least_e2 s0_ s3_ i4_ i5_) h
def spec_l05Least_C1 (S : SatT) (K : AVal → H → Prop) (X0 : Frame → H → Prop) (s0_ : Sl) (s3_ : Sl) (i4_ : Int) (h : H) : Prop :=
 X0 (spec_l05Least_e0 s0_ s3_ (w64 (i4_ + (1)))) h
def spec_l05Least_C2 (S : SatT) (K : AVal → H → Prop) (X0 : Frame → H → Prop) (s0_ : Sl) (s3_ : Sl) (i4_ : Int) (h : H) : Prop :=
 spec_l05Least_C1 S K X0 s0_ s3_ i4_ h
def spec_l05Least_b2 (S : SatT) (K : AVal → H → Prop) (X0 : Frame → H → Prop) (X2 : Frame → H → Prop) (s0_ : Sl) (s3_ : Sl) (i4_ : Int) (i5_ : Int) (h : H) : Prop :=
 ixS s0_ 1 (0) fun p0 =>
 ldS p0 h fun s1 =>
 bif (decide (i5_ < (s1.len : Int))) then
 callS S i_spec_l05Shift [.sl s0_, .int .i64 i4_, .int .i64 i5_] h fun s3 h2 =>
 callB S i_spec_l05Less [.sl s3, .sl s3_] h2 fun b5 h4 =>
 bif b5 then
 X2 (spec_l05Least_e2 s0_ s3 i4_ (w64 (i5_ + (1)))) h4
 else
 X2 (spec_l05Least_e2 s0_ s3_ i4_ (w64 (i5_ + (1)))) h4
 else
 spec_l05Least_C2 S K X0 s0_ s3_ i4_ h
theorem spec_l05Least_link2 (S : SatT) (K : AVal → H → Prop) (X0 : Frame → H → Prop) (X2 : Frame → H → Prop) (s0_ : Sl) (s3_ : Sl) (i4_ : Int) (i5_ : Int) (h : H) : spec_l05Least_w2 S K X0 X2 (spec_l05Least_e2 s0_ s3_ i4_ i5_) h = spec_l05Least_b2 S K X0 X2 s0_ s3_ i4_ i5_ h := by kernel_rfl
theorem spec_l05Least_rule2 (S : SatT) (K : AVal → H → Prop) (X0 : Frame → H → Prop) (s0_ : Sl) (i4_ : Int) (I_ : Sl → Int → H → Prop) (m_ : Sl → Int → H → Nat)
    (hs : ∀ (X2 : Frame → H → Prop) (s3_ : Sl) (i5_ : Int) (h : H), I_ s3_ i5_ h → (∀ (s3_' : Sl) (i5_' : Int) (h' : H), I_ s3_' i5_' h' → m_ s3_' i5_' h' < m_ s3_ i5_ h → X2 (spec_l05Least_e2 s0_ s3_' i4_ i5_') h') → spec_l05Least_b2 S K X0 X2 s0_ s3_ i4_ i5_ h) (s3_ : Sl) (i5_ : Int) {h : H} (h0 : I_ s3_ i5_ h) : spec_l05Least_L2 S K X0 s0_ s3_ i4_ i5_ h :=
  loop_rule (σ := (Sl) × (Int)) (fun s_ => spec_l05Least_e2 s0_ (s_.1) i4_ (s_.2)) (fun s_ h => I_ (s_.1) (s_.2) h) (fun s_ h => m_ (s_.1) (s_.2) h)
    (fun X s_ h hi hx => (spec_l05Least_link2 S K X0 X s0_ (s_.1) i4_ (s_.2) h).mpr (hs X (s_.1) (s_.2) h hi fun s3_' i5_' h' hi' hm' => hx (s3_', i5_') h' hi' hm')) (s3_, i5_) h0
theorem spec_l05Least_unroll2 (S : SatT) (K : AVal → H → Prop) (X0 : Frame → H → Prop) (s0_ : Sl) (s3_ : Sl) (i4_ : Int) (i5_ : Int) (h : H) (hb : spec_l05Least_b2 S K X0 (fun fr h => loopK (spec_l05Least_w2 S K X0) fr h) s0_ s3_ i4_ i5_ h) : spec_l05Least_L2 S K X0 s0_ s3_ i4_ i5_ h := loop_unroll ((spec_l05Least_link2 S K X0 _ s0_ s3_ i4_ i5_ h).mpr hb)
def spec_l05Least_C0 (S : SatT) (K : AVal → H → Prop) (s3_ : Sl) (h : H) : Prop :=
 K (.sl s3_) h
def spec_l05Least_b0 (S : SatT) (K : AVal → H → Prop) (X0 : Frame → H → Prop) (s0_ : Sl) (s3_ : Sl) (i4_ : Int) (h : H) : Prop :=
 bif (decide (i4_ < (s0_.len : Int))) then
 spec_l05Least_L2 S K X0 s0_ s3_ i4_ (0) h
 else
 spec_l05Least_C0 S K s3_ h
theorem spec_l05Least_link0 (S : SatT) (K : AVal → H → Prop) (X0 : Frame → H → Prop) (s0_ : Sl) (s3_ : Sl) (i4_ : Int) (h : H) : spec_l05Least_w0 S K X0 (spec_l05Least_e0 s0_ s3_ i4_) h = spec_l05Least_b0 S K X0 s0_ s3_ i4_ h := by kernel_rfl
theorem spec_l05Least_rule0 (S : SatT) (K : AVal → H → Prop) (s0_ : Sl) (I_ : Sl → Int → H → Prop) (m_ : Sl → Int → H → Nat)
    (hs : ∀ (X0 : Frame → H → Prop) (s3_ : Sl) (i4_ : Int) (h : H), I_ s3_ i4_ h → (∀ (s3_' : Sl) (i4_' : Int) (h' : H), I_ s3_' i4_' h' → m_ s3_' i4_' h' < m_ s3_ i4_ h → X0 (spec_l05Least_e0 s0_ s3_' i4_') h') → spec_l05Least_b0 S K X0 s0_ s3_ i4_ h) (s3_ : Sl) (i4_ : Int) {h : H} (h0 : I_ s3_ i4_ h) : spec_l05Least_L0 S K s0_ s3_ i4_ h :=
  loop_rule (σ := (Sl) × (Int)) (fun s_ => spec_l05Least_e0 s0_ (s_.1) (s_.2)) (fun s_ h => I_ (s_.1) (s_.2) h) (fun s_ h => m_ (s_.1) (s_.2) h)
    (fun X s_ h hi hx => (spec_l05Least_link0 S K X s0_ (s_.1) (s_.2) h).mpr (hs X (s_.1) (s_.2) h hi fun s3_' i4_' h' hi' hm' => hx (s3_', i4_') h' hi' hm')) (s3_, i4_) h0
theorem spec_l05Least_unroll0 (S : SatT) (K : AVal → H → Prop) (s0_ : Sl) (s3_ : Sl) (i4_ : Int) (h : H) (hb : spec_l05Least_b0 S K (fun fr h => loopK (spec_l05Least_w0 S K) fr h) s0_ s3_ i4_ h) : spec_l05Least_L0 S K s0_ s3_ i4_ h := loop_unroll ((spec_l05Least_link0 S K _ s0_ s3_ i4_ h).mpr hb)
def spec_l05Least_main (S : SatT) (K : AVal → H → Prop) (x0 : Sl) (h : H) : Prop :=
 callS S i_spec_l05Shift [.sl x0, .int .i64 (0), .int .i64 (0)] h fun s1 h0 =>
 spec_l05Least_L0 S K x0 s1 (0) h0
theorem spec_l05Least_main_link (S : SatT) (K : AVal → H → Prop) (x0 : Sl) (h : H) : cwp S tab spec_l05Least_M [] (bodyOf Try.f85) (kFun tab Try.f85.results.toList K) (fr0 Try.f85 [.sl x0]) h = spec_l05Least_main S K x0 h := by kernel_rfl
theorem spec_l05Least_call (x0 : Sl) (h : H) (K : Sl → H → Prop) (hm : spec_l05Least_main (Sat Try.prog) (fun v h' => ∃ r, v = .sl r ∧ K r h') x0 h) : callS (Sat Try.prog) i_spec_l05Least [.sl x0] h K := by
  have := Sat.ex tok mixed spec_l05Least_M Try.func85 (c := bodyOf Try.f85) (by kernel_rfl) (calls_of Try.func85 (c := bodyOf Try.f85) (by kernel_rfl) (by decide)) ((spec_l05Least_main_link _ _ x0 h).mpr hm)
  obtain ⟨v, h2, h3, r, rfl, h4⟩ := this; exact ⟨r, h2, h3, h4⟩

/-! ### loop.example/g01354/impl.LeastTorus -/
def impl_LeastTorus_M : Nat → List Nat := fun i => bif i == 2 then [1, 4, 5] else bif i == 0 then [1, 4] else []
def impl_LeastTorus_ks4 (S : SatT) (K : AVal → H → Prop) : Kont := kSeq (cwp S tab impl_LeastTorus_M [] (sub [1, 1, 1] (bodyOf Try.f35)) (kFun tab (Try.f35).results.toList K)) (kFun tab (Try.f35).results.toList K)
def impl_LeastTorus_e0 (p1_ : Pt) (i4_ : Int) : Frame := [U, .ptr p1_, U, U, .int .i64 i4_, U, U, U, U, U, U, U, U, U, U, U, U, U, U, U, U, U, U, U, U, U, U, U, U, U, U, U, U, U, U, U, U]
def impl_LeastTorus_w0 (S : SatT) (K : AVal → H → Prop) : (Frame → H → Prop) → Frame → H → Prop := fun X fr h => cwp S tab impl_LeastTorus_M (impl_LeastTorus_M 0) (sub [1, 1, 0, 1, 0, 0] (bodyOf Try.f35)) (kSeq (fun fr h => X (mask (impl_LeastTorus_M 0) fr) h) (kBlk 0 (impl_LeastTorus_ks4 S K))) fr h
def impl_LeastTorus_L0 (S : SatT) (K : AVal → H → Prop) (p1_ : Pt) (i4_ : Int) (h : H) : Prop := loopK (impl_LeastTorus_w0 S K) (impl_LeastTorus_e0 p1_ i4_) h
def impl_LeastTorus_ks8 (S : SatT) (K : AVal → H → Prop) (X0 : Frame → H → Prop) : Kont := kSeq (cwp S tab impl_LeastTorus_M (impl_LeastTorus_M 0) (sub [1, 1, 0, 1, 0, 0, 1, 1] (bodyOf Try.f35)) (kSeq (fun fr h => X0 (mask (impl_LeastTorus_M 0) fr) h) (kBlk 0 (impl_LeastTorus_ks4 S K)))) (kSeq (fun fr h => X0 (mask (impl_LeastTorus_M 0) fr) h) (kBlk 0 (impl_LeastTorus_ks4 S K)))
def impl_LeastTorus_e2 (p1_ : Pt) (i4_ : Int) (i5_ : Int) : Frame := [U, .ptr p1_, U, U, .int .i64 i4_, .int .i64 i5_, U, U, U, U, U, U, U, U, U, U, U, U, U, U, U, U, U, U, U, U, U, U, U, U, U, U, U, U, U, U, U]
def impl_LeastTorus_w2 (S : SatT) (K : AVal → H → Prop) (X0 : Frame → H → Prop) : (Frame → H → Prop) → Frame → H → Prop := fun X fr h => cwp S tab impl_LeastTorus_M (impl_LeastTorus_M 2) (sub [1, 1, 0, 1, 0, 0, 1, 0, 0, 1, 0, 0] (bodyOf Try.f35)) (kSeq (fun fr h => X (mask (impl_LeastTorus_M 2) fr) h) (kBlk 2 (kBlk 1 (impl_LeastTorus_ks8 S K X0)))) fr h
def impl_LeastTorus_L2 (S : SatT) (K : AVal → H → Prop) (X0 : Frame → H → Prop) (p1_ : Pt) (i4_ : Int) (i5_ : Int) (h : H) : Prop := loopK (impl_LeastTorus_w2 S K X0) (impl_LeastTorus_e2 p1_ i4_ i5_) h
def impl_LeastTorus_C1 (S : SatT) (K : AVal → H → Prop) (X0 : Frame → H → Prop) (p1_ : Pt) (i4_ : Int) (h : H) : Prop :=
 X0 (impl_LeastTorus_e0 p1_ (w64 (i4_ + (1)))) h
def impl_LeastTorus_C2 (S : SatT) (K : AVal → H → Prop) (X0 : Frame → H → Prop) (p1_ : Pt) (i4_ : Int) (h : H) : Prop :=
 impl_LeastTorus_C1 S K X0 p1_ i4_ h
def impl_LeastTorus_b2 (S : SatT) (K : AVal → H → Prop) (X0 : Frame → H → Prop) (X2 : Frame → H → Prop) (p1_ : Pt) (i4_ : Int) (i5_ : Int) (h : H) : Prop :=
 bif (decide (i5_ ≤ (3))) then
 nz i5_ (
 bif ((Int.tmod i4_ i5_) != (0)) then
 X2 (impl_LeastTorus_e2 p1_ i4_ (w64 (i5_ + (1)))) h
 else
 nz i5_ (
 bif (decide ((w64 (Int.tdiv i4_ i5_)) > (3))) then
 X2 (impl_LeastTorus_e2 p1_ i4_ (w64 (i5_ + (1)))) h
 else
 ldA p1_ 2 h fun cs0 =>
 nz i5_ (
 callS S i_impl_Set_firstTorus [.agg cs0, .int .i64 i5_, .int .i64 (w64 (Int.tdiv i4_ i5_))] h fun s2 h1 =>
 bif (!isNilS s2) then
 K (.tuple [.sl s2, .int .i64 (0)]) h1
 else
 X2 (impl_LeastTorus_e2 p1_ i4_ (w64 (i5_ + (1)))) h1)))
 else
 impl_LeastTorus_C2 S K X0 p1_ i4_ h
theorem impl_LeastTorus_link2 (S : SatT) (K : AVal → H → Prop) (X0 : Frame → H → Prop) (X2 : Frame → H → Prop) (p1_ : Pt) (i4_ : Int) (i5_ : Int) (h : H) : impl_LeastTorus_w2 S K X0 X2 (impl_LeastTorus_e2 p1_ i4_ i5_) h = impl_LeastTorus_b2 S K X0 X2 p1_ i4_ i5_ h := by kernel_rfl
theorem impl_LeastTorus_rule2 (S : SatT) (K : AVal → H → Prop) (X0 : Frame → H → Prop) (p1_ : Pt) (i4_ : Int) (I_ : Int → H → Prop) (m_ : Int → H → Nat)
    (hs : ∀ (X2 : Frame → H → Prop) (i5_ : Int) (h : H), I_ i5_ h → (∀ (i5_' : Int) (h' : H), I_ i5_' h' → m_ i5_' h' < m_ i5_ h → X2 (impl_LeastTorus_e2 p1_ i4_ i5_') h') → impl_LeastTorus_b2 S K X0 X2 p1_ i4_ i5_ h) (i5_ : Int) {h : H} (h0 : I_ i5_ h) : impl_LeastTorus_L2 S K X0 p1_ i4_ i5_ h :=
  loop_rule (σ := (Int)) (fun s_ => impl_LeastTorus_e2 p1_ i4_ (s_)) (fun s_ h => I_ (s_) h) (fun s_ h => m_ (s_) h)
    (fun X s_ h hi hx => (impl_LeastTorus_link2 S K X0 X p1_ i4_ (s_) h).mpr (hs X (s_) h hi fun i5_' h' hi' hm' => hx (i5_') h' hi' hm')) (i5_) h0
theorem impl_LeastTorus_unroll2 (S : SatT) (K : AVal → H → Prop) (X0 : Frame → H → Prop) (p1_ : Pt) (i4_ : Int) (i5_ : Int) (h : H) (hb : impl_LeastTorus_b2 S K X0 (fun fr h => loopK (impl_LeastTorus_w2 S K X0) fr h) p1_ i4_ i5_ h) : impl_LeastTorus_L2 S K X0 p1_ i4_ i5_ h := loop_unroll ((impl_LeastTorus_link2 S K X0 _ p1_ i4_ i5_ h).mpr hb)
def impl_LeastTorus_C0 (S : SatT) (K : AVal → H → Prop) (h : H) : Prop :=
 K (.tuple [.sl Sl.nil, .int .i64 (4)]) h
def impl_LeastTorus_b0 (S : SatT) (K : AVal → H → Prop) (X0 : Frame → H → Prop) (p1_ : Pt) (i4_ : Int) (h : H) : Prop :=
 bif (decide (i4_ ≤ (9))) then
 impl_LeastTorus_L2 S K X0 p1_ i4_ (1) h
 else
 impl_LeastTorus_C0 S K h
theorem impl_LeastTorus_link0 (S : SatT) (K : AVal → H → Prop) (X0 : Frame → H → Prop) (p1_ : Pt) (i4_ : Int) (h : H) : impl_LeastTorus_w0 S K X0 (impl_LeastTorus_e0 p1_ i4_) h = impl_LeastTorus_b0 S K X0 p1_ i4_ h := by kernel_rfl
theorem impl_LeastTorus_rule0 (S : SatT) (K : AVal → H → Prop) (p1_ : Pt) (I_ : Int → H → Prop) (m_ : Int → H → Nat)
    (hs : ∀ (X0 : Frame → H → Prop) (i4_ : Int) (h : H), I_ i4_ h → (∀ (i4_' : Int) (h' : H), I_ i4_' h' → m_ i4_' h' < m_ i4_ h → X0 (impl_LeastTorus_e0 p1_ i4_') h') → impl_LeastTorus_b0 S K X0 p1_ i4_ h) (i4_ : Int) {h : H} (h0 : I_ i4_ h) : impl_LeastTorus_L0 S K p1_ i4_ h :=
  loop_rule (σ := (Int)) (fun s_ => impl_LeastTorus_e0 p1_ (s_)) (fun s_ h => I_ (s_) h) (fun s_ h => m_ (s_) h)
    (fun X s_ h hi hx => (impl_LeastTorus_link0 S K X p1_ (s_) h).mpr (hs X (s_) h hi fun i4_' h' hi' hm' => hx (i4_') h' hi' hm')) (i4_) h0
theorem impl_LeastTorus_unroll0 (S : SatT) (K : AVal → H → Prop) (p1_ : Pt) (i4_ : Int) (h : H) (hb : impl_LeastTorus_b0 S K (fun fr h => loopK (impl_LeastTorus_w0 S K) fr h) p1_ i4_ h) : impl_LeastTorus_L0 S K p1_ i4_ h := loop_unroll ((impl_LeastTorus_link0 S K _ p1_ i4_ h).mpr hb)
def impl_LeastTorus_main (S : SatT) (K : AVal → H → Prop) (x0 : List AVal) (h : H) : Prop :=
 newK 2 x0 h fun p0 h1 =>
 ldA p0 2 h1 fun cs2 =>
 callB S i_impl_IsSet [.agg cs2] h1 fun b4 h3 =>
 bif (!b4) then
 K (.tuple [.sl Sl.nil, .int .i64 (1)]) h3
 else
 impl_LeastTorus_L0 S K p0 (1) h3
theorem impl_LeastTorus_main_link (S : SatT) (K : AVal → H → Prop) (x0 : List AVal) (h : H) : cwp S tab impl_LeastTorus_M [] (bodyOf Try.f35) (kFun tab Try.f35.results.toList K) (fr0 Try.f35 [.agg x0]) h = impl_LeastTorus_main S K x0 h := by kernel_rfl
theorem impl_LeastTorus_call (x0 : List AVal) (h : H) (K : AVal → H → Prop) (hm : impl_LeastTorus_main (Sat Try.prog) (fun v h' => K v h') x0 h) : callV (Sat Try.prog) i_impl_LeastTorus [.agg x0] h K := by
  have := Sat.ex tok mixed impl_LeastTorus_M Try.func35 (c := bodyOf Try.f35) (by kernel_rfl) (calls_of Try.func35 (c := bodyOf Try.f35) (by kernel_rfl) (by decide)) ((impl_LeastTorus_main_link _ _ x0 h).mpr hm)
  exact this

/-! ### slices.CompareFunc[[][]int64,[][]int64,[]int64,[]int64] -/
def slices_CompareFunc_ss_int64_s_s_int64_s_int64_s_int64__M : Nat → List Nat := fun i => bif i == 0 then [0, 1, 2, 11, 12, 13] else []
def slices_CompareFunc_ss_int64_s_s_int64_s_int64_s_int64__ks1 (S : SatT) (K : AVal → H → Prop) : Kont := kSeq (cwp S tab slices_CompareFunc_ss_int64_s_s_int64_s_int64_s_int64__M [] (sub [1, 1] (bodyOf Try.f117)) (kFun tab (Try.f117).results.toList K)) (kFun tab (Try.f117).results.toList K)
def slices_CompareFunc_ss_int64_s_s_int64_s_int64_s_int64__e0 (s0_ : Sl) (s1_ : Sl) (f2_ : AVal) (s11_ : Sl) (i12_ : Int) (i13_ : Int) : Frame := [.sl s0_, .sl s1_, f2_, U, U, U, U, U, U, U, U, .sl s11_, .int .i64 i12_, .int .i64 i13_, U, U, U, U, U, U, U, U, U, U, U, U, U, U, U, U, U, U, U, U, U, U, U, U, U]
def slices_CompareFunc_ss_int64_s_s_int64_s_int64_s_int64__w0 (S : SatT) (K : AVal → H → Prop) : (Frame → H → Prop) → Frame → H → Prop := fun X fr h => cwp S tab slices_CompareFunc_ss_int64_s_s_int64_s_int64_s_int64__M (slices_CompareFunc_ss_int64_s_s_int64_s_int64_s_int64__M 0) (sub [1, 0, 1, 0, 0] (bodyOf Try.f117)) (kSeq (fun fr h => X (mask (slices_CompareFunc_ss_int64_s_s_int64_s_int64_s_int64__M 0) fr) h) (kBlk 0 (slices_CompareFunc_ss_int64_s_s_int64_s_int64_s_int64__ks1 S K))) fr h
def slices_CompareFunc_ss_int64_s_s_int64_s_int64_s_int64__L0 (S : SatT) (K : AVal → H → Prop) (s0_ : Sl) (s1_ : Sl) (f2_ : AVal) (s11_ : Sl) (i12_ : Int) (i13_ : Int) (h : H) : Prop := loopK (slices_CompareFunc_ss_int64_s_s_int64_s_int64_s_int64__w0 S K) (slices_CompareFunc_ss_int64_s_s_int64_s_int64_s_int64__e0 s0_ s1_ f2_ s11_ i12_ i13_) h
def slices_CompareFunc_ss_int64_s_s_int64_s_int64_s_int64__C0 (S : SatT) (K : AVal → H → Prop) (s0_ : Sl) (s1_ : Sl) (h : H) : Prop :=
 bif (decide ((s0_.len : Int) < (s1_.len : Int))) then
 K (.int .i64 (-1)) h
 else
 K (.int .i64 (0)) h
def slices_CompareFunc_ss_int64_s_s_int64_s_int64_s_int64__b0 (S : SatT) (K : AVal → H → Prop) (X0 : Frame → H → Prop) (s0_ : Sl) (s1_ : Sl) (f2_ : AVal) (s11_ : Sl) (i12_ : Int) (i13_ : Int) (h : H) : Prop :=
 bif (decide (i13_ < i12_)) then
 ixS s11_ 1 i13_ fun p0 =>
 ldS p0 h fun s1 =>
 bif (decide (i13_ ≥ (s1_.len : Int))) then
 K (.int .i64 (1)) h
 else
 ixS s1_ 1 i13_ fun p2 =>
 ldS p2 h fun s3 =>
 viaF f2_ [.sl s1, .sl s3] fun g4 ys5 =>
 callI S .i64 g4 ys5 h fun n7 h6 =>
 bif (n7 != (0)) then
 K (.int .i64 n7) h6
 else
 X0 (slices_CompareFunc_ss_int64_s_s_int64_s_int64_s_int64__e0 s0_ s1_ f2_ s11_ i12_ (w64 (i13_ + (1)))) h6
 else
 slices_CompareFunc_ss_int64_s_s_int64_s_int64_s_int64__C0 S K s0_ s1_ h
theorem slices_CompareFunc_ss_int64_s_s_int64_s_int64_s_int64__link0 (S : SatT) (K : AVal → H → Prop) (X0 : Frame → H → Prop) (s0_ : Sl) (s1_ : Sl) (f2_ : AVal) (s11_ : Sl) (i12_ : Int) (i13_ : Int) (h : H) : slices_CompareFunc_ss_int64_s_s_int64_s_int64_s_int64__w0 S K X0 (slices_CompareFunc_ss_int64_s_s_int64_s_int64_s_int64__e0 s0_ s1_ f2_ s11_ i12_ i13_) h = slices_CompareFunc_ss_int64_s_s_int64_s_int64_s_int64__b0 S K X0 s0_ s1_ f2_ s11_ i12_ i13_ h := by kernel_rfl
theorem slices_CompareFunc_ss_int64_s_s_int64_s_int64_s_int64__rule0 (S : SatT) (K : AVal → H → Prop) (s0_ : Sl) (s1_ : Sl) (f2_ : AVal) (s11_ : Sl) (i12_ : Int) (I_ : Int → H → Prop) (m_ : Int → H → Nat)
    (hs : ∀ (X0 : Frame → H → Prop) (i13_ : Int) (h : H), I_ i13_ h → (∀ (i13_' : Int) (h' : H), I_ i13_' h' → m_ i13_' h' < m_ i13_ h → X0 (slices_CompareFunc_ss_int64_s_s_int64_s_int64_s_int64__e0 s0_ s1_ f2_ s11_ i12_ i13_') h') → slices_CompareFunc_ss_int64_s_s_int64_s_int64_s_int64__b0 S K X0 s0_ s1_ f2_ s11_ i12_ i13_ h) (i13_ : Int) {h : H} (h0 : I_ i13_ h) : slices_CompareFunc_ss_int64_s_s_int64_s_int64_s_int64__L0 S K s0_ s1_ f2_ s11_ i12_ i13_ h :=
  loop_rule (σ := (Int)) (fun s_ => slices_CompareFunc_ss_int64_s_s_int64_s_int64_s_int64__e0 s0_ s1_ f2_ s11_ i12_ (s_)) (fun s_ h => I_ (s_) h) (fun s_ h => m_ (s_) h)
    (fun X s_ h hi hx => (slices_CompareFunc_ss_int64_s_s_int64_s_int64_s_int64__link0 S K X s0_ s1_ f2_ s11_ i12_ (s_) h).mpr (hs X (s_) h hi fun i13_' h' hi' hm' => hx (i13_') h' hi' hm')) (i13_) h0
theorem slices_CompareFunc_ss_int64_s_s_int64_s_int64_s_int64__unroll0 (S : SatT) (K : AVal → H → Prop) (s0_ : Sl) (s1_ : Sl) (f2_ : AVal) (s11_ : Sl) (i12_ : Int) (i13_ : Int) (h : H) (hb : slices_CompareFunc_ss_int64_s_s_int64_s_int64_s_int64__b0 S K (fun fr h => loopK (slices_CompareFunc_ss_int64_s_s_int64_s_int64_s_int64__w0 S K) fr h) s0_ s1_ f2_ s11_ i12_ i13_ h) : slices_CompareFunc_ss_int64_s_s_int64_s_int64_s_int64__L0 S K s0_ s1_ f2_ s11_ i12_ i13_ h := loop_unroll ((slices_CompareFunc_ss_int64_s_s_int64_s_int64_s_int64__link0 S K _ s0_ s1_ f2_ s11_ i12_ i13_ h).mpr hb)
def slices_CompareFunc_ss_int64_s_s_int64_s_int64_s_int64__main (S : SatT) (K : AVal → H → Prop) (x0 : Sl) (x1 : Sl) (x2 : AVal) (h : H) : Prop :=
 slices_CompareFunc_ss_int64_s_s_int64_s_int64_s_int64__L0 S K x0 x1 x2 x0 (x0.len : Int) (0) h
theorem slices_CompareFunc_ss_int64_s_s_int64_s_int64_s_int64__main_link (S : SatT) (K : AVal → H → Prop) (x0 : Sl) (x1 : Sl) (x2 : AVal) (h : H) : cwp S tab slices_CompareFunc_ss_int64_s_s_int64_s_int64_s_int64__M [] (bodyOf Try.f117) (kFun tab Try.f117.results.toList K) (fr0 Try.f117 [.sl x0, .sl x1, x2]) h = slices_CompareFunc_ss_int64_s_s_int64_s_int64_s_int64__main S K x0 x1 x2 h := by kernel_rfl
theorem slices_CompareFunc_ss_int64_s_s_int64_s_int64_s_int64__call (x0 : Sl) (x1 : Sl) (x2 : AVal) (h : H) (K : Int → H → Prop) (hm : slices_CompareFunc_ss_int64_s_s_int64_s_int64_s_int64__main (Sat Try.prog) (fun v h' => ∃ r, v = .int .i64 r ∧ K r h') x0 x1 x2 h) : callI (Sat Try.prog) .i64 i_slices_CompareFunc_ss_int64_s_s_int64_s_int64_s_int64_ [.sl x0, .sl x1, x2] h K := by
  have := Sat.ex tok mixed slices_CompareFunc_ss_int64_s_s_int64_s_int64_s_int64__M Try.func117 (c := bodyOf Try.f117) (by kernel_rfl) (calls_of Try.func117 (c := bodyOf Try.f117) (by kernel_rfl) (by decide)) ((slices_CompareFunc_ss_int64_s_s_int64_s_int64_s_int64__main_link _ _ x0 x1 x2 h).mpr hm)
  obtain ⟨v, h2, h3, r, rfl, h4⟩ := this; exact ⟨r, h2, h3, h4⟩

/-! ### slices.Compare[[]int64,int64] -/
def slices_Compare_s_int64_int64__M : Nat → List Nat := fun i => bif i == 0 then [0, 1, 9, 10, 11] else []
def slices_Compare_s_int64_int64__ks1 (S : SatT) (K : AVal → H → Prop) : Kont := kSeq (cwp S tab slices_Compare_s_int64_int64__M [] (sub [1, 1] (bodyOf Try.f119)) (kFun tab (Try.f119).results.toList K)) (kFun tab (Try.f119).results.toList K)
def slices_Compare_s_int64_int64__e0 (s0_ : Sl) (s1_ : Sl) (s9_ : Sl) (i10_ : Int) (i11_ : Int) : Frame := [.sl s0_, .sl s1_, U, U, U, U, U, U, U, .sl s9_, .int .i64 i10_, .int .i64 i11_, U, U, U, U, U, U, U, U, U, U, U, U, U, U, U, U, U, U, U, U, U, U, U, U]
def slices_Compare_s_int64_int64__w0 (S : SatT) (K : AVal → H → Prop) : (Frame → H → Prop) → Frame → H → Prop := fun X fr h => cwp S tab slices_Compare_s_int64_int64__M (slices_Compare_s_int64_int64__M 0) (sub [1, 0, 1, 0, 0] (bodyOf Try.f119)) (kSeq (fun fr h => X (mask (slices_Compare_s_int64_int64__M 0) fr) h) (kBlk 0 (slices_Compare_s_int64_int64__ks1 S K))) fr h
def slices_Compare_s_int64_int64__L0 (S : SatT) (K : AVal → H → Prop) (s0_ : Sl) (s1_ : Sl) (s9_ : Sl) (i10_ : Int) (i11_ : Int) (h : H) : Prop := loopK (slices_Compare_s_int64_int64__w0 S K) (slices_Compare_s_int64_int64__e0 s0_ s1_ s9_ i10_ i11_) h
def slices_Compare_s_int64_int64__C0 (S : SatT) (K : AVal → H → Prop) (s0_ : Sl) (s1_ : Sl) (h : H) : Prop :=
 bif (decide ((s0_.len : Int) < (s1_.len : Int))) then
 K (.int .i64 (-1)) h
 else
 K (.int .i64 (0)) h
def slices_Compare_s_int64_int64__b0 (S : SatT) (K : AVal → H → Prop) (X0 : Frame → H → Prop) (s0_ : Sl) (s1_ : Sl) (s9_ : Sl) (i10_ : Int) (i11_ : Int) (h : H) : Prop :=
 bif (decide (i11_ < i10_)) then
 ixS s9_ 1 i11_ fun p0 =>
 ldI .i64 p0 h fun n1 =>
 bif (decide (i11_ ≥ (s1_.len : Int))) then
 K (.int .i64 (1)) h
 else
 ixS s1_ 1 i11_ fun p2 =>
 ldI .i64 p2 h fun n3 =>
 callI S .i64 i_cmp_Compare_int64_ [.int .i64 n1, .int .i64 n3] h fun n5 h4 =>
 bif (n5 != (0)) then
 K (.int .i64 n5) h4
 else
 X0 (slices_Compare_s_int64_int64__e0 s0_ s1_ s9_ i10_ (w64 (i11_ + (1)))) h4
 else
 slices_Compare_s_int64_int64__C0 S K s0_ s1_ h
theorem slices_Compare_s_int64_int64__link0 (S : SatT) (K : AVal → H → Prop) (X0 : Frame → H → Prop) (s0_ : Sl) (s1_ : Sl) (s9_ : Sl) (i10_ : Int) (i11_ : Int) (h : H) : slices_Compare_s_int64_int64__w0 S K X0 (slices_Compare_s_int64_int64__e0 s0_ s1_ s9_ i10_ i11_) h = slices_Compare_s_int64_int64__b0 S K X0 s0_ s1_ s9_ i10_ i11_ h := by kernel_rfl
theorem slices_Compare_s_int64_int64__rule0 (S : SatT) (K : AVal → H → Prop) (s0_ : Sl) (s1_ : Sl) (s9_ : Sl) (i10_ : Int) (I_ : Int → H → Prop) (m_ : Int → H → Nat)
    (hs : ∀ (X0 : Frame → H → Prop) (i11_ : Int) (h : H), I_ i11_ h → (∀ (i11_' : Int) (h' : H), I_ i11_' h' → m_ i11_' h' < m_ i11_ h → X0 (slices_Compare_s_int64_int64__e0 s0_ s1_ s9_ i10_ i11_') h') → slices_Compare_s_int64_int64__b0 S K X0 s0_ s1_ s9_ i10_ i11_ h) (i11_ : Int) {h : H} (h0 : I_ i11_ h) : slices_Compare_s_int64_int64__L0 S K s0_ s1_ s9_ i10_ i11_ h :=
  loop_rule (σ := (Int)) (fun s_ => slices_Compare_s_int64_int64__e0 s0_ s1_ s9_ i10_ (s_)) (fun s_ h => I_ (s_) h) (fun s_ h => m_ (s_) h)
    (fun X s_ h hi hx => (slices_Compare_s_int64_int64__link0 S K X s0_ s1_ s9_ i10_ (s_) h).mpr (hs X (s_) h hi fun i11_' h' hi' hm' => hx (i11_') h' hi' hm')) (i11_) h0
theorem slices_Compare_s_int64_int64__unroll0 (S : SatT) (K : AVal → H → Prop) (s0_ : Sl) (s1_ : Sl) (s9_ : Sl) (i10_ : Int) (i11_ : Int) (h : H) (hb : slices_Compare_s_int64_int64__b0 S K (fun fr h => loopK (slices_Compare_s_int64_int64__w0 S K) fr h) s0_ s1_ s9_ i10_ i11_ h) : slices_Compare_s_int64_int64__L0 S K s0_ s1_ s9_ i10_ i11_ h := loop_unroll ((slices_Compare_s_int64_int64__link0 S K _ s0_ s1_ s9_ i10_ i11_ h).mpr hb)
def slices_Compare_s_int64_int64__main (S : SatT) (K : AVal → H → Prop) (x0 : Sl) (x1 : Sl) (h : H) : Prop :=
 slices_Compare_s_int64_int64__L0 S K x0 x1 x0 (x0.len : Int) (0) h
theorem slices_Compare_s_int64_int64__main_link (S : SatT) (K : AVal → H → Prop) (x0 : Sl) (x1 : Sl) (h : H) : cwp S tab slices_Compare_s_int64_int64__M [] (bodyOf Try.f119) (kFun tab Try.f119.results.toList K) (fr0 Try.f119 [.sl x0, .sl x1]) h = slices_Compare_s_int64_int64__main S K x0 x1 h := by kernel_rfl
theorem slices_Compare_s_int64_int64__call (x0 : Sl) (x1 : Sl) (h : H) (K : Int → H → Prop) (hm : slices_Compare_s_int64_int64__main (Sat Try.prog) (fun v h' => ∃ r, v = .int .i64 r ∧ K r h') x0 x1 h) : callI (Sat Try.prog) .i64 i_slices_Compare_s_int64_int64_ [.sl x0, .sl x1] h K := by
  have := Sat.ex tok mixed slices_Compare_s_int64_int64__M Try.func119 (c := bodyOf Try.f119) (by kernel_rfl) (calls_of Try.func119 (c := bodyOf Try.f119) (by kernel_rfl) (by decide)) ((slices_Compare_s_int64_int64__main_link _ _ x0 x1 h).mpr hm)
  obtain ⟨v, h2, h3, r, rfl, h4⟩ := this; exact ⟨r, h2, h3, h4⟩

/-! ### slices.IndexFunc[[]int64,int64] -/
def slices_IndexFunc_s_int64_int64__M : Nat → List Nat := fun i => bif i == 0 then [0, 1, 7, 8] else []
def slices_IndexFunc_s_int64_int64__ks1 (S : SatT) (K : AVal → H → Prop) : Kont := kSeq (cwp S tab slices_IndexFunc_s_int64_int64__M [] (sub [1, 1] (bodyOf Try.f127)) (kFun tab (Try.f127).results.toList K)) (kFun tab (Try.f127).results.toList K)
def slices_IndexFunc_s_int64_int64__e0 (s0_ : Sl) (f1_ : AVal) (i7_ : Int) (i8_ : Int) : Frame := [.sl s0_, f1_, U, U, U, U, U, .int .i64 i7_, .int .i64 i8_, U, U, U, U, U, U, U, U, U, U]
def slices_IndexFunc_s_int64_int64__w0 (S : SatT) (K : AVal → H → Prop) : (Frame → H → Prop) → Frame → H → Prop := fun X fr h => cwp S tab slices_IndexFunc_s_int64_int64__M (slices_IndexFunc_s_int64_int64__M 0) (sub [1, 0, 1, 0, 0] (bodyOf Try.f127)) (kSeq (fun fr h => X (mask (slices_IndexFunc_s_int64_int64__M 0) fr) h) (kBlk 0 (slices_IndexFunc_s_int64_int64__ks1 S K))) fr h
def slices_IndexFunc_s_int64_int64__L0 (S : SatT) (K : AVal → H → Prop) (s0_ : Sl) (f1_ : AVal) (i7_ : Int) (i8_ : Int) (h : H) : Prop := loopK (slices_IndexFunc_s_int64_int64__w0 S K) (slices_IndexFunc_s_int64_int64__e0 s0_ f1_ i7_ i8_) h
def slices_IndexFunc_s_int64_int64__C0 (S : SatT) (K : AVal → H → Prop) (h : H) : Prop :=
 K (.int .i64 (-1)) h
def slices_IndexFunc_s_int64_int64__b0 (S : SatT) (K : AVal → H → Prop) (X0 : Frame → H → Prop) (s0_ : Sl) (f1_ : AVal) (i7_ : Int) (i8_ : Int) (h : H) : Prop :=
 bif (decide (i8_ < i7_)) then
 ixS s0_ 1 i8_ fun p0 =>
 ldI .i64 p0 h fun n1 =>
 viaF f1_ [.int .i64 n1] fun g2 ys3 =>
 callB S g2 ys3 h fun b5 h4 =>
 bif b5 then
 K (.int .i64 i8_) h4
 else
 X0 (slices_IndexFunc_s_int64_int64__e0 s0_ f1_ i7_ (w64 (i8_ + (1)))) h4
 else
 slices_IndexFunc_s_int64_int64__C0 S K h
theorem slices_IndexFunc_s_int64_int64__link0 (S : SatT) (K : AVal → H → Prop) (X0 : Frame → H → Prop) (s0_ : Sl) (f1_ : AVal) (i7_ : Int) (i8_ : Int) (h : H) : slices_IndexFunc_s_int64_int64__w0 S K X0 (slices_IndexFunc_s_int64_int64__e0 s0_ f1_ i7_ i8_) h = slices_IndexFunc_s_int64_int64__b0 S K X0 s0_ f1_ i7_ i8_ h := by kernel_rfl
theorem slices_IndexFunc_s_int64_int64__rule0 (S : SatT) (K : AVal → H → Prop) (s0_ : Sl) (f1_ : AVal) (i7_ : Int) (I_ : Int → H → Prop) (m_ : Int → H → Nat)
    (hs : ∀ (X0 : Frame → H → Prop) (i8_ : Int) (h : H), I_ i8_ h → (∀ (i8_' : Int) (h' : H), I_ i8_' h' → m_ i8_' h' < m_ i8_ h → X0 (slices_IndexFunc_s_int64_int64__e0 s0_ f1_ i7_ i8_') h') → slices_IndexFunc_s_int64_int64__b0 S K X0 s0_ f1_ i7_ i8_ h) (i8_ : Int) {h : H} (h0 : I_ i8_ h) : slices_IndexFunc_s_int64_int64__L0 S K s0_ f1_ i7_ i8_ h :=
  loop_rule (σ := (Int)) (fun s_ => slices_IndexFunc_s_int64_int64__e0 s0_ f1_ i7_ (s_)) (fun s_ h => I_ (s_) h) (fun s_ h => m_ (s_) h)
    (fun X s_ h hi hx => (slices_IndexFunc_s_int64_int64__link0 S K X s0_ f1_ i7_ (s_) h).mpr (hs X (s_) h hi fun i8_' h' hi' hm' => hx (i8_') h' hi' hm')) (i8_) h0
theorem slices_IndexFunc_s_int64_int64__unroll0 (S : SatT) (K : AVal → H → Prop) (s0_ : Sl) (f1_ : AVal) (i7_ : Int) (i8_ : Int) (h : H) (hb : slices_IndexFunc_s_int64_int64__b0 S K (fun fr h => loopK (slices_IndexFunc_s_int64_int64__w0 S K) fr h) s0_ f1_ i7_ i8_ h) : slices_IndexFunc_s_int64_int64__L0 S K s0_ f1_ i7_ i8_ h := loop_unroll ((slices_IndexFunc_s_int64_int64__link0 S K _ s0_ f1_ i7_ i8_ h).mpr hb)
def slices_IndexFunc_s_int64_int64__main (S : SatT) (K : AVal → H → Prop) (x0 : Sl) (x1 : AVal) (h : H) : Prop :=
 slices_IndexFunc_s_int64_int64__L0 S K x0 x1 (x0.len : Int) (0) h
theorem slices_IndexFunc_s_int64_int64__main_link (S : SatT) (K : AVal → H → Prop) (x0 : Sl) (x1 : AVal) (h : H) : cwp S tab slices_IndexFunc_s_int64_int64__M [] (bodyOf Try.f127) (kFun tab Try.f127.results.toList K) (fr0 Try.f127 [.sl x0, x1]) h = slices_IndexFunc_s_int64_int64__main S K x0 x1 h := by kernel_rfl
theorem slices_IndexFunc_s_int64_int64__call (x0 : Sl) (x1 : AVal) (h : H) (K : Int → H → Prop) (hm : slices_IndexFunc_s_int64_int64__main (Sat Try.prog) (fun v h' => ∃ r, v = .int .i64 r ∧ K r h') x0 x1 h) : callI (Sat Try.prog) .i64 i_slices_IndexFunc_s_int64_int64_ [.sl x0, x1] h K := by
  have := Sat.ex tok mixed slices_IndexFunc_s_int64_int64__M Try.func127 (c := bodyOf Try.f127) (by kernel_rfl) (calls_of Try.func127 (c := bodyOf Try.f127) (by kernel_rfl) (by decide)) ((slices_IndexFunc_s_int64_int64__main_link _ _ x0 x1 h).mpr hm)
  obtain ⟨v, h2, h3, r, rfl, h4⟩ := this; exact ⟨r, h2, h3, h4⟩

/-! ### loop.example/g01354/impl.isTable -/
def impl_isTable_M : Nat → List Nat := fun i => bif i == 0 then [0, 1, 16, 17, 18] else []
def impl_isTable_ks5 (S : SatT) (K : AVal → H → Prop) : Kont := kSeq (cwp S tab impl_isTable_M [] (sub [1, 1, 1] (bodyOf Try.f107)) (kFun tab (Try.f107).results.toList K)) (kFun tab (Try.f107).results.toList K)
def impl_isTable_e0 (s0_ : Sl) (i1_ : Int) (s16_ : Sl) (i17_ : Int) (i18_ : Int) : Frame := [.sl s0_, .int .i64 i1_, U, U, U, U, U, U, U, U, U, U, U, U, U, U, .sl s16_, .int .i64 i17_, .int .i64 i18_, U, U, U, U, U, U, U, U, U, U, U, U, U, U, U, U, U, U, U, U, U, U]
def impl_isTable_w0 (S : SatT) (K : AVal → H → Prop) : (Frame → H → Prop) → Frame → H → Prop := fun X fr h => cwp S tab impl_isTable_M (impl_isTable_M 0) (sub [1, 1, 0, 1, 0, 0] (bodyOf Try.f107)) (kSeq (fun fr h => X (mask (impl_isTable_M 0) fr) h) (kBlk 0 (impl_isTable_ks5 S K))) fr h
def impl_isTable_L0 (S : SatT) (K : AVal → H → Prop) (s0_ : Sl) (i1_ : Int) (s16_ : Sl) (i17_ : Int) (i18_ : Int) (h : H) : Prop := loopK (impl_isTable_w0 S K) (impl_isTable_e0 s0_ i1_ s16_ i17_ i18_) h
def impl_isTable_C0 (S : SatT) (K : AVal → H → Prop) (h : H) : Prop :=
 K (.bool true) h
def impl_isTable_b0 (S : SatT) (K : AVal → H → Prop) (X0 : Frame → H → Prop) (s0_ : Sl) (i1_ : Int) (s16_ : Sl) (i17_ : Int) (i18_ : Int) (h : H) : Prop :=
 bif (decide (i18_ < i17_)) then
 ixS s16_ 1 i18_ fun p0 =>
 ldS p0 h fun s1 =>
 ixS s0_ 1 (0) fun p2 =>
 ldS p2 h fun s3 =>
 bif ((s1.len : Int) != (s3.len : Int)) then
 K (.bool false) h
 else
 bif (decide ((s1.len : Int) < (1))) then
 K (.bool false) h
 else
 bif (decide ((s1.len : Int) > i1_)) then
 K (.bool false) h
 else
 X0 (impl_isTable_e0 s0_ i1_ s16_ i17_ (w64 (i18_ + (1)))) h
 else
 impl_isTable_C0 S K h
theorem impl_isTable_link0 (S : SatT) (K : AVal → H → Prop) (X0 : Frame → H → Prop) (s0_ : Sl) (i1_ : Int) (s16_ : Sl) (i17_ : Int) (i18_ : Int) (h : H) : impl_isTable_w0 S K X0 (impl_isTable_e0 s0_ i1_ s16_ i17_ i18_) h = impl_isTable_b0 S K X0 s0_ i1_ s16_ i17_ i18_ h := by kernel_rfl
theorem impl_isTable_rule0 (S : SatT) (K : AVal → H → Prop) (s0_ : Sl) (i1_ : Int) (s16_ : Sl) (i17_ : Int) (I_ : Int → H → Prop) (m_ : Int → H → Nat)
    (hs : ∀ (X0 : Frame → H → Prop) (i18_ : Int) (h : H), I_ i18_ h → (∀ (i18_' : Int) (h' : H), I_ i18_' h' → m_ i18_' h' < m_ i18_ h → X0 (impl_isTable_e0 s0_ i1_ s16_ i17_ i18_') h') → impl_isTable_b0 S K X0 s0_ i1_ s16_ i17_ i18_ h) (i18_ : Int) {h : H} (h0 : I_ i18_ h) : impl_isTable_L0 S K s0_ i1_ s16_ i17_ i18_ h :=
  loop_rule (σ := (Int)) (fun s_ => impl_isTable_e0 s0_ i1_ s16_ i17_ (s_)) (fun s_ h => I_ (s_) h) (fun s_ h => m_ (s_) h)
    (fun X s_ h hi hx => (impl_isTable_link0 S K X s0_ i1_ s16_ i17_ (s_) h).mpr (hs X (s_) h hi fun i18_' h' hi' hm' => hx (i18_') h' hi' hm')) (i18_) h0
theorem impl_isTable_unroll0 (S : SatT) (K : AVal → H → Prop) (s0_ : Sl) (i1_ : Int) (s16_ : Sl) (i17_ : Int) (i18_ : Int) (h : H) (hb : impl_isTable_b0 S K (fun fr h => loopK (impl_isTable_w0 S K) fr h) s0_ i1_ s16_ i17_ i18_ h) : impl_isTable_L0 S K s0_ i1_ s16_ i17_ i18_ h := loop_unroll ((impl_isTable_link0 S K _ s0_ i1_ s16_ i17_ i18_ h).mpr hb)
def impl_isTable_main (S : SatT) (K : AVal → H → Prop) (x0 : Sl) (x1 : Int) (h : H) : Prop :=
 bif (decide ((x0.len : Int) < (1))) then
 K (.bool false) h
 else
 bif (decide ((x0.len : Int) > x1)) then
 K (.bool false) h
 else
 impl_isTable_L0 S K x0 x1 x0 (x0.len : Int) (0) h
theorem impl_isTable_main_link (S : SatT) (K : AVal → H → Prop) (x0 : Sl) (x1 : Int) (h : H) : cwp S tab impl_isTable_M [] (bodyOf Try.f107) (kFun tab Try.f107.results.toList K) (fr0 Try.f107 [.sl x0, .int .i64 x1]) h = impl_isTable_main S K x0 x1 h := by kernel_rfl
theorem impl_isTable_call (x0 : Sl) (x1 : Int) (h : H) (K : Bool → H → Prop) (hm : impl_isTable_main (Sat Try.prog) (fun v h' => ∃ r, v = .bool r ∧ K r h') x0 x1 h) : callB (Sat Try.prog) i_impl_isTable [.sl x0, .int .i64 x1] h K := by
  have := Sat.ex tok mixed impl_isTable_M Try.func107 (c := bodyOf Try.f107) (by kernel_rfl) (calls_of Try.func107 (c := bodyOf Try.f107) (by kernel_rfl) (by decide)) ((impl_isTable_main_link _ _ x0 x1 h).mpr hm)
  obtain ⟨v, h2, h3, r, rfl, h4⟩ := this; exact ⟨r, h2, h3, h4⟩

/-! ### loop.example/g01354/laws.FnExactShiftTorus -/
def laws_FnExactShiftTorus_M : Nat → List Nat := fun i => []
def laws_FnExactShiftTorus_main (S : SatT) (K : AVal → H → Prop) (x0 : List AVal) (x1 : Sl) (x2 : Int) (x3 : Int) (h : H) : Prop :=
 newK 2 x0 h fun p0 h1 =>
 ldA p0 2 h1 fun cs2 =>
 callI S .i64 i_laws_szSet [.agg cs2, .int .i64 (1048576)] h1 fun n4 h3 =>
 bif (decide (n4 < (0))) then
 K (.bool true) h3
 else
 callI S .i64 i_laws_szInt64SS [.sl x1, .int .i64 n4] h3 fun n6 h5 =>
 bif (decide (n6 < (0))) then
 K (.bool true) h5
 else
 ldA p0 2 h5 fun cs7 =>
 callA S i_laws_toSet [.agg cs7] h5 fun cs9 h8 =>
 callS S i_laws_toInt64SS [.sl x1] h8 fun s11 h10 =>
 callV S i_spec_ShiftTorus [.agg cs9, .sl s11, .int .i64 x2, .int .i64 x3] h10 fun v13 h12 =>
 viaT v13 fun vs14 =>
 exS vs14 0 fun s15 =>
 viaT v13 fun vs16 =>
 exI .i64 vs16 1 fun n17 =>
 ldA p0 2 h12 fun cs18 =>
 callA S i_laws_toSet [.agg cs18] h12 fun cs20 h19 =>
 newO [.int .i64 (0), .sl Sl.nil] h19 fun p21 h22 =>
 stN p21 2 cs20 h22 fun h23 =>
 callS S i_laws_toInt64SS [.sl x1] h23 fun s25 h24 =>
 ldA p21 2 h24 fun cs26 =>
 callV S i_impl_ShiftTorus [.agg cs26, .sl s25, .int .i64 x2, .int .i64 x3] h24 fun v28 h27 =>
 viaT v28 fun vs29 =>
 exS vs29 0 fun s30 =>
 viaT v28 fun vs31 =>
 exI .i64 vs31 1 fun n32 =>
 callB S i_laws_eqInt64SS [.sl s30, .sl s15] h27 fun b34 h33 =>
 bif (!b34) then
 K (.bool false) h33
 else
 bif (n32 != n17) then
 K (.bool false) h33
 else
 ldA p21 2 h33 fun cs35 =>
 ldA p0 2 h33 fun cs36 =>
 callA S i_laws_toSet [.agg cs36] h33 fun cs38 h37 =>
(range h37 p21.o p21.n p21.off 2 = range h33 p21.o p21.n p21.off 2) ∧ (
 callB S i_laws_eqSet [.agg cs35, .agg cs38] h37 fun b40 h39 =>
 bif (!b40) then
 K (.bool false) h39
 else
 callS S i_laws_toInt64SS [.sl x1] h39 fun s42 h41 =>
 callB S i_laws_eqInt64SS [.sl s25, .sl s42] h41 fun b44 h43 =>
 bif (!b44) then
 K (.bool false) h43
 else
 ldA p21 2 h43 fun cs45 =>
 callI S .i64 i_laws_markSet [.agg cs45, .int .i64 (1)] h43 fun n47 h46 =>
 callI S .i64 i_laws_markInt64SS [.sl s25, .int .i64 n47] h46 fun n49 h48 =>
 bif (decide (n49 < (0))) then
 K (.bool false) h48
 else
 callB S i_laws_eqInt64SS [.sl s30, .sl s15] h48 fun b51 h50 =>
 bif (!b51) then
 K (.bool false) h50
 else
 bif (n32 != n17) then
 K (.bool false) h50
 else
 callI S .i64 i_laws_markInt64SS [.sl s30, .int .i64 (1)] h50 fun n53 h52 =>
 callI S .i64 i_laws_heldInt64SS [.sl s30, .int .i64 (1)] h52 fun n55 h54 =>
 bif (decide (n55 < (0))) then
 K (.bool false) h54
 else
 bif (n55 != n53) then
 K (.bool false) h54
 else
 ldA p0 2 h54 fun cs56 =>
 callA S i_laws_toSet [.agg cs56] h54 fun cs58 h57 =>
 callS S i_laws_toInt64SS [.sl x1] h57 fun s60 h59 =>
 callV S i_impl_ShiftTorus [.agg cs58, .sl s60, .int .i64 x2, .int .i64 x3] h59 fun v62 h61 =>
 viaT v62 fun vs63 =>
 exS vs63 0 fun s64 =>
 viaT v62 fun vs65 =>
 exI .i64 vs65 1 fun n66 =>
 callB S i_laws_eqInt64SS [.sl s64, .sl s15] h61 fun b68 h67 =>
 bif (!b68) then
 K (.bool false) h67
 else
 bif (n66 != n17) then
 K (.bool false) h67
 else
 callI S .i64 i_laws_heldInt64SS [.sl s30, .int .i64 (1)] h67 fun n70 h69 =>
 bif (decide (n70 < (0))) then
 K (.bool false) h69
 else
 bif (n70 != n53) then
 K (.bool false) h69
 else
 K (.bool true) h69)
theorem laws_FnExactShiftTorus_main_link (S : SatT) (K : AVal → H → Prop) (x0 : List AVal) (x1 : Sl) (x2 : Int) (x3 : Int) (h : H) : cwp S tab laws_FnExactShiftTorus_M [] (bodyOf Try.f11) (kFun tab Try.f11.results.toList K) (fr0 Try.f11 [.agg x0, .sl x1, .int .i64 x2, .int .i64 x3]) h = laws_FnExactShiftTorus_main S K x0 x1 x2 x3 h := by kernel_rfl
theorem laws_FnExactShiftTorus_call (x0 : List AVal) (x1 : Sl) (x2 : Int) (x3 : Int) (h : H) (K : Bool → H → Prop) (hm : laws_FnExactShiftTorus_main (Sat Try.prog) (fun v h' => ∃ r, v = .bool r ∧ K r h') x0 x1 x2 x3 h) : callB (Sat Try.prog) i_laws_FnExactShiftTorus [.agg x0, .sl x1, .int .i64 x2, .int .i64 x3] h K := by
  have := Sat.ex tok mixed laws_FnExactShiftTorus_M Try.func11 (c := bodyOf Try.f11) (by kernel_rfl) (calls_of Try.func11 (c := bodyOf Try.f11) (by kernel_rfl) (by decide)) ((laws_FnExactShiftTorus_main_link _ _ x0 x1 x2 x3 h).mpr hm)
  obtain ⟨v, h2, h3, r, rfl, h4⟩ := this; exact ⟨r, h2, h3, h4⟩

/-! ### loop.example/g01354/laws.heldInt64SS -/
def laws_heldInt64SS_M : Nat → List Nat := fun i => bif i == 0 then [0, 1, 5] else []
def laws_heldInt64SS_ks1 (S : SatT) (K : AVal → H → Prop) : Kont := kSeq (cwp S tab laws_heldInt64SS_M [] (sub [1, 1] (bodyOf Try.f33)) (kFun tab (Try.f33).results.toList K)) (kFun tab (Try.f33).results.toList K)
def laws_heldInt64SS_e0 (s0_ : Sl) (i1_ : Int) (i5_ : Int) : Frame := [.sl s0_, .int .i64 i1_, U, U, U, .int .i64 i5_, U, U, U, U, U, U, U, U, U, U, U, U, U, U, U]
def laws_heldInt64SS_w0 (S : SatT) (K : AVal → H → Prop) : (Frame → H → Prop) → Frame → H → Prop := fun X fr h => cwp S tab laws_heldInt64SS_M (laws_heldInt64SS_M 0) (sub [1, 0, 1, 0, 0] (bodyOf Try.f33)) (kSeq (fun fr h => X (mask (laws_heldInt64SS_M 0) fr) h) (kBlk 0 (laws_heldInt64SS_ks1 S K))) fr h
def laws_heldInt64SS_L0 (S : SatT) (K : AVal → H → Prop) (s0_ : Sl) (i1_ : Int) (i5_ : Int) (h : H) : Prop := loopK (laws_heldInt64SS_w0 S K) (laws_heldInt64SS_e0 s0_ i1_ i5_) h
def laws_heldInt64SS_C0 (S : SatT) (K : AVal → H → Prop) (i1_ : Int) (h : H) : Prop :=
 K (.int .i64 i1_) h
def laws_heldInt64SS_b0 (S : SatT) (K : AVal → H → Prop) (X0 : Frame → H → Prop) (s0_ : Sl) (i1_ : Int) (i5_ : Int) (h : H) : Prop :=
 bif (decide (i5_ < (s0_.len : Int))) then
 ixS s0_ 1 i5_ fun p0 =>
 ldS p0 h fun s1 =>
 callI S .i64 i_laws_heldInt64S [.sl s1, .int .i64 i1_] h fun n3 h2 =>
 bif (decide (n3 < (0))) then
 K (.int .i64 (-1)) h2
 else
 X0 (laws_heldInt64SS_e0 s0_ n3 (w64 (i5_ + (1)))) h2
 else
 laws_heldInt64SS_C0 S K i1_ h
theorem laws_heldInt64SS_link0 (S : SatT) (K : AVal → H → Prop) (X0 : Frame → H → Prop) (s0_ : Sl) (i1_ : Int) (i5_ : Int) (h : H) : laws_heldInt64SS_w0 S K X0 (laws_heldInt64SS_e0 s0_ i1_ i5_) h = laws_heldInt64SS_b0 S K X0 s0_ i1_ i5_ h := by kernel_rfl
theorem laws_heldInt64SS_rule0 (S : SatT) (K : AVal → H → Prop) (s0_ : Sl) (I_ : Int → Int → H → Prop) (m_ : Int → Int → H → Nat)
    (hs : ∀ (X0 : Frame → H → Prop) (i1_ : Int) (i5_ : Int) (h : H), I_ i1_ i5_ h → (∀ (i1_' : Int) (i5_' : Int) (h' : H), I_ i1_' i5_' h' → m_ i1_' i5_' h' < m_ i1_ i5_ h → X0 (laws_heldInt64SS_e0 s0_ i1_' i5_') h') → laws_heldInt64SS_b0 S K X0 s0_ i1_ i5_ h) (i1_ : Int) (i5_ : Int) {h : H} (h0 : I_ i1_ i5_ h) : laws_heldInt64SS_L0 S K s0_ i1_ i5_ h :=
  loop_rule (σ := (Int) × (Int)) (fun s_ => laws_heldInt64SS_e0 s0_ (s_.1) (s_.2)) (fun s_ h => I_ (s_.1) (s_.2) h) (fun s_ h => m_ (s_.1) (s_.2) h)
    (fun X s_ h hi hx => (laws_heldInt64SS_link0 S K X s0_ (s_.1) (s_.2) h).mpr (hs X (s_.1) (s_.2) h hi fun i1_' i5_' h' hi' hm' => hx (i1_', i5_') h' hi' hm')) (i1_, i5_) h0
theorem laws_heldInt64SS_unroll0 (S : SatT) (K : AVal → H → Prop) (s0_ : Sl) (i1_ : Int) (i5_ : Int) (h : H) (hb : laws_heldInt64SS_b0 S K (fun fr h => loopK (laws_heldInt64SS_w0 S K) fr h) s0_ i1_ i5_ h) : laws_heldInt64SS_L0 S K s0_ i1_ i5_ h := loop_unroll ((laws_heldInt64SS_link0 S K _ s0_ i1_ i5_ h).mpr hb)
def laws_heldInt64SS_main (S : SatT) (K : AVal → H → Prop) (x0 : Sl) (x1 : Int) (h : H) : Prop :=
 laws_heldInt64SS_L0 S K x0 x1 (0) h
theorem laws_heldInt64SS_main_link (S : SatT) (K : AVal → H → Prop) (x0 : Sl) (x1 : Int) (h : H) : cwp S tab laws_heldInt64SS_M [] (bodyOf Try.f33) (kFun tab Try.f33.results.toList K) (fr0 Try.f33 [.sl x0, .int .i64 x1]) h = laws_heldInt64SS_main S K x0 x1 h := by kernel_rfl
theorem laws_heldInt64SS_call (x0 : Sl) (x1 : Int) (h : H) (K : Int → H → Prop) (hm : laws_heldInt64SS_main (Sat Try.prog) (fun v h' => ∃ r, v = .int .i64 r ∧ K r h') x0 x1 h) : callI (Sat Try.prog) .i64 i_laws_heldInt64SS [.sl x0, .int .i64 x1] h K := by
  have := Sat.ex tok mixed laws_heldInt64SS_M Try.func33 (c := bodyOf Try.f33) (by kernel_rfl) (calls_of Try.func33 (c := bodyOf Try.f33) (by kernel_rfl) (by decide)) ((laws_heldInt64SS_main_link _ _ x0 x1 h).mpr hm)
  obtain ⟨v, h2, h3, r, rfl, h4⟩ := this; exact ⟨r, h2, h3, h4⟩

/-! ### loop.example/g01354/laws.heldInt64S -/
def laws_heldInt64S_M : Nat → List Nat := fun i => bif i == 0 then [0, 1, 5] else []
def laws_heldInt64S_ks1 (S : SatT) (K : AVal → H → Prop) : Kont := kSeq (cwp S tab laws_heldInt64S_M [] (sub [1, 1] (bodyOf Try.f80)) (kFun tab (Try.f80).results.toList K)) (kFun tab (Try.f80).results.toList K)
def laws_heldInt64S_e0 (s0_ : Sl) (i1_ : Int) (i5_ : Int) : Frame := [.sl s0_, .int .i64 i1_, U, U, U, .int .i64 i5_, U, U, U, U, U, U, U, U, U, U, U, U, U, U, U]
def laws_heldInt64S_w0 (S : SatT) (K : AVal → H → Prop) : (Frame → H → Prop) → Frame → H → Prop := fun X fr h => cwp S tab laws_heldInt64S_M (laws_heldInt64S_M 0) (sub [1, 0, 1, 0, 0] (bodyOf Try.f80)) (kSeq (fun fr h => X (mask (laws_heldInt64S_M 0) fr) h) (kBlk 0 (laws_heldInt64S_ks1 S K))) fr h
def laws_heldInt64S_L0 (S : SatT) (K : AVal → H → Prop) (s0_ : Sl) (i1_ : Int) (i5_ : Int) (h : H) : Prop := loopK (laws_heldInt64S_w0 S K) (laws_heldInt64S_e0 s0_ i1_ i5_) h
def laws_heldInt64S_C0 (S : SatT) (K : AVal → H → Prop) (i1_ : Int) (h : H) : Prop :=
 K (.int .i64 i1_) h
def laws_heldInt64S_b0 (S : SatT) (K : AVal → H → Prop) (X0 : Frame → H → Prop) (s0_ : Sl) (i1_ : Int) (i5_ : Int) (h : H) : Prop :=
 bif (decide (i5_ < (s0_.len : Int))) then
 ixS s0_ 1 i5_ fun p0 =>
 ldI .i64 p0 h fun n1 =>
 bif (n1 != i1_) then
 K (.int .i64 (-1)) h
 else
 X0 (laws_heldInt64S_e0 s0_ (w64 (i1_ + (1))) (w64 (i5_ + (1)))) h
 else
 laws_heldInt64S_C0 S K i1_ h
theorem laws_heldInt64S_link0 (S : SatT) (K : AVal → H → Prop) (X0 : Frame → H → Prop) (s0_ : Sl) (i1_ : Int) (i5_ : Int) (h : H) : laws_heldInt64S_w0 S K X0 (laws_heldInt64S_e0 s0_ i1_ i5_) h = laws_heldInt64S_b0 S K X0 s0_ i1_ i5_ h := by kernel_rfl
theorem laws_heldInt64S_rule0 (S : SatT) (K : AVal → H → Prop) (s0_ : Sl) (I_ : Int → Int → H → Prop) (m_ : Int → Int → H → Nat)
    (hs : ∀ (X0 : Frame → H → Prop) (i1_ : Int) (i5_ : Int) (h : H), I_ i1_ i5_ h → (∀ (i1_' : Int) (i5_' : Int) (h' : H), I_ i1_' i5_' h' → m_ i1_' i5_' h' < m_ i1_ i5_ h → X0 (laws_heldInt64S_e0 s0_ i1_' i5_') h') → laws_heldInt64S_b0 S K X0 s0_ i1_ i5_ h) (i1_ : Int) (i5_ : Int) {h : H} (h0 : I_ i1_ i5_ h) : laws_heldInt64S_L0 S K s0_ i1_ i5_ h :=
  loop_rule (σ := (Int) × (Int)) (fun s_ => laws_heldInt64S_e0 s0_ (s_.1) (s_.2)) (fun s_ h => I_ (s_.1) (s_.2) h) (fun s_ h => m_ (s_.1) (s_.2) h)
    (fun X s_ h hi hx => (laws_heldInt64S_link0 S K X s0_ (s_.1) (s_.2) h).mpr (hs X (s_.1) (s_.2) h hi fun i1_' i5_' h' hi' hm' => hx (i1_', i5_') h' hi' hm')) (i1_, i5_) h0
theorem laws_heldInt64S_unroll0 (S : SatT) (K : AVal → H → Prop) (s0_ : Sl) (i1_ : Int) (i5_ : Int) (h : H) (hb : laws_heldInt64S_b0 S K (fun fr h => loopK (laws_heldInt64S_w0 S K) fr h) s0_ i1_ i5_ h) : laws_heldInt64S_L0 S K s0_ i1_ i5_ h := loop_unroll ((laws_heldInt64S_link0 S K _ s0_ i1_ i5_ h).mpr hb)
def laws_heldInt64S_main (S : SatT) (K : AVal → H → Prop) (x0 : Sl) (x1 : Int) (h : H) : Prop :=
 laws_heldInt64S_L0 S K x0 x1 (0) h
theorem laws_heldInt64S_main_link (S : SatT) (K : AVal → H → Prop) (x0 : Sl) (x1 : Int) (h : H) : cwp S tab laws_heldInt64S_M [] (bodyOf Try.f80) (kFun tab Try.f80.results.toList K) (fr0 Try.f80 [.sl x0, .int .i64 x1]) h = laws_heldInt64S_main S K x0 x1 h := by kernel_rfl
theorem laws_heldInt64S_call (x0 : Sl) (x1 : Int) (h : H) (K : Int → H → Prop) (hm : laws_heldInt64S_main (Sat Try.prog) (fun v h' => ∃ r, v = .int .i64 r ∧ K r h') x0 x1 h) : callI (Sat Try.prog) .i64 i_laws_heldInt64S [.sl x0, .int .i64 x1] h K := by
  have := Sat.ex tok mixed laws_heldInt64S_M Try.func80 (c := bodyOf Try.f80) (by kernel_rfl) (calls_of Try.func80 (c := bodyOf Try.f80) (by kernel_rfl) (by decide)) ((laws_heldInt64S_main_link _ _ x0 x1 h).mpr hm)
  obtain ⟨v, h2, h3, r, rfl, h4⟩ := this; exact ⟨r, h2, h3, h4⟩

/-! ### loop.example/g01354/laws.eqInt64S -/
def laws_eqInt64S_M : Nat → List Nat := fun i => bif i == 0 then [0, 1, 5] else []
def laws_eqInt64S_ks4 (S : SatT) (K : AVal → H → Prop) : Kont := kSeq (cwp S tab laws_eqInt64S_M [] (sub [1, 1, 1] (bodyOf Try.f72)) (kFun tab (Try.f72).results.toList K)) (kFun tab (Try.f72).results.toList K)
def laws_eqInt64S_e0 (s0_ : Sl) (s1_ : Sl) (i5_ : Int) : Frame := [.sl s0_, .sl s1_, U, U, U, .int .i64 i5_, U, U, U, U, U, U, U, U, U, U, U, U, U, U, U, U, U, U, U, U]
def laws_eqInt64S_w0 (S : SatT) (K : AVal → H → Prop) : (Frame → H → Prop) → Frame → H → Prop := fun X fr h => cwp S tab laws_eqInt64S_M (laws_eqInt64S_M 0) (sub [1, 1, 0, 1, 0, 0] (bodyOf Try.f72)) (kSeq (fun fr h => X (mask (laws_eqInt64S_M 0) fr) h) (kBlk 0 (laws_eqInt64S_ks4 S K))) fr h
def laws_eqInt64S_L0 (S : SatT) (K : AVal → H → Prop) (s0_ : Sl) (s1_ : Sl) (i5_ : Int) (h : H) : Prop := loopK (laws_eqInt64S_w0 S K) (laws_eqInt64S_e0 s0_ s1_ i5_) h
def laws_eqInt64S_C0 (S : SatT) (K : AVal → H → Prop) (h : H) : Prop :=
 K (.bool true) h
def laws_eqInt64S_b0 (S : SatT) (K : AVal → H → Prop) (X0 : Frame → H → Prop) (s0_ : Sl) (s1_ : Sl) (i5_ : Int) (h : H) : Prop :=
 bif (decide (i5_ < (s0_.len : Int))) then
 ixS s0_ 1 i5_ fun p0 =>
 ldI .i64 p0 h fun n1 =>
 ixS s1_ 1 i5_ fun p2 =>
 ldI .i64 p2 h fun n3 =>
 bif (n1 != n3) then
 K (.bool false) h
 else
 X0 (laws_eqInt64S_e0 s0_ s1_ (w64 (i5_ + (1)))) h
 else
 laws_eqInt64S_C0 S K h
theorem laws_eqInt64S_link0 (S : SatT) (K : AVal → H → Prop) (X0 : Frame → H → Prop) (s0_ : Sl) (s1_ : Sl) (i5_ : Int) (h : H) : laws_eqInt64S_w0 S K X0 (laws_eqInt64S_e0 s0_ s1_ i5_) h = laws_eqInt64S_b0 S K X0 s0_ s1_ i5_ h := by kernel_rfl
theorem laws_eqInt64S_rule0 (S : SatT) (K : AVal → H → Prop) (s0_ : Sl) (s1_ : Sl) (I_ : Int → H → Prop) (m_ : Int → H → Nat)
    (hs : ∀ (X0 : Frame → H → Prop) (i5_ : Int) (h : H), I_ i5_ h → (∀ (i5_' : Int) (h' : H), I_ i5_' h' → m_ i5_' h' < m_ i5_ h → X0 (laws_eqInt64S_e0 s0_ s1_ i5_') h') → laws_eqInt64S_b0 S K X0 s0_ s1_ i5_ h) (i5_ : Int) {h : H} (h0 : I_ i5_ h) : laws_eqInt64S_L0 S K s0_ s1_ i5_ h :=
  loop_rule (σ := (Int)) (fun s_ => laws_eqInt64S_e0 s0_ s1_ (s_)) (fun s_ h => I_ (s_) h) (fun s_ h => m_ (s_) h)
    (fun X s_ h hi hx => (laws_eqInt64S_link0 S K X s0_ s1_ (s_) h).mpr (hs X (s_) h hi fun i5_' h' hi' hm' => hx (i5_') h' hi' hm')) (i5_) h0
theorem laws_eqInt64S_unroll0 (S : SatT) (K : AVal → H → Prop) (s0_ : Sl) (s1_ : Sl) (i5_ : Int) (h : H) (hb : laws_eqInt64S_b0 S K (fun fr h => loopK (laws_eqInt64S_w0 S K) fr h) s0_ s1_ i5_ h) : laws_eqInt64S_L0 S K s0_ s1_ i5_ h := loop_unroll ((laws_eqInt64S_link0 S K _ s0_ s1_ i5_ h).mpr hb)
def laws_eqInt64S_main (S : SatT) (K : AVal → H → Prop) (x0 : Sl) (x1 : Sl) (h : H) : Prop :=
 bif ((x0.len : Int) != (x1.len : Int)) then
 K (.bool false) h
 else
 laws_eqInt64S_L0 S K x0 x1 (0) h
theorem laws_eqInt64S_main_link (S : SatT) (K : AVal → H → Prop) (x0 : Sl) (x1 : Sl) (h : H) : cwp S tab laws_eqInt64S_M [] (bodyOf Try.f72) (kFun tab Try.f72.results.toList K) (fr0 Try.f72 [.sl x0, .sl x1]) h = laws_eqInt64S_main S K x0 x1 h := by kernel_rfl
theorem laws_eqInt64S_call (x0 : Sl) (x1 : Sl) (h : H) (K : Bool → H → Prop) (hm : laws_eqInt64S_main (Sat Try.prog) (fun v h' => ∃ r, v = .bool r ∧ K r h') x0 x1 h) : callB (Sat Try.prog) i_laws_eqInt64S [.sl x0, .sl x1] h K := by
  have := Sat.ex tok mixed laws_eqInt64S_M Try.func72 (c := bodyOf Try.f72) (by kernel_rfl) (calls_of Try.func72 (c := bodyOf Try.f72) (by kernel_rfl) (by decide)) ((laws_eqInt64S_main_link _ _ x0 x1 h).mpr hm)
  obtain ⟨v, h2, h3, r, rfl, h4⟩ := this; exact ⟨r, h2, h3, h4⟩

/-! ### loop.example/g01354/laws.toTileS -/
def laws_toTileS_M : Nat → List Nat := fun i => bif i == 0 then [0, 3, 4] else []
def laws_toTileS_ks2 (S : SatT) (K : AVal → H → Prop) : Kont := kSeq (cwp S tab laws_toTileS_M [] (sub [1, 1, 1] (bodyOf Try.f53)) (kFun tab (Try.f53).results.toList K)) (kFun tab (Try.f53).results.toList K)
def laws_toTileS_e0 (s0_ : Sl) (s3_ : Sl) (i4_ : Int) : Frame := [.sl s0_, U, U, .sl s3_, .int .i64 i4_, U, U, U, U, U, U, U, U, U, U, U, U, U, U, U, U, U, U]
def laws_toTileS_w0 (S : SatT) (K : AVal → H → Prop) : (Frame → H → Prop) → Frame → H → Prop := fun X fr h => cwp S tab laws_toTileS_M (laws_toTileS_M 0) (sub [1, 1, 0, 1, 0, 0] (bodyOf Try.f53)) (kSeq (fun fr h => X (mask (laws_toTileS_M 0) fr) h) (kBlk 0 (laws_toTileS_ks2 S K))) fr h
def laws_toTileS_L0 (S : SatT) (K : AVal → H → Prop) (s0_ : Sl) (s3_ : Sl) (i4_ : Int) (h : H) : Prop := loopK (laws_toTileS_w0 S K) (laws_toTileS_e0 s0_ s3_ i4_) h
def laws_toTileS_C0 (S : SatT) (K : AVal → H → Prop) (s3_ : Sl) (h : H) : Prop :=
 K (.sl s3_) h
def laws_toTileS_b0 (S : SatT) (K : AVal → H → Prop) (X0 : Frame → H → Prop) (s0_ : Sl) (s3_ : Sl) (i4_ : Int) (h : H) : Prop :=
 bif (decide (i4_ < (s0_.len : Int))) then
 ixS s0_ 4 i4_ fun p0 =>
 ldA p0 4 h fun cs1 =>
 callA S i_laws_toTile [.agg cs1] h fun cs3 h2 =>
 ixS s3_ 4 i4_ fun p4 =>
 stN p4 4 cs3 h2 fun h5 =>
 X0 (laws_toTileS_e0 s0_ s3_ (w64 (i4_ + (1)))) h5
 else
 laws_toTileS_C0 S K s3_ h
theorem laws_toTileS_link0 (S : SatT) (K : AVal → H → Prop) (X0 : Frame → H → Prop) (s0_ : Sl) (s3_ : Sl) (i4_ : Int) (h : H) : laws_toTileS_w0 S K X0 (laws_toTileS_e0 s0_ s3_ i4_) h = laws_toTileS_b0 S K X0 s0_ s3_ i4_ h := by kernel_rfl
theorem laws_toTileS_rule0 (S : SatT) (K : AVal → H → Prop) (s0_ : Sl) (s3_ : Sl) (I_ : Int → H → Prop) (m_ : Int → H → Nat)
    (hs : ∀ (X0 : Frame → H → Prop) (i4_ : Int) (h : H), I_ i4_ h → (∀ (i4_' : Int) (h' : H), I_ i4_' h' → m_ i4_' h' < m_ i4_ h → X0 (laws_toTileS_e0 s0_ s3_ i4_') h') → laws_toTileS_b0 S K X0 s0_ s3_ i4_ h) (i4_ : Int) {h : H} (h0 : I_ i4_ h) : laws_toTileS_L0 S K s0_ s3_ i4_ h :=
  loop_rule (σ := (Int)) (fun s_ => laws_toTileS_e0 s0_ s3_ (s_)) (fun s_ h => I_ (s_) h) (fun s_ h => m_ (s_) h)
    (fun X s_ h hi hx => (laws_toTileS_link0 S K X s0_ s3_ (s_) h).mpr (hs X (s_) h hi fun i4_' h' hi' hm' => hx (i4_') h' hi' hm')) (i4_) h0
theorem laws_toTileS_unroll0 (S : SatT) (K : AVal → H → Prop) (s0_ : Sl) (s3_ : Sl) (i4_ : Int) (h : H) (hb : laws_toTileS_b0 S K (fun fr h => loopK (laws_toTileS_w0 S K) fr h) s0_ s3_ i4_ h) : laws_toTileS_L0 S K s0_ s3_ i4_ h := loop_unroll ((laws_toTileS_link0 S K _ s0_ s3_ i4_ h).mpr hb)
def laws_toTileS_main (S : SatT) (K : AVal → H → Prop) (x0 : Sl) (h : H) : Prop :=
 mkS (x0.len : Int) [.int .i64 (0), .int .i64 (0), .int .i64 (0), .int .i64 (0)] h fun s0 h1 =>
 laws_toTileS_L0 S K x0 s0 (0) h1
theorem laws_toTileS_main_link (S : SatT) (K : AVal → H → Prop) (x0 : Sl) (h : H) : cwp S tab laws_toTileS_M [] (bodyOf Try.f53) (kFun tab Try.f53.results.toList K) (fr0 Try.f53 [.sl x0]) h = laws_toTileS_main S K x0 h := by kernel_rfl
theorem laws_toTileS_call (x0 : Sl) (h : H) (K : Sl → H → Prop) (hm : laws_toTileS_main (Sat Try.prog) (fun v h' => ∃ r, v = .sl r ∧ K r h') x0 h) : callS (Sat Try.prog) i_laws_toTileS [.sl x0] h K := by
  have := Sat.ex tok mixed laws_toTileS_M Try.func53 (c := bodyOf Try.f53) (by kernel_rfl) (calls_of Try.func53 (c := bodyOf Try.f53) (by kernel_rfl) (by decide)) ((laws_toTileS_main_link _ _ x0 h).mpr hm)
  obtain ⟨v, h2, h3, r, rfl, h4⟩ := this; exact ⟨r, h2, h3, h4⟩

/-! ### loop.example/g01354/spec.ShiftTorus -/
def spec_ShiftTorus_M : Nat → List Nat := fun i => []
def spec_ShiftTorus_main (S : SatT) (K : AVal → H → Prop) (x0 : List AVal) (x1 : Sl) (x2 : Int) (x3 : Int) (h : H) : Prop :=
 newK 2 x0 h fun p0 h1 =>
 ldA p0 2 h1 fun cs2 =>
 callI S .i64 i_spec_l01Rows [.agg cs2, .sl x1] h1 fun n4 h3 =>
 bif (n4 == (0)) then
 callB S i_spec_l01In [.int .i64 x2, .int .i64 (0), .int .i64 (w64 ((x1.len : Int) - (1)))] h3 fun b6 h5 =>
 bif (!b6) then
 bif ((2) == (0)) then
 ldA p0 2 h5 fun cs7 =>
 callI S .i64 i_spec_l05Given [.agg cs7, .sl x1] h5 fun n9 h8 =>
 bif (n9 != (0)) then
 K (.tuple [.sl Sl.nil, .int .i64 n9]) h8
 else
 callS S i_spec_l05Shift [.sl x1, .int .i64 x2, .int .i64 x3] h8 fun s11 h10 =>
 K (.tuple [.sl s11, .int .i64 (0)]) h10
 else
 bif ((2) != (0)) then
 K (.tuple [.sl Sl.nil, .int .i64 (2)]) h5
 else
 callS S i_spec_l05Shift [.sl x1, .int .i64 x2, .int .i64 x3] h5 fun s13 h12 =>
 K (.tuple [.sl s13, .int .i64 (0)]) h12
 else
 ixS x1 1 (0) fun p14 =>
 ldS p14 h5 fun s15 =>
 callB S i_spec_l01In [.int .i64 x3, .int .i64 (0), .int .i64 (w64 ((s15.len : Int) - (1)))] h5 fun b17 h16 =>
 bif (!b17) then
 bif ((2) == (0)) then
 ldA p0 2 h16 fun cs18 =>
 callI S .i64 i_spec_l05Given [.agg cs18, .sl x1] h16 fun n20 h19 =>
 bif (n20 != (0)) then
 K (.tuple [.sl Sl.nil, .int .i64 n20]) h19
 else
 callS S i_spec_l05Shift [.sl x1, .int .i64 x2, .int .i64 x3] h19 fun s22 h21 =>
 K (.tuple [.sl s22, .int .i64 (0)]) h21
 else
 bif ((2) != (0)) then
 K (.tuple [.sl Sl.nil, .int .i64 (2)]) h16
 else
 callS S i_spec_l05Shift [.sl x1, .int .i64 x2, .int .i64 x3] h16 fun s24 h23 =>
 K (.tuple [.sl s24, .int .i64 (0)]) h23
 else
 bif (n4 == (0)) then
 ldA p0 2 h16 fun cs25 =>
 callI S .i64 i_spec_l05Given [.agg cs25, .sl x1] h16 fun n27 h26 =>
 bif (n27 != (0)) then
 K (.tuple [.sl Sl.nil, .int .i64 n27]) h26
 else
 callS S i_spec_l05Shift [.sl x1, .int .i64 x2, .int .i64 x3] h26 fun s29 h28 =>
 K (.tuple [.sl s29, .int .i64 (0)]) h28
 else
 bif (n4 != (0)) then
 K (.tuple [.sl Sl.nil, .int .i64 n4]) h16
 else
 callS S i_spec_l05Shift [.sl x1, .int .i64 x2, .int .i64 x3] h16 fun s31 h30 =>
 K (.tuple [.sl s31, .int .i64 (0)]) h30
 else
 bif (n4 == (0)) then
 ldA p0 2 h3 fun cs32 =>
 callI S .i64 i_spec_l05Given [.agg cs32, .sl x1] h3 fun n34 h33 =>
 bif (n34 != (0)) then
 K (.tuple [.sl Sl.nil, .int .i64 n34]) h33
 else
 callS S i_spec_l05Shift [.sl x1, .int .i64 x2, .int .i64 x3] h33 fun s36 h35 =>
 K (.tuple [.sl s36, .int .i64 (0)]) h35
 else
 bif (n4 != (0)) then
 K (.tuple [.sl Sl.nil, .int .i64 n4]) h3
 else
 callS S i_spec_l05Shift [.sl x1, .int .i64 x2, .int .i64 x3] h3 fun s38 h37 =>
 K (.tuple [.sl s38, .int .i64 (0)]) h37
theorem spec_ShiftTorus_main_link (S : SatT) (K : AVal → H → Prop) (x0 : List AVal) (x1 : Sl) (x2 : Int) (x3 : Int) (h : H) : cwp S tab spec_ShiftTorus_M [] (bodyOf Try.f40) (kFun tab Try.f40.results.toList K) (fr0 Try.f40 [.agg x0, .sl x1, .int .i64 x2, .int .i64 x3]) h = spec_ShiftTorus_main S K x0 x1 x2 x3 h := by kernel_rfl
theorem spec_ShiftTorus_call (x0 : List AVal) (x1 : Sl) (x2 : Int) (x3 : Int) (h : H) (K : AVal → H → Prop) (hm : spec_ShiftTorus_main (Sat Try.prog) (fun v h' => K v h') x0 x1 x2 x3 h) : callV (Sat Try.prog) i_spec_ShiftTorus [.agg x0, .sl x1, .int .i64 x2, .int .i64 x3] h K := by
  have := Sat.ex tok mixed spec_ShiftTorus_M Try.func40 (c := bodyOf Try.f40) (by kernel_rfl) (calls_of Try.func40 (c := bodyOf Try.f40) (by kernel_rfl) (by decide)) ((spec_ShiftTorus_main_link _ _ x0 x1 x2 x3 h).mpr hm)
  exact this

/-! ### loop.example/g01354/laws.FnExactIsCylinder -/
def laws_FnExactIsCylinder_M : Nat → List Nat := fun i => []
def laws_FnExactIsCylinder_main (S : SatT) (K : AVal → H → Prop) (x0 : List AVal) (x1 : Sl) (h : H) : Prop :=
 newK 2 x0 h fun p0 h1 =>
 ldA p0 2 h1 fun cs2 =>
 callI S .i64 i_laws_szSet [.agg cs2, .int .i64 (1048576)] h1 fun n4 h3 =>
 bif (decide (n4 < (0))) then
 K (.bool true) h3
 else
 callI S .i64 i_laws_szInt64SS [.sl x1, .int .i64 n4] h3 fun n6 h5 =>
 bif (decide (n6 < (0))) then
 K (.bool true) h5
 else
 ldA p0 2 h5 fun cs7 =>
 callA S i_laws_toSet [.agg cs7] h5 fun cs9 h8 =>
 callS S i_laws_toInt64SS [.sl x1] h8 fun s11 h10 =>
 callV S i_spec_IsCylinder [.agg cs9, .sl s11] h10 fun v13 h12 =>
 viaT v13 fun vs14 =>
 exB vs14 0 fun b15 =>
 viaT v13 fun vs16 =>
 exI .i64 vs16 1 fun n17 =>
 ldA p0 2 h12 fun cs18 =>
 callA S i_laws_toSet [.agg cs18] h12 fun cs20 h19 =>
 newO [.int .i64 (0), .sl Sl.nil] h19 fun p21 h22 =>
 stN p21 2 cs20 h22 fun h23 =>
 callS S i_laws_toInt64SS [.sl x1] h23 fun s25 h24 =>
 ldA p21 2 h24 fun cs26 =>
 callV S i_impl_IsCylinder [.agg cs26, .sl s25] h24 fun v28 h27 =>
 viaT v28 fun vs29 =>
 exB vs29 0 fun b30 =>
 viaT v28 fun vs31 =>
 exI .i64 vs31 1 fun n32 =>
 bif (b30 != b15) then
 K (.bool false) h27
 else
 bif (n32 != n17) then
 K (.bool false) h27
 else
 ldA p21 2 h27 fun cs33 =>
 ldA p0 2 h27 fun cs34 =>
 callA S i_laws_toSet [.agg cs34] h27 fun cs36 h35 =>
(range h35 p21.o p21.n p21.off 2 = range h27 p21.o p21.n p21.off 2) ∧ (
 callB S i_laws_eqSet [.agg cs33, .agg cs36] h35 fun b38 h37 =>
 bif (!b38) then
 K (.bool false) h37
 else
 callS S i_laws_toInt64SS [.sl x1] h37 fun s40 h39 =>
 callB S i_laws_eqInt64SS [.sl s25, .sl s40] h39 fun b42 h41 =>
 bif (!b42) then
 K (.bool false) h41
 else
 K (.bool true) h41)
theorem laws_FnExactIsCylinder_main_link (S : SatT) (K : AVal → H → Prop) (x0 : List AVal) (x1 : Sl) (h : H) : cwp S tab laws_FnExactIsCylinder_M [] (bodyOf Try.f5) (kFun tab Try.f5.results.toList K) (fr0 Try.f5 [.agg x0, .sl x1]) h = laws_FnExactIsCylinder_main S K x0 x1 h := by kernel_rfl
theorem laws_FnExactIsCylinder_call (x0 : List AVal) (x1 : Sl) (h : H) (K : Bool → H → Prop) (hm : laws_FnExactIsCylinder_main (Sat Try.prog) (fun v h' => ∃ r, v = .bool r ∧ K r h') x0 x1 h) : callB (Sat Try.prog) i_laws_FnExactIsCylinder [.agg x0, .sl x1] h K := by
  have := Sat.ex tok mixed laws_FnExactIsCylinder_M Try.func5 (c := bodyOf Try.f5) (by kernel_rfl) (calls_of Try.func5 (c := bodyOf Try.f5) (by kernel_rfl) (by decide)) ((laws_FnExactIsCylinder_main_link _ _ x0 x1 h).mpr hm)
  obtain ⟨v, h2, h3, r, rfl, h4⟩ := this; exact ⟨r, h2, h3, h4⟩

/-! ### loop.example/g01354/laws.FnExactCountTori -/
def laws_FnExactCountTori_M : Nat → List Nat := fun i => []
def laws_FnExactCountTori_main (S : SatT) (K : AVal → H → Prop) (x0 : List AVal) (x1 : Int) (x2 : Int) (h : H) : Prop :=
 newK 2 x0 h fun p0 h1 =>
 ldA p0 2 h1 fun cs2 =>
 callI S .i64 i_laws_szSet [.agg cs2, .int .i64 (1048576)] h1 fun n4 h3 =>
 bif (decide (n4 < (0))) then
 K (.bool true) h3
 else
 ldA p0 2 h3 fun cs5 =>
 callA S i_laws_toSet [.agg cs5] h3 fun cs7 h6 =>
 callV S i_spec_CountTori [.agg cs7, .int .i64 x1, .int .i64 x2] h6 fun v9 h8 =>
 viaT v9 fun vs10 =>
 exI .i64 vs10 0 fun n11 =>
 viaT v9 fun vs12 =>
 exI .i64 vs12 1 fun n13 =>
 ldA p0 2 h8 fun cs14 =>
 callA S i_laws_toSet [.agg cs14] h8 fun cs16 h15 =>
 newO [.int .i64 (0), .sl Sl.nil] h15 fun p17 h18 =>
 stN p17 2 cs16 h18 fun h19 =>
 ldA p17 2 h19 fun cs20 =>
 callV S i_impl_CountTori [.agg cs20, .int .i64 x1, .int .i64 x2] h19 fun v22 h21 =>
 viaT v22 fun vs23 =>
 exI .i64 vs23 0 fun n24 =>
 viaT v22 fun vs25 =>
 exI .i64 vs25 1 fun n26 =>
 bif (n24 != n11) then
 K (.bool false) h21
 else
 bif (n26 != n13) then
 K (.bool false) h21
 else
 ldA p17 2 h21 fun cs27 =>
 ldA p0 2 h21 fun cs28 =>
 callA S i_laws_toSet [.agg cs28] h21 fun cs30 h29 =>
(range h29 p17.o p17.n p17.off 2 = range h21 p17.o p17.n p17.off 2) ∧ (
 callB S i_laws_eqSet [.agg cs27, .agg cs30] h29 fun b32 h31 =>
 bif (!b32) then
 K (.bool false) h31
 else
 K (.bool true) h31)
theorem laws_FnExactCountTori_main_link (S : SatT) (K : AVal → H → Prop) (x0 : List AVal) (x1 : Int) (x2 : Int) (h : H) : cwp S tab laws_FnExactCountTori_M [] (bodyOf Try.f4) (kFun tab Try.f4.results.toList K) (fr0 Try.f4 [.agg x0, .int .i64 x1, .int .i64 x2]) h = laws_FnExactCountTori_main S K x0 x1 x2 h := by kernel_rfl
theorem laws_FnExactCountTori_call (x0 : List AVal) (x1 : Int) (x2 : Int) (h : H) (K : Bool → H → Prop) (hm : laws_FnExactCountTori_main (Sat Try.prog) (fun v h' => ∃ r, v = .bool r ∧ K r h') x0 x1 x2 h) : callB (Sat Try.prog) i_laws_FnExactCountTori [.agg x0, .int .i64 x1, .int .i64 x2] h K := by
  have := Sat.ex tok mixed laws_FnExactCountTori_M Try.func4 (c := bodyOf Try.f4) (by kernel_rfl) (calls_of Try.func4 (c := bodyOf Try.f4) (by kernel_rfl) (by decide)) ((laws_FnExactCountTori_main_link _ _ x0 x1 x2 h).mpr hm)
  obtain ⟨v, h2, h3, r, rfl, h4⟩ := this; exact ⟨r, h2, h3, h4⟩

/-! ### loop.example/g01354/impl.FirstTorus -/
def impl_FirstTorus_M : Nat → List Nat := fun i => []
def impl_FirstTorus_main (S : SatT) (K : AVal → H → Prop) (x0 : List AVal) (x1 : Int) (x2 : Int) (h : H) : Prop :=
 newK 2 x0 h fun p0 h1 =>
 newO [.int .i64 x1] h1 fun p2 h3 =>
 newO [.int .i64 x2] h3 fun p4 h5 =>
 ldA p0 2 h5 fun cs6 =>
 callI S .i64 i_impl_setCode [.agg cs6, .func 83 [.ptr p2, .ptr p4]] h5 fun n8 h7 =>
 bif (n8 != (0)) then
 K (.tuple [.sl Sl.nil, .int .i64 n8]) h7
 else
 ldA p0 2 h7 fun cs9 =>
 ldI .i64 p2 h7 fun n10 =>
 ldI .i64 p4 h7 fun n11 =>
 callS S i_impl_Set_firstTorus [.agg cs9, .int .i64 n10, .int .i64 n11] h7 fun s13 h12 =>
 bif (isNilS s13) then
 K (.tuple [.sl Sl.nil, .int .i64 (4)]) h12
 else
 K (.tuple [.sl s13, .int .i64 (0)]) h12
theorem impl_FirstTorus_main_link (S : SatT) (K : AVal → H → Prop) (x0 : List AVal) (x1 : Int) (x2 : Int) (h : H) : cwp S tab impl_FirstTorus_M [] (bodyOf Try.f37) (kFun tab Try.f37.results.toList K) (fr0 Try.f37 [.agg x0, .int .i64 x1, .int .i64 x2]) h = impl_FirstTorus_main S K x0 x1 x2 h := by kernel_rfl
theorem impl_FirstTorus_call (x0 : List AVal) (x1 : Int) (x2 : Int) (h : H) (K : AVal → H → Prop) (hm : impl_FirstTorus_main (Sat Try.prog) (fun v h' => K v h') x0 x1 x2 h) : callV (Sat Try.prog) i_impl_FirstTorus [.agg x0, .int .i64 x1, .int .i64 x2] h K := by
  have := Sat.ex tok mixed impl_FirstTorus_M Try.func37 (c := bodyOf Try.f37) (by kernel_rfl) (calls_of Try.func37 (c := bodyOf Try.f37) (by kernel_rfl) (by decide)) ((impl_FirstTorus_main_link _ _ x0 x1 x2 h).mpr hm)
  exact this

/-! ### loop.example/g01354/impl.CountCylinders -/
def impl_CountCylinders_M : Nat → List Nat := fun i => []
def impl_CountCylinders_main (S : SatT) (K : AVal → H → Prop) (x0 : List AVal) (x1 : Int) (x2 : Int) (h : H) : Prop :=
 newK 2 x0 h fun p0 h1 =>
 newO [.int .i64 x1] h1 fun p2 h3 =>
 newO [.int .i64 x2] h3 fun p4 h5 =>
 ldA p0 2 h5 fun cs6 =>
 callI S .i64 i_impl_setCode [.agg cs6, .func 55 [.ptr p2, .ptr p4]] h5 fun n8 h7 =>
 bif (n8 != (0)) then
 K (.tuple [.int .i64 (0), .int .i64 n8]) h7
 else
 ldA p0 2 h7 fun cs9 =>
 ldI .i64 p4 h7 fun n10 =>
 callS S i_impl_Set_rounds [.agg cs9, .int .i64 n10] h7 fun s12 h11 =>
 False
theorem impl_CountCylinders_main_link (S : SatT) (K : AVal → H → Prop) (x0 : List AVal) (x1 : Int) (x2 : Int) (h : H) : cwp S tab impl_CountCylinders_M [] (bodyOf Try.f18) (kFun tab Try.f18.results.toList K) (fr0 Try.f18 [.agg x0, .int .i64 x1, .int .i64 x2]) h = impl_CountCylinders_main S K x0 x1 x2 h := by kernel_rfl
theorem impl_CountCylinders_call (x0 : List AVal) (x1 : Int) (x2 : Int) (h : H) (K : AVal → H → Prop) (hm : impl_CountCylinders_main (Sat Try.prog) (fun v h' => K v h') x0 x1 x2 h) : callV (Sat Try.prog) i_impl_CountCylinders [.agg x0, .int .i64 x1, .int .i64 x2] h K := by
  have := Sat.ex tok mixed impl_CountCylinders_M Try.func18 (c := bodyOf Try.f18) (by kernel_rfl) (calls_of Try.func18 (c := bodyOf Try.f18) (by kernel_rfl) (by decide)) ((impl_CountCylinders_main_link _ _ x0 x1 x2 h).mpr hm)
  exact this

/-! ### loop.example/g01354/impl.ShiftNumber -/
def impl_ShiftNumber_M : Nat → List Nat := fun i => []
def impl_ShiftNumber_main (S : SatT) (K : AVal → H → Prop) (x0 : List AVal) (x1 : Sl) (h : H) : Prop :=
 newK 2 x0 h fun p0 h1 =>
 ldA p0 2 h1 fun cs2 =>
 callI S .i64 i_impl_torusCode [.agg cs2, .sl x1] h1 fun n4 h3 =>
 bif (n4 != (0)) then
 K (.tuple [.int .i64 (0), .int .i64 n4]) h3
 else
 ixS x1 1 (0) fun p5 =>
 ldS p5 h3 fun s6 =>
 callS S i_impl_keeping [.sl x1] h3 fun s8 h7 =>
(cell h7 p5 = cell h3 p5) ∧ (
 nz (s8.len : Int) (
 K (.tuple [.int .i64 (w64 (Int.tdiv (w64 ((x1.len : Int) * (s6.len : Int))) (s8.len : Int))), .int .i64 (0)]) h7))
theorem impl_ShiftNumber_main_link (S : SatT) (K : AVal → H → Prop) (x0 : List AVal) (x1 : Sl) (h : H) : cwp S tab impl_ShiftNumber_M [] (bodyOf Try.f43) (kFun tab Try.f43.results.toList K) (fr0 Try.f43 [.agg x0, .sl x1]) h = impl_ShiftNumber_main S K x0 x1 h := by kernel_rfl
theorem impl_ShiftNumber_call (x0 : List AVal) (x1 : Sl) (h : H) (K : AVal → H → Prop) (hm : impl_ShiftNumber_main (Sat Try.prog) (fun v h' => K v h') x0 x1 h) : callV (Sat Try.prog) i_impl_ShiftNumber [.agg x0, .sl x1] h K := by
  have := Sat.ex tok mixed impl_ShiftNumber_M Try.func43 (c := bodyOf Try.f43) (by kernel_rfl) (calls_of Try.func43 (c := bodyOf Try.f43) (by kernel_rfl) (by decide)) ((impl_ShiftNumber_main_link _ _ x0 x1 h).mpr hm)
  exact this

/-! ### loop.example/g01354/impl.torusCode -/
def impl_torusCode_M : Nat → List Nat := fun i => []
def impl_torusCode_main (S : SatT) (K : AVal → H → Prop) (x0 : List AVal) (x1 : Sl) (h : H) : Prop :=
 newK 2 x0 h fun p0 h1 =>
 newO [.sl x1] h1 fun p2 h3 =>
 ldA p0 2 h3 fun cs4 =>
 callI S .i64 i_impl_setCode [.agg cs4, .func 122 [.ptr p0, .ptr p2]] h3 fun n6 h5 =>
 bif (n6 == (0)) then
 ldA p0 2 h5 fun cs7 =>
 ldS p2 h5 fun s8 =>
 callB S i_impl_Set_isTorus [.agg cs7, .sl s8] h5 fun b10 h9 =>
 bif (!b10) then
 K (.int .i64 (5)) h9
 else
 K (.int .i64 n6) h9
 else
 K (.int .i64 n6) h5
theorem impl_torusCode_main_link (S : SatT) (K : AVal → H → Prop) (x0 : List AVal) (x1 : Sl) (h : H) : cwp S tab impl_torusCode_M [] (bodyOf Try.f98) (kFun tab Try.f98.results.toList K) (fr0 Try.f98 [.agg x0, .sl x1]) h = impl_torusCode_main S K x0 x1 h := by kernel_rfl
theorem impl_torusCode_call (x0 : List AVal) (x1 : Sl) (h : H) (K : Int → H → Prop) (hm : impl_torusCode_main (Sat Try.prog) (fun v h' => ∃ r, v = .int .i64 r ∧ K r h') x0 x1 h) : callI (Sat Try.prog) .i64 i_impl_torusCode [.agg x0, .sl x1] h K := by
  have := Sat.ex tok mixed impl_torusCode_M Try.func98 (c := bodyOf Try.f98) (by kernel_rfl) (calls_of Try.func98 (c := bodyOf Try.f98) (by kernel_rfl) (by decide)) ((impl_torusCode_main_link _ _ x0 x1 h).mpr hm)
  obtain ⟨v, h2, h3, r, rfl, h4⟩ := this; exact ⟨r, h2, h3, h4⟩

/-! ### loop.example/g01354/impl.CountCylinders$1 -/
def impl_CountCylinders_1_M : Nat → List Nat := fun i => []
def impl_CountCylinders_1_main (S : SatT) (K : AVal → H → Prop) (x0 : Pt) (x1 : Pt) (h : H) : Prop :=
 ldI .i64 x0 h fun n0 =>
 callB S i_impl_within [.int .i64 n0, .int .i64 (1), .int .i64 (5)] h fun b2 h1 =>
 bif b2 then
 ldI .i64 x1 h1 fun n3 =>
 callB S i_impl_within [.int .i64 n3, .int .i64 (1), .int .i64 (3)] h1 fun b5 h4 =>
 K (.bool b5) h4
 else
 K (.bool false) h1
theorem impl_CountCylinders_1_main_link (S : SatT) (K : AVal → H → Prop) (x0 : Pt) (x1 : Pt) (h : H) : cwp S tab impl_CountCylinders_1_M [] (bodyOf Try.f55) (kFun tab Try.f55.results.toList K) (fr0 Try.f55 [.ptr x0, .ptr x1]) h = impl_CountCylinders_1_main S K x0 x1 h := by kernel_rfl
theorem impl_CountCylinders_1_call (x0 : Pt) (x1 : Pt) (h : H) (K : Bool → H → Prop) (hm : impl_CountCylinders_1_main (Sat Try.prog) (fun v h' => ∃ r, v = .bool r ∧ K r h') x0 x1 h) : callB (Sat Try.prog) i_impl_CountCylinders_1 [.ptr x0, .ptr x1] h K := by
  have := Sat.ex tok mixed impl_CountCylinders_1_M Try.func55 (c := bodyOf Try.f55) (by kernel_rfl) (calls_of Try.func55 (c := bodyOf Try.f55) (by kernel_rfl) (by decide)) ((impl_CountCylinders_1_main_link _ _ x0 x1 h).mpr hm)
  obtain ⟨v, h2, h3, r, rfl, h4⟩ := this; exact ⟨r, h2, h3, h4⟩

/-! ### loop.example/g01354/impl.IsTorus -/
def impl_IsTorus_M : Nat → List Nat := fun i => []
def impl_IsTorus_main (S : SatT) (K : AVal → H → Prop) (x0 : List AVal) (x1 : Sl) (h : H) : Prop :=
 newK 2 x0 h fun p0 h1 =>
 newO [.sl x1] h1 fun p2 h3 =>
 ldA p0 2 h3 fun cs4 =>
 callI S .i64 i_impl_setCode [.agg cs4, .func 74 [.ptr p0, .ptr p2]] h3 fun n6 h5 =>
 bif (n6 != (0)) then
 K (.tuple [.bool false, .int .i64 n6]) h5
 else
 ldA p0 2 h5 fun cs7 =>
 ldS p2 h5 fun s8 =>
 callB S i_impl_Set_isTorus [.agg cs7, .sl s8] h5 fun b10 h9 =>
 K (.tuple [.bool b10, .int .i64 (0)]) h9
theorem impl_IsTorus_main_link (S : SatT) (K : AVal → H → Prop) (x0 : List AVal) (x1 : Sl) (h : H) : cwp S tab impl_IsTorus_M [] (bodyOf Try.f28) (kFun tab Try.f28.results.toList K) (fr0 Try.f28 [.agg x0, .sl x1]) h = impl_IsTorus_main S K x0 x1 h := by kernel_rfl
theorem impl_IsTorus_call (x0 : List AVal) (x1 : Sl) (h : H) (K : AVal → H → Prop) (hm : impl_IsTorus_main (Sat Try.prog) (fun v h' => K v h') x0 x1 h) : callV (Sat Try.prog) i_impl_IsTorus [.agg x0, .sl x1] h K := by
  have := Sat.ex tok mixed impl_IsTorus_M Try.func28 (c := bodyOf Try.f28) (by kernel_rfl) (calls_of Try.func28 (c := bodyOf Try.f28) (by kernel_rfl) (by decide)) ((impl_IsTorus_main_link _ _ x0 x1 h).mpr hm)
  exact this

/-! ### loop.example/g01354/impl.setCode -/
def impl_setCode_M : Nat → List Nat := fun i => []
def impl_setCode_main (S : SatT) (K : AVal → H → Prop) (x0 : List AVal) (x1 : AVal) (h : H) : Prop :=
 newK 2 x0 h fun p0 h1 =>
 ldA p0 2 h1 fun cs2 =>
 callB S i_impl_IsSet [.agg cs2] h1 fun b4 h3 =>
 bif (!b4) then
 K (.int .i64 (1)) h3
 else
 viaF x1 [] fun g5 ys6 =>
 callB S g5 ys6 h3 fun b8 h7 =>
 bif (!b8) then
 K (.int .i64 (2)) h7
 else
 K (.int .i64 (0)) h7
theorem impl_setCode_main_link (S : SatT) (K : AVal → H → Prop) (x0 : List AVal) (x1 : AVal) (h : H) : cwp S tab impl_setCode_M [] (bodyOf Try.f54) (kFun tab Try.f54.results.toList K) (fr0 Try.f54 [.agg x0, x1]) h = impl_setCode_main S K x0 x1 h := by kernel_rfl
theorem impl_setCode_call (x0 : List AVal) (x1 : AVal) (h : H) (K : Int → H → Prop) (hm : impl_setCode_main (Sat Try.prog) (fun v h' => ∃ r, v = .int .i64 r ∧ K r h') x0 x1 h) : callI (Sat Try.prog) .i64 i_impl_setCode [.agg x0, x1] h K := by
  have := Sat.ex tok mixed impl_setCode_M Try.func54 (c := bodyOf Try.f54) (by kernel_rfl) (calls_of Try.func54 (c := bodyOf Try.f54) (by kernel_rfl) (by decide)) ((impl_setCode_main_link _ _ x0 x1 h).mpr hm)
  obtain ⟨v, h2, h3, r, rfl, h4⟩ := this; exact ⟨r, h2, h3, h4⟩

/-! ### loop.example/g01354/spec.ShiftsKept -/
def spec_ShiftsKept_M : Nat → List Nat := fun i => []
def spec_ShiftsKept_main (S : SatT) (K : AVal → H → Prop) (x0 : List AVal) (x1 : Sl) (h : H) : Prop :=
 newK 2 x0 h fun p0 h1 =>
 ldA p0 2 h1 fun cs2 =>
 callI S .i64 i_spec_l05Given [.agg cs2, .sl x1] h1 fun n4 h3 =>
 bif (n4 != (0)) then
 K (.tuple [.sl Sl.nil, .int .i64 n4]) h3
 else
 callS S i_spec_l05Kept [.sl x1] h3 fun s6 h5 =>
 K (.tuple [.sl s6, .int .i64 (0)]) h5
theorem spec_ShiftsKept_main_link (S : SatT) (K : AVal → H → Prop) (x0 : List AVal) (x1 : Sl) (h : H) : cwp S tab spec_ShiftsKept_M [] (bodyOf Try.f46) (kFun tab Try.f46.results.toList K) (fr0 Try.f46 [.agg x0, .sl x1]) h = spec_ShiftsKept_main S K x0 x1 h := by kernel_rfl
theorem spec_ShiftsKept_call (x0 : List AVal) (x1 : Sl) (h : H) (K : AVal → H → Prop) (hm : spec_ShiftsKept_main (Sat Try.prog) (fun v h' => K v h') x0 x1 h) : callV (Sat Try.prog) i_spec_ShiftsKept [.agg x0, .sl x1] h K := by
  have := Sat.ex tok mixed spec_ShiftsKept_M Try.func46 (c := bodyOf Try.f46) (by kernel_rfl) (calls_of Try.func46 (c := bodyOf Try.f46) (by kernel_rfl) (by decide)) ((spec_ShiftsKept_main_link _ _ x0 x1 h).mpr hm)
  exact this

/-! ### loop.example/g01354/laws.szSet -/
def laws_szSet_M : Nat → List Nat := fun i => []
def laws_szSet_main (S : SatT) (K : AVal → H → Prop) (x0 : List AVal) (x1 : Int) (h : H) : Prop :=
 newK 2 x0 h fun p0 h1 =>
 isPt p0 (
 ldS (Pt.add p0 1) h1 fun s2 =>
 callI S .i64 i_laws_szTileS [.sl s2, .int .i64 x1] h1 fun n4 h3 =>
 bif (decide (n4 < (0))) then
 K (.int .i64 (-1)) h3
 else
 K (.int .i64 n4) h3)
theorem laws_szSet_main_link (S : SatT) (K : AVal → H → Prop) (x0 : List AVal) (x1 : Int) (h : H) : cwp S tab laws_szSet_M [] (bodyOf Try.f15) (kFun tab Try.f15.results.toList K) (fr0 Try.f15 [.agg x0, .int .i64 x1]) h = laws_szSet_main S K x0 x1 h := by kernel_rfl
theorem laws_szSet_call (x0 : List AVal) (x1 : Int) (h : H) (K : Int → H → Prop) (hm : laws_szSet_main (Sat Try.prog) (fun v h' => ∃ r, v = .int .i64 r ∧ K r h') x0 x1 h) : callI (Sat Try.prog) .i64 i_laws_szSet [.agg x0, .int .i64 x1] h K := by
  have := Sat.ex tok mixed laws_szSet_M Try.func15 (c := bodyOf Try.f15) (by kernel_rfl) (calls_of Try.func15 (c := bodyOf Try.f15) (by kernel_rfl) (by decide)) ((laws_szSet_main_link _ _ x0 x1 h).mpr hm)
  obtain ⟨v, h2, h3, r, rfl, h4⟩ := this; exact ⟨r, h2, h3, h4⟩

/-! ### loop.example/g01354/impl.keeping -/
def impl_keeping_M : Nat → List Nat := fun i => []
def impl_keeping_main (S : SatT) (K : AVal → H → Prop) (x0 : Sl) (h : H) : Prop :=
 newO [.sl x0] h fun p0 h1 =>
 newS 0 1 [] h1 fun s2 h3 =>
 newO [.sl Sl.nil] h3 fun p4 h5 =>
 st1 p4 (.sl s2) h5 fun h6 =>
 ldS p0 h6 fun s7 =>
 callV S i_impl_shifts [.sl s7, .func 123 [.ptr p0, .ptr p4]] h6 fun v9 h8 =>
 ldS p4 h8 fun s10 =>
 K (.sl s10) h8
theorem impl_keeping_main_link (S : SatT) (K : AVal → H → Prop) (x0 : Sl) (h : H) : cwp S tab impl_keeping_M [] (bodyOf Try.f99) (kFun tab Try.f99.results.toList K) (fr0 Try.f99 [.sl x0]) h = impl_keeping_main S K x0 h := by kernel_rfl
theorem impl_keeping_call (x0 : Sl) (h : H) (K : Sl → H → Prop) (hm : impl_keeping_main (Sat Try.prog) (fun v h' => ∃ r, v = .sl r ∧ K r h') x0 h) : callS (Sat Try.prog) i_impl_keeping [.sl x0] h K := by
  have := Sat.ex tok mixed impl_keeping_M Try.func99 (c := bodyOf Try.f99) (by kernel_rfl) (calls_of Try.func99 (c := bodyOf Try.f99) (by kernel_rfl) (by decide)) ((impl_keeping_main_link _ _ x0 h).mpr hm)
  obtain ⟨v, h2, h3, r, rfl, h4⟩ := this; exact ⟨r, h2, h3, h4⟩

/-! ### loop.example/g01354/impl.compareRows -/
def impl_compareRows_M : Nat → List Nat := fun i => []
def impl_compareRows_main (S : SatT) (K : AVal → H → Prop) (x0 : Sl) (x1 : Sl) (h : H) : Prop :=
 callI S .i64 i_slices_CompareFunc_ss_int64_s_s_int64_s_int64_s_int64_ [.sl x0, .sl x1, .func 118 []] h fun n1 h0 =>
 K (.int .i64 n1) h0
theorem impl_compareRows_main_link (S : SatT) (K : AVal → H → Prop) (x0 : Sl) (x1 : Sl) (h : H) : cwp S tab impl_compareRows_M [] (bodyOf Try.f90) (kFun tab Try.f90.results.toList K) (fr0 Try.f90 [.sl x0, .sl x1]) h = impl_compareRows_main S K x0 x1 h := by kernel_rfl
theorem impl_compareRows_call (x0 : Sl) (x1 : Sl) (h : H) (K : Int → H → Prop) (hm : impl_compareRows_main (Sat Try.prog) (fun v h' => ∃ r, v = .int .i64 r ∧ K r h') x0 x1 h) : callI (Sat Try.prog) .i64 i_impl_compareRows [.sl x0, .sl x1] h K := by
  have := Sat.ex tok mixed impl_compareRows_M Try.func90 (c := bodyOf Try.f90) (by kernel_rfl) (calls_of Try.func90 (c := bodyOf Try.f90) (by kernel_rfl) (by decide)) ((impl_compareRows_main_link _ _ x0 x1 h).mpr hm)
  obtain ⟨v, h2, h3, r, rfl, h4⟩ := this; exact ⟨r, h2, h3, h4⟩

/-! ### loop.example/g01354/impl.torusCode$1 -/
def impl_torusCode_1_M : Nat → List Nat := fun i => []
def impl_torusCode_1_main (S : SatT) (K : AVal → H → Prop) (x0 : Pt) (x1 : Pt) (h : H) : Prop :=
 ldA x0 2 h fun cs0 =>
 ldS x1 h fun s1 =>
 callB S i_impl_Set_areNumbers [.agg cs0, .sl s1] h fun b3 h2 =>
 K (.bool b3) h2
theorem impl_torusCode_1_main_link (S : SatT) (K : AVal → H → Prop) (x0 : Pt) (x1 : Pt) (h : H) : cwp S tab impl_torusCode_1_M [] (bodyOf Try.f122) (kFun tab Try.f122.results.toList K) (fr0 Try.f122 [.ptr x0, .ptr x1]) h = impl_torusCode_1_main S K x0 x1 h := by kernel_rfl
theorem impl_torusCode_1_call (x0 : Pt) (x1 : Pt) (h : H) (K : Bool → H → Prop) (hm : impl_torusCode_1_main (Sat Try.prog) (fun v h' => ∃ r, v = .bool r ∧ K r h') x0 x1 h) : callB (Sat Try.prog) i_impl_torusCode_1 [.ptr x0, .ptr x1] h K := by
  have := Sat.ex tok mixed impl_torusCode_1_M Try.func122 (c := bodyOf Try.f122) (by kernel_rfl) (calls_of Try.func122 (c := bodyOf Try.f122) (by kernel_rfl) (by decide)) ((impl_torusCode_1_main_link _ _ x0 x1 h).mpr hm)
  obtain ⟨v, h2, h3, r, rfl, h4⟩ := this; exact ⟨r, h2, h3, h4⟩

/-! ### loop.example/g01354/laws.szInt64S -/
def laws_szInt64S_M : Nat → List Nat := fun i => []
def laws_szInt64S_main (S : SatT) (K : AVal → H → Prop) (x0 : Sl) (x1 : Int) (h : H) : Prop :=
 bif (decide ((w64 (x1 - (x0.len : Int))) < (0))) then
 K (.int .i64 (-1)) h
 else
 K (.int .i64 (w64 (x1 - (x0.len : Int)))) h
theorem laws_szInt64S_main_link (S : SatT) (K : AVal → H → Prop) (x0 : Sl) (x1 : Int) (h : H) : cwp S tab laws_szInt64S_M [] (bodyOf Try.f64) (kFun tab Try.f64.results.toList K) (fr0 Try.f64 [.sl x0, .int .i64 x1]) h = laws_szInt64S_main S K x0 x1 h := by kernel_rfl
theorem laws_szInt64S_call (x0 : Sl) (x1 : Int) (h : H) (K : Int → H → Prop) (hm : laws_szInt64S_main (Sat Try.prog) (fun v h' => ∃ r, v = .int .i64 r ∧ K r h') x0 x1 h) : callI (Sat Try.prog) .i64 i_laws_szInt64S [.sl x0, .int .i64 x1] h K := by
  have := Sat.ex tok mixed laws_szInt64S_M Try.func64 (c := bodyOf Try.f64) (by kernel_rfl) (calls_of Try.func64 (c := bodyOf Try.f64) (by kernel_rfl) (by decide)) ((laws_szInt64S_main_link _ _ x0 x1 h).mpr hm)
  obtain ⟨v, h2, h3, r, rfl, h4⟩ := this; exact ⟨r, h2, h3, h4⟩

/-! ### loop.example/g01354/impl.counted -/
def impl_counted_M : Nat → List Nat := fun i => []
def impl_counted_main (S : SatT) (K : AVal → H → Prop) (x0 : Int) (h : H) : Prop :=
 bif (decide (x0 > (1000000000000000))) then
 K (.tuple [.int .i64 (0), .int .i64 (3)]) h
 else
 K (.tuple [.int .i64 x0, .int .i64 (0)]) h
theorem impl_counted_main_link (S : SatT) (K : AVal → H → Prop) (x0 : Int) (h : H) : cwp S tab impl_counted_M [] (bodyOf Try.f58) (kFun tab Try.f58.results.toList K) (fr0 Try.f58 [.int .i64 x0]) h = impl_counted_main S K x0 h := by kernel_rfl
theorem impl_counted_call (x0 : Int) (h : H) (K : AVal → H → Prop) (hm : impl_counted_main (Sat Try.prog) (fun v h' => K v h') x0 h) : callV (Sat Try.prog) i_impl_counted [.int .i64 x0] h K := by
  have := Sat.ex tok mixed impl_counted_M Try.func58 (c := bodyOf Try.f58) (by kernel_rfl) (calls_of Try.func58 (c := bodyOf Try.f58) (by kernel_rfl) (by decide)) ((impl_counted_main_link _ _ x0 h).mpr hm)
  exact this

/-! ### cmp.isNaN[int64] -/
def cmp_isNaN_int64__M : Nat → List Nat := fun i => []
def cmp_isNaN_int64__main (S : SatT) (K : AVal → H → Prop) (x0 : Int) (h : H) : Prop :=
 K (.bool (x0 != x0)) h
theorem cmp_isNaN_int64__main_link (S : SatT) (K : AVal → H → Prop) (x0 : Int) (h : H) : cwp S tab cmp_isNaN_int64__M [] (bodyOf Try.f128) (kFun tab Try.f128.results.toList K) (fr0 Try.f128 [.int .i64 x0]) h = cmp_isNaN_int64__main S K x0 h := by kernel_rfl
theorem cmp_isNaN_int64__call (x0 : Int) (h : H) (K : Bool → H → Prop) (hm : cmp_isNaN_int64__main (Sat Try.prog) (fun v h' => ∃ r, v = .bool r ∧ K r h') x0 h) : callB (Sat Try.prog) i_cmp_isNaN_int64_ [.int .i64 x0] h K := by
  have := Sat.ex tok mixed cmp_isNaN_int64__M Try.func128 (c := bodyOf Try.f128) (by kernel_rfl) (calls_of Try.func128 (c := bodyOf Try.f128) (by kernel_rfl) (by decide)) ((cmp_isNaN_int64__main_link _ _ x0 h).mpr hm)
  obtain ⟨v, h2, h3, r, rfl, h4⟩ := this; exact ⟨r, h2, h3, h4⟩

end Go.Proofs.Ytfmjjpophipfbaa.Cl
