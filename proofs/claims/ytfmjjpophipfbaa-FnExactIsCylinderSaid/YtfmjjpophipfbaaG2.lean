/- Typed forms of functions of the program, and their links. Printed by program. No claim is stated here. -/
import Derived.Test.YtfmjjpophipfbaaGTab
set_option linter.unusedVariables false
namespace Go.Proofs.Ytfmjjpophipfbaa.Cl
open Go
/-! ### loop.example/g01354/spec.l05Paths -/
def spec_l05Paths_M : Nat → List Nat := fun i => bif i == 4 then [1, 2, 3, 4, 13, 15, 16] else bif i == 2 then [1, 2, 3, 4, 13] else bif i == 0 then [1, 2, 3, 4, 5, 13, 14] else []
def spec_l05Paths_ks2 (S : SatT) (K : AVal → H → Prop) : Kont := kSeq (cwp S tab spec_l05Paths_M [] (sub [1, 1, 1] (bodyOf Try.f51)) (kFun tab (Try.f51).results.toList K)) (kFun tab (Try.f51).results.toList K)
def spec_l05Paths_e0 (s1_ : Sl) (s2_ : Sl) (i3_ : Int) (i4_ : Int) (i5_ : Int) (s13_ : Sl) (i14_ : Int) : Frame := [U, .sl s1_, .sl s2_, .int .i64 i3_, .int .i64 i4_, .int .i64 i5_, U, U, U, U, U, U, U, .sl s13_, .int .i64 i14_, U, U, U, U, U, U, U, U, U, U, U, U, U, U, U, U, U, U, U, U, U, U, U, U, U, U, U, U, U, U, U, U, U, U, U, U, U, U, U, U, U, U, U, U, U, U, U, U, U, U, U, U, U, U, U]
def spec_l05Paths_w0 (S : SatT) (K : AVal → H → Prop) : (Frame → H → Prop) → Frame → H → Prop := fun X fr h => cwp S tab spec_l05Paths_M (spec_l05Paths_M 0) (sub [1, 1, 0, 1, 0, 0] (bodyOf Try.f51)) (kSeq (fun fr h => X (mask (spec_l05Paths_M 0) fr) h) (kBlk 0 (spec_l05Paths_ks2 S K))) fr h
def spec_l05Paths_L0 (S : SatT) (K : AVal → H → Prop) (s1_ : Sl) (s2_ : Sl) (i3_ : Int) (i4_ : Int) (i5_ : Int) (s13_ : Sl) (i14_ : Int) (h : H) : Prop := loopK (spec_l05Paths_w0 S K) (spec_l05Paths_e0 s1_ s2_ i3_ i4_ i5_ s13_ i14_) h
def spec_l05Paths_ks8 (S : SatT) (K : AVal → H → Prop) : Kont := kSeq (cwp S tab spec_l05Paths_M [] (sub [1, 1, 1, 1] (bodyOf Try.f51)) (kFun tab (Try.f51).results.toList K)) (kFun tab (Try.f51).results.toList K)
def spec_l05Paths_e2 (s1_ : Sl) (s2_ : Sl) (i3_ : Int) (i4_ : Int) (s13_ : Sl) : Frame := [U, .sl s1_, .sl s2_, .int .i64 i3_, .int .i64 i4_, U, U, U, U, U, U, U, U, .sl s13_, U, U, U, U, U, U, U, U, U, U, U, U, U, U, U, U, U, U, U, U, U, U, U, U, U, U, U, U, U, U, U, U, U, U, U, U, U, U, U, U, U, U, U, U, U, U, U, U, U, U, U, U, U, U, U, U]
def spec_l05Paths_w2 (S : SatT) (K : AVal → H → Prop) : (Frame → H → Prop) → Frame → H → Prop := fun X fr h => cwp S tab spec_l05Paths_M (spec_l05Paths_M 2) (sub [1, 1, 1, 0, 0, 0] (bodyOf Try.f51)) (kSeq (fun fr h => X (mask (spec_l05Paths_M 2) fr) h) (kBlk 2 (spec_l05Paths_ks8 S K))) fr h
def spec_l05Paths_L2 (S : SatT) (K : AVal → H → Prop) (s1_ : Sl) (s2_ : Sl) (i3_ : Int) (i4_ : Int) (s13_ : Sl) (h : H) : Prop := loopK (spec_l05Paths_w2 S K) (spec_l05Paths_e2 s1_ s2_ i3_ i4_ s13_) h
def spec_l05Paths_ks11 (S : SatT) (K : AVal → H → Prop) (X2 : Frame → H → Prop) : Kont := kSeq (cwp S tab spec_l05Paths_M (spec_l05Paths_M 2) (sub [1, 1, 1, 0, 0, 0, 1, 1] (bodyOf Try.f51)) (kSeq (fun fr h => X2 (mask (spec_l05Paths_M 2) fr) h) (kBlk 2 (spec_l05Paths_ks8 S K)))) (kSeq (fun fr h => X2 (mask (spec_l05Paths_M 2) fr) h) (kBlk 2 (spec_l05Paths_ks8 S K)))
def spec_l05Paths_ks13 (S : SatT) (K : AVal → H → Prop) (X2 : Frame → H → Prop) : Kont := kSeq (cwp S tab spec_l05Paths_M (spec_l05Paths_M 3) (sub [1, 1, 1, 0, 0, 0, 1, 0, 0, 1, 1] (bodyOf Try.f51)) (kBlk 3 (spec_l05Paths_ks11 S K X2))) (kBlk 3 (spec_l05Paths_ks11 S K X2))
def spec_l05Paths_e4 (s1_ : Sl) (s2_ : Sl) (i3_ : Int) (i4_ : Int) (s13_ : Sl) (s15_ : Sl) (i16_ : Int) : Frame := [U, .sl s1_, .sl s2_, .int .i64 i3_, .int .i64 i4_, U, U, U, U, U, U, U, U, .sl s13_, U, .sl s15_, .int .i64 i16_, U, U, U, U, U, U, U, U, U, U, U, U, U, U, U, U, U, U, U, U, U, U, U, U, U, U, U, U, U, U, U, U, U, U, U, U, U, U, U, U, U, U, U, U, U, U, U, U, U, U, U, U, U]
def spec_l05Paths_w4 (S : SatT) (K : AVal → H → Prop) (X2 : Frame → H → Prop) : (Frame → H → Prop) → Frame → H → Prop := fun X fr h => cwp S tab spec_l05Paths_M (spec_l05Paths_M 4) (sub [1, 1, 1, 0, 0, 0, 1, 0, 0, 1, 0, 1, 0, 0] (bodyOf Try.f51)) (kSeq (fun fr h => X (mask (spec_l05Paths_M 4) fr) h) (kBlk 4 (spec_l05Paths_ks13 S K X2))) fr h
def spec_l05Paths_L4 (S : SatT) (K : AVal → H → Prop) (X2 : Frame → H → Prop) (s1_ : Sl) (s2_ : Sl) (i3_ : Int) (i4_ : Int) (s13_ : Sl) (s15_ : Sl) (i16_ : Int) (h : H) : Prop := loopK (spec_l05Paths_w4 S K X2) (spec_l05Paths_e4 s1_ s2_ i3_ i4_ s13_ s15_ i16_) h
def spec_l05Paths_C3 (S : SatT) (K : AVal → H → Prop) (X2 : Frame → H → Prop) (s1_ : Sl) (s2_ : Sl) (i3_ : Int) (i4_ : Int) (s13_ : Sl) (h : H) : Prop :=
 X2 (spec_l05Paths_e2 s1_ s2_ i3_ (w64 (i4_ - (1))) s13_) h
def spec_l05Paths_C4 (S : SatT) (K : AVal → H → Prop) (X2 : Frame → H → Prop) (s1_ : Sl) (s2_ : Sl) (i3_ : Int) (i4_ : Int) (s15_ : Sl) (h : H) : Prop :=
 spec_l05Paths_C3 S K X2 s1_ s2_ i3_ i4_ s15_ h
def spec_l05Paths_b4 (S : SatT) (K : AVal → H → Prop) (X2 : Frame → H → Prop) (X4 : Frame → H → Prop) (s1_ : Sl) (s2_ : Sl) (i3_ : Int) (i4_ : Int) (s13_ : Sl) (s15_ : Sl) (i16_ : Int) (h : H) : Prop :=
 bif (decide (i16_ < (s1_.len : Int))) then
 ixS s1_ 1 i16_ fun p0 =>
 ldI .i64 p0 h fun n1 =>
 ixS s1_ 1 i16_ fun p2 =>
 ldI .i64 p2 h fun n3 =>
 ixS s15_ 1 n3 fun p4 =>
 ldI .i64 p4 h fun n5 =>
 ixS s2_ 1 i16_ fun p6 =>
 ldI .i64 p6 h fun n7 =>
 ixS s13_ 1 n7 fun p8 =>
 ldI .i64 p8 h fun n9 =>
 ixS s15_ 1 n1 fun p10 =>
 st1 p10 (.int .i64 (mnI (w64 (n5 + n9)) (1000000000000001))) h fun h11 =>
 X4 (spec_l05Paths_e4 s1_ s2_ i3_ i4_ s13_ s15_ (w64 (i16_ + (1)))) h11
 else
 spec_l05Paths_C4 S K X2 s1_ s2_ i3_ i4_ s15_ h
theorem spec_l05Paths_link4 (S : SatT) (K : AVal → H → Prop) (X2 : Frame → H → Prop) (X4 : Frame → H → Prop) (s1_ : Sl) (s2_ : Sl) (i3_ : Int) (i4_ : Int) (s13_ : Sl) (s15_ : Sl) (i16_ : Int) (h : H) : spec_l05Paths_w4 S K X2 X4 (spec_l05Paths_e4 s1_ s2_ i3_ i4_ s13_ s15_ i16_) h = spec_l05Paths_b4 S K X2 X4 s1_ s2_ i3_ i4_ s13_ s15_ i16_ h := by kernel_rfl
theorem spec_l05Paths_rule4 (S : SatT) (K : AVal → H → Prop) (X2 : Frame → H → Prop) (s1_ : Sl) (s2_ : Sl) (i3_ : Int) (i4_ : Int) (s13_ : Sl) (s15_ : Sl) (I_ : Int → H → Prop) (m_ : Int → H → Nat)
    (hs : ∀ (X4 : Frame → H → Prop) (i16_ : Int) (h : H), I_ i16_ h → (∀ (i16_' : Int) (h' : H), I_ i16_' h' → m_ i16_' h' < m_ i16_ h → X4 (spec_l05Paths_e4 s1_ s2_ i3_ i4_ s13_ s15_ i16_') h') → spec_l05Paths_b4 S K X2 X4 s1_ s2_ i3_ i4_ s13_ s15_ i16_ h) (i16_ : Int) {h : H} (h0 : I_ i16_ h) : spec_l05Paths_L4 S K X2 s1_ s2_ i3_ i4_ s13_ s15_ i16_ h :=
  loop_rule (σ := (Int)) (fun s_ => spec_l05Paths_e4 s1_ s2_ i3_ i4_ s13_ s15_ (s_)) (fun s_ h => I_ (s_) h) (fun s_ h => m_ (s_) h)
    (fun X s_ h hi hx => (spec_l05Paths_link4 S K X2 X s1_ s2_ i3_ i4_ s13_ s15_ (s_) h).mpr (hs X (s_) h hi fun i16_' h' hi' hm' => hx (i16_') h' hi' hm')) (i16_) h0
theorem spec_l05Paths_unroll4 (S : SatT) (K : AVal → H → Prop) (X2 : Frame → H → Prop) (s1_ : Sl) (s2_ : Sl) (i3_ : Int) (i4_ : Int) (s13_ : Sl) (s15_ : Sl) (i16_ : Int) (h : H) (hb : spec_l05Paths_b4 S K X2 (fun fr h => loopK (spec_l05Paths_w4 S K X2) fr h) s1_ s2_ i3_ i4_ s13_ s15_ i16_ h) : spec_l05Paths_L4 S K X2 s1_ s2_ i3_ i4_ s13_ s15_ i16_ h := loop_unroll ((spec_l05Paths_link4 S K X2 _ s1_ s2_ i3_ i4_ s13_ s15_ i16_ h).mpr hb)
def spec_l05Paths_C2 (S : SatT) (K : AVal → H → Prop) (s13_ : Sl) (h : H) : Prop :=
 K (.sl s13_) h
def spec_l05Paths_b2 (S : SatT) (K : AVal → H → Prop) (X2 : Frame → H → Prop) (s1_ : Sl) (s2_ : Sl) (i3_ : Int) (i4_ : Int) (s13_ : Sl) (h : H) : Prop :=
 bif (decide (i4_ > (0))) then
 mkS i3_ [.int .i64 (0)] h fun s0 h1 =>
 spec_l05Paths_L4 S K X2 s1_ s2_ i3_ i4_ s13_ s0 (0) h1
 else
 spec_l05Paths_C2 S K s13_ h
theorem spec_l05Paths_link2 (S : SatT) (K : AVal → H → Prop) (X2 : Frame → H → Prop) (s1_ : Sl) (s2_ : Sl) (i3_ : Int) (i4_ : Int) (s13_ : Sl) (h : H) : spec_l05Paths_w2 S K X2 (spec_l05Paths_e2 s1_ s2_ i3_ i4_ s13_) h = spec_l05Paths_b2 S K X2 s1_ s2_ i3_ i4_ s13_ h := by kernel_rfl
theorem spec_l05Paths_rule2 (S : SatT) (K : AVal → H → Prop) (s1_ : Sl) (s2_ : Sl) (i3_ : Int) (I_ : Int → Sl → H → Prop) (m_ : Int → Sl → H → Nat)
    (hs : ∀ (X2 : Frame → H → Prop) (i4_ : Int) (s13_ : Sl) (h : H), I_ i4_ s13_ h → (∀ (i4_' : Int) (s13_' : Sl) (h' : H), I_ i4_' s13_' h' → m_ i4_' s13_' h' < m_ i4_ s13_ h → X2 (spec_l05Paths_e2 s1_ s2_ i3_ i4_' s13_') h') → spec_l05Paths_b2 S K X2 s1_ s2_ i3_ i4_ s13_ h) (i4_ : Int) (s13_ : Sl) {h : H} (h0 : I_ i4_ s13_ h) : spec_l05Paths_L2 S K s1_ s2_ i3_ i4_ s13_ h :=
  loop_rule (σ := (Int) × (Sl)) (fun s_ => spec_l05Paths_e2 s1_ s2_ i3_ (s_.1) (s_.2)) (fun s_ h => I_ (s_.1) (s_.2) h) (fun s_ h => m_ (s_.1) (s_.2) h)
    (fun X s_ h hi hx => (spec_l05Paths_link2 S K X s1_ s2_ i3_ (s_.1) (s_.2) h).mpr (hs X (s_.1) (s_.2) h hi fun i4_' s13_' h' hi' hm' => hx (i4_', s13_') h' hi' hm')) (i4_, s13_) h0
theorem spec_l05Paths_unroll2 (S : SatT) (K : AVal → H → Prop) (s1_ : Sl) (s2_ : Sl) (i3_ : Int) (i4_ : Int) (s13_ : Sl) (h : H) (hb : spec_l05Paths_b2 S K (fun fr h => loopK (spec_l05Paths_w2 S K) fr h) s1_ s2_ i3_ i4_ s13_ h) : spec_l05Paths_L2 S K s1_ s2_ i3_ i4_ s13_ h := loop_unroll ((spec_l05Paths_link2 S K _ s1_ s2_ i3_ i4_ s13_ h).mpr hb)
def spec_l05Paths_C0 (S : SatT) (K : AVal → H → Prop) (s1_ : Sl) (s2_ : Sl) (i3_ : Int) (i4_ : Int) (s13_ : Sl) (h : H) : Prop :=
 spec_l05Paths_L2 S K s1_ s2_ i3_ i4_ s13_ h
def spec_l05Paths_b0 (S : SatT) (K : AVal → H → Prop) (X0 : Frame → H → Prop) (s1_ : Sl) (s2_ : Sl) (i3_ : Int) (i4_ : Int) (i5_ : Int) (s13_ : Sl) (i14_ : Int) (h : H) : Prop :=
 bif (decide (i14_ < i3_)) then
 bif (decide (i5_ < (0))) then
 ixS s13_ 1 i14_ fun p0 =>
 st1 p0 (.int .i64 (1)) h fun h1 =>
 X0 (spec_l05Paths_e0 s1_ s2_ i3_ i4_ i5_ s13_ (w64 (i14_ + (1)))) h1
 else
 bif (i14_ == i5_) then
 ixS s13_ 1 i14_ fun p2 =>
 st1 p2 (.int .i64 (1)) h fun h3 =>
 X0 (spec_l05Paths_e0 s1_ s2_ i3_ i4_ i5_ s13_ (w64 (i14_ + (1)))) h3
 else
 X0 (spec_l05Paths_e0 s1_ s2_ i3_ i4_ i5_ s13_ (w64 (i14_ + (1)))) h
 else
 spec_l05Paths_C0 S K s1_ s2_ i3_ i4_ s13_ h
theorem spec_l05Paths_link0 (S : SatT) (K : AVal → H → Prop) (X0 : Frame → H → Prop) (s1_ : Sl) (s2_ : Sl) (i3_ : Int) (i4_ : Int) (i5_ : Int) (s13_ : Sl) (i14_ : Int) (h : H) : spec_l05Paths_w0 S K X0 (spec_l05Paths_e0 s1_ s2_ i3_ i4_ i5_ s13_ i14_) h = spec_l05Paths_b0 S K X0 s1_ s2_ i3_ i4_ i5_ s13_ i14_ h := by kernel_rfl
theorem spec_l05Paths_rule0 (S : SatT) (K : AVal → H → Prop) (s1_ : Sl) (s2_ : Sl) (i3_ : Int) (i4_ : Int) (i5_ : Int) (s13_ : Sl) (I_ : Int → H → Prop) (m_ : Int → H → Nat)
    (hs : ∀ (X0 : Frame → H → Prop) (i14_ : Int) (h : H), I_ i14_ h → (∀ (i14_' : Int) (h' : H), I_ i14_' h' → m_ i14_' h' < m_ i14_ h → X0 (spec_l05Paths_e0 s1_ s2_ i3_ i4_ i5_ s13_ i14_') h') → spec_l05Paths_b0 S K X0 s1_ s2_ i3_ i4_ i5_ s13_ i14_ h) (i14_ : Int) {h : H} (h0 : I_ i14_ h) : spec_l05Paths_L0 S K s1_ s2_ i3_ i4_ i5_ s13_ i14_ h :=
  loop_rule (σ := (Int)) (fun s_ => spec_l05Paths_e0 s1_ s2_ i3_ i4_ i5_ s13_ (s_)) (fun s_ h => I_ (s_) h) (fun s_ h => m_ (s_) h)
    (fun X s_ h hi hx => (spec_l05Paths_link0 S K X s1_ s2_ i3_ i4_ i5_ s13_ (s_) h).mpr (hs X (s_) h hi fun i14_' h' hi' hm' => hx (i14_') h' hi' hm')) (i14_) h0
theorem spec_l05Paths_unroll0 (S : SatT) (K : AVal → H → Prop) (s1_ : Sl) (s2_ : Sl) (i3_ : Int) (i4_ : Int) (i5_ : Int) (s13_ : Sl) (i14_ : Int) (h : H) (hb : spec_l05Paths_b0 S K (fun fr h => loopK (spec_l05Paths_w0 S K) fr h) s1_ s2_ i3_ i4_ i5_ s13_ i14_ h) : spec_l05Paths_L0 S K s1_ s2_ i3_ i4_ i5_ s13_ i14_ h := loop_unroll ((spec_l05Paths_link0 S K _ s1_ s2_ i3_ i4_ i5_ s13_ i14_ h).mpr hb)
def spec_l05Paths_main (S : SatT) (K : AVal → H → Prop) (x0 : List AVal) (x1 : Sl) (x2 : Sl) (x3 : Int) (x4 : Int) (x5 : Int) (h : H) : Prop :=
 newK 2 x0 h fun p0 h1 =>
 mkS x3 [.int .i64 (0)] h1 fun s2 h3 =>
 spec_l05Paths_L0 S K x1 x2 x3 x4 x5 s2 (0) h3
theorem spec_l05Paths_main_link (S : SatT) (K : AVal → H → Prop) (x0 : List AVal) (x1 : Sl) (x2 : Sl) (x3 : Int) (x4 : Int) (x5 : Int) (h : H) : cwp S tab spec_l05Paths_M [] (bodyOf Try.f51) (kFun tab Try.f51.results.toList K) (fr0 Try.f51 [.agg x0, .sl x1, .sl x2, .int .i64 x3, .int .i64 x4, .int .i64 x5]) h = spec_l05Paths_main S K x0 x1 x2 x3 x4 x5 h := by kernel_rfl
theorem spec_l05Paths_call (x0 : List AVal) (x1 : Sl) (x2 : Sl) (x3 : Int) (x4 : Int) (x5 : Int) (h : H) (K : Sl → H → Prop) (hm : spec_l05Paths_main (Sat Try.prog) (fun v h' => ∃ r, v = .sl r ∧ K r h') x0 x1 x2 x3 x4 x5 h) : callS (Sat Try.prog) i_spec_l05Paths [.agg x0, .sl x1, .sl x2, .int .i64 x3, .int .i64 x4, .int .i64 x5] h K := by
  have := Sat.ex tok mixed spec_l05Paths_M Try.func51 (c := bodyOf Try.f51) (by kernel_rfl) (calls_of Try.func51 (c := bodyOf Try.f51) (by kernel_rfl) (by decide)) ((spec_l05Paths_main_link _ _ x0 x1 x2 x3 x4 x5 h).mpr hm)
  obtain ⟨v, h2, h3, r, rfl, h4⟩ := this; exact ⟨r, h2, h3, h4⟩

/-! ### loop.example/g01354/spec.l05Count -/
def spec_l05Count_M : Nat → List Nat := fun i => bif i == 2 then [1, 3, 8, 9, 10, 11, 12, 13, 14] else bif i == 0 then [1, 3, 8, 9, 10, 11, 12] else []
def spec_l05Count_ks3 (S : SatT) (K : AVal → H → Prop) : Kont := kSeq (cwp S tab spec_l05Count_M [] (sub [1, 1, 1, 1] (bodyOf Try.f60)) (kFun tab (Try.f60).results.toList K)) (kFun tab (Try.f60).results.toList K)
def spec_l05Count_e0 (i1_ : Int) (p3_ : Pt) (s8_ : Sl) (s9_ : Sl) (i10_ : Int) (i11_ : Int) (i12_ : Int) : Frame := [U, .int .i64 i1_, U, .ptr p3_, U, U, U, U, .sl s8_, .sl s9_, .int .i64 i10_, .int .i64 i11_, .int .i64 i12_, U, U, U, U, U, U, U, U, U, U, U, U, U, U, U, U, U, U, U, U, U, U, U, U, U, U, U, U, U, U, U, U, U, U, U, U, U, U, U, U, U, U, U, U, U, U, U]
def spec_l05Count_w0 (S : SatT) (K : AVal → H → Prop) : (Frame → H → Prop) → Frame → H → Prop := fun X fr h => cwp S tab spec_l05Count_M (spec_l05Count_M 0) (sub [1, 1, 1, 0, 1, 0, 0] (bodyOf Try.f60)) (kSeq (fun fr h => X (mask (spec_l05Count_M 0) fr) h) (kBlk 0 (spec_l05Count_ks3 S K))) fr h
def spec_l05Count_L0 (S : SatT) (K : AVal → H → Prop) (i1_ : Int) (p3_ : Pt) (s8_ : Sl) (s9_ : Sl) (i10_ : Int) (i11_ : Int) (i12_ : Int) (h : H) : Prop := loopK (spec_l05Count_w0 S K) (spec_l05Count_e0 i1_ p3_ s8_ s9_ i10_ i11_ i12_) h
def spec_l05Count_ks7 (S : SatT) (K : AVal → H → Prop) (X0 : Frame → H → Prop) : Kont := kSeq (cwp S tab spec_l05Count_M (spec_l05Count_M 0) (sub [1, 1, 1, 0, 1, 0, 0, 1, 1] (bodyOf Try.f60)) (kSeq (fun fr h => X0 (mask (spec_l05Count_M 0) fr) h) (kBlk 0 (spec_l05Count_ks3 S K)))) (kSeq (fun fr h => X0 (mask (spec_l05Count_M 0) fr) h) (kBlk 0 (spec_l05Count_ks3 S K)))
def spec_l05Count_ks9 (S : SatT) (K : AVal → H → Prop) (X0 : Frame → H → Prop) : Kont := kSeq (cwp S tab spec_l05Count_M (spec_l05Count_M 1) (sub [1, 1, 1, 0, 1, 0, 0, 1, 0, 0, 1, 1] (bodyOf Try.f60)) (kBlk 1 (spec_l05Count_ks7 S K X0))) (kBlk 1 (spec_l05Count_ks7 S K X0))
def spec_l05Count_e2 (i1_ : Int) (p3_ : Pt) (s8_ : Sl) (s9_ : Sl) (i10_ : Int) (i11_ : Int) (i12_ : Int) (b13_ : Bool) (i14_ : Int) : Frame := [U, .int .i64 i1_, U, .ptr p3_, U, U, U, U, .sl s8_, .sl s9_, .int .i64 i10_, .int .i64 i11_, .int .i64 i12_, .bool b13_, .int .i64 i14_, U, U, U, U, U, U, U, U, U, U, U, U, U, U, U, U, U, U, U, U, U, U, U, U, U, U, U, U, U, U, U, U, U, U, U, U, U, U, U, U, U, U, U, U, U]
def spec_l05Count_w2 (S : SatT) (K : AVal → H → Prop) (X0 : Frame → H → Prop) : (Frame → H → Prop) → Frame → H → Prop := fun X fr h => cwp S tab spec_l05Count_M (spec_l05Count_M 2) (sub [1, 1, 1, 0, 1, 0, 0, 1, 0, 0, 1, 0, 1, 0, 0] (bodyOf Try.f60)) (kSeq (fun fr h => X (mask (spec_l05Count_M 2) fr) h) (kBlk 2 (spec_l05Count_ks9 S K X0))) fr h
def spec_l05Count_L2 (S : SatT) (K : AVal → H → Prop) (X0 : Frame → H → Prop) (i1_ : Int) (p3_ : Pt) (s8_ : Sl) (s9_ : Sl) (i10_ : Int) (i11_ : Int) (i12_ : Int) (b13_ : Bool) (i14_ : Int) (h : H) : Prop := loopK (spec_l05Count_w2 S K X0) (spec_l05Count_e2 i1_ p3_ s8_ s9_ i10_ i11_ i12_ b13_ i14_) h
def spec_l05Count_C1 (S : SatT) (K : AVal → H → Prop) (X0 : Frame → H → Prop) (i1_ : Int) (p3_ : Pt) (s8_ : Sl) (s9_ : Sl) (i10_ : Int) (i11_ : Int) (i12_ : Int) (h : H) : Prop :=
 X0 (spec_l05Count_e0 i1_ p3_ s8_ s9_ i10_ i11_ (w64 (i12_ + (1)))) h
def spec_l05Count_C2 (S : SatT) (K : AVal → H → Prop) (X0 : Frame → H → Prop) (i1_ : Int) (p3_ : Pt) (s8_ : Sl) (s9_ : Sl) (i10_ : Int) (i11_ : Int) (i12_ : Int) (b13_ : Bool) (h : H) : Prop :=
 bif b13_ then
 ldA p3_ 2 h fun cs0 =>
 callS S i_spec_l05Paths [.agg cs0, .sl s8_, .sl s9_, .int .i64 i10_, .int .i64 i1_, .int .i64 i12_] h fun s2 h1 =>
 ixS s2 1 i12_ fun p3 =>
 ldI .i64 p3 h1 fun n4 =>
 spec_l05Count_C1 S K X0 i1_ p3_ s8_ s9_ i10_ (w64 (i11_ + n4)) i12_ h1
 else
 spec_l05Count_C1 S K X0 i1_ p3_ s8_ s9_ i10_ i11_ i12_ h
def spec_l05Count_b2 (S : SatT) (K : AVal → H → Prop) (X0 : Frame → H → Prop) (X2 : Frame → H → Prop) (i1_ : Int) (p3_ : Pt) (s8_ : Sl) (s9_ : Sl) (i10_ : Int) (i11_ : Int) (i12_ : Int) (b13_ : Bool) (i14_ : Int) (h : H) : Prop :=
 bif (decide (i14_ < (s8_.len : Int))) then
 bif b13_ then
 X2 (spec_l05Count_e2 i1_ p3_ s8_ s9_ i10_ i11_ i12_ true (w64 (i14_ + (1)))) h
 else
 ixS s8_ 1 i14_ fun p0 =>
 ldI .i64 p0 h fun n1 =>
 X2 (spec_l05Count_e2 i1_ p3_ s8_ s9_ i10_ i11_ i12_ (n1 == i12_) (w64 (i14_ + (1)))) h
 else
 spec_l05Count_C2 S K X0 i1_ p3_ s8_ s9_ i10_ i11_ i12_ b13_ h
theorem spec_l05Count_link2 (S : SatT) (K : AVal → H → Prop) (X0 : Frame → H → Prop) (X2 : Frame → H → Prop) (i1_ : Int) (p3_ : Pt) (s8_ : Sl) (s9_ : Sl) (i10_ : Int) (i11_ : Int) (i12_ : Int) (b13_ : Bool) (i14_ : Int) (h : H) : spec_l05Count_w2 S K X0 X2 (spec_l05Count_e2 i1_ p3_ s8_ s9_ i10_ i11_ i12_ b13_ i14_) h = spec_l05Count_b2 S K X0 X2 i1_ p3_ s8_ s9_ i10_ i11_ i12_ b13_ i14_ h := by kernel_rfl
theorem spec_l05Count_rule2 (S : SatT) (K : AVal → H → Prop) (X0 : Frame → H → Prop) (i1_ : Int) (p3_ : Pt) (s8_ : Sl) (s9_ : Sl) (i10_ : Int) (i11_ : Int) (i12_ : Int) (I_ : Bool → Int → H → Prop) (m_ : Bool → Int → H → Nat)
    (hs : ∀ (X2 : Frame → H → Prop) (b13_ : Bool) (i14_ : Int) (h : H), I_ b13_ i14_ h → (∀ (b13_' : Bool) (i14_' : Int) (h' : H), I_ b13_' i14_' h' → m_ b13_' i14_' h' < m_ b13_ i14_ h → X2 (spec_l05Count_e2 i1_ p3_ s8_ s9_ i10_ i11_ i12_ b13_' i14_') h') → spec_l05Count_b2 S K X0 X2 i1_ p3_ s8_ s9_ i10_ i11_ i12_ b13_ i14_ h) (b13_ : Bool) (i14_ : Int) {h : H} (h0 : I_ b13_ i14_ h) : spec_l05Count_L2 S K X0 i1_ p3_ s8_ s9_ i10_ i11_ i12_ b13_ i14_ h :=
  loop_rule (σ := (Bool) × (Int)) (fun s_ => spec_l05Count_e2 i1_ p3_ s8_ s9_ i10_ i11_ i12_ (s_.1) (s_.2)) (fun s_ h => I_ (s_.1) (s_.2) h) (fun s_ h => m_ (s_.1) (s_.2) h)
    (fun X s_ h hi hx => (spec_l05Count_link2 S K X0 X i1_ p3_ s8_ s9_ i10_ i11_ i12_ (s_.1) (s_.2) h).mpr (hs X (s_.1) (s_.2) h hi fun b13_' i14_' h' hi' hm' => hx (b13_', i14_') h' hi' hm')) (b13_, i14_) h0
theorem spec_l05Count_unroll2 (S : SatT) (K : AVal → H → Prop) (X0 : Frame → H → Prop) (i1_ : Int) (p3_ : Pt) (s8_ : Sl) (s9_ : Sl) (i10_ : Int) (i11_ : Int) (i12_ : Int) (b13_ : Bool) (i14_ : Int) (h : H) (hb : spec_l05Count_b2 S K X0 (fun fr h => loopK (spec_l05Count_w2 S K X0) fr h) i1_ p3_ s8_ s9_ i10_ i11_ i12_ b13_ i14_ h) : spec_l05Count_L2 S K X0 i1_ p3_ s8_ s9_ i10_ i11_ i12_ b13_ i14_ h := loop_unroll ((spec_l05Count_link2 S K X0 _ i1_ p3_ s8_ s9_ i10_ i11_ i12_ b13_ i14_ h).mpr hb)
def spec_l05Count_C0 (S : SatT) (K : AVal → H → Prop) (i11_ : Int) (h : H) : Prop :=
 K (.int .i64 i11_) h
def spec_l05Count_b0 (S : SatT) (K : AVal → H → Prop) (X0 : Frame → H → Prop) (i1_ : Int) (p3_ : Pt) (s8_ : Sl) (s9_ : Sl) (i10_ : Int) (i11_ : Int) (i12_ : Int) (h : H) : Prop :=
 bif (decide (i12_ < i10_)) then
 spec_l05Count_L2 S K X0 i1_ p3_ s8_ s9_ i10_ i11_ i12_ false (0) h
 else
 spec_l05Count_C0 S K i11_ h
theorem spec_l05Count_link0 (S : SatT) (K : AVal → H → Prop) (X0 : Frame → H → Prop) (i1_ : Int) (p3_ : Pt) (s8_ : Sl) (s9_ : Sl) (i10_ : Int) (i11_ : Int) (i12_ : Int) (h : H) : spec_l05Count_w0 S K X0 (spec_l05Count_e0 i1_ p3_ s8_ s9_ i10_ i11_ i12_) h = spec_l05Count_b0 S K X0 i1_ p3_ s8_ s9_ i10_ i11_ i12_ h := by kernel_rfl
theorem spec_l05Count_rule0 (S : SatT) (K : AVal → H → Prop) (i1_ : Int) (p3_ : Pt) (s8_ : Sl) (s9_ : Sl) (i10_ : Int) (I_ : Int → Int → H → Prop) (m_ : Int → Int → H → Nat)
    (hs : ∀ (X0 : Frame → H → Prop) (i11_ : Int) (i12_ : Int) (h : H), I_ i11_ i12_ h → (∀ (i11_' : Int) (i12_' : Int) (h' : H), I_ i11_' i12_' h' → m_ i11_' i12_' h' < m_ i11_ i12_ h → X0 (spec_l05Count_e0 i1_ p3_ s8_ s9_ i10_ i11_' i12_') h') → spec_l05Count_b0 S K X0 i1_ p3_ s8_ s9_ i10_ i11_ i12_ h) (i11_ : Int) (i12_ : Int) {h : H} (h0 : I_ i11_ i12_ h) : spec_l05Count_L0 S K i1_ p3_ s8_ s9_ i10_ i11_ i12_ h :=
  loop_rule (σ := (Int) × (Int)) (fun s_ => spec_l05Count_e0 i1_ p3_ s8_ s9_ i10_ (s_.1) (s_.2)) (fun s_ h => I_ (s_.1) (s_.2) h) (fun s_ h => m_ (s_.1) (s_.2) h)
    (fun X s_ h hi hx => (spec_l05Count_link0 S K X i1_ p3_ s8_ s9_ i10_ (s_.1) (s_.2) h).mpr (hs X (s_.1) (s_.2) h hi fun i11_' i12_' h' hi' hm' => hx (i11_', i12_') h' hi' hm')) (i11_, i12_) h0
theorem spec_l05Count_unroll0 (S : SatT) (K : AVal → H → Prop) (i1_ : Int) (p3_ : Pt) (s8_ : Sl) (s9_ : Sl) (i10_ : Int) (i11_ : Int) (i12_ : Int) (h : H) (hb : spec_l05Count_b0 S K (fun fr h => loopK (spec_l05Count_w0 S K) fr h) i1_ p3_ s8_ s9_ i10_ i11_ i12_ h) : spec_l05Count_L0 S K i1_ p3_ s8_ s9_ i10_ i11_ i12_ h := loop_unroll ((spec_l05Count_link0 S K _ i1_ p3_ s8_ s9_ i10_ i11_ i12_ h).mpr hb)
def spec_l05Count_main (S : SatT) (K : AVal → H → Prop) (x0 : List AVal) (x1 : Int) (x2 : Int) (h : H) : Prop :=
 newK 2 x0 h fun p0 h1 =>
 ldA p0 2 h1 fun cs2 =>
 callV S i_spec_l05Words [.agg cs2, .int .i64 x2] h1 fun v4 h3 =>
 viaT v4 fun vs5 =>
 exS vs5 0 fun s6 =>
 viaT v4 fun vs7 =>
 exS vs7 1 fun s8 =>
 viaT v4 fun vs9 =>
 exS vs9 2 fun s10 =>
 isPt p0 (
 ldI .i64 (Pt.add p0 0) h3 fun n11 =>
 callI S .i64 i_spec_l03Power [.int .i64 n11, .int .i64 x2] h3 fun n13 h12 =>
 spec_l05Count_L0 S K x1 p0 s8 s10 n13 (0) (0) h12)
theorem spec_l05Count_main_link (S : SatT) (K : AVal → H → Prop) (x0 : List AVal) (x1 : Int) (x2 : Int) (h : H) : cwp S tab spec_l05Count_M [] (bodyOf Try.f60) (kFun tab Try.f60.results.toList K) (fr0 Try.f60 [.agg x0, .int .i64 x1, .int .i64 x2]) h = spec_l05Count_main S K x0 x1 x2 h := by kernel_rfl
theorem spec_l05Count_call (x0 : List AVal) (x1 : Int) (x2 : Int) (h : H) (K : Int → H → Prop) (hm : spec_l05Count_main (Sat Try.prog) (fun v h' => ∃ r, v = .int .i64 r ∧ K r h') x0 x1 x2 h) : callI (Sat Try.prog) .i64 i_spec_l05Count [.agg x0, .int .i64 x1, .int .i64 x2] h K := by
  have := Sat.ex tok mixed spec_l05Count_M Try.func60 (c := bodyOf Try.f60) (by kernel_rfl) (calls_of Try.func60 (c := bodyOf Try.f60) (by kernel_rfl) (by decide)) ((spec_l05Count_main_link _ _ x0 x1 x2 h).mpr hm)
  obtain ⟨v, h2, h3, r, rfl, h4⟩ := this; exact ⟨r, h2, h3, h4⟩

/-! ### loop.example/g01354/impl.TorusTable -/
def impl_TorusTable_M : Nat → List Nat := fun i => bif i == 2 then [1, 4, 5, 6, 7] else bif i == 0 then [1, 4, 5] else []
def impl_TorusTable_ks5 (S : SatT) (K : AVal → H → Prop) : Kont := kSeq (cwp S tab impl_TorusTable_M [] (sub [1, 1, 1, 1] (bodyOf Try.f30)) (kFun tab (Try.f30).results.toList K)) (kFun tab (Try.f30).results.toList K)
def impl_TorusTable_e0 (p1_ : Pt) (s4_ : Sl) (i5_ : Int) : Frame := [U, .ptr p1_, U, U, .sl s4_, .int .i64 i5_, U, U, U, U, U, U, U, U, U, U, U, U, U, U, U, U, U, U, U, U, U, U, U, U, U, U, U]
def impl_TorusTable_w0 (S : SatT) (K : AVal → H → Prop) : (Frame → H → Prop) → Frame → H → Prop := fun X fr h => cwp S tab impl_TorusTable_M (impl_TorusTable_M 0) (sub [1, 1, 1, 0, 1, 0, 0] (bodyOf Try.f30)) (kSeq (fun fr h => X (mask (impl_TorusTable_M 0) fr) h) (kBlk 0 (impl_TorusTable_ks5 S K))) fr h
def impl_TorusTable_L0 (S : SatT) (K : AVal → H → Prop) (p1_ : Pt) (s4_ : Sl) (i5_ : Int) (h : H) : Prop := loopK (impl_TorusTable_w0 S K) (impl_TorusTable_e0 p1_ s4_ i5_) h
def impl_TorusTable_ks9 (S : SatT) (K : AVal → H → Prop) (X0 : Frame → H → Prop) : Kont := kSeq (cwp S tab impl_TorusTable_M (impl_TorusTable_M 0) (sub [1, 1, 1, 0, 1, 0, 0, 1, 1] (bodyOf Try.f30)) (kSeq (fun fr h => X0 (mask (impl_TorusTable_M 0) fr) h) (kBlk 0 (impl_TorusTable_ks5 S K)))) (kSeq (fun fr h => X0 (mask (impl_TorusTable_M 0) fr) h) (kBlk 0 (impl_TorusTable_ks5 S K)))
def impl_TorusTable_ks11 (S : SatT) (K : AVal → H → Prop) (X0 : Frame → H → Prop) : Kont := kSeq (cwp S tab impl_TorusTable_M (impl_TorusTable_M 1) (sub [1, 1, 1, 0, 1, 0, 0, 1, 0, 0, 1, 1] (bodyOf Try.f30)) (kBlk 1 (impl_TorusTable_ks9 S K X0))) (kBlk 1 (impl_TorusTable_ks9 S K X0))
def impl_TorusTable_e2 (p1_ : Pt) (s4_ : Sl) (i5_ : Int) (s6_ : Sl) (i7_ : Int) : Frame := [U, .ptr p1_, U, U, .sl s4_, .int .i64 i5_, .sl s6_, .int .i64 i7_, U, U, U, U, U, U, U, U, U, U, U, U, U, U, U, U, U, U, U, U, U, U, U, U, U]
def impl_TorusTable_w2 (S : SatT) (K : AVal → H → Prop) (X0 : Frame → H → Prop) : (Frame → H → Prop) → Frame → H → Prop := fun X fr h => cwp S tab impl_TorusTable_M (impl_TorusTable_M 2) (sub [1, 1, 1, 0, 1, 0, 0, 1, 0, 0, 1, 0, 1, 0, 0] (bodyOf Try.f30)) (kSeq (fun fr h => X (mask (impl_TorusTable_M 2) fr) h) (kBlk 2 (impl_TorusTable_ks11 S K X0))) fr h
def impl_TorusTable_L2 (S : SatT) (K : AVal → H → Prop) (X0 : Frame → H → Prop) (p1_ : Pt) (s4_ : Sl) (i5_ : Int) (s6_ : Sl) (i7_ : Int) (h : H) : Prop := loopK (impl_TorusTable_w2 S K X0) (impl_TorusTable_e2 p1_ s4_ i5_ s6_ i7_) h
def impl_TorusTable_C1 (S : SatT) (K : AVal → H → Prop) (X0 : Frame → H → Prop) (p1_ : Pt) (s4_ : Sl) (i5_ : Int) (h : H) : Prop :=
 X0 (impl_TorusTable_e0 p1_ s4_ (w64 (i5_ + (1)))) h
def impl_TorusTable_C2 (S : SatT) (K : AVal → H → Prop) (X0 : Frame → H → Prop) (p1_ : Pt) (s4_ : Sl) (i5_ : Int) (s6_ : Sl) (h : H) : Prop :=
 newS 1 1 [.sl s6_] h fun s0 h1 =>
 app s4_ s0 1 h1 fun s2 h3 =>
 impl_TorusTable_C1 S K X0 p1_ s2 i5_ h3
def impl_TorusTable_b2 (S : SatT) (K : AVal → H → Prop) (X0 : Frame → H → Prop) (X2 : Frame → H → Prop) (p1_ : Pt) (s4_ : Sl) (i5_ : Int) (s6_ : Sl) (i7_ : Int) (h : H) : Prop :=
 bif (decide (i7_ ≤ (3))) then
 ldA p1_ 2 h fun cs0 =>
 callI S .i64 i_impl_Set_countTori [.agg cs0, .int .i64 i5_, .int .i64 i7_] h fun n2 h1 =>
 newS 1 1 [.int .i64 n2] h1 fun s3 h4 =>
 app s6_ s3 1 h4 fun s5 h6 =>
 X2 (impl_TorusTable_e2 p1_ s4_ i5_ s5 (w64 (i7_ + (1)))) h6
 else
 impl_TorusTable_C2 S K X0 p1_ s4_ i5_ s6_ h
theorem impl_TorusTable_link2 (S : SatT) (K : AVal → H → Prop) (X0 : Frame → H → Prop) (X2 : Frame → H → Prop) (p1_ : Pt) (s4_ : Sl) (i5_ : Int) (s6_ : Sl) (i7_ : Int) (h : H) : impl_TorusTable_w2 S K X0 X2 (impl_TorusTable_e2 p1_ s4_ i5_ s6_ i7_) h = impl_TorusTable_b2 S K X0 X2 p1_ s4_ i5_ s6_ i7_ h := by kernel_rfl
theorem impl_TorusTable_rule2 (S : SatT) (K : AVal → H → Prop) (X0 : Frame → H → Prop) (p1_ : Pt) (s4_ : Sl) (i5_ : Int) (I_ : Sl → Int → H → Prop) (m_ : Sl → Int → H → Nat)
    (hs : ∀ (X2 : Frame → H → Prop) (s6_ : Sl) (i7_ : Int) (h : H), I_ s6_ i7_ h → (∀ (s6_' : Sl) (i7_' : Int) (h' : H), I_ s6_' i7_' h' → m_ s6_' i7_' h' < m_ s6_ i7_ h → X2 (impl_TorusTable_e2 p1_ s4_ i5_ s6_' i7_') h') → impl_TorusTable_b2 S K X0 X2 p1_ s4_ i5_ s6_ i7_ h) (s6_ : Sl) (i7_ : Int) {h : H} (h0 : I_ s6_ i7_ h) : impl_TorusTable_L2 S K X0 p1_ s4_ i5_ s6_ i7_ h :=
  loop_rule (σ := (Sl) × (Int)) (fun s_ => impl_TorusTable_e2 p1_ s4_ i5_ (s_.1) (s_.2)) (fun s_ h => I_ (s_.1) (s_.2) h) (fun s_ h => m_ (s_.1) (s_.2) h)
    (fun X s_ h hi hx => (impl_TorusTable_link2 S K X0 X p1_ s4_ i5_ (s_.1) (s_.2) h).mpr (hs X (s_.1) (s_.2) h hi fun s6_' i7_' h' hi' hm' => hx (s6_', i7_') h' hi' hm')) (s6_, i7_) h0
theorem impl_TorusTable_unroll2 (S : SatT) (K : AVal → H → Prop) (X0 : Frame → H → Prop) (p1_ : Pt) (s4_ : Sl) (i5_ : Int) (s6_ : Sl) (i7_ : Int) (h : H) (hb : impl_TorusTable_b2 S K X0 (fun fr h => loopK (impl_TorusTable_w2 S K X0) fr h) p1_ s4_ i5_ s6_ i7_ h) : impl_TorusTable_L2 S K X0 p1_ s4_ i5_ s6_ i7_ h := loop_unroll ((impl_TorusTable_link2 S K X0 _ p1_ s4_ i5_ s6_ i7_ h).mpr hb)
def impl_TorusTable_C0 (S : SatT) (K : AVal → H → Prop) (s4_ : Sl) (h : H) : Prop :=
 K (.tuple [.sl s4_, .int .i64 (0)]) h
def impl_TorusTable_b0 (S : SatT) (K : AVal → H → Prop) (X0 : Frame → H → Prop) (p1_ : Pt) (s4_ : Sl) (i5_ : Int) (h : H) : Prop :=
 bif (decide (i5_ ≤ (3))) then
 newS 0 1 [] h fun s0 h1 =>
 impl_TorusTable_L2 S K X0 p1_ s4_ i5_ s0 (1) h1
 else
 impl_TorusTable_C0 S K s4_ h
theorem impl_TorusTable_link0 (S : SatT) (K : AVal → H → Prop) (X0 : Frame → H → Prop) (p1_ : Pt) (s4_ : Sl) (i5_ : Int) (h : H) : impl_TorusTable_w0 S K X0 (impl_TorusTable_e0 p1_ s4_ i5_) h = impl_TorusTable_b0 S K X0 p1_ s4_ i5_ h := by kernel_rfl
theorem impl_TorusTable_rule0 (S : SatT) (K : AVal → H → Prop) (p1_ : Pt) (I_ : Sl → Int → H → Prop) (m_ : Sl → Int → H → Nat)
    (hs : ∀ (X0 : Frame → H → Prop) (s4_ : Sl) (i5_ : Int) (h : H), I_ s4_ i5_ h → (∀ (s4_' : Sl) (i5_' : Int) (h' : H), I_ s4_' i5_' h' → m_ s4_' i5_' h' < m_ s4_ i5_ h → X0 (impl_TorusTable_e0 p1_ s4_' i5_') h') → impl_TorusTable_b0 S K X0 p1_ s4_ i5_ h) (s4_ : Sl) (i5_ : Int) {h : H} (h0 : I_ s4_ i5_ h) : impl_TorusTable_L0 S K p1_ s4_ i5_ h :=
  loop_rule (σ := (Sl) × (Int)) (fun s_ => impl_TorusTable_e0 p1_ (s_.1) (s_.2)) (fun s_ h => I_ (s_.1) (s_.2) h) (fun s_ h => m_ (s_.1) (s_.2) h)
    (fun X s_ h hi hx => (impl_TorusTable_link0 S K X p1_ (s_.1) (s_.2) h).mpr (hs X (s_.1) (s_.2) h hi fun s4_' i5_' h' hi' hm' => hx (s4_', i5_') h' hi' hm')) (s4_, i5_) h0
theorem impl_TorusTable_unroll0 (S : SatT) (K : AVal → H → Prop) (p1_ : Pt) (s4_ : Sl) (i5_ : Int) (h : H) (hb : impl_TorusTable_b0 S K (fun fr h => loopK (impl_TorusTable_w0 S K) fr h) p1_ s4_ i5_ h) : impl_TorusTable_L0 S K p1_ s4_ i5_ h := loop_unroll ((impl_TorusTable_link0 S K _ p1_ s4_ i5_ h).mpr hb)
def impl_TorusTable_main (S : SatT) (K : AVal → H → Prop) (x0 : List AVal) (h : H) : Prop :=
 newK 2 x0 h fun p0 h1 =>
 ldA p0 2 h1 fun cs2 =>
 callB S i_impl_IsSet [.agg cs2] h1 fun b4 h3 =>
 bif (!b4) then
 K (.tuple [.sl Sl.nil, .int .i64 (1)]) h3
 else
 newS 0 1 [] h3 fun s5 h6 =>
 impl_TorusTable_L0 S K p0 s5 (1) h6
theorem impl_TorusTable_main_link (S : SatT) (K : AVal → H → Prop) (x0 : List AVal) (h : H) : cwp S tab impl_TorusTable_M [] (bodyOf Try.f30) (kFun tab Try.f30.results.toList K) (fr0 Try.f30 [.agg x0]) h = impl_TorusTable_main S K x0 h := by kernel_rfl
theorem impl_TorusTable_call (x0 : List AVal) (h : H) (K : AVal → H → Prop) (hm : impl_TorusTable_main (Sat Try.prog) (fun v h' => K v h') x0 h) : callV (Sat Try.prog) i_impl_TorusTable [.agg x0] h K := by
  have := Sat.ex tok mixed impl_TorusTable_M Try.func30 (c := bodyOf Try.f30) (by kernel_rfl) (calls_of Try.func30 (c := bodyOf Try.f30) (by kernel_rfl) (by decide)) ((impl_TorusTable_main_link _ _ x0 h).mpr hm)
  exact this

/-! ### loop.example/g01354/spec.l05Least -/
def spec_l05Least_M : Nat → List Nat := fun i => bif i == 2 then [0, 3, 4, 5] else bif i == 0 then [0, 3, 4] else []
def spec_l05Least_ks2 (S : SatT) (K : AVal → H → Prop) : Kont := kSeq (cwp S tab spec_l05Least_M [] (sub [1, 1, 1] (bodyOf Try.f85)) (kFun tab (Try.f85).results.toList K)) (kFun tab (Try.f85).results.toList K)
def spec_l05Least_e0 (s0_ : Sl) (s3_ : Sl) (i4_ : Int) : Frame := [.sl s0_, U, U, .sl s3_, .int .i64 i4_, U, U, U, U, U, U, U, U, U, U, U, U, U, U, U, U, U, U, U, U, U, U, U, U, U, U, U]
def spec_l05Least_w0 (S : SatT) (K : AVal → H → Prop) : (Frame → H → Prop) → Frame → H → Prop := fun X fr h => cwp S tab spec_l05Least_M (spec_l05Least_M 0) (sub [1, 1, 0, 1, 0, 0] (bodyOf Try.f85)) (kSeq (fun fr h => X (mask (spec_l05Least_M 0) fr) h) (kBlk 0 (spec_l05Least_ks2 S K))) fr h
def spec_l05Least_L0 (S : SatT) (K : AVal → H → Prop) (s0_ : Sl) (s3_ : Sl) (i4_ : Int) (h : H) : Prop := loopK (spec_l05Least_w0 S K) (spec_l05Least_e0 s0_ s3_ i4_) h
def spec_l05Least_ks6 (S : SatT) (K : AVal → H → Prop) (X0 : Frame → H → Prop) : Kont := kSeq (cwp S tab spec_l05Least_M (spec_l05Least_M 0) (sub [1, 1, 0, 1, 0, 0, 1, 1] (bodyOf Try.f85)) (kSeq (fun fr h => X0 (mask (spec_l05Least_M 0) fr) h) (kBlk 0 (spec_l05Least_ks2 S K)))) (kSeq (fun fr h => X0 (mask (spec_l05Least_M 0) fr) h) (kBlk 0 (spec_l05Least_ks2 S K)))
def spec_l05Least_e2 (s0_ : Sl) (s3_ : Sl) (i4_ : Int) (i5_ : Int) : Frame := [.sl s0_, U, U, .sl s3_, .int .i64 i4_, .int .i64 i5_, U, U, U, U, U, U, U, U, U, U, U, U, U, U, U, U, U, U, U, U, U, U, U, U, U, U]
def spec_l05Least_w2 (S : SatT) (K : AVal → H → Prop) (X0 : Frame → H → Prop) : (Frame → H → Prop) → Frame → H → Prop := fun X fr h => cwp S tab spec_l05Least_M (spec_l05Least_M 2) (sub [1, 1, 0, 1, 0, 0, 1, 0, 0, 1, 0, 0] (bodyOf Try.f85)) (kSeq (fun fr h => X (mask (spec_l05Least_M 2) fr) h) (kBlk 2 (kBlk 1 (spec_l05Least_ks6 S K X0)))) fr h
def spec_l05Least_L2 (S : SatT) (K : AVal → H → Prop) (X0 : Frame → H → Prop) (s0_ : Sl) (s3_ : Sl) (i4_ : Int) (i5_ : Int) (h : H) : Prop := loopK (spec_l05Least_w2 S K X0) (spec_l05Least_e2 s0_ s3_ i4_ i5_) h
def spec_l05Least_C1 (S : SatT) (K : AVal → H → Prop) (X0 : Frame → H → Prop) (s0_ : Sl) (s3_ : Sl) (i4_ : Int) (h : H) : Prop :=
 X0 (spec_l05Least_e0 s0_ s3_ (w64 (i4_ + (1)))) h
def spec_l05Least_C2 (S : SatT) (K : AVal → H → Prop) (X0 : Frame → H → Prop) (s0_ : Sl) (s3_ : Sl) (i4_ : Int) (h : H) : Prop :=
 spec_l05Least_C1 S K X0 s0_ s3_ i4_ h
def spec_l05Least_b2 (S : SatT) (K : AVal → H → Prop) (X0 : Frame → H → Prop) (X2 : Frame → H → Prop) (s0_ : Sl) (s3_ : Sl) (i4_ : Int) (i5_ : Int) (h : H) : Prop :=
 ixS s0_ 1 (0) fun p0 =>
 ldS p0 h fun s1 =>
 bif (decide (i5_ < (s1.len : Int))) then
 callS S i_spec_l05Shift [.sl s0_, .int .i64 i4_, .int .i64 i5_] h fun s3 h2 =>
 callB S i_spec_l05Less [.sl s3, .sl s3_] h2 fun b5 h4 =>
 bif b5 then
 X2 (spec_l05Least_e2 s0_ s3 i4_ (w64 (i5_ + (1)))) h4
 else
 X2 (spec_l05Least_e2 s0_ s3_ i4_ (w64 (i5_ + (1)))) h4
 else
 spec_l05Least_C2 S K X0 s0_ s3_ i4_ h
theorem spec_l05Least_link2 (S : SatT) (K : AVal → H → Prop) (X0 : Frame → H → Prop) (X2 : Frame → H → Prop) (s0_ : Sl) (s3_ : Sl) (i4_ : Int) (i5_ : Int) (h : H) : spec_l05Least_w2 S K X0 X2 (spec_l05Least_e2 s0_ s3_ i4_ i5_) h = spec_l05Least_b2 S K X0 X2 s0_ s3_ i4_ i5_ h := by kernel_rfl
theorem spec_l05Least_rule2 (S : SatT) (K : AVal → H → Prop) (X0 : Frame → H → Prop) (s0_ : Sl) (i4_ : Int) (I_ : Sl → Int → H → Prop) (m_ : Sl → Int → H → Nat)
    (hs : ∀ (X2 : Frame → H → Prop) (s3_ : Sl) (i5_ : Int) (h : H), I_ s3_ i5_ h → (∀ (s3_' : Sl) (i5_' : Int) (h' : H), I_ s3_' i5_' h' → m_ s3_' i5_' h' < m_ s3_ i5_ h → X2 (spec_l05Least_e2 s0_ s3_' i4_ i5_') h') → spec_l05Least_b2 S K X0 X2 s0_ s3_ i4_ i5_ h) (s3_ : Sl) (i5_ : Int) {h : H} (h0 : I_ s3_ i5_ h) : spec_l05Least_L2 S K X0 s0_ s3_ i4_ i5_ h :=
  loop_rule (σ := (Sl) × (Int)) (fun s_ => spec_l05Least_e2 s0_ (s_.1) i4_ (s_.2)) (fun s_ h => I_ (s_.1) (s_.2) h) (fun s_ h => m_ (s_.1) (s_.2) h)
    (fun X s_ h hi hx => (spec_l05Least_link2 S K X0 X s0_ (s_.1) i4_ (s_.2) h).mpr (hs X (s_.1) (s_.2) h hi fun s3_' i5_' h' hi' hm' => hx (s3_', i5_') h' hi' hm')) (s3_, i5_) h0
theorem spec_l05Least_unroll2 (S : SatT) (K : AVal → H → Prop) (X0 : Frame → H → Prop) (s0_ : Sl) (s3_ : Sl) (i4_ : Int) (i5_ : Int) (h : H) (hb : spec_l05Least_b2 S K X0 (fun fr h => loopK (spec_l05Least_w2 S K X0) fr h) s0_ s3_ i4_ i5_ h) : spec_l05Least_L2 S K X0 s0_ s3_ i4_ i5_ h := loop_unroll ((spec_l05Least_link2 S K X0 _ s0_ s3_ i4_ i5_ h).mpr hb)
def spec_l05Least_C0 (S : SatT) (K : AVal → H → Prop) (s3_ : Sl) (h : H) : Prop :=
 K (.sl s3_) h
def spec_l05Least_b0 (S : SatT) (K : AVal → H → Prop) (X0 : Frame → H → Prop) (s0_ : Sl) (s3_ : Sl) (i4_ : Int) (h : H) : Prop :=
 bif (decide (i4_ < (s0_.len : Int))) then
 spec_l05Least_L2 S K X0 s0_ s3_ i4_ (0) h
 else
 spec_l05Least_C0 S K s3_ h
theorem spec_l05Least_link0 (S : SatT) (K : AVal → H → Prop) (X0 : Frame → H → Prop) (s0_ : Sl) (s3_ : Sl) (i4_ : Int) (h : H) : spec_l05Least_w0 S K X0 (spec_l05Least_e0 s0_ s3_ i4_) h = spec_l05Least_b0 S K X0 s0_ s3_ i4_ h := by kernel_rfl
theorem spec_l05Least_rule0 (S : SatT) (K : AVal → H → Prop) (s0_ : Sl) (I_ : Sl → Int → H → Prop) (m_ : Sl → Int → H → Nat)
    (hs : ∀ (X0 : Frame → H → Prop) (s3_ : Sl) (i4_ : Int) (h : H), I_ s3_ i4_ h → (∀ (s3_' : Sl) (i4_' : Int) (h' : H), I_ s3_' i4_' h' → m_ s3_' i4_' h' < m_ s3_ i4_ h → X0 (spec_l05Least_e0 s0_ s3_' i4_') h') → spec_l05Least_b0 S K X0 s0_ s3_ i4_ h) (s3_ : Sl) (i4_ : Int) {h : H} (h0 : I_ s3_ i4_ h) : spec_l05Least_L0 S K s0_ s3_ i4_ h :=
  loop_rule (σ := (Sl) × (Int)) (fun s_ => spec_l05Least_e0 s0_ (s_.1) (s_.2)) (fun s_ h => I_ (s_.1) (s_.2) h) (fun s_ h => m_ (s_.1) (s_.2) h)
    (fun X s_ h hi hx => (spec_l05Least_link0 S K X s0_ (s_.1) (s_.2) h).mpr (hs X (s_.1) (s_.2) h hi fun s3_' i4_' h' hi' hm' => hx (s3_', i4_') h' hi' hm')) (s3_, i4_) h0
theorem spec_l05Least_unroll0 (S : SatT) (K : AVal → H → Prop) (s0_ : Sl) (s3_ : Sl) (i4_ : Int) (h : H) (hb : spec_l05Least_b0 S K (fun fr h => loopK (spec_l05Least_w0 S K) fr h) s0_ s3_ i4_ h) : spec_l05Least_L0 S K s0_ s3_ i4_ h := loop_unroll ((spec_l05Least_link0 S K _ s0_ s3_ i4_ h).mpr hb)
def spec_l05Least_main (S : SatT) (K : AVal → H → Prop) (x0 : Sl) (h : H) : Prop :=
 callS S i_spec_l05Shift [.sl x0, .int .i64 (0), .int .i64 (0)] h fun s1 h0 =>
 spec_l05Least_L0 S K x0 s1 (0) h0
theorem spec_l05Least_main_link (S : SatT) (K : AVal → H → Prop) (x0 : Sl) (h : H) : cwp S tab spec_l05Least_M [] (bodyOf Try.f85) (kFun tab Try.f85.results.toList K) (fr0 Try.f85 [.sl x0]) h = spec_l05Least_main S K x0 h := by kernel_rfl
theorem spec_l05Least_call (x0 : Sl) (h : H) (K : Sl → H → Prop) (hm : spec_l05Least_main (Sat Try.prog) (fun v h' => ∃ r, v = .sl r ∧ K r h') x0 h) : callS (Sat Try.prog) i_spec_l05Least [.sl x0] h K := by
  have := Sat.ex tok mixed spec_l05Least_M Try.func85 (c := bodyOf Try.f85) (by kernel_rfl) (calls_of Try.func85 (c := bodyOf Try.f85) (by kernel_rfl) (by decide)) ((spec_l05Least_main_link _ _ x0 h).mpr hm)
  obtain ⟨v, h2, h3, r, rfl, h4⟩ := this; exact ⟨r, h2, h3, h4⟩

/-! ### loop.example/g01354/impl.LeastTorus -/
def impl_LeastTorus_M : Nat → List Nat := fun i => bif i == 2 then [1, 4, 5] else bif i == 0 then [1, 4] else []
def impl_LeastTorus_ks4 (S : SatT) (K : AVal → H → Prop) : Kont := kSeq (cwp S tab impl_LeastTorus_M [] (sub [1, 1, 1] (bodyOf Try.f35)) (kFun tab (Try.f35).results.toList K)) (kFun tab (Try.f35).results.toList K)
def impl_LeastTorus_e0 (p1_ : Pt) (i4_ : Int) : Frame := [U, .ptr p1_, U, U, .int .i64 i4_, U, U, U, U, U, U, U, U, U, U, U, U, U, U, U, U, U, U, U, U, U, U, U, U, U, U, U, U, U, U, U, U]
def impl_LeastTorus_w0 (S : SatT) (K : AVal → H → Prop) : (Frame → H → Prop) → Frame → H → Prop := fun X fr h => cwp S tab impl_LeastTorus_M (impl_LeastTorus_M 0) (sub [1, 1, 0, 1, 0, 0] (bodyOf Try.f35)) (kSeq (fun fr h => X (mask (impl_LeastTorus_M 0) fr) h) (kBlk 0 (impl_LeastTorus_ks4 S K))) fr h
def impl_LeastTorus_L0 (S : SatT) (K : AVal → H → Prop) (p1_ : Pt) (i4_ : Int) (h : H) : Prop := loopK (impl_LeastTorus_w0 S K) (impl_LeastTorus_e0 p1_ i4_) h
def impl_LeastTorus_ks8 (S : SatT) (K : AVal → H → Prop) (X0 : Frame → H → Prop) : Kont := kSeq (cwp S tab impl_LeastTorus_M (impl_LeastTorus_M 0) (sub [1, 1, 0, 1, 0, 0, 1, 1] (bodyOf Try.f35)) (kSeq (fun fr h => X0 (mask (impl_LeastTorus_M 0) fr) h) (kBlk 0 (impl_LeastTorus_ks4 S K)))) (kSeq (fun fr h => X0 (mask (impl_LeastTorus_M 0) fr) h) (kBlk 0 (impl_LeastTorus_ks4 S K)))
def impl_LeastTorus_e2 (p1_ : Pt) (i4_ : Int) (i5_ : Int) : Frame := [U, .ptr p1_, U, U, .int .i64 i4_, .int .i64 i5_, U, U, U, U, U, U, U, U, U, U, U, U, U, U, U, U, U, U, U, U, U, U, U, U, U, U, U, U, U, U, U]
def impl_LeastTorus_w2 (S : SatT) (K : AVal → H → Prop) (X0 : Frame → H → Prop) : (Frame → H → Prop) → Frame → H → Prop := fun X fr h => cwp S tab impl_LeastTorus_M (impl_LeastTorus_M 2) (sub [1, 1, 0, 1, 0, 0, 1, 0, 0, 1, 0, 0] (bodyOf Try.f35)) (kSeq (fun fr h => X (mask (impl_LeastTorus_M 2) fr) h) (kBlk 2 (kBlk 1 (impl_LeastTorus_ks8 S K X0)))) fr h
def impl_LeastTorus_L2 (S : SatT) (K : AVal → H → Prop) (X0 : Frame → H → Prop) (p1_ : Pt) (i4_ : Int) (i5_ : Int) (h : H) : Prop := loopK (impl_LeastTorus_w2 S K X0) (impl_LeastTorus_e2 p1_ i4_ i5_) h
def impl_LeastTorus_C1 (S : SatT) (K : AVal → H → Prop) (X0 : Frame → H → Prop) (p1_ : Pt) (i4_ : Int) (h : H) : Prop :=
 X0 (impl_LeastTorus_e0 p1_ (w64 (i4_ + (1)))) h
def impl_LeastTorus_C2 (S : SatT) (K : AVal → H → Prop) (X0 : Frame → H → Prop) (p1_ : Pt) (i4_ : Int) (h : H) : Prop :=
 impl_LeastTorus_C1 S K X0 p1_ i4_ h
def impl_LeastTorus_b2 (S : SatT) (K : AVal → H → Prop) (X0 : Frame → H → Prop) (X2 : Frame → H → Prop) (p1_ : Pt) (i4_ : Int) (i5_ : Int) (h : H) : Prop :=
 bif (decide (i5_ ≤ (3))) then
 nz i5_ (
 bif ((Int.tmod i4_ i5_) != (0)) then
 X2 (impl_LeastTorus_e2 p1_ i4_ (w64 (i5_ + (1)))) h
 else
 nz i5_ (
 bif (decide ((w64 (Int.tdiv i4_ i5_)) > (3))) then
 X2 (impl_LeastTorus_e2 p1_ i4_ (w64 (i5_ + (1)))) h
 else
 ldA p1_ 2 h fun cs0 =>
 nz i5_ (
 callS S i_impl_Set_firstTorus [.agg cs0, .int .i64 i5_, .int .i64 (w64 (Int.tdiv i4_ i5_))] h fun s2 h1 =>
 bif (!isNilS s2) then
 K (.tuple [.sl s2, .int .i64 (0)]) h1
 else
 X2 (impl_LeastTorus_e2 p1_ i4_ (w64 (i5_ + (1)))) h1)))
 else
 impl_LeastTorus_C2 S K X0 p1_ i4_ h
theorem impl_LeastTorus_link2 (S : SatT) (K : AVal → H → Prop) (X0 : Frame → H → Prop) (X2 : Frame → H → Prop) (p1_ : Pt) (i4_ : Int) (i5_ : Int) (h : H) : impl_LeastTorus_w2 S K X0 X2 (impl_LeastTorus_e2 p1_ i4_ i5_) h = impl_LeastTorus_b2 S K X0 X2 p1_ i4_ i5_ h := by kernel_rfl
theorem impl_LeastTorus_rule2 (S : SatT) (K : AVal → H → Prop) (X0 : Frame → H → Prop) (p1_ : Pt) (i4_ : Int) (I_ : Int → H → Prop) (m_ : Int → H → Nat)
    (hs : ∀ (X2 : Frame → H → Prop) (i5_ : Int) (h : H), I_ i5_ h → (∀ (i5_' : Int) (h' : H), I_ i5_' h' → m_ i5_' h' < m_ i5_ h → X2 (impl_LeastTorus_e2 p1_ i4_ i5_') h') → impl_LeastTorus_b2 S K X0 X2 p1_ i4_ i5_ h) (i5_ : Int) {h : H} (h0 : I_ i5_ h) : impl_LeastTorus_L2 S K X0 p1_ i4_ i5_ h :=
  loop_rule (σ := (Int)) (fun s_ => impl_LeastTorus_e2 p1_ i4_ (s_)) (fun s_ h => I_ (s_) h) (fun s_ h => m_ (s_) h)
    (fun X s_ h hi hx => (impl_LeastTorus_link2 S K X0 X p1_ i4_ (s_) h).mpr (hs X (s_) h hi fun i5_' h' hi' hm' => hx (i5_') h' hi' hm')) (i5_) h0
theorem impl_LeastTorus_unroll2 (S : SatT) (K : AVal → H → Prop) (X0 : Frame → H → Prop) (p1_ : Pt) (i4_ : Int) (i5_ : Int) (h : H) (hb : impl_LeastTorus_b2 S K X0 (fun fr h => loopK (impl_LeastTorus_w2 S K X0) fr h) p1_ i4_ i5_ h) : impl_LeastTorus_L2 S K X0 p1_ i4_ i5_ h := loop_unroll ((impl_LeastTorus_link2 S K X0 _ p1_ i4_ i5_ h).mpr hb)
def impl_LeastTorus_C0 (S : SatT) (K : AVal → H → Prop) (h : H) : Prop :=
 K (.tuple [.sl Sl.nil, .int .i64 (4)]) h
def impl_LeastTorus_b0 (S : SatT) (K : AVal → H → Prop) (X0 : Frame → H → Prop) (p1_ : Pt) (i4_ : Int) (h : H) : Prop :=
 bif (decide (i4_ ≤ (9))) then
 impl_LeastTorus_L2 S K X0 p1_ i4_ (1) h
 else
 impl_LeastTorus_C0 S K h
theorem impl_LeastTorus_link0 (S : SatT) (K : AVal → H → Prop) (X0 : Frame → H → Prop) (p1_ : Pt) (i4_ : Int) (h : H) : impl_LeastTorus_w0 S K X0 (impl_LeastTorus_e0 p1_ i4_) h = impl_LeastTorus_b0 S K X0 p1_ i4_ h := by kernel_rfl
theorem impl_LeastTorus_rule0 (S : SatT) (K : AVal → H → Prop) (p1_ : Pt) (I_ : Int → H → Prop) (m_ : Int → H → Nat)
    (hs : ∀ (X0 : Frame → H → Prop) (i4_ : Int) (h : H), I_ i4_ h → (∀ (i4_' : Int) (h' : H), I_ i4_' h' → m_ i4_' h' < m_ i4_ h → X0 (impl_LeastTorus_e0 p1_ i4_') h') → impl_LeastTorus_b0 S K X0 p1_ i4_ h) (i4_ : Int) {h : H} (h0 : I_ i4_ h) : impl_LeastTorus_L0 S K p1_ i4_ h :=
  loop_rule (σ := (Int)) (fun s_ => impl_LeastTorus_e0 p1_ (s_)) (fun s_ h => I_ (s_) h) (fun s_ h => m_ (s_) h)
    (fun X s_ h hi hx => (impl_LeastTorus_link0 S K X p1_ (s_) h).mpr (hs X (s_) h hi fun i4_' h' hi' hm' => hx (i4_') h' hi' hm')) (i4_) h0
theorem impl_LeastTorus_unroll0 (S : SatT) (K : AVal → H → Prop) (p1_ : Pt) (i4_ : Int) (h : H) (hb : impl_LeastTorus_b0 S K (fun fr h => loopK (impl_LeastTorus_w0 S K) fr h) p1_ i4_ h) : impl_LeastTorus_L0 S K p1_ i4_ h := loop_unroll ((impl_LeastTorus_link0 S K _ p1_ i4_ h).mpr hb)
def impl_LeastTorus_main (S : SatT) (K : AVal → H → Prop) (x0 : List AVal) (h : H) : Prop :=
 newK 2 x0 h fun p0 h1 =>
 ldA p0 2 h1 fun cs2 =>
 callB S i_impl_IsSet [.agg cs2] h1 fun b4 h3 =>
 bif (!b4) then
 K (.tuple [.sl Sl.nil, .int .i64 (1)]) h3
 else
 impl_LeastTorus_L0 S K p0 (1) h3
theorem impl_LeastTorus_main_link (S : SatT) (K : AVal → H → Prop) (x0 : List AVal) (h : H) : cwp S tab impl_LeastTorus_M [] (bodyOf Try.f35) (kFun tab Try.f35.results.toList K) (fr0 Try.f35 [.agg x0]) h = impl_LeastTorus_main S K x0 h := by kernel_rfl
theorem impl_LeastTorus_call (x0 : List AVal) (h : H) (K : AVal → H → Prop) (hm : impl_LeastTorus_main (Sat Try.prog) (fun v h' => K v h') x0 h) : callV (Sat Try.prog) i_impl_LeastTorus [.agg x0] h K := by
  have := Sat.ex tok mixed impl_LeastTorus_M Try.func35 (c := bodyOf Try.f35) (by kernel_rfl) (calls_of Try.func35 (c := bodyOf Try.f35) (by kernel_rfl) (by decide)) ((impl_LeastTorus_main_link _ _ x0 h).mpr hm)
  exact this

/-! ### slices.CompareFunc[[][]int64,[][]int64,[]int64,[]int64] -/
def slices_CompareFunc_ss_int64_s_s_int64_s_int64_s_int64__M : Nat → List Nat := fun i => bif i == 0 then [0, 1, 2, 11, 12, 13] else []
def slices_CompareFunc_ss_int64_s_s_int64_s_int64_s_int64__ks1 (S : SatT) (K : AVal → H → Prop) : Kont := kSeq (cwp S tab slices_CompareFunc_ss_int64_s_s_int64_s_int64_s_int64__M [] (sub [1, 1] (bodyOf Try.f117)) (kFun tab (Try.f117).results.toList K)) (kFun tab (Try.f117).results.toList K)
def slices_CompareFunc_ss_int64_s_s_int64_s_int64_s_int64__e0 (s0_ : Sl) (s1_ : Sl) (f2_ : AVal) (s11_ : Sl) (i12_ : Int) (i13_ : Int) : Frame := [.sl s0_, .sl s1_, f2_, U, U, U, U, U, U, U, U, .sl s11_, .int .i64 i12_, .int .i64 i13_, U, U, U, U, U, U, U, U, U, U, U, U, U, U, U, U, U, U, U, U, U, U, U, U, U]
def slices_CompareFunc_ss_int64_s_s_int64_s_int64_s_int64__w0 (S : SatT) (K : AVal → H → Prop) : (Frame → H → Prop) → Frame → H → Prop := fun X fr h => cwp S tab slices_CompareFunc_ss_int64_s_s_int64_s_int64_s_int64__M (slices_CompareFunc_ss_int64_s_s_int64_s_int64_s_int64__M 0) (sub [1, 0, 1, 0, 0] (bodyOf Try.f117)) (kSeq (fun fr h => X (mask (slices_CompareFunc_ss_int64_s_s_int64_s_int64_s_int64__M 0) fr) h) (kBlk 0 (slices_CompareFunc_ss_int64_s_s_int64_s_int64_s_int64__ks1 S K))) fr h
def slices_CompareFunc_ss_int64_s_s_int64_s_int64_s_int64__L0 (S : SatT) (K : AVal → H → Prop) (s0_ : Sl) (s1_ : Sl) (f2_ : AVal) (s11_ : Sl) (i12_ : Int) (i13_ : Int) (h : H) : Prop := loopK (slices_CompareFunc_ss_int64_s_s_int64_s_int64_s_int64__w0 S K) (slices_CompareFunc_ss_int64_s_s_int64_s_int64_s_int64__e0 s0_ s1_ f2_ s11_ i12_ i13_) h
def slices_CompareFunc_ss_int64_s_s_int64_s_int64_s_int64__C0 (S : SatT) (K : AVal → H → Prop) (s0_ : Sl) (s1_ : Sl) (h : H) : Prop :=
 bif (decide ((s0_.len : Int) < (s1_.len : Int))) then
 K (.int .i64 (-1)) h
 else
 K (.int .i64 (0)) h
def slices_CompareFunc_ss_int64_s_s_int64_s_int64_s_int64__b0 (S : SatT) (K : AVal → H → Prop) (X0 : Frame → H → Prop) (s0_ : Sl) (s1_ : Sl) (f2_ : AVal) (s11_ : Sl) (i12_ : Int) (i13_ : Int) (h : H) : Prop :=
 bif (decide (i13_ < i12_)) then
 ixS s11_ 1 i13_ fun p0 =>
 ldS p0 h fun s1 =>
 bif (decide (i13_ ≥ (s1_.len : Int))) then
 K (.int .i64 (1)) h
 else
 ixS s1_ 1 i13_ fun p2 =>
 ldS p2 h fun s3 =>
 viaF f2_ [.sl s1, .sl s3] fun g4 ys5 =>
 callI S .i64 g4 ys5 h fun n7 h6 =>
 bif (n7 != (0)) then
 K (.int .i64 n7) h6
 else
 X0 (slices_CompareFunc_ss_int64_s_s_int64_s_int64_s_int64__e0 s0_ s1_ f2_ s11_ i12_ (w64 (i13_ + (1)))) h6
 else
 slices_CompareFunc_ss_int64_s_s_int64_s_int64_s_int64__C0 S K s0_ s1_ h
theorem slices_CompareFunc_ss_int64_s_s_int64_s_int64_s_int64__link0 (S : SatT) (K : AVal → H → Prop) (X0 : Frame → H → Prop) (s0_ : Sl) (s1_ : Sl) (f2_ : AVal) (s11_ : Sl) (i12_ : Int) (i13_ : Int) (h : H) : slices_CompareFunc_ss_int64_s_s_int64_s_int64_s_int64__w0 S K X0 (slices_CompareFunc_ss_int64_s_s_int64_s_int64_s_int64__e0 s0_ s1_ f2_ s11_ i12_ i13_) h = slices_CompareFunc_ss_int64_s_s_int64_s_int64_s_int64__b0 S K X0 s0_ s1_ f2_ s11_ i12_ i13_ h := by kernel_rfl
theorem slices_CompareFunc_ss_int64_s_s_int64_s_int64_s_int64__rule0 (S : SatT) (K : AVal → H → Prop) (s0_ : Sl) (s1_ : Sl) (f2_ : AVal) (s11_ : Sl) (i12_ : Int) (I_ : Int → H → Prop) (m_ : Int → H → Nat)
    (hs : ∀ (X0 : Frame → H → Prop) (i13_ : Int) (h : H), I_ i13_ h → (∀ (i13_' : Int) (h' : H), I_ i13_' h' → m_ i13_' h' < m_ i13_ h → X0 (slices_CompareFunc_ss_int64_s_s_int64_s_int64_s_int64__e0 s0_ s1_ f2_ s11_ i12_ i13_') h') → slices_CompareFunc_ss_int64_s_s_int64_s_int64_s_int64__b0 S K X0 s0_ s1_ f2_ s11_ i12_ i13_ h) (i13_ : Int) {h : H} (h0 : I_ i13_ h) : slices_CompareFunc_ss_int64_s_s_int64_s_int64_s_int64__L0 S K s0_ s1_ f2_ s11_ i12_ i13_ h :=
  loop_rule (σ := (Int)) (fun s_ => slices_CompareFunc_ss_int64_s_s_int64_s_int64_s_int64__e0 s0_ s1_ f2_ s11_ i12_ (s_)) (fun s_ h => I_ (s_) h) (fun s_ h => m_ (s_) h)
    (fun X s_ h hi hx => (slices_CompareFunc_ss_int64_s_s_int64_s_int64_s_int64__link0 S K X s0_ s1_ f2_ s11_ i12_ (s_) h).mpr (hs X (s_) h hi fun i13_' h' hi' hm' => hx (i13_') h' hi' hm')) (i13_) h0
theorem slices_CompareFunc_ss_int64_s_s_int64_s_int64_s_int64__unroll0 (S : SatT) (K : AVal → H → Prop) (s0_ : Sl) (s1_ : Sl) (f2_ : AVal) (s11_ : Sl) (i12_ : Int) (i13_ : Int) (h : H) (hb : slices_CompareFunc_ss_int64_s_s_int64_s_int64_s_int64__b0 S K (fun fr h => loopK (slices_CompareFunc_ss_int64_s_s_int64_s_int64_s_int64__w0 S K) fr h) s0_ s1_ f2_ s11_ i12_ i13_ h) : slices_CompareFunc_ss_int64_s_s_int64_s_int64_s_int64__L0 S K s0_ s1_ f2_ s11_ i12_ i13_ h := loop_unroll ((slices_CompareFunc_ss_int64_s_s_int64_s_int64_s_int64__link0 S K _ s0_ s1_ f2_ s11_ i12_ i13_ h).mpr hb)
def slices_CompareFunc_ss_int64_s_s_int64_s_int64_s_int64__main (S : SatT) (K : AVal → H → Prop) (x0 : Sl) (x1 : Sl) (x2 : AVal) (h : H) : Prop :=
 slices_CompareFunc_ss_int64_s_s_int64_s_int64_s_int64__L0 S K x0 x1 x2 x0 (x0.len : Int) (0) h
theorem slices_CompareFunc_ss_int64_s_s_int64_s_int64_s_int64__main_link (S : SatT) (K : AVal → H → Prop) (x0 : Sl) (x1 : Sl) (x2 : AVal) (h : H) : cwp S tab slices_CompareFunc_ss_int64_s_s_int64_s_int64_s_int64__M [] (bodyOf Try.f117) (kFun tab Try.f117.results.toList K) (fr0 Try.f117 [.sl x0, .sl x1, x2]) h = slices_CompareFunc_ss_int64_s_s_int64_s_int64_s_int64__main S K x0 x1 x2 h := by kernel_rfl
theorem slices_CompareFunc_ss_int64_s_s_int64_s_int64_s_int64__call (x0 : Sl) (x1 : Sl) (x2 : AVal) (h : H) (K : Int → H → Prop) (hm : slices_CompareFunc_ss_int64_s_s_int64_s_int64_s_int64__main (Sat Try.prog) (fun v h' => ∃ r, v = .int .i64 r ∧ K r h') x0 x1 x2 h) : callI (Sat Try.prog) .i64 i_slices_CompareFunc_ss_int64_s_s_int64_s_int64_s_int64_ [.sl x0, .sl x1, x2] h K := by
  have := Sat.ex tok mixed slices_CompareFunc_ss_int64_s_s_int64_s_int64_s_int64__M Try.func117 (c := bodyOf Try.f117) (by kernel_rfl) (calls_of Try.func117 (c := bodyOf Try.f117) (by kernel_rfl) (by decide)) ((slices_CompareFunc_ss_int64_s_s_int64_s_int64_s_int64__main_link _ _ x0 x1 x2 h).mpr hm)
  obtain ⟨v, h2, h3, r, rfl, h4⟩ := this; exact ⟨r, h2, h3, h4⟩

/-! ### loop.example/g01354/spec.CountCylinders -/
def spec_CountCylinders_M : Nat → List Nat := fun i => bif i == 0 then [12, 13, 14] else []
def spec_CountCylinders_ks7 (S : SatT) (K : AVal → H → Prop) : Kont := kSeq (cwp S tab spec_CountCylinders_M [] (sub [1, 1, 1, 1, 1] (bodyOf Try.f16)) (kFun tab (Try.f16).results.toList K)) (kFun tab (Try.f16).results.toList K)
def spec_CountCylinders_e0 (s12_ : Sl) (i13_ : Int) (i14_ : Int) : Frame := [U, U, U, U, U, U, U, U, U, U, U, U, .sl s12_, .int .i64 i13_, .int .i64 i14_, U, U, U, U, U, U, U, U, U, U, U, U, U, U, U, U, U, U, U, U, U, U, U, U, U, U, U, U, U, U, U, U, U, U, U, U, U, U, U]
def spec_CountCylinders_w0 (S : SatT) (K : AVal → H → Prop) : (Frame → H → Prop) → Frame → H → Prop := fun X fr h => cwp S tab spec_CountCylinders_M (spec_CountCylinders_M 0) (sub [1, 1, 1, 1, 0, 1, 0, 0] (bodyOf Try.f16)) (kSeq (fun fr h => X (mask (spec_CountCylinders_M 0) fr) h) (kBlk 0 (spec_CountCylinders_ks7 S K))) fr h
def spec_CountCylinders_L0 (S : SatT) (K : AVal → H → Prop) (s12_ : Sl) (i13_ : Int) (i14_ : Int) (h : H) : Prop := loopK (spec_CountCylinders_w0 S K) (spec_CountCylinders_e0 s12_ i13_ i14_) h
def spec_CountCylinders_C0 (S : SatT) (K : AVal → H → Prop) (i13_ : Int) (h : H) : Prop :=
 bif (decide (i13_ > (1000000000000000))) then
 K (.tuple [.int .i64 (0), .int .i64 (3)]) h
 else
 K (.tuple [.int .i64 i13_, .int .i64 (0)]) h
def spec_CountCylinders_b0 (S : SatT) (K : AVal → H → Prop) (X0 : Frame → H → Prop) (s12_ : Sl) (i13_ : Int) (i14_ : Int) (h : H) : Prop :=
 bif (decide (i14_ < (s12_.len : Int))) then
 ixS s12_ 1 i14_ fun p0 =>
 ldI .i64 p0 h fun n1 =>
 X0 (spec_CountCylinders_e0 s12_ (mnI (w64 (i13_ + n1)) (1000000000000001)) (w64 (i14_ + (1)))) h
 else
 spec_CountCylinders_C0 S K i13_ h
theorem spec_CountCylinders_link0 (S : SatT) (K : AVal → H → Prop) (X0 : Frame → H → Prop) (s12_ : Sl) (i13_ : Int) (i14_ : Int) (h : H) : spec_CountCylinders_w0 S K X0 (spec_CountCylinders_e0 s12_ i13_ i14_) h = spec_CountCylinders_b0 S K X0 s12_ i13_ i14_ h := by kernel_rfl
theorem spec_CountCylinders_rule0 (S : SatT) (K : AVal → H → Prop) (s12_ : Sl) (I_ : Int → Int → H → Prop) (m_ : Int → Int → H → Nat)
    (hs : ∀ (X0 : Frame → H → Prop) (i13_ : Int) (i14_ : Int) (h : H), I_ i13_ i14_ h → (∀ (i13_' : Int) (i14_' : Int) (h' : H), I_ i13_' i14_' h' → m_ i13_' i14_' h' < m_ i13_ i14_ h → X0 (spec_CountCylinders_e0 s12_ i13_' i14_') h') → spec_CountCylinders_b0 S K X0 s12_ i13_ i14_ h) (i13_ : Int) (i14_ : Int) {h : H} (h0 : I_ i13_ i14_ h) : spec_CountCylinders_L0 S K s12_ i13_ i14_ h :=
  loop_rule (σ := (Int) × (Int)) (fun s_ => spec_CountCylinders_e0 s12_ (s_.1) (s_.2)) (fun s_ h => I_ (s_.1) (s_.2) h) (fun s_ h => m_ (s_.1) (s_.2) h)
    (fun X s_ h hi hx => (spec_CountCylinders_link0 S K X s12_ (s_.1) (s_.2) h).mpr (hs X (s_.1) (s_.2) h hi fun i13_' i14_' h' hi' hm' => hx (i13_', i14_') h' hi' hm')) (i13_, i14_) h0
theorem spec_CountCylinders_unroll0 (S : SatT) (K : AVal → H → Prop) (s12_ : Sl) (i13_ : Int) (i14_ : Int) (h : H) (hb : spec_CountCylinders_b0 S K (fun fr h => loopK (spec_CountCylinders_w0 S K) fr h) s12_ i13_ i14_ h) : spec_CountCylinders_L0 S K s12_ i13_ i14_ h := loop_unroll ((spec_CountCylinders_link0 S K _ s12_ i13_ i14_ h).mpr hb)
def spec_CountCylinders_main (S : SatT) (K : AVal → H → Prop) (x0 : List AVal) (x1 : Int) (x2 : Int) (h : H) : Prop :=
 newK 2 x0 h fun p0 h1 =>
 ldA p0 2 h1 fun cs2 =>
 callI S .i64 i_spec_l05Code [.agg cs2, .int .i64 x1, .int .i64 x2, .int .i64 (5)] h1 fun n4 h3 =>
 bif (n4 != (0)) then
 K (.tuple [.int .i64 (0), .int .i64 n4]) h3
 else
 ldA p0 2 h3 fun cs5 =>
 callV S i_spec_l05Words [.agg cs5, .int .i64 x2] h3 fun v7 h6 =>
 viaT v7 fun vs8 =>
 exS vs8 0 fun s9 =>
 viaT v7 fun vs10 =>
 exS vs10 1 fun s11 =>
 viaT v7 fun vs12 =>
 exS vs12 2 fun s13 =>
 ldA p0 2 h6 fun cs14 =>
 isPt p0 (
 ldI .i64 (Pt.add p0 0) h6 fun n15 =>
 callI S .i64 i_spec_l03Power [.int .i64 n15, .int .i64 x2] h6 fun n17 h16 =>
(range h16 p0.o p0.n p0.off 2 = range h6 p0.o p0.n p0.off 2) ∧ (
 callS S i_spec_l05Paths [.agg cs14, .sl s11, .sl s13, .int .i64 n17, .int .i64 x1, .int .i64 (-1)] h16 fun s19 h18 =>
 spec_CountCylinders_L0 S K s19 (0) (0) h18))
theorem spec_CountCylinders_main_link (S : SatT) (K : AVal → H → Prop) (x0 : List AVal) (x1 : Int) (x2 : Int) (h : H) : cwp S tab spec_CountCylinders_M [] (bodyOf Try.f16) (kFun tab Try.f16.results.toList K) (fr0 Try.f16 [.agg x0, .int .i64 x1, .int .i64 x2]) h = spec_CountCylinders_main S K x0 x1 x2 h := by kernel_rfl
theorem spec_CountCylinders_call (x0 : List AVal) (x1 : Int) (x2 : Int) (h : H) (K : AVal → H → Prop) (hm : spec_CountCylinders_main (Sat Try.prog) (fun v h' => K v h') x0 x1 x2 h) : callV (Sat Try.prog) i_spec_CountCylinders [.agg x0, .int .i64 x1, .int .i64 x2] h K := by
  have := Sat.ex tok mixed spec_CountCylinders_M Try.func16 (c := bodyOf Try.f16) (by kernel_rfl) (calls_of Try.func16 (c := bodyOf Try.f16) (by kernel_rfl) (by decide)) ((spec_CountCylinders_main_link _ _ x0 x1 x2 h).mpr hm)
  exact this

/-! ### (loop.example/g01354/impl.Set).isTorus -/
def impl_Set_isTorus_M : Nat → List Nat := fun i => bif i == 0 then [1, 2, 9, 10, 11] else []
def impl_Set_isTorus_ks1 (S : SatT) (K : AVal → H → Prop) : Kont := kSeq (cwp S tab impl_Set_isTorus_M [] (sub [1, 1] (bodyOf Try.f75)) (kFun tab (Try.f75).results.toList K)) (kFun tab (Try.f75).results.toList K)
def impl_Set_isTorus_e0 (s1_ : Sl) (p2_ : Pt) (s9_ : Sl) (i10_ : Int) (i11_ : Int) : Frame := [U, .sl s1_, .ptr p2_, U, U, U, U, U, U, .sl s9_, .int .i64 i10_, .int .i64 i11_, U, U, U, U, U, U, U, U, U, U, U, U, U, U, U, U, U, U, U, U, U, U, U, U, U, U, U, U, U]
def impl_Set_isTorus_w0 (S : SatT) (K : AVal → H → Prop) : (Frame → H → Prop) → Frame → H → Prop := fun X fr h => cwp S tab impl_Set_isTorus_M (impl_Set_isTorus_M 0) (sub [1, 0, 1, 0, 0] (bodyOf Try.f75)) (kSeq (fun fr h => X (mask (impl_Set_isTorus_M 0) fr) h) (kBlk 0 (impl_Set_isTorus_ks1 S K))) fr h
def impl_Set_isTorus_L0 (S : SatT) (K : AVal → H → Prop) (s1_ : Sl) (p2_ : Pt) (s9_ : Sl) (i10_ : Int) (i11_ : Int) (h : H) : Prop := loopK (impl_Set_isTorus_w0 S K) (impl_Set_isTorus_e0 s1_ p2_ s9_ i10_ i11_) h
def impl_Set_isTorus_C0 (S : SatT) (K : AVal → H → Prop) (s1_ : Sl) (p2_ : Pt) (h : H) : Prop :=
 ldA p2_ 2 h fun cs0 =>
 callB S i_impl_Set_isCylinder [.agg cs0, .sl s1_] h fun b2 h1 =>
 K (.bool b2) h1
def impl_Set_isTorus_b0 (S : SatT) (K : AVal → H → Prop) (X0 : Frame → H → Prop) (s1_ : Sl) (p2_ : Pt) (s9_ : Sl) (i10_ : Int) (i11_ : Int) (h : H) : Prop :=
 bif (decide (i11_ < i10_)) then
 ixS s9_ 1 i11_ fun p0 =>
 ldI .i64 p0 h fun n1 =>
 isPt p2_ (
 ldS (Pt.add p2_ 1) h fun s2 =>
 ixS s1_ 1 (w64 ((s1_.len : Int) - (1))) fun p3 =>
 ldS p3 h fun s4 =>
 ixS s4 1 i11_ fun p5 =>
 ldI .i64 p5 h fun n6 =>
 ixS s2 4 n6 fun p7 =>
 ixA p7 4 1 (3) fun p8 =>
 ldI .i64 p8 h fun n9 =>
 isPt p2_ (
 ldS (Pt.add p2_ 1) h fun s10 =>
 ixS s10 4 n1 fun p11 =>
 ixA p11 4 1 (1) fun p12 =>
 ldI .i64 p12 h fun n13 =>
 bif (n9 != n13) then
 K (.bool false) h
 else
 X0 (impl_Set_isTorus_e0 s1_ p2_ s9_ i10_ (w64 (i11_ + (1)))) h))
 else
 impl_Set_isTorus_C0 S K s1_ p2_ h
theorem impl_Set_isTorus_link0 (S : SatT) (K : AVal → H → Prop) (X0 : Frame → H → Prop) (s1_ : Sl) (p2_ : Pt) (s9_ : Sl) (i10_ : Int) (i11_ : Int) (h : H) : impl_Set_isTorus_w0 S K X0 (impl_Set_isTorus_e0 s1_ p2_ s9_ i10_ i11_) h = impl_Set_isTorus_b0 S K X0 s1_ p2_ s9_ i10_ i11_ h := by kernel_rfl
theorem impl_Set_isTorus_rule0 (S : SatT) (K : AVal → H → Prop) (s1_ : Sl) (p2_ : Pt) (s9_ : Sl) (i10_ : Int) (I_ : Int → H → Prop) (m_ : Int → H → Nat)
    (hs : ∀ (X0 : Frame → H → Prop) (i11_ : Int) (h : H), I_ i11_ h → (∀ (i11_' : Int) (h' : H), I_ i11_' h' → m_ i11_' h' < m_ i11_ h → X0 (impl_Set_isTorus_e0 s1_ p2_ s9_ i10_ i11_') h') → impl_Set_isTorus_b0 S K X0 s1_ p2_ s9_ i10_ i11_ h) (i11_ : Int) {h : H} (h0 : I_ i11_ h) : impl_Set_isTorus_L0 S K s1_ p2_ s9_ i10_ i11_ h :=
  loop_rule (σ := (Int)) (fun s_ => impl_Set_isTorus_e0 s1_ p2_ s9_ i10_ (s_)) (fun s_ h => I_ (s_) h) (fun s_ h => m_ (s_) h)
    (fun X s_ h hi hx => (impl_Set_isTorus_link0 S K X s1_ p2_ s9_ i10_ (s_) h).mpr (hs X (s_) h hi fun i11_' h' hi' hm' => hx (i11_') h' hi' hm')) (i11_) h0
theorem impl_Set_isTorus_unroll0 (S : SatT) (K : AVal → H → Prop) (s1_ : Sl) (p2_ : Pt) (s9_ : Sl) (i10_ : Int) (i11_ : Int) (h : H) (hb : impl_Set_isTorus_b0 S K (fun fr h => loopK (impl_Set_isTorus_w0 S K) fr h) s1_ p2_ s9_ i10_ i11_ h) : impl_Set_isTorus_L0 S K s1_ p2_ s9_ i10_ i11_ h := loop_unroll ((impl_Set_isTorus_link0 S K _ s1_ p2_ s9_ i10_ i11_ h).mpr hb)
def impl_Set_isTorus_main (S : SatT) (K : AVal → H → Prop) (x0 : List AVal) (x1 : Sl) (h : H) : Prop :=
 newK 2 x0 h fun p0 h1 =>
 ixS x1 1 (0) fun p2 =>
 ldS p2 h1 fun s3 =>
 impl_Set_isTorus_L0 S K x1 p0 s3 (s3.len : Int) (0) h1
theorem impl_Set_isTorus_main_link (S : SatT) (K : AVal → H → Prop) (x0 : List AVal) (x1 : Sl) (h : H) : cwp S tab impl_Set_isTorus_M [] (bodyOf Try.f75) (kFun tab Try.f75.results.toList K) (fr0 Try.f75 [.agg x0, .sl x1]) h = impl_Set_isTorus_main S K x0 x1 h := by kernel_rfl
theorem impl_Set_isTorus_call (x0 : List AVal) (x1 : Sl) (h : H) (K : Bool → H → Prop) (hm : impl_Set_isTorus_main (Sat Try.prog) (fun v h' => ∃ r, v = .bool r ∧ K r h') x0 x1 h) : callB (Sat Try.prog) i_impl_Set_isTorus [.agg x0, .sl x1] h K := by
  have := Sat.ex tok mixed impl_Set_isTorus_M Try.func75 (c := bodyOf Try.f75) (by kernel_rfl) (calls_of Try.func75 (c := bodyOf Try.f75) (by kernel_rfl) (by decide)) ((impl_Set_isTorus_main_link _ _ x0 x1 h).mpr hm)
  obtain ⟨v, h2, h3, r, rfl, h4⟩ := this; exact ⟨r, h2, h3, h4⟩

/-! ### loop.example/g01354/impl.isTable -/
def impl_isTable_M : Nat → List Nat := fun i => bif i == 0 then [0, 1, 16, 17, 18] else []
def impl_isTable_ks5 (S : SatT) (K : AVal → H → Prop) : Kont := kSeq (cwp S tab impl_isTable_M [] (sub [1, 1, 1] (bodyOf Try.f107)) (kFun tab (Try.f107).results.toList K)) (kFun tab (Try.f107).results.toList K)
def impl_isTable_e0 (s0_ : Sl) (i1_ : Int) (s16_ : Sl) (i17_ : Int) (i18_ : Int) : Frame := [.sl s0_, .int .i64 i1_, U, U, U, U, U, U, U, U, U, U, U, U, U, U, .sl s16_, .int .i64 i17_, .int .i64 i18_, U, U, U, U, U, U, U, U, U, U, U, U, U, U, U, U, U, U, U, U, U, U]
def impl_isTable_w0 (S : SatT) (K : AVal → H → Prop) : (Frame → H → Prop) → Frame → H → Prop := fun X fr h => cwp S tab impl_isTable_M (impl_isTable_M 0) (sub [1, 1, 0, 1, 0, 0] (bodyOf Try.f107)) (kSeq (fun fr h => X (mask (impl_isTable_M 0) fr) h) (kBlk 0 (impl_isTable_ks5 S K))) fr h
def impl_isTable_L0 (S : SatT) (K : AVal → H → Prop) (s0_ : Sl) (i1_ : Int) (s16_ : Sl) (i17_ : Int) (i18_ : Int) (h : H) : Prop := loopK (impl_isTable_w0 S K) (impl_isTable_e0 s0_ i1_ s16_ i17_ i18_) h
def impl_isTable_C0 (S : SatT) (K : AVal → H → Prop) (h : H) : Prop :=
 K (.bool true) h
def impl_isTable_b0 (S : SatT) (K : AVal → H → Prop) (X0 : Frame → H → Prop) (s0_ : Sl) (i1_ : Int) (s16_ : Sl) (i17_ : Int) (i18_ : Int) (h : H) : Prop :=
 bif (decide (i18_ < i17_)) then
 ixS s16_ 1 i18_ fun p0 =>
 ldS p0 h fun s1 =>
 ixS s0_ 1 (0) fun p2 =>
 ldS p2 h fun s3 =>
 bif ((s1.len : Int) != (s3.len : Int)) then
 K (.bool false) h
 else
 bif (decide ((s1.len : Int) < (1))) then
 K (.bool false) h
 else
 bif (decide ((s1.len : Int) > i1_)) then
 K (.bool false) h
 else
 X0 (impl_isTable_e0 s0_ i1_ s16_ i17_ (w64 (i18_ + (1)))) h
 else
 impl_isTable_C0 S K h
theorem impl_isTable_link0 (S : SatT) (K : AVal → H → Prop) (X0 : Frame → H → Prop) (s0_ : Sl) (i1_ : Int) (s16_ : Sl) (i17_ : Int) (i18_ : Int) (h : H) : impl_isTable_w0 S K X0 (impl_isTable_e0 s0_ i1_ s16_ i17_ i18_) h = impl_isTable_b0 S K X0 s0_ i1_ s16_ i17_ i18_ h := by kernel_rfl
theorem impl_isTable_rule0 (S : SatT) (K : AVal → H → Prop) (s0_ : Sl) (i1_ : Int) (s16_ : Sl) (i17_ : Int) (I_ : Int → H → Prop) (m_ : Int → H → Nat)
    (hs : ∀ (X0 : Frame → H → Prop) (i18_ : Int) (h : H), I_ i18_ h → (∀ (i18_' : Int) (h' : H), I_ i18_' h' → m_ i18_' h' < m_ i18_ h → X0 (impl_isTable_e0 s0_ i1_ s16_ i17_ i18_') h') → impl_isTable_b0 S K X0 s0_ i1_ s16_ i17_ i18_ h) (i18_ : Int) {h : H} (h0 : I_ i18_ h) : impl_isTable_L0 S K s0_ i1_ s16_ i17_ i18_ h :=
  loop_rule (σ := (Int)) (fun s_ => impl_isTable_e0 s0_ i1_ s16_ i17_ (s_)) (fun s_ h => I_ (s_) h) (fun s_ h => m_ (s_) h)
    (fun X s_ h hi hx => (impl_isTable_link0 S K X s0_ i1_ s16_ i17_ (s_) h).mpr (hs X (s_) h hi fun i18_' h' hi' hm' => hx (i18_') h' hi' hm')) (i18_) h0
theorem impl_isTable_unroll0 (S : SatT) (K : AVal → H → Prop) (s0_ : Sl) (i1_ : Int) (s16_ : Sl) (i17_ : Int) (i18_ : Int) (h : H) (hb : impl_isTable_b0 S K (fun fr h => loopK (impl_isTable_w0 S K) fr h) s0_ i1_ s16_ i17_ i18_ h) : impl_isTable_L0 S K s0_ i1_ s16_ i17_ i18_ h := loop_unroll ((impl_isTable_link0 S K _ s0_ i1_ s16_ i17_ i18_ h).mpr hb)
def impl_isTable_main (S : SatT) (K : AVal → H → Prop) (x0 : Sl) (x1 : Int) (h : H) : Prop :=
 bif (decide ((x0.len : Int) < (1))) then
 K (.bool false) h
 else
 bif (decide ((x0.len : Int) > x1)) then
 K (.bool false) h
 else
 impl_isTable_L0 S K x0 x1 x0 (x0.len : Int) (0) h
theorem impl_isTable_main_link (S : SatT) (K : AVal → H → Prop) (x0 : Sl) (x1 : Int) (h : H) : cwp S tab impl_isTable_M [] (bodyOf Try.f107) (kFun tab Try.f107.results.toList K) (fr0 Try.f107 [.sl x0, .int .i64 x1]) h = impl_isTable_main S K x0 x1 h := by kernel_rfl
theorem impl_isTable_call (x0 : Sl) (x1 : Int) (h : H) (K : Bool → H → Prop) (hm : impl_isTable_main (Sat Try.prog) (fun v h' => ∃ r, v = .bool r ∧ K r h') x0 x1 h) : callB (Sat Try.prog) i_impl_isTable [.sl x0, .int .i64 x1] h K := by
  have := Sat.ex tok mixed impl_isTable_M Try.func107 (c := bodyOf Try.f107) (by kernel_rfl) (calls_of Try.func107 (c := bodyOf Try.f107) (by kernel_rfl) (by decide)) ((impl_isTable_main_link _ _ x0 x1 h).mpr hm)
  obtain ⟨v, h2, h3, r, rfl, h4⟩ := this; exact ⟨r, h2, h3, h4⟩

/-! ### loop.example/g01354/spec.l05Cylinder -/
def spec_l05Cylinder_M : Nat → List Nat := fun i => bif i == 0 then [1, 2, 5] else []
def spec_l05Cylinder_ks1 (S : SatT) (K : AVal → H → Prop) : Kont := kSeq (cwp S tab spec_l05Cylinder_M [] (sub [1, 1] (bodyOf Try.f67)) (kFun tab (Try.f67).results.toList K)) (kFun tab (Try.f67).results.toList K)
def spec_l05Cylinder_e0 (s1_ : Sl) (p2_ : Pt) (i5_ : Int) : Frame := [U, .sl s1_, .ptr p2_, U, U, .int .i64 i5_, U, U, U, U, U, U, U, U, U, U, U, U, U, U, U, U, U, U, U, U, U, U, U, U, U, U, U, U, U, U, U, U, U, U, U]
def spec_l05Cylinder_w0 (S : SatT) (K : AVal → H → Prop) : (Frame → H → Prop) → Frame → H → Prop := fun X fr h => cwp S tab spec_l05Cylinder_M (spec_l05Cylinder_M 0) (sub [1, 0, 1, 0, 0] (bodyOf Try.f67)) (kSeq (fun fr h => X (mask (spec_l05Cylinder_M 0) fr) h) (kBlk 0 (spec_l05Cylinder_ks1 S K))) fr h
def spec_l05Cylinder_L0 (S : SatT) (K : AVal → H → Prop) (s1_ : Sl) (p2_ : Pt) (i5_ : Int) (h : H) : Prop := loopK (spec_l05Cylinder_w0 S K) (spec_l05Cylinder_e0 s1_ p2_ i5_) h
def spec_l05Cylinder_C0 (S : SatT) (K : AVal → H → Prop) (h : H) : Prop :=
 K (.bool true) h
def spec_l05Cylinder_b0 (S : SatT) (K : AVal → H → Prop) (X0 : Frame → H → Prop) (s1_ : Sl) (p2_ : Pt) (i5_ : Int) (h : H) : Prop :=
 bif (decide (i5_ < (s1_.len : Int))) then
 isPt p2_ (
 ldS (Pt.add p2_ 1) h fun s0 =>
 ixS s1_ 1 i5_ fun p1 =>
 ldS p1 h fun s2 =>
 ixS s1_ 1 i5_ fun p3 =>
 ldS p3 h fun s4 =>
 ixS s2 1 (w64 ((s4.len : Int) - (1))) fun p5 =>
 ldI .i64 p5 h fun n6 =>
 ixS s0 4 n6 fun p7 =>
 ixA p7 4 1 (2) fun p8 =>
 ldI .i64 p8 h fun n9 =>
 isPt p2_ (
 ldS (Pt.add p2_ 1) h fun s10 =>
 ixS s1_ 1 i5_ fun p11 =>
 ldS p11 h fun s12 =>
 ixS s12 1 (0) fun p13 =>
 ldI .i64 p13 h fun n14 =>
 ixS s10 4 n14 fun p15 =>
 ixA p15 4 1 (0) fun p16 =>
 ldI .i64 p16 h fun n17 =>
 bif (n9 != n17) then
 K (.bool false) h
 else
 X0 (spec_l05Cylinder_e0 s1_ p2_ (w64 (i5_ + (1)))) h))
 else
 spec_l05Cylinder_C0 S K h
theorem spec_l05Cylinder_link0 (S : SatT) (K : AVal → H → Prop) (X0 : Frame → H → Prop) (s1_ : Sl) (p2_ : Pt) (i5_ : Int) (h : H) : spec_l05Cylinder_w0 S K X0 (spec_l05Cylinder_e0 s1_ p2_ i5_) h = spec_l05Cylinder_b0 S K X0 s1_ p2_ i5_ h := by kernel_rfl
theorem spec_l05Cylinder_rule0 (S : SatT) (K : AVal → H → Prop) (s1_ : Sl) (p2_ : Pt) (I_ : Int → H → Prop) (m_ : Int → H → Nat)
    (hs : ∀ (X0 : Frame → H → Prop) (i5_ : Int) (h : H), I_ i5_ h → (∀ (i5_' : Int) (h' : H), I_ i5_' h' → m_ i5_' h' < m_ i5_ h → X0 (spec_l05Cylinder_e0 s1_ p2_ i5_') h') → spec_l05Cylinder_b0 S K X0 s1_ p2_ i5_ h) (i5_ : Int) {h : H} (h0 : I_ i5_ h) : spec_l05Cylinder_L0 S K s1_ p2_ i5_ h :=
  loop_rule (σ := (Int)) (fun s_ => spec_l05Cylinder_e0 s1_ p2_ (s_)) (fun s_ h => I_ (s_) h) (fun s_ h => m_ (s_) h)
    (fun X s_ h hi hx => (spec_l05Cylinder_link0 S K X s1_ p2_ (s_) h).mpr (hs X (s_) h hi fun i5_' h' hi' hm' => hx (i5_') h' hi' hm')) (i5_) h0
theorem spec_l05Cylinder_unroll0 (S : SatT) (K : AVal → H → Prop) (s1_ : Sl) (p2_ : Pt) (i5_ : Int) (h : H) (hb : spec_l05Cylinder_b0 S K (fun fr h => loopK (spec_l05Cylinder_w0 S K) fr h) s1_ p2_ i5_ h) : spec_l05Cylinder_L0 S K s1_ p2_ i5_ h := loop_unroll ((spec_l05Cylinder_link0 S K _ s1_ p2_ i5_ h).mpr hb)
def spec_l05Cylinder_main (S : SatT) (K : AVal → H → Prop) (x0 : List AVal) (x1 : Sl) (h : H) : Prop :=
 newK 2 x0 h fun p0 h1 =>
 spec_l05Cylinder_L0 S K x1 p0 (0) h1
theorem spec_l05Cylinder_main_link (S : SatT) (K : AVal → H → Prop) (x0 : List AVal) (x1 : Sl) (h : H) : cwp S tab spec_l05Cylinder_M [] (bodyOf Try.f67) (kFun tab Try.f67.results.toList K) (fr0 Try.f67 [.agg x0, .sl x1]) h = spec_l05Cylinder_main S K x0 x1 h := by kernel_rfl
theorem spec_l05Cylinder_call (x0 : List AVal) (x1 : Sl) (h : H) (K : Bool → H → Prop) (hm : spec_l05Cylinder_main (Sat Try.prog) (fun v h' => ∃ r, v = .bool r ∧ K r h') x0 x1 h) : callB (Sat Try.prog) i_spec_l05Cylinder [.agg x0, .sl x1] h K := by
  have := Sat.ex tok mixed spec_l05Cylinder_M Try.func67 (c := bodyOf Try.f67) (by kernel_rfl) (calls_of Try.func67 (c := bodyOf Try.f67) (by kernel_rfl) (by decide)) ((spec_l05Cylinder_main_link _ _ x0 x1 h).mpr hm)
  obtain ⟨v, h2, h3, r, rfl, h4⟩ := this; exact ⟨r, h2, h3, h4⟩

/-! ### loop.example/g01354/laws.heldInt64SS -/
def laws_heldInt64SS_M : Nat → List Nat := fun i => bif i == 0 then [0, 1, 5] else []
def laws_heldInt64SS_ks1 (S : SatT) (K : AVal → H → Prop) : Kont := kSeq (cwp S tab laws_heldInt64SS_M [] (sub [1, 1] (bodyOf Try.f33)) (kFun tab (Try.f33).results.toList K)) (kFun tab (Try.f33).results.toList K)
def laws_heldInt64SS_e0 (s0_ : Sl) (i1_ : Int) (i5_ : Int) : Frame := [.sl s0_, .int .i64 i1_, U, U, U, .int .i64 i5_, U, U, U, U, U, U, U, U, U, U, U, U, U, U, U]
def laws_heldInt64SS_w0 (S : SatT) (K : AVal → H → Prop) : (Frame → H → Prop) → Frame → H → Prop := fun X fr h => cwp S tab laws_heldInt64SS_M (laws_heldInt64SS_M 0) (sub [1, 0, 1, 0, 0] (bodyOf Try.f33)) (kSeq (fun fr h => X (mask (laws_heldInt64SS_M 0) fr) h) (kBlk 0 (laws_heldInt64SS_ks1 S K))) fr h
def laws_heldInt64SS_L0 (S : SatT) (K : AVal → H → Prop) (s0_ : Sl) (i1_ : Int) (i5_ : Int) (h : H) : Prop := loopK (laws_heldInt64SS_w0 S K) (laws_heldInt64SS_e0 s0_ i1_ i5_) h
def laws_heldInt64SS_C0 (S : SatT) (K : AVal → H → Prop) (i1_ : Int) (h : H) : Prop :=
 K (.int .i64 i1_) h
def laws_heldInt64SS_b0 (S : SatT) (K : AVal → H → Prop) (X0 : Frame → H → Prop) (s0_ : Sl) (i1_ : Int) (i5_ : Int) (h : H) : Prop :=
 bif (decide (i5_ < (s0_.len : Int))) then
 ixS s0_ 1 i5_ fun p0 =>
 ldS p0 h fun s1 =>
 callI S .i64 i_laws_heldInt64S [.sl s1, .int .i64 i1_] h fun n3 h2 =>
 bif (decide (n3 < (0))) then
 K (.int .i64 (-1)) h2
 else
 X0 (laws_heldInt64SS_e0 s0_ n3 (w64 (i5_ + (1)))) h2
 else
 laws_heldInt64SS_C0 S K i1_ h
theorem laws_heldInt64SS_link0 (S : SatT) (K : AVal → H → Prop) (X0 : Frame → H → Prop) (s0_ : Sl) (i1_ : Int) (i5_ : Int) (h : H) : laws_heldInt64SS_w0 S K X0 (laws_heldInt64SS_e0 s0_ i1_ i5_) h = laws_heldInt64SS_b0 S K X0 s0_ i1_ i5_ h := by kernel_rfl
theorem laws_heldInt64SS_rule0 (S : SatT) (K : AVal → H → Prop) (s0_ : Sl) (I_ : Int → Int → H → Prop) (m_ : Int → Int → H → Nat)
    (hs : ∀ (X0 : Frame → H → Prop) (i1_ : Int) (i5_ : Int) (h : H), I_ i1_ i5_ h → (∀ (i1_' : Int) (i5_' : Int) (h' : H), I_ i1_' i5_' h' → m_ i1_' i5_' h' < m_ i1_ i5_ h → X0 (laws_heldInt64SS_e0 s0_ i1_' i5_') h') → laws_heldInt64SS_b0 S K X0 s0_ i1_ i5_ h) (i1_ : Int) (i5_ : Int) {h : H} (h0 : I_ i1_ i5_ h) : laws_heldInt64SS_L0 S K s0_ i1_ i5_ h :=
  loop_rule (σ := (Int) × (Int)) (fun s_ => laws_heldInt64SS_e0 s0_ (s_.1) (s_.2)) (fun s_ h => I_ (s_.1) (s_.2) h) (fun s_ h => m_ (s_.1) (s_.2) h)
    (fun X s_ h hi hx => (laws_heldInt64SS_link0 S K X s0_ (s_.1) (s_.2) h).mpr (hs X (s_.1) (s_.2) h hi fun i1_' i5_' h' hi' hm' => hx (i1_', i5_') h' hi' hm')) (i1_, i5_) h0
theorem laws_heldInt64SS_unroll0 (S : SatT) (K : AVal → H → Prop) (s0_ : Sl) (i1_ : Int) (i5_ : Int) (h : H) (hb : laws_heldInt64SS_b0 S K (fun fr h => loopK (laws_heldInt64SS_w0 S K) fr h) s0_ i1_ i5_ h) : laws_heldInt64SS_L0 S K s0_ i1_ i5_ h := loop_unroll ((laws_heldInt64SS_link0 S K _ s0_ i1_ i5_ h).mpr hb)
def laws_heldInt64SS_main (S : SatT) (K : AVal → H → Prop) (x0 : Sl) (x1 : Int) (h : H) : Prop :=
 laws_heldInt64SS_L0 S K x0 x1 (0) h
theorem laws_heldInt64SS_main_link (S : SatT) (K : AVal → H → Prop) (x0 : Sl) (x1 : Int) (h : H) : cwp S tab laws_heldInt64SS_M [] (bodyOf Try.f33) (kFun tab Try.f33.results.toList K) (fr0 Try.f33 [.sl x0, .int .i64 x1]) h = laws_heldInt64SS_main S K x0 x1 h := by kernel_rfl
theorem laws_heldInt64SS_call (x0 : Sl) (x1 : Int) (h : H) (K : Int → H → Prop) (hm : laws_heldInt64SS_main (Sat Try.prog) (fun v h' => ∃ r, v = .int .i64 r ∧ K r h') x0 x1 h) : callI (Sat Try.prog) .i64 i_laws_heldInt64SS [.sl x0, .int .i64 x1] h K := by
  have := Sat.ex tok mixed laws_heldInt64SS_M Try.func33 (c := bodyOf Try.f33) (by kernel_rfl) (calls_of Try.func33 (c := bodyOf Try.f33) (by kernel_rfl) (by decide)) ((laws_heldInt64SS_main_link _ _ x0 x1 h).mpr hm)
  obtain ⟨v, h2, h3, r, rfl, h4⟩ := this; exact ⟨r, h2, h3, h4⟩

/-! ### loop.example/g01354/spec.l01Before -/
def spec_l01Before_M : Nat → List Nat := fun i => bif i == 0 then [2, 3, 5] else []
def spec_l01Before_ks1 (S : SatT) (K : AVal → H → Prop) : Kont := kSeq (cwp S tab spec_l01Before_M [] (sub [1, 1] (bodyOf Try.f110)) (kFun tab (Try.f110).results.toList K)) (kFun tab (Try.f110).results.toList K)
def spec_l01Before_e0 (p2_ : Pt) (p3_ : Pt) (i5_ : Int) : Frame := [U, U, .ptr p2_, .ptr p3_, U, .int .i64 i5_, U, U, U, U, U, U, U, U, U, U, U, U, U, U, U, U, U, U]
def spec_l01Before_w0 (S : SatT) (K : AVal → H → Prop) : (Frame → H → Prop) → Frame → H → Prop := fun X fr h => cwp S tab spec_l01Before_M (spec_l01Before_M 0) (sub [1, 0, 1, 0, 0] (bodyOf Try.f110)) (kSeq (fun fr h => X (mask (spec_l01Before_M 0) fr) h) (kBlk 0 (spec_l01Before_ks1 S K))) fr h
def spec_l01Before_L0 (S : SatT) (K : AVal → H → Prop) (p2_ : Pt) (p3_ : Pt) (i5_ : Int) (h : H) : Prop := loopK (spec_l01Before_w0 S K) (spec_l01Before_e0 p2_ p3_ i5_) h
def spec_l01Before_C0 (S : SatT) (K : AVal → H → Prop) (h : H) : Prop :=
 K (.bool false) h
def spec_l01Before_b0 (S : SatT) (K : AVal → H → Prop) (X0 : Frame → H → Prop) (p2_ : Pt) (p3_ : Pt) (i5_ : Int) (h : H) : Prop :=
 bif (decide (i5_ < (4))) then
 ixA p2_ 4 1 i5_ fun p0 =>
 ldI .i64 p0 h fun n1 =>
 ixA p3_ 4 1 i5_ fun p2 =>
 ldI .i64 p2 h fun n3 =>
 bif (n1 != n3) then
 ixA p2_ 4 1 i5_ fun p4 =>
 ldI .i64 p4 h fun n5 =>
 ixA p3_ 4 1 i5_ fun p6 =>
 ldI .i64 p6 h fun n7 =>
 K (.bool (decide (n5 < n7))) h
 else
 X0 (spec_l01Before_e0 p2_ p3_ (w64 (i5_ + (1)))) h
 else
 spec_l01Before_C0 S K h
theorem spec_l01Before_link0 (S : SatT) (K : AVal → H → Prop) (X0 : Frame → H → Prop) (p2_ : Pt) (p3_ : Pt) (i5_ : Int) (h : H) : spec_l01Before_w0 S K X0 (spec_l01Before_e0 p2_ p3_ i5_) h = spec_l01Before_b0 S K X0 p2_ p3_ i5_ h := by kernel_rfl
theorem spec_l01Before_rule0 (S : SatT) (K : AVal → H → Prop) (p2_ : Pt) (p3_ : Pt) (I_ : Int → H → Prop) (m_ : Int → H → Nat)
    (hs : ∀ (X0 : Frame → H → Prop) (i5_ : Int) (h : H), I_ i5_ h → (∀ (i5_' : Int) (h' : H), I_ i5_' h' → m_ i5_' h' < m_ i5_ h → X0 (spec_l01Before_e0 p2_ p3_ i5_') h') → spec_l01Before_b0 S K X0 p2_ p3_ i5_ h) (i5_ : Int) {h : H} (h0 : I_ i5_ h) : spec_l01Before_L0 S K p2_ p3_ i5_ h :=
  loop_rule (σ := (Int)) (fun s_ => spec_l01Before_e0 p2_ p3_ (s_)) (fun s_ h => I_ (s_) h) (fun s_ h => m_ (s_) h)
    (fun X s_ h hi hx => (spec_l01Before_link0 S K X p2_ p3_ (s_) h).mpr (hs X (s_) h hi fun i5_' h' hi' hm' => hx (i5_') h' hi' hm')) (i5_) h0
theorem spec_l01Before_unroll0 (S : SatT) (K : AVal → H → Prop) (p2_ : Pt) (p3_ : Pt) (i5_ : Int) (h : H) (hb : spec_l01Before_b0 S K (fun fr h => loopK (spec_l01Before_w0 S K) fr h) p2_ p3_ i5_ h) : spec_l01Before_L0 S K p2_ p3_ i5_ h := loop_unroll ((spec_l01Before_link0 S K _ p2_ p3_ i5_ h).mpr hb)
def spec_l01Before_main (S : SatT) (K : AVal → H → Prop) (x0 : List AVal) (x1 : List AVal) (h : H) : Prop :=
 newK 4 x0 h fun p0 h1 =>
 newK 4 x1 h1 fun p2 h3 =>
 spec_l01Before_L0 S K p0 p2 (0) h3
theorem spec_l01Before_main_link (S : SatT) (K : AVal → H → Prop) (x0 : List AVal) (x1 : List AVal) (h : H) : cwp S tab spec_l01Before_M [] (bodyOf Try.f110) (kFun tab Try.f110.results.toList K) (fr0 Try.f110 [.agg x0, .agg x1]) h = spec_l01Before_main S K x0 x1 h := by kernel_rfl
theorem spec_l01Before_call (x0 : List AVal) (x1 : List AVal) (h : H) (K : Bool → H → Prop) (hm : spec_l01Before_main (Sat Try.prog) (fun v h' => ∃ r, v = .bool r ∧ K r h') x0 x1 h) : callB (Sat Try.prog) i_spec_l01Before [.agg x0, .agg x1] h K := by
  have := Sat.ex tok mixed spec_l01Before_M Try.func110 (c := bodyOf Try.f110) (by kernel_rfl) (calls_of Try.func110 (c := bodyOf Try.f110) (by kernel_rfl) (by decide)) ((spec_l01Before_main_link _ _ x0 x1 h).mpr hm)
  obtain ⟨v, h2, h3, r, rfl, h4⟩ := this; exact ⟨r, h2, h3, h4⟩

/-! ### loop.example/g01354/laws.eqInt64S -/
def laws_eqInt64S_M : Nat → List Nat := fun i => bif i == 0 then [0, 1, 5] else []
def laws_eqInt64S_ks4 (S : SatT) (K : AVal → H → Prop) : Kont := kSeq (cwp S tab laws_eqInt64S_M [] (sub [1, 1, 1] (bodyOf Try.f72)) (kFun tab (Try.f72).results.toList K)) (kFun tab (Try.f72).results.toList K)
def laws_eqInt64S_e0 (s0_ : Sl) (s1_ : Sl) (i5_ : Int) : Frame := [.sl s0_, .sl s1_, U, U, U, .int .i64 i5_, U, U, U, U, U, U, U, U, U, U, U, U, U, U, U, U, U, U, U, U]
def laws_eqInt64S_w0 (S : SatT) (K : AVal → H → Prop) : (Frame → H → Prop) → Frame → H → Prop := fun X fr h => cwp S tab laws_eqInt64S_M (laws_eqInt64S_M 0) (sub [1, 1, 0, 1, 0, 0] (bodyOf Try.f72)) (kSeq (fun fr h => X (mask (laws_eqInt64S_M 0) fr) h) (kBlk 0 (laws_eqInt64S_ks4 S K))) fr h
def laws_eqInt64S_L0 (S : SatT) (K : AVal → H → Prop) (s0_ : Sl) (s1_ : Sl) (i5_ : Int) (h : H) : Prop := loopK (laws_eqInt64S_w0 S K) (laws_eqInt64S_e0 s0_ s1_ i5_) h
def laws_eqInt64S_C0 (S : SatT) (K : AVal → H → Prop) (h : H) : Prop :=
 K (.bool true) h
def laws_eqInt64S_b0 (S : SatT) (K : AVal → H → Prop) (X0 : Frame → H → Prop) (s0_ : Sl) (s1_ : Sl) (i5_ : Int) (h : H) : Prop :=
 bif (decide (i5_ < (s0_.len : Int))) then
 ixS s0_ 1 i5_ fun p0 =>
 ldI .i64 p0 h fun n1 =>
 ixS s1_ 1 i5_ fun p2 =>
 ldI .i64 p2 h fun n3 =>
 bif (n1 != n3) then
 K (.bool false) h
 else
 X0 (laws_eqInt64S_e0 s0_ s1_ (w64 (i5_ + (1)))) h
 else
 laws_eqInt64S_C0 S K h
theorem laws_eqInt64S_link0 (S : SatT) (K : AVal → H → Prop) (X0 : Frame → H → Prop) (s0_ : Sl) (s1_ : Sl) (i5_ : Int) (h : H) : laws_eqInt64S_w0 S K X0 (laws_eqInt64S_e0 s0_ s1_ i5_) h = laws_eqInt64S_b0 S K X0 s0_ s1_ i5_ h := by kernel_rfl
theorem laws_eqInt64S_rule0 (S : SatT) (K : AVal → H → Prop) (s0_ : Sl) (s1_ : Sl) (I_ : Int → H → Prop) (m_ : Int → H → Nat)
    (hs : ∀ (X0 : Frame → H → Prop) (i5_ : Int) (h : H), I_ i5_ h → (∀ (i5_' : Int) (h' : H), I_ i5_' h' → m_ i5_' h' < m_ i5_ h → X0 (laws_eqInt64S_e0 s0_ s1_ i5_') h') → laws_eqInt64S_b0 S K X0 s0_ s1_ i5_ h) (i5_ : Int) {h : H} (h0 : I_ i5_ h) : laws_eqInt64S_L0 S K s0_ s1_ i5_ h :=
  loop_rule (σ := (Int)) (fun s_ => laws_eqInt64S_e0 s0_ s1_ (s_)) (fun s_ h => I_ (s_) h) (fun s_ h => m_ (s_) h)
    (fun X s_ h hi hx => (laws_eqInt64S_link0 S K X s0_ s1_ (s_) h).mpr (hs X (s_) h hi fun i5_' h' hi' hm' => hx (i5_') h' hi' hm')) (i5_) h0
theorem laws_eqInt64S_unroll0 (S : SatT) (K : AVal → H → Prop) (s0_ : Sl) (s1_ : Sl) (i5_ : Int) (h : H) (hb : laws_eqInt64S_b0 S K (fun fr h => loopK (laws_eqInt64S_w0 S K) fr h) s0_ s1_ i5_ h) : laws_eqInt64S_L0 S K s0_ s1_ i5_ h := loop_unroll ((laws_eqInt64S_link0 S K _ s0_ s1_ i5_ h).mpr hb)
def laws_eqInt64S_main (S : SatT) (K : AVal → H → Prop) (x0 : Sl) (x1 : Sl) (h : H) : Prop :=
 bif ((x0.len : Int) != (x1.len : Int)) then
 K (.bool false) h
 else
 laws_eqInt64S_L0 S K x0 x1 (0) h
theorem laws_eqInt64S_main_link (S : SatT) (K : AVal → H → Prop) (x0 : Sl) (x1 : Sl) (h : H) : cwp S tab laws_eqInt64S_M [] (bodyOf Try.f72) (kFun tab Try.f72.results.toList K) (fr0 Try.f72 [.sl x0, .sl x1]) h = laws_eqInt64S_main S K x0 x1 h := by kernel_rfl
theorem laws_eqInt64S_call (x0 : Sl) (x1 : Sl) (h : H) (K : Bool → H → Prop) (hm : laws_eqInt64S_main (Sat Try.prog) (fun v h' => ∃ r, v = .bool r ∧ K r h') x0 x1 h) : callB (Sat Try.prog) i_laws_eqInt64S [.sl x0, .sl x1] h K := by
  have := Sat.ex tok mixed laws_eqInt64S_M Try.func72 (c := bodyOf Try.f72) (by kernel_rfl) (calls_of Try.func72 (c := bodyOf Try.f72) (by kernel_rfl) (by decide)) ((laws_eqInt64S_main_link _ _ x0 x1 h).mpr hm)
  obtain ⟨v, h2, h3, r, rfl, h4⟩ := this; exact ⟨r, h2, h3, h4⟩

/-! ### loop.example/g01354/laws.toInt64SS -/
def laws_toInt64SS_M : Nat → List Nat := fun i => bif i == 0 then [0, 3, 4] else []
def laws_toInt64SS_ks2 (S : SatT) (K : AVal → H → Prop) : Kont := kSeq (cwp S tab laws_toInt64SS_M [] (sub [1, 1, 1] (bodyOf Try.f24)) (kFun tab (Try.f24).results.toList K)) (kFun tab (Try.f24).results.toList K)
def laws_toInt64SS_e0 (s0_ : Sl) (s3_ : Sl) (i4_ : Int) : Frame := [.sl s0_, U, U, .sl s3_, .int .i64 i4_, U, U, U, U, U, U, U, U, U, U, U, U, U, U, U, U, U, U]
def laws_toInt64SS_w0 (S : SatT) (K : AVal → H → Prop) : (Frame → H → Prop) → Frame → H → Prop := fun X fr h => cwp S tab laws_toInt64SS_M (laws_toInt64SS_M 0) (sub [1, 1, 0, 1, 0, 0] (bodyOf Try.f24)) (kSeq (fun fr h => X (mask (laws_toInt64SS_M 0) fr) h) (kBlk 0 (laws_toInt64SS_ks2 S K))) fr h
def laws_toInt64SS_L0 (S : SatT) (K : AVal → H → Prop) (s0_ : Sl) (s3_ : Sl) (i4_ : Int) (h : H) : Prop := loopK (laws_toInt64SS_w0 S K) (laws_toInt64SS_e0 s0_ s3_ i4_) h
def laws_toInt64SS_C0 (S : SatT) (K : AVal → H → Prop) (s3_ : Sl) (h : H) : Prop :=
 K (.sl s3_) h
def laws_toInt64SS_b0 (S : SatT) (K : AVal → H → Prop) (X0 : Frame → H → Prop) (s0_ : Sl) (s3_ : Sl) (i4_ : Int) (h : H) : Prop :=
 bif (decide (i4_ < (s0_.len : Int))) then
 ixS s0_ 1 i4_ fun p0 =>
 ldS p0 h fun s1 =>
 callS S i_laws_toInt64S [.sl s1] h fun s3 h2 =>
 ixS s3_ 1 i4_ fun p4 =>
 st1 p4 (.sl s3) h2 fun h5 =>
 X0 (laws_toInt64SS_e0 s0_ s3_ (w64 (i4_ + (1)))) h5
 else
 laws_toInt64SS_C0 S K s3_ h
theorem laws_toInt64SS_link0 (S : SatT) (K : AVal → H → Prop) (X0 : Frame → H → Prop) (s0_ : Sl) (s3_ : Sl) (i4_ : Int) (h : H) : laws_toInt64SS_w0 S K X0 (laws_toInt64SS_e0 s0_ s3_ i4_) h = laws_toInt64SS_b0 S K X0 s0_ s3_ i4_ h := by kernel_rfl
theorem laws_toInt64SS_rule0 (S : SatT) (K : AVal → H → Prop) (s0_ : Sl) (s3_ : Sl) (I_ : Int → H → Prop) (m_ : Int → H → Nat)
    (hs : ∀ (X0 : Frame → H → Prop) (i4_ : Int) (h : H), I_ i4_ h → (∀ (i4_' : Int) (h' : H), I_ i4_' h' → m_ i4_' h' < m_ i4_ h → X0 (laws_toInt64SS_e0 s0_ s3_ i4_') h') → laws_toInt64SS_b0 S K X0 s0_ s3_ i4_ h) (i4_ : Int) {h : H} (h0 : I_ i4_ h) : laws_toInt64SS_L0 S K s0_ s3_ i4_ h :=
  loop_rule (σ := (Int)) (fun s_ => laws_toInt64SS_e0 s0_ s3_ (s_)) (fun s_ h => I_ (s_) h) (fun s_ h => m_ (s_) h)
    (fun X s_ h hi hx => (laws_toInt64SS_link0 S K X s0_ s3_ (s_) h).mpr (hs X (s_) h hi fun i4_' h' hi' hm' => hx (i4_') h' hi' hm')) (i4_) h0
theorem laws_toInt64SS_unroll0 (S : SatT) (K : AVal → H → Prop) (s0_ : Sl) (s3_ : Sl) (i4_ : Int) (h : H) (hb : laws_toInt64SS_b0 S K (fun fr h => loopK (laws_toInt64SS_w0 S K) fr h) s0_ s3_ i4_ h) : laws_toInt64SS_L0 S K s0_ s3_ i4_ h := loop_unroll ((laws_toInt64SS_link0 S K _ s0_ s3_ i4_ h).mpr hb)
def laws_toInt64SS_main (S : SatT) (K : AVal → H → Prop) (x0 : Sl) (h : H) : Prop :=
 mkS (x0.len : Int) [.sl Sl.nil] h fun s0 h1 =>
 laws_toInt64SS_L0 S K x0 s0 (0) h1
theorem laws_toInt64SS_main_link (S : SatT) (K : AVal → H → Prop) (x0 : Sl) (h : H) : cwp S tab laws_toInt64SS_M [] (bodyOf Try.f24) (kFun tab Try.f24.results.toList K) (fr0 Try.f24 [.sl x0]) h = laws_toInt64SS_main S K x0 h := by kernel_rfl
theorem laws_toInt64SS_call (x0 : Sl) (h : H) (K : Sl → H → Prop) (hm : laws_toInt64SS_main (Sat Try.prog) (fun v h' => ∃ r, v = .sl r ∧ K r h') x0 h) : callS (Sat Try.prog) i_laws_toInt64SS [.sl x0] h K := by
  have := Sat.ex tok mixed laws_toInt64SS_M Try.func24 (c := bodyOf Try.f24) (by kernel_rfl) (calls_of Try.func24 (c := bodyOf Try.f24) (by kernel_rfl) (by decide)) ((laws_toInt64SS_main_link _ _ x0 h).mpr hm)
  obtain ⟨v, h2, h3, r, rfl, h4⟩ := this; exact ⟨r, h2, h3, h4⟩

/-! ### loop.example/g01354/laws.toInt64S -/
def laws_toInt64S_M : Nat → List Nat := fun i => bif i == 0 then [0, 3, 4] else []
def laws_toInt64S_ks2 (S : SatT) (K : AVal → H → Prop) : Kont := kSeq (cwp S tab laws_toInt64S_M [] (sub [1, 1, 1] (bodyOf Try.f68)) (kFun tab (Try.f68).results.toList K)) (kFun tab (Try.f68).results.toList K)
def laws_toInt64S_e0 (s0_ : Sl) (s3_ : Sl) (i4_ : Int) : Frame := [.sl s0_, U, U, .sl s3_, .int .i64 i4_, U, U, U, U, U, U, U, U, U, U, U, U, U, U, U, U, U]
def laws_toInt64S_w0 (S : SatT) (K : AVal → H → Prop) : (Frame → H → Prop) → Frame → H → Prop := fun X fr h => cwp S tab laws_toInt64S_M (laws_toInt64S_M 0) (sub [1, 1, 0, 1, 0, 0] (bodyOf Try.f68)) (kSeq (fun fr h => X (mask (laws_toInt64S_M 0) fr) h) (kBlk 0 (laws_toInt64S_ks2 S K))) fr h
def laws_toInt64S_L0 (S : SatT) (K : AVal → H → Prop) (s0_ : Sl) (s3_ : Sl) (i4_ : Int) (h : H) : Prop := loopK (laws_toInt64S_w0 S K) (laws_toInt64S_e0 s0_ s3_ i4_) h
def laws_toInt64S_C0 (S : SatT) (K : AVal → H → Prop) (s3_ : Sl) (h : H) : Prop :=
 K (.sl s3_) h
def laws_toInt64S_b0 (S : SatT) (K : AVal → H → Prop) (X0 : Frame → H → Prop) (s0_ : Sl) (s3_ : Sl) (i4_ : Int) (h : H) : Prop :=
 bif (decide (i4_ < (s0_.len : Int))) then
 ixS s0_ 1 i4_ fun p0 =>
 ldI .i64 p0 h fun n1 =>
 ixS s3_ 1 i4_ fun p2 =>
 st1 p2 (.int .i64 n1) h fun h3 =>
 X0 (laws_toInt64S_e0 s0_ s3_ (w64 (i4_ + (1)))) h3
 else
 laws_toInt64S_C0 S K s3_ h
theorem laws_toInt64S_link0 (S : SatT) (K : AVal → H → Prop) (X0 : Frame → H → Prop) (s0_ : Sl) (s3_ : Sl) (i4_ : Int) (h : H) : laws_toInt64S_w0 S K X0 (laws_toInt64S_e0 s0_ s3_ i4_) h = laws_toInt64S_b0 S K X0 s0_ s3_ i4_ h := by kernel_rfl
theorem laws_toInt64S_rule0 (S : SatT) (K : AVal → H → Prop) (s0_ : Sl) (s3_ : Sl) (I_ : Int → H → Prop) (m_ : Int → H → Nat)
    (hs : ∀ (X0 : Frame → H → Prop) (i4_ : Int) (h : H), I_ i4_ h → (∀ (i4_' : Int) (h' : H), I_ i4_' h' → m_ i4_' h' < m_ i4_ h → X0 (laws_toInt64S_e0 s0_ s3_ i4_') h') → laws_toInt64S_b0 S K X0 s0_ s3_ i4_ h) (i4_ : Int) {h : H} (h0 : I_ i4_ h) : laws_toInt64S_L0 S K s0_ s3_ i4_ h :=
  loop_rule (σ := (Int)) (fun s_ => laws_toInt64S_e0 s0_ s3_ (s_)) (fun s_ h => I_ (s_) h) (fun s_ h => m_ (s_) h)
    (fun X s_ h hi hx => (laws_toInt64S_link0 S K X s0_ s3_ (s_) h).mpr (hs X (s_) h hi fun i4_' h' hi' hm' => hx (i4_') h' hi' hm')) (i4_) h0
theorem laws_toInt64S_unroll0 (S : SatT) (K : AVal → H → Prop) (s0_ : Sl) (s3_ : Sl) (i4_ : Int) (h : H) (hb : laws_toInt64S_b0 S K (fun fr h => loopK (laws_toInt64S_w0 S K) fr h) s0_ s3_ i4_ h) : laws_toInt64S_L0 S K s0_ s3_ i4_ h := loop_unroll ((laws_toInt64S_link0 S K _ s0_ s3_ i4_ h).mpr hb)
def laws_toInt64S_main (S : SatT) (K : AVal → H → Prop) (x0 : Sl) (h : H) : Prop :=
 mkS (x0.len : Int) [.int .i64 (0)] h fun s0 h1 =>
 laws_toInt64S_L0 S K x0 s0 (0) h1
theorem laws_toInt64S_main_link (S : SatT) (K : AVal → H → Prop) (x0 : Sl) (h : H) : cwp S tab laws_toInt64S_M [] (bodyOf Try.f68) (kFun tab Try.f68.results.toList K) (fr0 Try.f68 [.sl x0]) h = laws_toInt64S_main S K x0 h := by kernel_rfl
theorem laws_toInt64S_call (x0 : Sl) (h : H) (K : Sl → H → Prop) (hm : laws_toInt64S_main (Sat Try.prog) (fun v h' => ∃ r, v = .sl r ∧ K r h') x0 h) : callS (Sat Try.prog) i_laws_toInt64S [.sl x0] h K := by
  have := Sat.ex tok mixed laws_toInt64S_M Try.func68 (c := bodyOf Try.f68) (by kernel_rfl) (calls_of Try.func68 (c := bodyOf Try.f68) (by kernel_rfl) (by decide)) ((laws_toInt64S_main_link _ _ x0 h).mpr hm)
  obtain ⟨v, h2, h3, r, rfl, h4⟩ := this; exact ⟨r, h2, h3, h4⟩

/-! ### loop.example/g01354/laws.FnExactShiftNumber -/
def laws_FnExactShiftNumber_M : Nat → List Nat := fun i => []
def laws_FnExactShiftNumber_main (S : SatT) (K : AVal → H → Prop) (x0 : List AVal) (x1 : Sl) (h : H) : Prop :=
 newK 2 x0 h fun p0 h1 =>
 ldA p0 2 h1 fun cs2 =>
 callI S .i64 i_laws_szSet [.agg cs2, .int .i64 (1048576)] h1 fun n4 h3 =>
 bif (decide (n4 < (0))) then
 K (.bool true) h3
 else
 callI S .i64 i_laws_szInt64SS [.sl x1, .int .i64 n4] h3 fun n6 h5 =>
 bif (decide (n6 < (0))) then
 K (.bool true) h5
 else
 ldA p0 2 h5 fun cs7 =>
 callA S i_laws_toSet [.agg cs7] h5 fun cs9 h8 =>
 callS S i_laws_toInt64SS [.sl x1] h8 fun s11 h10 =>
 callV S i_spec_ShiftNumber [.agg cs9, .sl s11] h10 fun v13 h12 =>
 viaT v13 fun vs14 =>
 exI .i64 vs14 0 fun n15 =>
 viaT v13 fun vs16 =>
 exI .i64 vs16 1 fun n17 =>
 ldA p0 2 h12 fun cs18 =>
 callA S i_laws_toSet [.agg cs18] h12 fun cs20 h19 =>
 newO [.int .i64 (0), .sl Sl.nil] h19 fun p21 h22 =>
 stN p21 2 cs20 h22 fun h23 =>
 callS S i_laws_toInt64SS [.sl x1] h23 fun s25 h24 =>
 ldA p21 2 h24 fun cs26 =>
 callV S i_impl_ShiftNumber [.agg cs26, .sl s25] h24 fun v28 h27 =>
 viaT v28 fun vs29 =>
 exI .i64 vs29 0 fun n30 =>
 viaT v28 fun vs31 =>
 exI .i64 vs31 1 fun n32 =>
 bif (n30 != n15) then
 K (.bool false) h27
 else
 bif (n32 != n17) then
 K (.bool false) h27
 else
 ldA p21 2 h27 fun cs33 =>
 ldA p0 2 h27 fun cs34 =>
 callA S i_laws_toSet [.agg cs34] h27 fun cs36 h35 =>
(range h35 p21.o p21.n p21.off 2 = range h27 p21.o p21.n p21.off 2) ∧ (
 callB S i_laws_eqSet [.agg cs33, .agg cs36] h35 fun b38 h37 =>
 bif (!b38) then
 K (.bool false) h37
 else
 callS S i_laws_toInt64SS [.sl x1] h37 fun s40 h39 =>
 callB S i_laws_eqInt64SS [.sl s25, .sl s40] h39 fun b42 h41 =>
 bif (!b42) then
 K (.bool false) h41
 else
 K (.bool true) h41)
theorem laws_FnExactShiftNumber_main_link (S : SatT) (K : AVal → H → Prop) (x0 : List AVal) (x1 : Sl) (h : H) : cwp S tab laws_FnExactShiftNumber_M [] (bodyOf Try.f12) (kFun tab Try.f12.results.toList K) (fr0 Try.f12 [.agg x0, .sl x1]) h = laws_FnExactShiftNumber_main S K x0 x1 h := by kernel_rfl
theorem laws_FnExactShiftNumber_call (x0 : List AVal) (x1 : Sl) (h : H) (K : Bool → H → Prop) (hm : laws_FnExactShiftNumber_main (Sat Try.prog) (fun v h' => ∃ r, v = .bool r ∧ K r h') x0 x1 h) : callB (Sat Try.prog) i_laws_FnExactShiftNumber [.agg x0, .sl x1] h K := by
  have := Sat.ex tok mixed laws_FnExactShiftNumber_M Try.func12 (c := bodyOf Try.f12) (by kernel_rfl) (calls_of Try.func12 (c := bodyOf Try.f12) (by kernel_rfl) (by decide)) ((laws_FnExactShiftNumber_main_link _ _ x0 x1 h).mpr hm)
  obtain ⟨v, h2, h3, r, rfl, h4⟩ := this; exact ⟨r, h2, h3, h4⟩

/-! ### loop.example/g01354/laws.FnExactCountForms -/
def laws_FnExactCountForms_M : Nat → List Nat := fun i => []
def laws_FnExactCountForms_main (S : SatT) (K : AVal → H → Prop) (x0 : List AVal) (x1 : Int) (x2 : Int) (h : H) : Prop :=
 newK 2 x0 h fun p0 h1 =>
 ldA p0 2 h1 fun cs2 =>
 callI S .i64 i_laws_szSet [.agg cs2, .int .i64 (1048576)] h1 fun n4 h3 =>
 bif (decide (n4 < (0))) then
 K (.bool true) h3
 else
 ldA p0 2 h3 fun cs5 =>
 callA S i_laws_toSet [.agg cs5] h3 fun cs7 h6 =>
 callV S i_spec_CountForms [.agg cs7, .int .i64 x1, .int .i64 x2] h6 fun v9 h8 =>
 viaT v9 fun vs10 =>
 exI .i64 vs10 0 fun n11 =>
 viaT v9 fun vs12 =>
 exI .i64 vs12 1 fun n13 =>
 ldA p0 2 h8 fun cs14 =>
 callA S i_laws_toSet [.agg cs14] h8 fun cs16 h15 =>
 newO [.int .i64 (0), .sl Sl.nil] h15 fun p17 h18 =>
 stN p17 2 cs16 h18 fun h19 =>
 ldA p17 2 h19 fun cs20 =>
 callV S i_impl_CountForms [.agg cs20, .int .i64 x1, .int .i64 x2] h19 fun v22 h21 =>
 viaT v22 fun vs23 =>
 exI .i64 vs23 0 fun n24 =>
 viaT v22 fun vs25 =>
 exI .i64 vs25 1 fun n26 =>
 bif (n24 != n11) then
 K (.bool false) h21
 else
 bif (n26 != n13) then
 K (.bool false) h21
 else
 ldA p17 2 h21 fun cs27 =>
 ldA p0 2 h21 fun cs28 =>
 callA S i_laws_toSet [.agg cs28] h21 fun cs30 h29 =>
(range h29 p17.o p17.n p17.off 2 = range h21 p17.o p17.n p17.off 2) ∧ (
 callB S i_laws_eqSet [.agg cs27, .agg cs30] h29 fun b32 h31 =>
 bif (!b32) then
 K (.bool false) h31
 else
 K (.bool true) h31)
theorem laws_FnExactCountForms_main_link (S : SatT) (K : AVal → H → Prop) (x0 : List AVal) (x1 : Int) (x2 : Int) (h : H) : cwp S tab laws_FnExactCountForms_M [] (bodyOf Try.f10) (kFun tab Try.f10.results.toList K) (fr0 Try.f10 [.agg x0, .int .i64 x1, .int .i64 x2]) h = laws_FnExactCountForms_main S K x0 x1 x2 h := by kernel_rfl
theorem laws_FnExactCountForms_call (x0 : List AVal) (x1 : Int) (x2 : Int) (h : H) (K : Bool → H → Prop) (hm : laws_FnExactCountForms_main (Sat Try.prog) (fun v h' => ∃ r, v = .bool r ∧ K r h') x0 x1 x2 h) : callB (Sat Try.prog) i_laws_FnExactCountForms [.agg x0, .int .i64 x1, .int .i64 x2] h K := by
  have := Sat.ex tok mixed laws_FnExactCountForms_M Try.func10 (c := bodyOf Try.f10) (by kernel_rfl) (calls_of Try.func10 (c := bodyOf Try.f10) (by kernel_rfl) (by decide)) ((laws_FnExactCountForms_main_link _ _ x0 x1 x2 h).mpr hm)
  obtain ⟨v, h2, h3, r, rfl, h4⟩ := this; exact ⟨r, h2, h3, h4⟩

/-! ### loop.example/g01354/impl.ShiftTorus -/
def impl_ShiftTorus_M : Nat → List Nat := fun i => []
def impl_ShiftTorus_main (S : SatT) (K : AVal → H → Prop) (x0 : List AVal) (x1 : Sl) (x2 : Int) (x3 : Int) (h : H) : Prop :=
 newK 2 x0 h fun p0 h1 =>
 newO [.sl x1] h1 fun p2 h3 =>
 newO [.int .i64 x2] h3 fun p4 h5 =>
 newO [.int .i64 x3] h5 fun p6 h7 =>
 ldA p0 2 h7 fun cs8 =>
 callI S .i64 i_impl_setCode [.agg cs8, .func 95 [.ptr p0, .ptr p2, .ptr p4, .ptr p6]] h7 fun n10 h9 =>
 bif (n10 != (0)) then
 K (.tuple [.sl Sl.nil, .int .i64 n10]) h9
 else
 ldA p0 2 h9 fun cs11 =>
 ldS p2 h9 fun s12 =>
 callB S i_impl_Set_isTorus [.agg cs11, .sl s12] h9 fun b14 h13 =>
 bif (!b14) then
 K (.tuple [.sl Sl.nil, .int .i64 (5)]) h13
 else
 ldS p2 h13 fun s15 =>
 ldI .i64 p4 h13 fun n16 =>
 ldI .i64 p6 h13 fun n17 =>
 callS S i_impl_shifted [.sl s15, .int .i64 n16, .int .i64 n17] h13 fun s19 h18 =>
 K (.tuple [.sl s19, .int .i64 (0)]) h18
theorem impl_ShiftTorus_main_link (S : SatT) (K : AVal → H → Prop) (x0 : List AVal) (x1 : Sl) (x2 : Int) (x3 : Int) (h : H) : cwp S tab impl_ShiftTorus_M [] (bodyOf Try.f41) (kFun tab Try.f41.results.toList K) (fr0 Try.f41 [.agg x0, .sl x1, .int .i64 x2, .int .i64 x3]) h = impl_ShiftTorus_main S K x0 x1 x2 x3 h := by kernel_rfl
theorem impl_ShiftTorus_call (x0 : List AVal) (x1 : Sl) (x2 : Int) (x3 : Int) (h : H) (K : AVal → H → Prop) (hm : impl_ShiftTorus_main (Sat Try.prog) (fun v h' => K v h') x0 x1 x2 x3 h) : callV (Sat Try.prog) i_impl_ShiftTorus [.agg x0, .sl x1, .int .i64 x2, .int .i64 x3] h K := by
  have := Sat.ex tok mixed impl_ShiftTorus_M Try.func41 (c := bodyOf Try.f41) (by kernel_rfl) (calls_of Try.func41 (c := bodyOf Try.f41) (by kernel_rfl) (by decide)) ((impl_ShiftTorus_main_link _ _ x0 x1 x2 x3 h).mpr hm)
  exact this

/-! ### loop.example/g01354/spec.l05Code -/
def spec_l05Code_M : Nat → List Nat := fun i => []
def spec_l05Code_main (S : SatT) (K : AVal → H → Prop) (x0 : List AVal) (x1 : Int) (x2 : Int) (x3 : Int) (h : H) : Prop :=
 newK 2 x0 h fun p0 h1 =>
 ldA p0 2 h1 fun cs2 =>
 callB S i_spec_l01Is [.agg cs2] h1 fun b4 h3 =>
 bif (!b4) then
 K (.int .i64 (1)) h3
 else
 callB S i_spec_l01In [.int .i64 x1, .int .i64 (1), .int .i64 x3] h3 fun b6 h5 =>
 bif (!b6) then
 K (.int .i64 (2)) h5
 else
 callB S i_spec_l01In [.int .i64 x2, .int .i64 (1), .int .i64 (3)] h5 fun b8 h7 =>
 bif (!b8) then
 K (.int .i64 (2)) h7
 else
 K (.int .i64 (0)) h7
theorem spec_l05Code_main_link (S : SatT) (K : AVal → H → Prop) (x0 : List AVal) (x1 : Int) (x2 : Int) (x3 : Int) (h : H) : cwp S tab spec_l05Code_M [] (bodyOf Try.f49) (kFun tab Try.f49.results.toList K) (fr0 Try.f49 [.agg x0, .int .i64 x1, .int .i64 x2, .int .i64 x3]) h = spec_l05Code_main S K x0 x1 x2 x3 h := by kernel_rfl
theorem spec_l05Code_call (x0 : List AVal) (x1 : Int) (x2 : Int) (x3 : Int) (h : H) (K : Int → H → Prop) (hm : spec_l05Code_main (Sat Try.prog) (fun v h' => ∃ r, v = .int .i64 r ∧ K r h') x0 x1 x2 x3 h) : callI (Sat Try.prog) .i64 i_spec_l05Code [.agg x0, .int .i64 x1, .int .i64 x2, .int .i64 x3] h K := by
  have := Sat.ex tok mixed spec_l05Code_M Try.func49 (c := bodyOf Try.f49) (by kernel_rfl) (calls_of Try.func49 (c := bodyOf Try.f49) (by kernel_rfl) (by decide)) ((spec_l05Code_main_link _ _ x0 x1 x2 x3 h).mpr hm)
  obtain ⟨v, h2, h3, r, rfl, h4⟩ := this; exact ⟨r, h2, h3, h4⟩

/-! ### loop.example/g01354/impl.keeping$1 -/
def impl_keeping_1_M : Nat → List Nat := fun i => []
def impl_keeping_1_main (S : SatT) (K : AVal → H → Prop) (x0 : Int) (x1 : Int) (x2 : Sl) (x3 : Pt) (x4 : Pt) (h : H) : Prop :=
 ldS x3 h fun s0 =>
 callI S .i64 i_impl_compareRows [.sl x2, .sl s0] h fun n2 h1 =>
 bif (n2 == (0)) then
 ldS x4 h1 fun s3 =>
 newS 2 1 [.int .i64 x0, .int .i64 x1] h1 fun s4 h5 =>
 newS 1 1 [.sl s4] h5 fun s6 h7 =>
 app s3 s6 1 h7 fun s8 h9 =>
 st1 x4 (.sl s8) h9 fun h10 =>
 K (.tuple []) h10
 else
 K (.tuple []) h1
theorem impl_keeping_1_main_link (S : SatT) (K : AVal → H → Prop) (x0 : Int) (x1 : Int) (x2 : Sl) (x3 : Pt) (x4 : Pt) (h : H) : cwp S tab impl_keeping_1_M [] (bodyOf Try.f123) (kFun tab Try.f123.results.toList K) (fr0 Try.f123 [.int .i64 x0, .int .i64 x1, .sl x2, .ptr x3, .ptr x4]) h = impl_keeping_1_main S K x0 x1 x2 x3 x4 h := by kernel_rfl
theorem impl_keeping_1_call (x0 : Int) (x1 : Int) (x2 : Sl) (x3 : Pt) (x4 : Pt) (h : H) (K : AVal → H → Prop) (hm : impl_keeping_1_main (Sat Try.prog) (fun v h' => K v h') x0 x1 x2 x3 x4 h) : callV (Sat Try.prog) i_impl_keeping_1 [.int .i64 x0, .int .i64 x1, .sl x2, .ptr x3, .ptr x4] h K := by
  have := Sat.ex tok mixed impl_keeping_1_M Try.func123 (c := bodyOf Try.f123) (by kernel_rfl) (calls_of Try.func123 (c := bodyOf Try.f123) (by kernel_rfl) (by decide)) ((impl_keeping_1_main_link _ _ x0 x1 x2 x3 x4 h).mpr hm)
  exact this

/-! ### loop.example/g01354/spec.ShiftNumber -/
def spec_ShiftNumber_M : Nat → List Nat := fun i => []
def spec_ShiftNumber_main (S : SatT) (K : AVal → H → Prop) (x0 : List AVal) (x1 : Sl) (h : H) : Prop :=
 newK 2 x0 h fun p0 h1 =>
 ldA p0 2 h1 fun cs2 =>
 callI S .i64 i_spec_l05Given [.agg cs2, .sl x1] h1 fun n4 h3 =>
 bif (n4 != (0)) then
 K (.tuple [.int .i64 (0), .int .i64 n4]) h3
 else
 ixS x1 1 (0) fun p5 =>
 ldS p5 h3 fun s6 =>
 callS S i_spec_l05Kept [.sl x1] h3 fun s8 h7 =>
(cell h7 p5 = cell h3 p5) ∧ (
 nz (s8.len : Int) (
 K (.tuple [.int .i64 (w64 (Int.tdiv (w64 ((x1.len : Int) * (s6.len : Int))) (s8.len : Int))), .int .i64 (0)]) h7))
theorem spec_ShiftNumber_main_link (S : SatT) (K : AVal → H → Prop) (x0 : List AVal) (x1 : Sl) (h : H) : cwp S tab spec_ShiftNumber_M [] (bodyOf Try.f42) (kFun tab Try.f42.results.toList K) (fr0 Try.f42 [.agg x0, .sl x1]) h = spec_ShiftNumber_main S K x0 x1 h := by kernel_rfl
theorem spec_ShiftNumber_call (x0 : List AVal) (x1 : Sl) (h : H) (K : AVal → H → Prop) (hm : spec_ShiftNumber_main (Sat Try.prog) (fun v h' => K v h') x0 x1 h) : callV (Sat Try.prog) i_spec_ShiftNumber [.agg x0, .sl x1] h K := by
  have := Sat.ex tok mixed spec_ShiftNumber_M Try.func42 (c := bodyOf Try.f42) (by kernel_rfl) (calls_of Try.func42 (c := bodyOf Try.f42) (by kernel_rfl) (by decide)) ((spec_ShiftNumber_main_link _ _ x0 x1 h).mpr hm)
  exact this

/-! ### loop.example/g01354/spec.CountTori -/
def spec_CountTori_M : Nat → List Nat := fun i => []
def spec_CountTori_main (S : SatT) (K : AVal → H → Prop) (x0 : List AVal) (x1 : Int) (x2 : Int) (h : H) : Prop :=
 newK 2 x0 h fun p0 h1 =>
 ldA p0 2 h1 fun cs2 =>
 callI S .i64 i_spec_l05Code [.agg cs2, .int .i64 x1, .int .i64 x2, .int .i64 (3)] h1 fun n4 h3 =>
 bif (n4 != (0)) then
 K (.tuple [.int .i64 (0), .int .i64 n4]) h3
 else
 ldA p0 2 h3 fun cs5 =>
 callI S .i64 i_spec_l05Count [.agg cs5, .int .i64 x1, .int .i64 x2] h3 fun n7 h6 =>
 K (.tuple [.int .i64 n7, .int .i64 (0)]) h6
theorem spec_CountTori_main_link (S : SatT) (K : AVal → H → Prop) (x0 : List AVal) (x1 : Int) (x2 : Int) (h : H) : cwp S tab spec_CountTori_M [] (bodyOf Try.f20) (kFun tab Try.f20.results.toList K) (fr0 Try.f20 [.agg x0, .int .i64 x1, .int .i64 x2]) h = spec_CountTori_main S K x0 x1 x2 h := by kernel_rfl
theorem spec_CountTori_call (x0 : List AVal) (x1 : Int) (x2 : Int) (h : H) (K : AVal → H → Prop) (hm : spec_CountTori_main (Sat Try.prog) (fun v h' => K v h') x0 x1 x2 h) : callV (Sat Try.prog) i_spec_CountTori [.agg x0, .int .i64 x1, .int .i64 x2] h K := by
  have := Sat.ex tok mixed spec_CountTori_M Try.func20 (c := bodyOf Try.f20) (by kernel_rfl) (calls_of Try.func20 (c := bodyOf Try.f20) (by kernel_rfl) (by decide)) ((spec_CountTori_main_link _ _ x0 x1 x2 h).mpr hm)
  exact this

/-! ### loop.example/g01354/impl.CountCylinders$1 -/
def impl_CountCylinders_1_M : Nat → List Nat := fun i => []
def impl_CountCylinders_1_main (S : SatT) (K : AVal → H → Prop) (x0 : Pt) (x1 : Pt) (h : H) : Prop :=
 ldI .i64 x0 h fun n0 =>
 callB S i_impl_within [.int .i64 n0, .int .i64 (1), .int .i64 (5)] h fun b2 h1 =>
 bif b2 then
 ldI .i64 x1 h1 fun n3 =>
 callB S i_impl_within [.int .i64 n3, .int .i64 (1), .int .i64 (3)] h1 fun b5 h4 =>
 K (.bool b5) h4
 else
 K (.bool false) h1
theorem impl_CountCylinders_1_main_link (S : SatT) (K : AVal → H → Prop) (x0 : Pt) (x1 : Pt) (h : H) : cwp S tab impl_CountCylinders_1_M [] (bodyOf Try.f55) (kFun tab Try.f55.results.toList K) (fr0 Try.f55 [.ptr x0, .ptr x1]) h = impl_CountCylinders_1_main S K x0 x1 h := by kernel_rfl
theorem impl_CountCylinders_1_call (x0 : Pt) (x1 : Pt) (h : H) (K : Bool → H → Prop) (hm : impl_CountCylinders_1_main (Sat Try.prog) (fun v h' => ∃ r, v = .bool r ∧ K r h') x0 x1 h) : callB (Sat Try.prog) i_impl_CountCylinders_1 [.ptr x0, .ptr x1] h K := by
  have := Sat.ex tok mixed impl_CountCylinders_1_M Try.func55 (c := bodyOf Try.f55) (by kernel_rfl) (calls_of Try.func55 (c := bodyOf Try.f55) (by kernel_rfl) (by decide)) ((impl_CountCylinders_1_main_link _ _ x0 x1 h).mpr hm)
  obtain ⟨v, h2, h3, r, rfl, h4⟩ := this; exact ⟨r, h2, h3, h4⟩

/-! ### loop.example/g01354/impl.leastForm$1 -/
def impl_leastForm_1_M : Nat → List Nat := fun i => []
def impl_leastForm_1_main (S : SatT) (K : AVal → H → Prop) (x0 : Int) (x1 : Int) (x2 : Sl) (x3 : Pt) (h : H) : Prop :=
 ldS x3 h fun s0 =>
 callI S .i64 i_impl_compareRows [.sl x2, .sl s0] h fun n2 h1 =>
 bif (decide (n2 < (0))) then
 st1 x3 (.sl x2) h1 fun h3 =>
 K (.tuple []) h3
 else
 K (.tuple []) h1
theorem impl_leastForm_1_main_link (S : SatT) (K : AVal → H → Prop) (x0 : Int) (x1 : Int) (x2 : Sl) (x3 : Pt) (h : H) : cwp S tab impl_leastForm_1_M [] (bodyOf Try.f121) (kFun tab Try.f121.results.toList K) (fr0 Try.f121 [.int .i64 x0, .int .i64 x1, .sl x2, .ptr x3]) h = impl_leastForm_1_main S K x0 x1 x2 x3 h := by kernel_rfl
theorem impl_leastForm_1_call (x0 : Int) (x1 : Int) (x2 : Sl) (x3 : Pt) (h : H) (K : AVal → H → Prop) (hm : impl_leastForm_1_main (Sat Try.prog) (fun v h' => K v h') x0 x1 x2 x3 h) : callV (Sat Try.prog) i_impl_leastForm_1 [.int .i64 x0, .int .i64 x1, .sl x2, .ptr x3] h K := by
  have := Sat.ex tok mixed impl_leastForm_1_M Try.func121 (c := bodyOf Try.f121) (by kernel_rfl) (calls_of Try.func121 (c := bodyOf Try.f121) (by kernel_rfl) (by decide)) ((impl_leastForm_1_main_link _ _ x0 x1 x2 x3 h).mpr hm)
  exact this

/-! ### loop.example/g01354/impl.setCode -/
def impl_setCode_M : Nat → List Nat := fun i => []
def impl_setCode_main (S : SatT) (K : AVal → H → Prop) (x0 : List AVal) (x1 : AVal) (h : H) : Prop :=
 newK 2 x0 h fun p0 h1 =>
 ldA p0 2 h1 fun cs2 =>
 callB S i_impl_IsSet [.agg cs2] h1 fun b4 h3 =>
 bif (!b4) then
 K (.int .i64 (1)) h3
 else
 viaF x1 [] fun g5 ys6 =>
 callB S g5 ys6 h3 fun b8 h7 =>
 bif (!b8) then
 K (.int .i64 (2)) h7
 else
 K (.int .i64 (0)) h7
theorem impl_setCode_main_link (S : SatT) (K : AVal → H → Prop) (x0 : List AVal) (x1 : AVal) (h : H) : cwp S tab impl_setCode_M [] (bodyOf Try.f54) (kFun tab Try.f54.results.toList K) (fr0 Try.f54 [.agg x0, x1]) h = impl_setCode_main S K x0 x1 h := by kernel_rfl
theorem impl_setCode_call (x0 : List AVal) (x1 : AVal) (h : H) (K : Int → H → Prop) (hm : impl_setCode_main (Sat Try.prog) (fun v h' => ∃ r, v = .int .i64 r ∧ K r h') x0 x1 h) : callI (Sat Try.prog) .i64 i_impl_setCode [.agg x0, x1] h K := by
  have := Sat.ex tok mixed impl_setCode_M Try.func54 (c := bodyOf Try.f54) (by kernel_rfl) (calls_of Try.func54 (c := bodyOf Try.f54) (by kernel_rfl) (by decide)) ((impl_setCode_main_link _ _ x0 x1 h).mpr hm)
  obtain ⟨v, h2, h3, r, rfl, h4⟩ := this; exact ⟨r, h2, h3, h4⟩

/-! ### loop.example/g01354/impl.isTile -/
def impl_isTile_M : Nat → List Nat := fun i => []
def impl_isTile_main (S : SatT) (K : AVal → H → Prop) (x0 : List AVal) (x1 : Int) (h : H) : Prop :=
 newK 4 x0 h fun p0 h1 =>
 newO [.int .i64 x1] h1 fun p2 h3 =>
 cutA p0 4 1 (0) ((4 : Nat) : Int) fun s4 =>
 callB S i_slices_ContainsFunc_s_int64_int64_ [.sl s4, .func 125 [.ptr p2]] h3 fun b6 h5 =>
 K (.bool (!b6)) h5
theorem impl_isTile_main_link (S : SatT) (K : AVal → H → Prop) (x0 : List AVal) (x1 : Int) (h : H) : cwp S tab impl_isTile_M [] (bodyOf Try.f111) (kFun tab Try.f111.results.toList K) (fr0 Try.f111 [.agg x0, .int .i64 x1]) h = impl_isTile_main S K x0 x1 h := by kernel_rfl
theorem impl_isTile_call (x0 : List AVal) (x1 : Int) (h : H) (K : Bool → H → Prop) (hm : impl_isTile_main (Sat Try.prog) (fun v h' => ∃ r, v = .bool r ∧ K r h') x0 x1 h) : callB (Sat Try.prog) i_impl_isTile [.agg x0, .int .i64 x1] h K := by
  have := Sat.ex tok mixed impl_isTile_M Try.func111 (c := bodyOf Try.f111) (by kernel_rfl) (calls_of Try.func111 (c := bodyOf Try.f111) (by kernel_rfl) (by decide)) ((impl_isTile_main_link _ _ x0 x1 h).mpr hm)
  obtain ⟨v, h2, h3, r, rfl, h4⟩ := this; exact ⟨r, h2, h3, h4⟩

/-! ### loop.example/g01354/laws.szSet -/
def laws_szSet_M : Nat → List Nat := fun i => []
def laws_szSet_main (S : SatT) (K : AVal → H → Prop) (x0 : List AVal) (x1 : Int) (h : H) : Prop :=
 newK 2 x0 h fun p0 h1 =>
 isPt p0 (
 ldS (Pt.add p0 1) h1 fun s2 =>
 callI S .i64 i_laws_szTileS [.sl s2, .int .i64 x1] h1 fun n4 h3 =>
 bif (decide (n4 < (0))) then
 K (.int .i64 (-1)) h3
 else
 K (.int .i64 n4) h3)
theorem laws_szSet_main_link (S : SatT) (K : AVal → H → Prop) (x0 : List AVal) (x1 : Int) (h : H) : cwp S tab laws_szSet_M [] (bodyOf Try.f15) (kFun tab Try.f15.results.toList K) (fr0 Try.f15 [.agg x0, .int .i64 x1]) h = laws_szSet_main S K x0 x1 h := by kernel_rfl
theorem laws_szSet_call (x0 : List AVal) (x1 : Int) (h : H) (K : Int → H → Prop) (hm : laws_szSet_main (Sat Try.prog) (fun v h' => ∃ r, v = .int .i64 r ∧ K r h') x0 x1 h) : callI (Sat Try.prog) .i64 i_laws_szSet [.agg x0, .int .i64 x1] h K := by
  have := Sat.ex tok mixed laws_szSet_M Try.func15 (c := bodyOf Try.f15) (by kernel_rfl) (calls_of Try.func15 (c := bodyOf Try.f15) (by kernel_rfl) (by decide)) ((laws_szSet_main_link _ _ x0 x1 h).mpr hm)
  obtain ⟨v, h2, h3, r, rfl, h4⟩ := this; exact ⟨r, h2, h3, h4⟩

/-! ### loop.example/g01354/impl.FirstTorus$1 -/
def impl_FirstTorus_1_M : Nat → List Nat := fun i => []
def impl_FirstTorus_1_main (S : SatT) (K : AVal → H → Prop) (x0 : Pt) (x1 : Pt) (h : H) : Prop :=
 ldI .i64 x0 h fun n0 =>
 ldI .i64 x1 h fun n1 =>
 callB S i_impl_areSizes [.int .i64 n0, .int .i64 n1] h fun b3 h2 =>
 K (.bool b3) h2
theorem impl_FirstTorus_1_main_link (S : SatT) (K : AVal → H → Prop) (x0 : Pt) (x1 : Pt) (h : H) : cwp S tab impl_FirstTorus_1_M [] (bodyOf Try.f83) (kFun tab Try.f83.results.toList K) (fr0 Try.f83 [.ptr x0, .ptr x1]) h = impl_FirstTorus_1_main S K x0 x1 h := by kernel_rfl
theorem impl_FirstTorus_1_call (x0 : Pt) (x1 : Pt) (h : H) (K : Bool → H → Prop) (hm : impl_FirstTorus_1_main (Sat Try.prog) (fun v h' => ∃ r, v = .bool r ∧ K r h') x0 x1 h) : callB (Sat Try.prog) i_impl_FirstTorus_1 [.ptr x0, .ptr x1] h K := by
  have := Sat.ex tok mixed impl_FirstTorus_1_M Try.func83 (c := bodyOf Try.f83) (by kernel_rfl) (calls_of Try.func83 (c := bodyOf Try.f83) (by kernel_rfl) (by decide)) ((impl_FirstTorus_1_main_link _ _ x0 x1 h).mpr hm)
  obtain ⟨v, h2, h3, r, rfl, h4⟩ := this; exact ⟨r, h2, h3, h4⟩

/-! ### loop.example/g01354/impl.CountTori$1 -/
def impl_CountTori_1_M : Nat → List Nat := fun i => []
def impl_CountTori_1_main (S : SatT) (K : AVal → H → Prop) (x0 : Pt) (x1 : Pt) (h : H) : Prop :=
 ldI .i64 x0 h fun n0 =>
 ldI .i64 x1 h fun n1 =>
 callB S i_impl_areSizes [.int .i64 n0, .int .i64 n1] h fun b3 h2 =>
 K (.bool b3) h2
theorem impl_CountTori_1_main_link (S : SatT) (K : AVal → H → Prop) (x0 : Pt) (x1 : Pt) (h : H) : cwp S tab impl_CountTori_1_M [] (bodyOf Try.f61) (kFun tab Try.f61.results.toList K) (fr0 Try.f61 [.ptr x0, .ptr x1]) h = impl_CountTori_1_main S K x0 x1 h := by kernel_rfl
theorem impl_CountTori_1_call (x0 : Pt) (x1 : Pt) (h : H) (K : Bool → H → Prop) (hm : impl_CountTori_1_main (Sat Try.prog) (fun v h' => ∃ r, v = .bool r ∧ K r h') x0 x1 h) : callB (Sat Try.prog) i_impl_CountTori_1 [.ptr x0, .ptr x1] h K := by
  have := Sat.ex tok mixed impl_CountTori_1_M Try.func61 (c := bodyOf Try.f61) (by kernel_rfl) (calls_of Try.func61 (c := bodyOf Try.f61) (by kernel_rfl) (by decide)) ((impl_CountTori_1_main_link _ _ x0 x1 h).mpr hm)
  obtain ⟨v, h2, h3, r, rfl, h4⟩ := this; exact ⟨r, h2, h3, h4⟩

/-! ### loop.example/g01354/impl.isTile$1 -/
def impl_isTile_1_M : Nat → List Nat := fun i => []
def impl_isTile_1_main (S : SatT) (K : AVal → H → Prop) (x0 : Int) (x1 : Pt) (h : H) : Prop :=
 ldI .i64 x1 h fun n0 =>
 callB S i_impl_within [.int .i64 x0, .int .i64 (0), .int .i64 (w64 (n0 - (1)))] h fun b2 h1 =>
 K (.bool (!b2)) h1
theorem impl_isTile_1_main_link (S : SatT) (K : AVal → H → Prop) (x0 : Int) (x1 : Pt) (h : H) : cwp S tab impl_isTile_1_M [] (bodyOf Try.f125) (kFun tab Try.f125.results.toList K) (fr0 Try.f125 [.int .i64 x0, .ptr x1]) h = impl_isTile_1_main S K x0 x1 h := by kernel_rfl
theorem impl_isTile_1_call (x0 : Int) (x1 : Pt) (h : H) (K : Bool → H → Prop) (hm : impl_isTile_1_main (Sat Try.prog) (fun v h' => ∃ r, v = .bool r ∧ K r h') x0 x1 h) : callB (Sat Try.prog) i_impl_isTile_1 [.int .i64 x0, .ptr x1] h K := by
  have := Sat.ex tok mixed impl_isTile_1_M Try.func125 (c := bodyOf Try.f125) (by kernel_rfl) (calls_of Try.func125 (c := bodyOf Try.f125) (by kernel_rfl) (by decide)) ((impl_isTile_1_main_link _ _ x0 x1 h).mpr hm)
  obtain ⟨v, h2, h3, r, rfl, h4⟩ := this; exact ⟨r, h2, h3, h4⟩

/-! ### (loop.example/g01354/impl.Set).firstTorus$1 -/
def impl_Set_firstTorus_1_M : Nat → List Nat := fun i => []
def impl_Set_firstTorus_1_main (S : SatT) (K : AVal → H → Prop) (x0 : Sl) (x1 : Pt) (h : H) : Prop :=
 st1 x1 (.sl x0) h fun h0 =>
 K (.bool false) h0
theorem impl_Set_firstTorus_1_main_link (S : SatT) (K : AVal → H → Prop) (x0 : Sl) (x1 : Pt) (h : H) : cwp S tab impl_Set_firstTorus_1_M [] (bodyOf Try.f114) (kFun tab Try.f114.results.toList K) (fr0 Try.f114 [.sl x0, .ptr x1]) h = impl_Set_firstTorus_1_main S K x0 x1 h := by kernel_rfl
theorem impl_Set_firstTorus_1_call (x0 : Sl) (x1 : Pt) (h : H) (K : Bool → H → Prop) (hm : impl_Set_firstTorus_1_main (Sat Try.prog) (fun v h' => ∃ r, v = .bool r ∧ K r h') x0 x1 h) : callB (Sat Try.prog) i_impl_Set_firstTorus_1 [.sl x0, .ptr x1] h K := by
  have := Sat.ex tok mixed impl_Set_firstTorus_1_M Try.func114 (c := bodyOf Try.f114) (by kernel_rfl) (calls_of Try.func114 (c := bodyOf Try.f114) (by kernel_rfl) (by decide)) ((impl_Set_firstTorus_1_main_link _ _ x0 x1 h).mpr hm)
  obtain ⟨v, h2, h3, r, rfl, h4⟩ := this; exact ⟨r, h2, h3, h4⟩

/-! ### cmp.isNaN[int64] -/
def cmp_isNaN_int64__M : Nat → List Nat := fun i => []
def cmp_isNaN_int64__main (S : SatT) (K : AVal → H → Prop) (x0 : Int) (h : H) : Prop :=
 K (.bool (x0 != x0)) h
theorem cmp_isNaN_int64__main_link (S : SatT) (K : AVal → H → Prop) (x0 : Int) (h : H) : cwp S tab cmp_isNaN_int64__M [] (bodyOf Try.f128) (kFun tab Try.f128.results.toList K) (fr0 Try.f128 [.int .i64 x0]) h = cmp_isNaN_int64__main S K x0 h := by kernel_rfl
theorem cmp_isNaN_int64__call (x0 : Int) (h : H) (K : Bool → H → Prop) (hm : cmp_isNaN_int64__main (Sat Try.prog) (fun v h' => ∃ r, v = .bool r ∧ K r h') x0 h) : callB (Sat Try.prog) i_cmp_isNaN_int64_ [.int .i64 x0] h K := by
  have := Sat.ex tok mixed cmp_isNaN_int64__M Try.func128 (c := bodyOf Try.f128) (by kernel_rfl) (calls_of Try.func128 (c := bodyOf Try.f128) (by kernel_rfl) (by decide)) ((cmp_isNaN_int64__main_link _ _ x0 h).mpr hm)
  obtain ⟨v, h2, h3, r, rfl, h4⟩ := this; exact ⟨r, h2, h3, h4⟩

end Go.Proofs.Ytfmjjpophipfbaa.Cl
