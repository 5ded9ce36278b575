/- Typed forms of functions of the program, and their links. Printed by program. No claim is stated here. -/
import Derived.Test.YtdmhchgaeepdmaaGTab
set_option linter.unusedVariables false
namespace Go.Proofs.Ytdmhchgaeepdmaa.Cl
open Go
/-! ### loop.example/g01354/laws.FnColumnGraphs -/
def laws_FnColumnGraphs_M : Nat → List Nat := fun i => bif i == 6 then [5, 10, 28, 29, 30, 31, 32] else bif i == 4 then [5, 10, 28, 29, 30, 31] else bif i == 2 then [3, 4, 5, 6, 9, 10, 13, 14, 19, 23, 25, 26, 27] else bif i == 0 then [3, 4, 5, 6, 9, 10, 13, 14, 19, 23, 25] else []
def laws_FnColumnGraphs_ks30 (S : SatT) (K : AVal → H → Prop) : Kont := kSeq (cwp S tab laws_FnColumnGraphs_M [] (sub [1, 1, 1, 1, 1, 1, 1, 1, 1, 1, 1, 1, 1] (bodyOf Try.f13)) (kFun tab (Try.f13).results.toList K)) (kFun tab (Try.f13).results.toList K)
def laws_FnColumnGraphs_e0 (p3_ : Pt) (i4_ : Int) (s5_ : Sl) (i6_ : Int) (i9_ : Int) (i10_ : Int) (b13_ : Bool) (i14_ : Int) (s19_ : Sl) (s23_ : Sl) (i25_ : Int) : Frame := [U, U, U, .ptr p3_, .int .i64 i4_, .sl s5_, .int .i64 i6_, U, U, .int .i64 i9_, .int .i64 i10_, U, U, .bool b13_, .int .i64 i14_, U, U, U, U, .sl s19_, U, U, U, .sl s23_, U, .int .i64 i25_, U, U, U, U, U, U, U, U, U, U, U, U, U, U, U, U, U, U, U, U, U, U, U, U, U, U, U, U, U, U, U, U, U, U, U, U, U, U, U, U, U, U, U, U, U, U, U, U, U, U, U, U, U, U, U, U, U, U, U, U, U, U, U, U, U, U, U, U, U, U, U, U, U, U, U, U, U, U, U, U, U, U, U, U, U, U, U, U, U, U, U, U, U, U, U, U, U, U, U, U, U, U, U, U, U, U, U, U, U, U, U, U, U, U, U, U, U, U, U, U, U, U, U, U, U, U, U, U, U, U, U, U, U, U, U, U, U, U, U, U, U, U, U, U, U, U, U, U, U, U, U, U, U, U, U, U, U, U, U, U, U, U, U, U, U, U, U, U, U, U, U, U, U, U, U, U, U, U, U, U, U, U, U, U, U, U, U, U, U, U, U, U, U, U, U, U, U, U, U, U, U, U, U, U, U, U, U, U, U, U, U, U, U, U, U, U, U, U, U, U, U, U, U, U, U, U, U, U, U, U, U, U, U]
def laws_FnColumnGraphs_w0 (S : SatT) (K : AVal → H → Prop) : (Frame → H → Prop) → Frame → H → Prop := fun X fr h => cwp S tab laws_FnColumnGraphs_M (laws_FnColumnGraphs_M 0) (sub [1, 1, 1, 1, 1, 1, 1, 1, 1, 1, 1, 1, 0, 1, 0, 1, 1, 0, 1, 0, 0] (bodyOf Try.f13)) (kSeq (fun fr h => X (mask (laws_FnColumnGraphs_M 0) fr) h) (kBlk 0 (laws_FnColumnGraphs_ks30 S K))) fr h
def laws_FnColumnGraphs_L0 (S : SatT) (K : AVal → H → Prop) (p3_ : Pt) (i4_ : Int) (s5_ : Sl) (i6_ : Int) (i9_ : Int) (i10_ : Int) (b13_ : Bool) (i14_ : Int) (s19_ : Sl) (s23_ : Sl) (i25_ : Int) (h : H) : Prop := loopK (laws_FnColumnGraphs_w0 S K) (laws_FnColumnGraphs_e0 p3_ i4_ s5_ i6_ i9_ i10_ b13_ i14_ s19_ s23_ i25_) h
def laws_FnColumnGraphs_ks37 (S : SatT) (K : AVal → H → Prop) (X0 : Frame → H → Prop) : Kont := kSeq (cwp S tab laws_FnColumnGraphs_M (laws_FnColumnGraphs_M 0) (sub [1, 1, 1, 1, 1, 1, 1, 1, 1, 1, 1, 1, 0, 1, 0, 1, 1, 0, 1, 0, 0, 1, 1] (bodyOf Try.f13)) (kSeq (fun fr h => X0 (mask (laws_FnColumnGraphs_M 0) fr) h) (kBlk 0 (laws_FnColumnGraphs_ks30 S K)))) (kSeq (fun fr h => X0 (mask (laws_FnColumnGraphs_M 0) fr) h) (kBlk 0 (laws_FnColumnGraphs_ks30 S K)))
def laws_FnColumnGraphs_ks39 (S : SatT) (K : AVal → H → Prop) (X0 : Frame → H → Prop) : Kont := kSeq (cwp S tab laws_FnColumnGraphs_M (laws_FnColumnGraphs_M 1) (sub [1, 1, 1, 1, 1, 1, 1, 1, 1, 1, 1, 1, 0, 1, 0, 1, 1, 0, 1, 0, 0, 1, 0, 0, 1, 1] (bodyOf Try.f13)) (kBlk 1 (laws_FnColumnGraphs_ks37 S K X0))) (kBlk 1 (laws_FnColumnGraphs_ks37 S K X0))
def laws_FnColumnGraphs_e2 (p3_ : Pt) (i4_ : Int) (s5_ : Sl) (i6_ : Int) (i9_ : Int) (i10_ : Int) (b13_ : Bool) (i14_ : Int) (s19_ : Sl) (s23_ : Sl) (i25_ : Int) (i26_ : Int) (i27_ : Int) : Frame := [U, U, U, .ptr p3_, .int .i64 i4_, .sl s5_, .int .i64 i6_, U, U, .int .i64 i9_, .int .i64 i10_, U, U, .bool b13_, .int .i64 i14_, U, U, U, U, .sl s19_, U, U, U, .sl s23_, U, .int .i64 i25_, .int .i64 i26_, .int .i64 i27_, U, U, U, U, U, U, U, U, U, U, U, U, U, U, U, U, U, U, U, U, U, U, U, U, U, U, U, U, U, U, U, U, U, U, U, U, U, U, U, U, U, U, U, U, U, U, U, U, U, U, U, U, U, U, U, U, U, U, U, U, U, U, U, U, U, U, U, U, U, U, U, U, U, U, U, U, U, U, U, U, U, U, U, U, U, U, U, U, U, U, U, U, U, U, U, U, U, U, U, U, U, U, U, U, U, U, U, U, U, U, U, U, U, U, U, U, U, U, U, U, U, U, U, U, U, U, U, U, U, U, U, U, U, U, U, U, U, U, U, U, U, U, U, U, U, U, U, U, U, U, U, U, U, U, U, U, U, U, U, U, U, U, U, U, U, U, U, U, U, U, U, U, U, U, U, U, U, U, U, U, U, U, U, U, U, U, U, U, U, U, U, U, U, U, U, U, U, U, U, U, U, U, U, U, U, U, U, U, U, U, U, U, U, U, U, U, U, U, U, U, U, U, U, U, U, U, U, U, U, U, U]
def laws_FnColumnGraphs_w2 (S : SatT) (K : AVal → H → Prop) (X0 : Frame → H → Prop) : (Frame → H → Prop) → Frame → H → Prop := fun X fr h => cwp S tab laws_FnColumnGraphs_M (laws_FnColumnGraphs_M 2) (sub [1, 1, 1, 1, 1, 1, 1, 1, 1, 1, 1, 1, 0, 1, 0, 1, 1, 0, 1, 0, 0, 1, 0, 0, 1, 0, 1, 0, 0] (bodyOf Try.f13)) (kSeq (fun fr h => X (mask (laws_FnColumnGraphs_M 2) fr) h) (kBlk 2 (laws_FnColumnGraphs_ks39 S K X0))) fr h
def laws_FnColumnGraphs_L2 (S : SatT) (K : AVal → H → Prop) (X0 : Frame → H → Prop) (p3_ : Pt) (i4_ : Int) (s5_ : Sl) (i6_ : Int) (i9_ : Int) (i10_ : Int) (b13_ : Bool) (i14_ : Int) (s19_ : Sl) (s23_ : Sl) (i25_ : Int) (i26_ : Int) (i27_ : Int) (h : H) : Prop := loopK (laws_FnColumnGraphs_w2 S K X0) (laws_FnColumnGraphs_e2 p3_ i4_ s5_ i6_ i9_ i10_ b13_ i14_ s19_ s23_ i25_ i26_ i27_) h
def laws_FnColumnGraphs_C1 (S : SatT) (K : AVal → H → Prop) (X0 : Frame → H → Prop) (p3_ : Pt) (i4_ : Int) (s5_ : Sl) (i6_ : Int) (i9_ : Int) (i10_ : Int) (b13_ : Bool) (i14_ : Int) (s19_ : Sl) (s23_ : Sl) (i25_ : Int) (h : H) : Prop :=
 X0 (laws_FnColumnGraphs_e0 p3_ i4_ s5_ i6_ i9_ i10_ b13_ i14_ s19_ s23_ (w64 (i25_ + (1)))) h
def laws_FnColumnGraphs_C2 (S : SatT) (K : AVal → H → Prop) (X0 : Frame → H → Prop) (p3_ : Pt) (i4_ : Int) (s5_ : Sl) (i6_ : Int) (i9_ : Int) (i10_ : Int) (b13_ : Bool) (i14_ : Int) (s19_ : Sl) (s23_ : Sl) (i25_ : Int) (i26_ : Int) (h : H) : Prop :=
 ixS s23_ 1 i25_ fun p0 =>
 ldI .i64 p0 h fun n1 =>
 nz (10007) (
 bif (i26_ != (Int.tmod n1 (10007))) then
 K (.bool false) h
 else
 laws_FnColumnGraphs_C1 S K X0 p3_ i4_ s5_ i6_ i9_ i10_ b13_ i14_ s19_ s23_ i25_ h)
def laws_FnColumnGraphs_b2 (S : SatT) (K : AVal → H → Prop) (X0 : Frame → H → Prop) (X2 : Frame → H → Prop) (p3_ : Pt) (i4_ : Int) (s5_ : Sl) (i6_ : Int) (i9_ : Int) (i10_ : Int) (b13_ : Bool) (i14_ : Int) (s19_ : Sl) (s23_ : Sl) (i25_ : Int) (i26_ : Int) (i27_ : Int) (h : H) : Prop :=
 bif (decide (i27_ < (s19_.len : Int))) then
 ixS s19_ 1 i27_ fun p0 =>
 ldI .i64 p0 h fun n1 =>
 ixS s23_ 1 (w64 ((w64 (i25_ - (1))) - i27_)) fun p2 =>
 ldI .i64 p2 h fun n3 =>
 nz (10007) (
 nz (10007) (
 X2 (laws_FnColumnGraphs_e2 p3_ i4_ s5_ i6_ i9_ i10_ b13_ i14_ s19_ s23_ i25_ (Int.tmod (w64 (i26_ + (w64 (n1 * (Int.tmod n3 (10007)))))) (10007)) (w64 (i27_ + (1)))) h))
 else
 laws_FnColumnGraphs_C2 S K X0 p3_ i4_ s5_ i6_ i9_ i10_ b13_ i14_ s19_ s23_ i25_ i26_ h
theorem laws_FnColumnGraphs_link2 (S : SatT) (K : AVal → H → Prop) (X0 : Frame → H → Prop) (X2 : Frame → H → Prop) (p3_ : Pt) (i4_ : Int) (s5_ : Sl) (i6_ : Int) (i9_ : Int) (i10_ : Int) (b13_ : Bool) (i14_ : Int) (s19_ : Sl) (s23_ : Sl) (i25_ : Int) (i26_ : Int) (i27_ : Int) (h : H) : laws_FnColumnGraphs_w2 S K X0 X2 (laws_FnColumnGraphs_e2 p3_ i4_ s5_ i6_ i9_ i10_ b13_ i14_ s19_ s23_ i25_ i26_ i27_) h = laws_FnColumnGraphs_b2 S K X0 X2 p3_ i4_ s5_ i6_ i9_ i10_ b13_ i14_ s19_ s23_ i25_ i26_ i27_ h := by kernel_rfl
theorem laws_FnColumnGraphs_rule2 (S : SatT) (K : AVal → H → Prop) (X0 : Frame → H → Prop) (p3_ : Pt) (i4_ : Int) (s5_ : Sl) (i6_ : Int) (i9_ : Int) (i10_ : Int) (b13_ : Bool) (i14_ : Int) (s19_ : Sl) (s23_ : Sl) (i25_ : Int) (I_ : Int → Int → H → Prop) (m_ : Int → Int → H → Nat)
    (hs : ∀ (X2 : Frame → H → Prop) (i26_ : Int) (i27_ : Int) (h : H), I_ i26_ i27_ h → (∀ (i26_' : Int) (i27_' : Int) (h' : H), I_ i26_' i27_' h' → m_ i26_' i27_' h' < m_ i26_ i27_ h → X2 (laws_FnColumnGraphs_e2 p3_ i4_ s5_ i6_ i9_ i10_ b13_ i14_ s19_ s23_ i25_ i26_' i27_') h') → laws_FnColumnGraphs_b2 S K X0 X2 p3_ i4_ s5_ i6_ i9_ i10_ b13_ i14_ s19_ s23_ i25_ i26_ i27_ h) (i26_ : Int) (i27_ : Int) {h : H} (h0 : I_ i26_ i27_ h) : laws_FnColumnGraphs_L2 S K X0 p3_ i4_ s5_ i6_ i9_ i10_ b13_ i14_ s19_ s23_ i25_ i26_ i27_ h :=
  loop_rule (σ := (Int) × (Int)) (fun s_ => laws_FnColumnGraphs_e2 p3_ i4_ s5_ i6_ i9_ i10_ b13_ i14_ s19_ s23_ i25_ (s_.1) (s_.2)) (fun s_ h => I_ (s_.1) (s_.2) h) (fun s_ h => m_ (s_.1) (s_.2) h)
    (fun X s_ h hi hx => (laws_FnColumnGraphs_link2 S K X0 X p3_ i4_ s5_ i6_ i9_ i10_ b13_ i14_ s19_ s23_ i25_ (s_.1) (s_.2) h).mpr (hs X (s_.1) (s_.2) h hi fun i26_' i27_' h' hi' hm' => hx (i26_', i27_') h' hi' hm')) (i26_, i27_) h0
theorem laws_FnColumnGraphs_unroll2 (S : SatT) (K : AVal → H → Prop) (X0 : Frame → H → Prop) (p3_ : Pt) (i4_ : Int) (s5_ : Sl) (i6_ : Int) (i9_ : Int) (i10_ : Int) (b13_ : Bool) (i14_ : Int) (s19_ : Sl) (s23_ : Sl) (i25_ : Int) (i26_ : Int) (i27_ : Int) (h : H) (hb : laws_FnColumnGraphs_b2 S K X0 (fun fr h => loopK (laws_FnColumnGraphs_w2 S K X0) fr h) p3_ i4_ s5_ i6_ i9_ i10_ b13_ i14_ s19_ s23_ i25_ i26_ i27_ h) : laws_FnColumnGraphs_L2 S K X0 p3_ i4_ s5_ i6_ i9_ i10_ b13_ i14_ s19_ s23_ i25_ i26_ i27_ h := loop_unroll ((laws_FnColumnGraphs_link2 S K X0 _ p3_ i4_ s5_ i6_ i9_ i10_ b13_ i14_ s19_ s23_ i25_ i26_ i27_ h).mpr hb)
def laws_FnColumnGraphs_ks54 (S : SatT) (K : AVal → H → Prop) : Kont := kSeq (cwp S tab laws_FnColumnGraphs_M [] (sub [1, 1, 1, 1, 1, 1, 1, 1, 1, 1, 1, 1, 1, 1, 1, 1, 1, 1] (bodyOf Try.f13)) (kFun tab (Try.f13).results.toList K)) (kFun tab (Try.f13).results.toList K)
def laws_FnColumnGraphs_e4 (s5_ : Sl) (i10_ : Int) (s28_ : Sl) (i29_ : Int) (s30_ : Sl) (i31_ : Int) : Frame := [U, U, U, U, U, .sl s5_, U, U, U, U, .int .i64 i10_, U, U, U, U, U, U, U, U, U, U, U, U, U, U, U, U, U, .sl s28_, .int .i64 i29_, .sl s30_, .int .i64 i31_, U, U, U, U, U, U, U, U, U, U, U, U, U, U, U, U, U, U, U, U, U, U, U, U, U, U, U, U, U, U, U, U, U, U, U, U, U, U, U, U, U, U, U, U, U, U, U, U, U, U, U, U, U, U, U, U, U, U, U, U, U, U, U, U, U, U, U, U, U, U, U, U, U, U, U, U, U, U, U, U, U, U, U, U, U, U, U, U, U, U, U, U, U, U, U, U, U, U, U, U, U, U, U, U, U, U, U, U, U, U, U, U, U, U, U, U, U, U, U, U, U, U, U, U, U, U, U, U, U, U, U, U, U, U, U, U, U, U, U, U, U, U, U, U, U, U, U, U, U, U, U, U, U, U, U, U, U, U, U, U, U, U, U, U, U, U, U, U, U, U, U, U, U, U, U, U, U, U, U, U, U, U, U, U, U, U, U, U, U, U, U, U, U, U, U, U, U, U, U, U, U, U, U, U, U, U, U, U, U, U, U, U, U, U, U, U, U, U, U, U, U, U, U, U, U, U, U]
def laws_FnColumnGraphs_w4 (S : SatT) (K : AVal → H → Prop) : (Frame → H → Prop) → Frame → H → Prop := fun X fr h => cwp S tab laws_FnColumnGraphs_M (laws_FnColumnGraphs_M 4) (sub [1, 1, 1, 1, 1, 1, 1, 1, 1, 1, 1, 1, 1, 1, 1, 1, 1, 0, 1, 0, 0] (bodyOf Try.f13)) (kSeq (fun fr h => X (mask (laws_FnColumnGraphs_M 4) fr) h) (kBlk 4 (laws_FnColumnGraphs_ks54 S K))) fr h
def laws_FnColumnGraphs_L4 (S : SatT) (K : AVal → H → Prop) (s5_ : Sl) (i10_ : Int) (s28_ : Sl) (i29_ : Int) (s30_ : Sl) (i31_ : Int) (h : H) : Prop := loopK (laws_FnColumnGraphs_w4 S K) (laws_FnColumnGraphs_e4 s5_ i10_ s28_ i29_ s30_ i31_) h
def laws_FnColumnGraphs_ks58 (S : SatT) (K : AVal → H → Prop) (X4 : Frame → H → Prop) : Kont := kSeq (cwp S tab laws_FnColumnGraphs_M (laws_FnColumnGraphs_M 4) (sub [1, 1, 1, 1, 1, 1, 1, 1, 1, 1, 1, 1, 1, 1, 1, 1, 1, 0, 1, 0, 0, 1, 1] (bodyOf Try.f13)) (kSeq (fun fr h => X4 (mask (laws_FnColumnGraphs_M 4) fr) h) (kBlk 4 (laws_FnColumnGraphs_ks54 S K)))) (kSeq (fun fr h => X4 (mask (laws_FnColumnGraphs_M 4) fr) h) (kBlk 4 (laws_FnColumnGraphs_ks54 S K)))
def laws_FnColumnGraphs_e6 (s5_ : Sl) (i10_ : Int) (s28_ : Sl) (i29_ : Int) (s30_ : Sl) (i31_ : Int) (i32_ : Int) : Frame := [U, U, U, U, U, .sl s5_, U, U, U, U, .int .i64 i10_, U, U, U, U, U, U, U, U, U, U, U, U, U, U, U, U, U, .sl s28_, .int .i64 i29_, .sl s30_, .int .i64 i31_, .int .i64 i32_, U, U, U, U, U, U, U, U, U, U, U, U, U, U, U, U, U, U, U, U, U, U, U, U, U, U, U, U, U, U, U, U, U, U, U, U, U, U, U, U, U, U, U, U, U, U, U, U, U, U, U, U, U, U, U, U, U, U, U, U, U, U, U, U, U, U, U, U, U, U, U, U, U, U, U, U, U, U, U, U, U, U, U, U, U, U, U, U, U, U, U, U, U, U, U, U, U, U, U, U, U, U, U, U, U, U, U, U, U, U, U, U, U, U, U, U, U, U, U, U, U, U, U, U, U, U, U, U, U, U, U, U, U, U, U, U, U, U, U, U, U, U, U, U, U, U, U, U, U, U, U, U, U, U, U, U, U, U, U, U, U, U, U, U, U, U, U, U, U, U, U, U, U, U, U, U, U, U, U, U, U, U, U, U, U, U, U, U, U, U, U, U, U, U, U, U, U, U, U, U, U, U, U, U, U, U, U, U, U, U, U, U, U, U, U, U, U, U, U, U, U, U, U, U, U, U]
def laws_FnColumnGraphs_w6 (S : SatT) (K : AVal → H → Prop) (X4 : Frame → H → Prop) : (Frame → H → Prop) → Frame → H → Prop := fun X fr h => cwp S tab laws_FnColumnGraphs_M (laws_FnColumnGraphs_M 6) (sub [1, 1, 1, 1, 1, 1, 1, 1, 1, 1, 1, 1, 1, 1, 1, 1, 1, 0, 1, 0, 0, 1, 0, 0, 1, 0, 0] (bodyOf Try.f13)) (kSeq (fun fr h => X (mask (laws_FnColumnGraphs_M 6) fr) h) (kBlk 6 (kBlk 5 (laws_FnColumnGraphs_ks58 S K X4)))) fr h
def laws_FnColumnGraphs_L6 (S : SatT) (K : AVal → H → Prop) (X4 : Frame → H → Prop) (s5_ : Sl) (i10_ : Int) (s28_ : Sl) (i29_ : Int) (s30_ : Sl) (i31_ : Int) (i32_ : Int) (h : H) : Prop := loopK (laws_FnColumnGraphs_w6 S K X4) (laws_FnColumnGraphs_e6 s5_ i10_ s28_ i29_ s30_ i31_ i32_) h
def laws_FnColumnGraphs_C5 (S : SatT) (K : AVal → H → Prop) (X4 : Frame → H → Prop) (s5_ : Sl) (i10_ : Int) (s28_ : Sl) (i29_ : Int) (s30_ : Sl) (i31_ : Int) (h : H) : Prop :=
 X4 (laws_FnColumnGraphs_e4 s5_ i10_ s28_ i29_ s30_ (w64 (i31_ + (1)))) h
def laws_FnColumnGraphs_C6 (S : SatT) (K : AVal → H → Prop) (X4 : Frame → H → Prop) (s5_ : Sl) (i10_ : Int) (s28_ : Sl) (i29_ : Int) (s30_ : Sl) (i31_ : Int) (h : H) : Prop :=
 laws_FnColumnGraphs_C5 S K X4 s5_ i10_ s28_ i29_ s30_ i31_ h
def laws_FnColumnGraphs_b6 (S : SatT) (K : AVal → H → Prop) (X4 : Frame → H → Prop) (X6 : Frame → H → Prop) (s5_ : Sl) (i10_ : Int) (s28_ : Sl) (i29_ : Int) (s30_ : Sl) (i31_ : Int) (i32_ : Int) (h : H) : Prop :=
 ixS s5_ 1 i31_ fun p0 =>
 ldS p0 h fun s1 =>
 bif (decide (i32_ < (s1.len : Int))) then
 ixS s5_ 1 i31_ fun p2 =>
 ldS p2 h fun s3 =>
 ixS s3 1 i32_ fun p4 =>
 ldI .i64 p4 h fun n5 =>
 bif (decide (n5 < (0))) then
 K (.bool false) h
 else
 bif (decide (n5 ≥ (s28_.len : Int))) then
 K (.bool false) h
 else
 ixS s30_ 1 n5 fun p6 =>
 ldB p6 h fun b7 =>
 bif b7 then
 K (.bool false) h
 else
 ixS s30_ 1 n5 fun p8 =>
 st1 p8 (.bool true) h fun h9 =>
 X6 (laws_FnColumnGraphs_e6 s5_ i10_ s28_ i29_ s30_ i31_ (w64 (i32_ + (1)))) h9
 else
 laws_FnColumnGraphs_C6 S K X4 s5_ i10_ s28_ i29_ s30_ i31_ h
theorem laws_FnColumnGraphs_link6 (S : SatT) (K : AVal → H → Prop) (X4 : Frame → H → Prop) (X6 : Frame → H → Prop) (s5_ : Sl) (i10_ : Int) (s28_ : Sl) (i29_ : Int) (s30_ : Sl) (i31_ : Int) (i32_ : Int) (h : H) : laws_FnColumnGraphs_w6 S K X4 X6 (laws_FnColumnGraphs_e6 s5_ i10_ s28_ i29_ s30_ i31_ i32_) h = laws_FnColumnGraphs_b6 S K X4 X6 s5_ i10_ s28_ i29_ s30_ i31_ i32_ h := by kernel_rfl
theorem laws_FnColumnGraphs_rule6 (S : SatT) (K : AVal → H → Prop) (X4 : Frame → H → Prop) (s5_ : Sl) (i10_ : Int) (s28_ : Sl) (i29_ : Int) (s30_ : Sl) (i31_ : Int) (I_ : Int → H → Prop) (m_ : Int → H → Nat)
    (hs : ∀ (X6 : Frame → H → Prop) (i32_ : Int) (h : H), I_ i32_ h → (∀ (i32_' : Int) (h' : H), I_ i32_' h' → m_ i32_' h' < m_ i32_ h → X6 (laws_FnColumnGraphs_e6 s5_ i10_ s28_ i29_ s30_ i31_ i32_') h') → laws_FnColumnGraphs_b6 S K X4 X6 s5_ i10_ s28_ i29_ s30_ i31_ i32_ h) (i32_ : Int) {h : H} (h0 : I_ i32_ h) : laws_FnColumnGraphs_L6 S K X4 s5_ i10_ s28_ i29_ s30_ i31_ i32_ h :=
  loop_rule (σ := (Int)) (fun s_ => laws_FnColumnGraphs_e6 s5_ i10_ s28_ i29_ s30_ i31_ (s_)) (fun s_ h => I_ (s_) h) (fun s_ h => m_ (s_) h)
    (fun X s_ h hi hx => (laws_FnColumnGraphs_link6 S K X4 X s5_ i10_ s28_ i29_ s30_ i31_ (s_) h).mpr (hs X (s_) h hi fun i32_' h' hi' hm' => hx (i32_') h' hi' hm')) (i32_) h0
theorem laws_FnColumnGraphs_unroll6 (S : SatT) (K : AVal → H → Prop) (X4 : Frame → H → Prop) (s5_ : Sl) (i10_ : Int) (s28_ : Sl) (i29_ : Int) (s30_ : Sl) (i31_ : Int) (i32_ : Int) (h : H) (hb : laws_FnColumnGraphs_b6 S K X4 (fun fr h => loopK (laws_FnColumnGraphs_w6 S K X4) fr h) s5_ i10_ s28_ i29_ s30_ i31_ i32_ h) : laws_FnColumnGraphs_L6 S K X4 s5_ i10_ s28_ i29_ s30_ i31_ i32_ h := loop_unroll ((laws_FnColumnGraphs_link6 S K X4 _ s5_ i10_ s28_ i29_ s30_ i31_ i32_ h).mpr hb)
def laws_FnColumnGraphs_C4 (S : SatT) (K : AVal → H → Prop) (s5_ : Sl) (i10_ : Int) (s28_ : Sl) (i29_ : Int) (h : H) : Prop :=
 bif (i29_ == (0)) then
 bif ((s5_.len : Int) == (1)) then
 ixS s5_ 1 (0) fun p0 =>
 ldS p0 h fun s1 =>
 K (.bool ((i10_ == (0)) == ((s1.len : Int) == (s28_.len : Int)))) h
 else
 K (.bool ((i10_ == (0)) == false)) h
 else
 K (.bool false) h
def laws_FnColumnGraphs_b4 (S : SatT) (K : AVal → H → Prop) (X4 : Frame → H → Prop) (s5_ : Sl) (i10_ : Int) (s28_ : Sl) (i29_ : Int) (s30_ : Sl) (i31_ : Int) (h : H) : Prop :=
 bif (decide (i31_ < (s5_.len : Int))) then
 laws_FnColumnGraphs_L6 S K X4 s5_ i10_ s28_ i29_ s30_ i31_ (0) h
 else
 laws_FnColumnGraphs_C4 S K s5_ i10_ s28_ i29_ h
theorem laws_FnColumnGraphs_link4 (S : SatT) (K : AVal → H → Prop) (X4 : Frame → H → Prop) (s5_ : Sl) (i10_ : Int) (s28_ : Sl) (i29_ : Int) (s30_ : Sl) (i31_ : Int) (h : H) : laws_FnColumnGraphs_w4 S K X4 (laws_FnColumnGraphs_e4 s5_ i10_ s28_ i29_ s30_ i31_) h = laws_FnColumnGraphs_b4 S K X4 s5_ i10_ s28_ i29_ s30_ i31_ h := by kernel_rfl
theorem laws_FnColumnGraphs_rule4 (S : SatT) (K : AVal → H → Prop) (s5_ : Sl) (i10_ : Int) (s28_ : Sl) (i29_ : Int) (s30_ : Sl) (I_ : Int → H → Prop) (m_ : Int → H → Nat)
    (hs : ∀ (X4 : Frame → H → Prop) (i31_ : Int) (h : H), I_ i31_ h → (∀ (i31_' : Int) (h' : H), I_ i31_' h' → m_ i31_' h' < m_ i31_ h → X4 (laws_FnColumnGraphs_e4 s5_ i10_ s28_ i29_ s30_ i31_') h') → laws_FnColumnGraphs_b4 S K X4 s5_ i10_ s28_ i29_ s30_ i31_ h) (i31_ : Int) {h : H} (h0 : I_ i31_ h) : laws_FnColumnGraphs_L4 S K s5_ i10_ s28_ i29_ s30_ i31_ h :=
  loop_rule (σ := (Int)) (fun s_ => laws_FnColumnGraphs_e4 s5_ i10_ s28_ i29_ s30_ (s_)) (fun s_ h => I_ (s_) h) (fun s_ h => m_ (s_) h)
    (fun X s_ h hi hx => (laws_FnColumnGraphs_link4 S K X s5_ i10_ s28_ i29_ s30_ (s_) h).mpr (hs X (s_) h hi fun i31_' h' hi' hm' => hx (i31_') h' hi' hm')) (i31_) h0
theorem laws_FnColumnGraphs_unroll4 (S : SatT) (K : AVal → H → Prop) (s5_ : Sl) (i10_ : Int) (s28_ : Sl) (i29_ : Int) (s30_ : Sl) (i31_ : Int) (h : H) (hb : laws_FnColumnGraphs_b4 S K (fun fr h => loopK (laws_FnColumnGraphs_w4 S K) fr h) s5_ i10_ s28_ i29_ s30_ i31_ h) : laws_FnColumnGraphs_L4 S K s5_ i10_ s28_ i29_ s30_ i31_ h := loop_unroll ((laws_FnColumnGraphs_link4 S K _ s5_ i10_ s28_ i29_ s30_ i31_ h).mpr hb)
def laws_FnColumnGraphs_C0 (S : SatT) (K : AVal → H → Prop) (p3_ : Pt) (i4_ : Int) (s5_ : Sl) (i6_ : Int) (i9_ : Int) (i10_ : Int) (b13_ : Bool) (i14_ : Int) (h : H) : Prop :=
 bif (i14_ == (0)) then
 bif (i10_ == (0)) then
 bif (b13_ != (i9_ == (1))) then
 K (.bool false) h
 else
 bif (i6_ != (0)) then
 K (.bool ((s5_.len : Int) == (0))) h
 else
 ldA p3_ 2 h fun cs0 =>
 callV S i_impl_ColumnWords [.agg cs0, .int .i64 i4_] h fun v2 h1 =>
 viaT v2 fun vs3 =>
 exS vs3 0 fun s4 =>
 viaT v2 fun vs5 =>
 exI .i64 vs5 1 fun n6 =>
 mkS (s4.len : Int) [.bool false] h1 fun s7 h8 =>
 laws_FnColumnGraphs_L4 S K s5_ i10_ s4 n6 s7 (0) h8
 else
 bif (b13_ != false) then
 K (.bool false) h
 else
 bif (i6_ != (0)) then
 K (.bool ((s5_.len : Int) == (0))) h
 else
 ldA p3_ 2 h fun cs9 =>
 callV S i_impl_ColumnWords [.agg cs9, .int .i64 i4_] h fun v11 h10 =>
 viaT v11 fun vs12 =>
 exS vs12 0 fun s13 =>
 viaT v11 fun vs14 =>
 exI .i64 vs14 1 fun n15 =>
 mkS (s13.len : Int) [.bool false] h10 fun s16 h17 =>
 laws_FnColumnGraphs_L4 S K s5_ i10_ s13 n15 s16 (0) h17
 else
 bif (i6_ != (0)) then
 K (.bool ((s5_.len : Int) == (0))) h
 else
 ldA p3_ 2 h fun cs18 =>
 callV S i_impl_ColumnWords [.agg cs18, .int .i64 i4_] h fun v20 h19 =>
 viaT v20 fun vs21 =>
 exS vs21 0 fun s22 =>
 viaT v20 fun vs23 =>
 exI .i64 vs23 1 fun n24 =>
 mkS (s22.len : Int) [.bool false] h19 fun s25 h26 =>
 laws_FnColumnGraphs_L4 S K s5_ i10_ s22 n24 s25 (0) h26
def laws_FnColumnGraphs_b0 (S : SatT) (K : AVal → H → Prop) (X0 : Frame → H → Prop) (p3_ : Pt) (i4_ : Int) (s5_ : Sl) (i6_ : Int) (i9_ : Int) (i10_ : Int) (b13_ : Bool) (i14_ : Int) (s19_ : Sl) (s23_ : Sl) (i25_ : Int) (h : H) : Prop :=
 bif (decide (i25_ < (s23_.len : Int))) then
 laws_FnColumnGraphs_L2 S K X0 p3_ i4_ s5_ i6_ i9_ i10_ b13_ i14_ s19_ s23_ i25_ (0) (0) h
 else
 laws_FnColumnGraphs_C0 S K p3_ i4_ s5_ i6_ i9_ i10_ b13_ i14_ h
theorem laws_FnColumnGraphs_link0 (S : SatT) (K : AVal → H → Prop) (X0 : Frame → H → Prop) (p3_ : Pt) (i4_ : Int) (s5_ : Sl) (i6_ : Int) (i9_ : Int) (i10_ : Int) (b13_ : Bool) (i14_ : Int) (s19_ : Sl) (s23_ : Sl) (i25_ : Int) (h : H) : laws_FnColumnGraphs_w0 S K X0 (laws_FnColumnGraphs_e0 p3_ i4_ s5_ i6_ i9_ i10_ b13_ i14_ s19_ s23_ i25_) h = laws_FnColumnGraphs_b0 S K X0 p3_ i4_ s5_ i6_ i9_ i10_ b13_ i14_ s19_ s23_ i25_ h := by kernel_rfl
theorem laws_FnColumnGraphs_rule0 (S : SatT) (K : AVal → H → Prop) (p3_ : Pt) (i4_ : Int) (s5_ : Sl) (i6_ : Int) (i9_ : Int) (i10_ : Int) (b13_ : Bool) (i14_ : Int) (s19_ : Sl) (s23_ : Sl) (I_ : Int → H → Prop) (m_ : Int → H → Nat)
    (hs : ∀ (X0 : Frame → H → Prop) (i25_ : Int) (h : H), I_ i25_ h → (∀ (i25_' : Int) (h' : H), I_ i25_' h' → m_ i25_' h' < m_ i25_ h → X0 (laws_FnColumnGraphs_e0 p3_ i4_ s5_ i6_ i9_ i10_ b13_ i14_ s19_ s23_ i25_') h') → laws_FnColumnGraphs_b0 S K X0 p3_ i4_ s5_ i6_ i9_ i10_ b13_ i14_ s19_ s23_ i25_ h) (i25_ : Int) {h : H} (h0 : I_ i25_ h) : laws_FnColumnGraphs_L0 S K p3_ i4_ s5_ i6_ i9_ i10_ b13_ i14_ s19_ s23_ i25_ h :=
  loop_rule (σ := (Int)) (fun s_ => laws_FnColumnGraphs_e0 p3_ i4_ s5_ i6_ i9_ i10_ b13_ i14_ s19_ s23_ (s_)) (fun s_ h => I_ (s_) h) (fun s_ h => m_ (s_) h)
    (fun X s_ h hi hx => (laws_FnColumnGraphs_link0 S K X p3_ i4_ s5_ i6_ i9_ i10_ b13_ i14_ s19_ s23_ (s_) h).mpr (hs X (s_) h hi fun i25_' h' hi' hm' => hx (i25_') h' hi' hm')) (i25_) h0
theorem laws_FnColumnGraphs_unroll0 (S : SatT) (K : AVal → H → Prop) (p3_ : Pt) (i4_ : Int) (s5_ : Sl) (i6_ : Int) (i9_ : Int) (i10_ : Int) (b13_ : Bool) (i14_ : Int) (s19_ : Sl) (s23_ : Sl) (i25_ : Int) (h : H) (hb : laws_FnColumnGraphs_b0 S K (fun fr h => loopK (laws_FnColumnGraphs_w0 S K) fr h) p3_ i4_ s5_ i6_ i9_ i10_ b13_ i14_ s19_ s23_ i25_ h) : laws_FnColumnGraphs_L0 S K p3_ i4_ s5_ i6_ i9_ i10_ b13_ i14_ s19_ s23_ i25_ h := loop_unroll ((laws_FnColumnGraphs_link0 S K _ p3_ i4_ s5_ i6_ i9_ i10_ b13_ i14_ s19_ s23_ i25_ h).mpr hb)
def laws_FnColumnGraphs_main (S : SatT) (K : AVal → H → Prop) (x0 : Sl) (h : H) : Prop :=
 callB S i_laws_big [.sl x0] h fun b1 h0 =>
 bif b1 then
 K (.bool true) h0
 else
 callV S i_spec_DrawStrongParts [.sl x0] h0 fun v3 h2 =>
 viaT v3 fun vs4 =>
 exA vs4 0 fun cs5 =>
 viaT v3 fun vs6 =>
 exI .i64 vs6 1 fun n7 =>
 newO [.int .i64 (0), .sl Sl.nil] h2 fun p8 h9 =>
 stN p8 2 cs5 h9 fun h10 =>
 ldA p8 2 h10 fun cs11 =>
 callV S i_impl_StrongParts [.agg cs11, .int .i64 n7] h10 fun v13 h12 =>
 viaT v13 fun vs14 =>
 exS vs14 0 fun s15 =>
 viaT v13 fun vs16 =>
 exI .i64 vs16 1 fun n17 =>
 ldA p8 2 h12 fun cs18 =>
 callV S i_spec_StrongParts [.agg cs18, .int .i64 n7] h12 fun v20 h19 =>
 viaT v20 fun vs21 =>
 exS vs21 0 fun s22 =>
 viaT v20 fun vs23 =>
 exI .i64 vs23 1 fun n24 =>
 bif (n17 != n24) then
 K (.bool false) h19
 else
 callB S i_laws_rows9 [.sl s15, .sl s22] h19 fun b26 h25 =>
 bif (!b26) then
 K (.bool false) h25
 else
 ldA p8 2 h25 fun cs27 =>
 callV S i_impl_PeriodOfHeight [.agg cs27, .int .i64 n7] h25 fun v29 h28 =>
 viaT v29 fun vs30 =>
 exI .i64 vs30 0 fun n31 =>
 viaT v29 fun vs32 =>
 exI .i64 vs32 1 fun n33 =>
 ldA p8 2 h28 fun cs34 =>
 callV S i_spec_PeriodOfHeight [.agg cs34, .int .i64 n7] h28 fun v36 h35 =>
 viaT v36 fun vs37 =>
 exI .i64 vs37 0 fun n38 =>
 viaT v36 fun vs39 =>
 exI .i64 vs39 1 fun n40 =>
 bif (n33 != n40) then
 K (.bool false) h35
 else
 bif (n31 != n38) then
 K (.bool false) h35
 else
 ldA p8 2 h35 fun cs41 =>
 callV S i_impl_IsMixing [.agg cs41, .int .i64 n7] h35 fun v43 h42 =>
 viaT v43 fun vs44 =>
 exB vs44 0 fun b45 =>
 viaT v43 fun vs46 =>
 exI .i64 vs46 1 fun n47 =>
 ldA p8 2 h42 fun cs48 =>
 callV S i_spec_IsMixing [.agg cs48, .int .i64 n7] h42 fun v50 h49 =>
 viaT v50 fun vs51 =>
 exB vs51 0 fun b52 =>
 viaT v50 fun vs53 =>
 exI .i64 vs53 1 fun n54 =>
 bif (n47 != n54) then
 K (.bool false) h49
 else
 bif (b45 != b52) then
 K (.bool false) h49
 else
 callV S i_spec_DrawRecurrenceOf [.sl x0] h49 fun v56 h55 =>
 viaT v56 fun vs57 =>
 exA vs57 0 fun cs58 =>
 viaT v56 fun vs59 =>
 exI .i64 vs59 1 fun n60 =>
 newO [.int .i64 (0), .sl Sl.nil] h55 fun p61 h62 =>
 stN p61 2 cs58 h62 fun h63 =>
 ldA p61 2 h63 fun cs64 =>
 callV S i_impl_RecurrenceOf [.agg cs64, .int .i64 n60] h63 fun v66 h65 =>
 viaT v66 fun vs67 =>
 exS vs67 0 fun s68 =>
 viaT v66 fun vs69 =>
 exI .i64 vs69 1 fun n70 =>
 ldA p61 2 h65 fun cs71 =>
 callV S i_spec_RecurrenceOf [.agg cs71, .int .i64 n60] h65 fun v73 h72 =>
 viaT v73 fun vs74 =>
 exS vs74 0 fun s75 =>
 viaT v73 fun vs76 =>
 exI .i64 vs76 1 fun n77 =>
 bif (n70 != n77) then
 K (.bool false) h72
 else
 callB S i_laws_likeInts [.sl s68, .sl s75] h72 fun b79 h78 =>
 bif (!b79) then
 K (.bool false) h78
 else
 bif (n70 == (0)) then
 ldA p61 2 h78 fun cs80 =>
 callV S i_impl_StripSequence [.agg cs80, .int .i64 n60, .int .i64 (12)] h78 fun v82 h81 =>
 viaT v82 fun vs83 =>
 exS vs83 0 fun s84 =>
 viaT v82 fun vs85 =>
 exI .i64 vs85 1 fun n86 =>
 bif (n86 == (0)) then
 laws_FnColumnGraphs_L0 S K p8 n7 s15 n17 n31 n33 b45 n47 s68 s84 (s68.len : Int) h81
 else
 bif (n47 == (0)) then
 bif (n33 == (0)) then
 bif (b45 != (n31 == (1))) then
 K (.bool false) h81
 else
 bif (n17 != (0)) then
 K (.bool ((s15.len : Int) == (0))) h81
 else
 ldA p8 2 h81 fun cs87 =>
 callV S i_impl_ColumnWords [.agg cs87, .int .i64 n7] h81 fun v89 h88 =>
 viaT v89 fun vs90 =>
 exS vs90 0 fun s91 =>
 viaT v89 fun vs92 =>
 exI .i64 vs92 1 fun n93 =>
 mkS (s91.len : Int) [.bool false] h88 fun s94 h95 =>
 laws_FnColumnGraphs_L4 S K s15 n33 s91 n93 s94 (0) h95
 else
 bif (b45 != false) then
 K (.bool false) h81
 else
 bif (n17 != (0)) then
 K (.bool ((s15.len : Int) == (0))) h81
 else
 ldA p8 2 h81 fun cs96 =>
 callV S i_impl_ColumnWords [.agg cs96, .int .i64 n7] h81 fun v98 h97 =>
 viaT v98 fun vs99 =>
 exS vs99 0 fun s100 =>
 viaT v98 fun vs101 =>
 exI .i64 vs101 1 fun n102 =>
 mkS (s100.len : Int) [.bool false] h97 fun s103 h104 =>
 laws_FnColumnGraphs_L4 S K s15 n33 s100 n102 s103 (0) h104
 else
 bif (n17 != (0)) then
 K (.bool ((s15.len : Int) == (0))) h81
 else
 ldA p8 2 h81 fun cs105 =>
 callV S i_impl_ColumnWords [.agg cs105, .int .i64 n7] h81 fun v107 h106 =>
 viaT v107 fun vs108 =>
 exS vs108 0 fun s109 =>
 viaT v107 fun vs110 =>
 exI .i64 vs110 1 fun n111 =>
 mkS (s109.len : Int) [.bool false] h106 fun s112 h113 =>
 laws_FnColumnGraphs_L4 S K s15 n33 s109 n111 s112 (0) h113
 else
 bif (n47 == (0)) then
 bif (n33 == (0)) then
 bif (b45 != (n31 == (1))) then
 K (.bool false) h78
 else
 bif (n17 != (0)) then
 K (.bool ((s15.len : Int) == (0))) h78
 else
 ldA p8 2 h78 fun cs114 =>
 callV S i_impl_ColumnWords [.agg cs114, .int .i64 n7] h78 fun v116 h115 =>
 viaT v116 fun vs117 =>
 exS vs117 0 fun s118 =>
 viaT v116 fun vs119 =>
 exI .i64 vs119 1 fun n120 =>
 mkS (s118.len : Int) [.bool false] h115 fun s121 h122 =>
 laws_FnColumnGraphs_L4 S K s15 n33 s118 n120 s121 (0) h122
 else
 bif (b45 != false) then
 K (.bool false) h78
 else
 bif (n17 != (0)) then
 K (.bool ((s15.len : Int) == (0))) h78
 else
 ldA p8 2 h78 fun cs123 =>
 callV S i_impl_ColumnWords [.agg cs123, .int .i64 n7] h78 fun v125 h124 =>
 viaT v125 fun vs126 =>
 exS vs126 0 fun s127 =>
 viaT v125 fun vs128 =>
 exI .i64 vs128 1 fun n129 =>
 mkS (s127.len : Int) [.bool false] h124 fun s130 h131 =>
 laws_FnColumnGraphs_L4 S K s15 n33 s127 n129 s130 (0) h131
 else
 bif (n17 != (0)) then
 K (.bool ((s15.len : Int) == (0))) h78
 else
 ldA p8 2 h78 fun cs132 =>
 callV S i_impl_ColumnWords [.agg cs132, .int .i64 n7] h78 fun v134 h133 =>
 viaT v134 fun vs135 =>
 exS vs135 0 fun s136 =>
 viaT v134 fun vs137 =>
 exI .i64 vs137 1 fun n138 =>
 mkS (s136.len : Int) [.bool false] h133 fun s139 h140 =>
 laws_FnColumnGraphs_L4 S K s15 n33 s136 n138 s139 (0) h140
theorem laws_FnColumnGraphs_main_link (S : SatT) (K : AVal → H → Prop) (x0 : Sl) (h : H) : cwp S tab laws_FnColumnGraphs_M [] (bodyOf Try.f13) (kFun tab Try.f13.results.toList K) (fr0 Try.f13 [.sl x0]) h = laws_FnColumnGraphs_main S K x0 h := by kernel_rfl
theorem laws_FnColumnGraphs_call (x0 : Sl) (h : H) (K : Bool → H → Prop) (hm : laws_FnColumnGraphs_main (Sat Try.prog) (fun v h' => ∃ r, v = .bool r ∧ K r h') x0 h) : callB (Sat Try.prog) i_laws_FnColumnGraphs [.sl x0] h K := by
  have := Sat.ex tok mixed laws_FnColumnGraphs_M Try.func13 (c := bodyOf Try.f13) (by kernel_rfl) (calls_of Try.func13 (c := bodyOf Try.f13) (by kernel_rfl) (by decide)) ((laws_FnColumnGraphs_main_link _ _ x0 h).mpr hm)
  obtain ⟨v, h2, h3, r, rfl, h4⟩ := this; exact ⟨r, h2, h3, h4⟩

/-! ### loop.example/g01354/impl.period -/
def impl_period_M : Nat → List Nat := fun i => bif i == 6 then [4, 6, 10, 80, 81, 82, 87, 88, 89] else bif i == 4 then [4, 6, 80, 81, 82] else bif i == 2 then [0, 4, 5, 6, 7, 48, 49, 50] else bif i == 0 then [0, 4, 5, 6, 7] else []
def impl_period_ks8 (S : SatT) (K : AVal → H → Prop) : Kont := kSeq (cwp S tab impl_period_M [] (sub [1, 1, 1, 1, 1, 1] (bodyOf Try.f83)) (kFun tab (Try.f83).results.toList K)) (kFun tab (Try.f83).results.toList K)
def impl_period_e0 (s0_ : Sl) (s4_ : Sl) (s5_ : Sl) (i6_ : Int) (i7_ : Int) : Frame := [.sl s0_, U, U, U, .sl s4_, .sl s5_, .int .i64 i6_, .int .i64 i7_, U, U, U, U, U, U, U, U, U, U, U, U, U, U, U, U, U, U, U, U, U, U, U, U, U, U, U, U, U, U, U, U, U, U, U, U, U, U, U, U, U, U, U, U, U, U, U, U, U, U, U, U, U, U, U, U, U, U, U, U, U, U, U, U, U, U, U, U, U, U, U, U, U, U, U, U, U, U, U, U, U, U, U, U, U, U, U, U, U, U, U, U, U, U, U, U, U, U, U, U, U, U, U, U, U, U, U]
def impl_period_w0 (S : SatT) (K : AVal → H → Prop) : (Frame → H → Prop) → Frame → H → Prop := fun X fr h => cwp S tab impl_period_M (impl_period_M 0) (sub [1, 1, 1, 1, 1, 0, 1, 0, 0] (bodyOf Try.f83)) (kSeq (fun fr h => X (mask (impl_period_M 0) fr) h) (kBlk 0 (impl_period_ks8 S K))) fr h
def impl_period_L0 (S : SatT) (K : AVal → H → Prop) (s0_ : Sl) (s4_ : Sl) (s5_ : Sl) (i6_ : Int) (i7_ : Int) (h : H) : Prop := loopK (impl_period_w0 S K) (impl_period_e0 s0_ s4_ s5_ i6_ i7_) h
def impl_period_ks12 (S : SatT) (K : AVal → H → Prop) (X0 : Frame → H → Prop) : Kont := kSeq (cwp S tab impl_period_M (impl_period_M 0) (sub [1, 1, 1, 1, 1, 0, 1, 0, 0, 1, 1] (bodyOf Try.f83)) (kSeq (fun fr h => X0 (mask (impl_period_M 0) fr) h) (kBlk 0 (impl_period_ks8 S K)))) (kSeq (fun fr h => X0 (mask (impl_period_M 0) fr) h) (kBlk 0 (impl_period_ks8 S K)))
def impl_period_e2 (s0_ : Sl) (s4_ : Sl) (s5_ : Sl) (i6_ : Int) (i7_ : Int) (s48_ : Sl) (i49_ : Int) (i50_ : Int) : Frame := [.sl s0_, U, U, U, .sl s4_, .sl s5_, .int .i64 i6_, .int .i64 i7_, U, U, U, U, U, U, U, U, U, U, U, U, U, U, U, U, U, U, U, U, U, U, U, U, U, U, U, U, U, U, U, U, U, U, U, U, U, U, U, U, .sl s48_, .int .i64 i49_, .int .i64 i50_, U, U, U, U, U, U, U, U, U, U, U, U, U, U, U, U, U, U, U, U, U, U, U, U, U, U, U, U, U, U, U, U, U, U, U, U, U, U, U, U, U, U, U, U, U, U, U, U, U, U, U, U, U, U, U, U, U, U, U, U, U, U, U, U]
def impl_period_w2 (S : SatT) (K : AVal → H → Prop) (X0 : Frame → H → Prop) : (Frame → H → Prop) → Frame → H → Prop := fun X fr h => cwp S tab impl_period_M (impl_period_M 2) (sub [1, 1, 1, 1, 1, 0, 1, 0, 0, 1, 0, 0, 1, 0, 0] (bodyOf Try.f83)) (kSeq (fun fr h => X (mask (impl_period_M 2) fr) h) (kBlk 2 (kBlk 1 (impl_period_ks12 S K X0)))) fr h
def impl_period_L2 (S : SatT) (K : AVal → H → Prop) (X0 : Frame → H → Prop) (s0_ : Sl) (s4_ : Sl) (s5_ : Sl) (i6_ : Int) (i7_ : Int) (s48_ : Sl) (i49_ : Int) (i50_ : Int) (h : H) : Prop := loopK (impl_period_w2 S K X0) (impl_period_e2 s0_ s4_ s5_ i6_ i7_ s48_ i49_ i50_) h
def impl_period_C1 (S : SatT) (K : AVal → H → Prop) (X0 : Frame → H → Prop) (s0_ : Sl) (s4_ : Sl) (s5_ : Sl) (i6_ : Int) (i7_ : Int) (h : H) : Prop :=
 X0 (impl_period_e0 s0_ s4_ s5_ i6_ (w64 (i7_ + (1)))) h
def impl_period_C2 (S : SatT) (K : AVal → H → Prop) (X0 : Frame → H → Prop) (s0_ : Sl) (s4_ : Sl) (s5_ : Sl) (i6_ : Int) (i7_ : Int) (h : H) : Prop :=
 impl_period_C1 S K X0 s0_ s4_ s5_ i6_ i7_ h
def impl_period_b2 (S : SatT) (K : AVal → H → Prop) (X0 : Frame → H → Prop) (X2 : Frame → H → Prop) (s0_ : Sl) (s4_ : Sl) (s5_ : Sl) (i6_ : Int) (i7_ : Int) (s48_ : Sl) (i49_ : Int) (i50_ : Int) (h : H) : Prop :=
 bif (decide (i50_ < i49_)) then
 ixS s48_ 1 i50_ fun p0 =>
 ldI .i64 p0 h fun n1 =>
 bif (decide (n1 > (0))) then
 ixS s4_ 1 i50_ fun p2 =>
 ldI .i64 p2 h fun n3 =>
 bif (decide (n3 < (0))) then
 ixS s5_ 1 i7_ fun p4 =>
 ldI .i64 p4 h fun n5 =>
 ixS s4_ 1 n5 fun p6 =>
 ldI .i64 p6 h fun n7 =>
 ixS s4_ 1 i50_ fun p8 =>
 st1 p8 (.int .i64 (w64 (n7 + (1)))) h fun h9 =>
 newS 1 1 [.int .i64 i50_] h9 fun s10 h11 =>
 app s5_ s10 1 h11 fun s12 h13 =>
 X2 (impl_period_e2 s0_ s4_ s12 i6_ i7_ s48_ i49_ (w64 (i50_ + (1)))) h13
 else
 X2 (impl_period_e2 s0_ s4_ s5_ i6_ i7_ s48_ i49_ (w64 (i50_ + (1)))) h
 else
 X2 (impl_period_e2 s0_ s4_ s5_ i6_ i7_ s48_ i49_ (w64 (i50_ + (1)))) h
 else
 impl_period_C2 S K X0 s0_ s4_ s5_ i6_ i7_ h
theorem impl_period_link2 (S : SatT) (K : AVal → H → Prop) (X0 : Frame → H → Prop) (X2 : Frame → H → Prop) (s0_ : Sl) (s4_ : Sl) (s5_ : Sl) (i6_ : Int) (i7_ : Int) (s48_ : Sl) (i49_ : Int) (i50_ : Int) (h : H) : impl_period_w2 S K X0 X2 (impl_period_e2 s0_ s4_ s5_ i6_ i7_ s48_ i49_ i50_) h = impl_period_b2 S K X0 X2 s0_ s4_ s5_ i6_ i7_ s48_ i49_ i50_ h := by kernel_rfl
theorem impl_period_rule2 (S : SatT) (K : AVal → H → Prop) (X0 : Frame → H → Prop) (s0_ : Sl) (s4_ : Sl) (i6_ : Int) (i7_ : Int) (s48_ : Sl) (i49_ : Int) (I_ : Sl → Int → H → Prop) (m_ : Sl → Int → H → Nat)
    (hs : ∀ (X2 : Frame → H → Prop) (s5_ : Sl) (i50_ : Int) (h : H), I_ s5_ i50_ h → (∀ (s5_' : Sl) (i50_' : Int) (h' : H), I_ s5_' i50_' h' → m_ s5_' i50_' h' < m_ s5_ i50_ h → X2 (impl_period_e2 s0_ s4_ s5_' i6_ i7_ s48_ i49_ i50_') h') → impl_period_b2 S K X0 X2 s0_ s4_ s5_ i6_ i7_ s48_ i49_ i50_ h) (s5_ : Sl) (i50_ : Int) {h : H} (h0 : I_ s5_ i50_ h) : impl_period_L2 S K X0 s0_ s4_ s5_ i6_ i7_ s48_ i49_ i50_ h :=
  loop_rule (σ := (Sl) × (Int)) (fun s_ => impl_period_e2 s0_ s4_ (s_.1) i6_ i7_ s48_ i49_ (s_.2)) (fun s_ h => I_ (s_.1) (s_.2) h) (fun s_ h => m_ (s_.1) (s_.2) h)
    (fun X s_ h hi hx => (impl_period_link2 S K X0 X s0_ s4_ (s_.1) i6_ i7_ s48_ i49_ (s_.2) h).mpr (hs X (s_.1) (s_.2) h hi fun s5_' i50_' h' hi' hm' => hx (s5_', i50_') h' hi' hm')) (s5_, i50_) h0
theorem impl_period_unroll2 (S : SatT) (K : AVal → H → Prop) (X0 : Frame → H → Prop) (s0_ : Sl) (s4_ : Sl) (s5_ : Sl) (i6_ : Int) (i7_ : Int) (s48_ : Sl) (i49_ : Int) (i50_ : Int) (h : H) (hb : impl_period_b2 S K X0 (fun fr h => loopK (impl_period_w2 S K X0) fr h) s0_ s4_ s5_ i6_ i7_ s48_ i49_ i50_ h) : impl_period_L2 S K X0 s0_ s4_ s5_ i6_ i7_ s48_ i49_ i50_ h := loop_unroll ((impl_period_link2 S K X0 _ s0_ s4_ s5_ i6_ i7_ s48_ i49_ i50_ h).mpr hb)
def impl_period_ks20 (S : SatT) (K : AVal → H → Prop) : Kont := kSeq (cwp S tab impl_period_M [] (sub [1, 1, 1, 1, 1, 1, 1] (bodyOf Try.f83)) (kFun tab (Try.f83).results.toList K)) (kFun tab (Try.f83).results.toList K)
def impl_period_e4 (s4_ : Sl) (i6_ : Int) (s80_ : Sl) (i81_ : Int) (i82_ : Int) : Frame := [U, U, U, U, .sl s4_, U, .int .i64 i6_, U, U, U, U, U, U, U, U, U, U, U, U, U, U, U, U, U, U, U, U, U, U, U, U, U, U, U, U, U, U, U, U, U, U, U, U, U, U, U, U, U, U, U, U, U, U, U, U, U, U, U, U, U, U, U, U, U, U, U, U, U, U, U, U, U, U, U, U, U, U, U, U, U, .sl s80_, .int .i64 i81_, .int .i64 i82_, U, U, U, U, U, U, U, U, U, U, U, U, U, U, U, U, U, U, U, U, U, U, U, U, U, U, U, U, U, U, U, U]
def impl_period_w4 (S : SatT) (K : AVal → H → Prop) : (Frame → H → Prop) → Frame → H → Prop := fun X fr h => cwp S tab impl_period_M (impl_period_M 4) (sub [1, 1, 1, 1, 1, 1, 0, 1, 0, 0] (bodyOf Try.f83)) (kSeq (fun fr h => X (mask (impl_period_M 4) fr) h) (kBlk 4 (impl_period_ks20 S K))) fr h
def impl_period_L4 (S : SatT) (K : AVal → H → Prop) (s4_ : Sl) (i6_ : Int) (s80_ : Sl) (i81_ : Int) (i82_ : Int) (h : H) : Prop := loopK (impl_period_w4 S K) (impl_period_e4 s4_ i6_ s80_ i81_ i82_) h
def impl_period_ks24 (S : SatT) (K : AVal → H → Prop) (X4 : Frame → H → Prop) : Kont := kSeq (cwp S tab impl_period_M (impl_period_M 4) (sub [1, 1, 1, 1, 1, 1, 0, 1, 0, 0, 1, 1, 1] (bodyOf Try.f83)) (kSeq (fun fr h => X4 (mask (impl_period_M 4) fr) h) (kBlk 4 (impl_period_ks20 S K)))) (kSeq (fun fr h => X4 (mask (impl_period_M 4) fr) h) (kBlk 4 (impl_period_ks20 S K)))
def impl_period_e6 (s4_ : Sl) (i6_ : Int) (i10_ : Int) (s80_ : Sl) (i81_ : Int) (i82_ : Int) (s87_ : Sl) (i88_ : Int) (i89_ : Int) : Frame := [U, U, U, U, .sl s4_, U, .int .i64 i6_, U, U, U, .int .i64 i10_, U, U, U, U, U, U, U, U, U, U, U, U, U, U, U, U, U, U, U, U, U, U, U, U, U, U, U, U, U, U, U, U, U, U, U, U, U, U, U, U, U, U, U, U, U, U, U, U, U, U, U, U, U, U, U, U, U, U, U, U, U, U, U, U, U, U, U, U, U, .sl s80_, .int .i64 i81_, .int .i64 i82_, U, U, U, U, .sl s87_, .int .i64 i88_, .int .i64 i89_, U, U, U, U, U, U, U, U, U, U, U, U, U, U, U, U, U, U, U, U, U, U, U, U, U]
def impl_period_w6 (S : SatT) (K : AVal → H → Prop) (X4 : Frame → H → Prop) : (Frame → H → Prop) → Frame → H → Prop := fun X fr h => cwp S tab impl_period_M (impl_period_M 6) (sub [1, 1, 1, 1, 1, 1, 0, 1, 0, 0, 1, 1, 0, 0, 1, 1, 0, 0] (bodyOf Try.f83)) (kSeq (fun fr h => X (mask (impl_period_M 6) fr) h) (kBlk 6 (kBlk 5 (impl_period_ks24 S K X4)))) fr h
def impl_period_L6 (S : SatT) (K : AVal → H → Prop) (X4 : Frame → H → Prop) (s4_ : Sl) (i6_ : Int) (i10_ : Int) (s80_ : Sl) (i81_ : Int) (i82_ : Int) (s87_ : Sl) (i88_ : Int) (i89_ : Int) (h : H) : Prop := loopK (impl_period_w6 S K X4) (impl_period_e6 s4_ i6_ i10_ s80_ i81_ i82_ s87_ i88_ i89_) h
def impl_period_C5 (S : SatT) (K : AVal → H → Prop) (X4 : Frame → H → Prop) (s4_ : Sl) (i6_ : Int) (s80_ : Sl) (i81_ : Int) (i82_ : Int) (h : H) : Prop :=
 X4 (impl_period_e4 s4_ i6_ s80_ i81_ (w64 (i82_ + (1)))) h
def impl_period_C6 (S : SatT) (K : AVal → H → Prop) (X4 : Frame → H → Prop) (s4_ : Sl) (i6_ : Int) (s80_ : Sl) (i81_ : Int) (i82_ : Int) (h : H) : Prop :=
 impl_period_C5 S K X4 s4_ i6_ s80_ i81_ i82_ h
def impl_period_b6 (S : SatT) (K : AVal → H → Prop) (X4 : Frame → H → Prop) (X6 : Frame → H → Prop) (s4_ : Sl) (i6_ : Int) (i10_ : Int) (s80_ : Sl) (i81_ : Int) (i82_ : Int) (s87_ : Sl) (i88_ : Int) (i89_ : Int) (h : H) : Prop :=
 bif (decide (i89_ < i88_)) then
 ixS s87_ 1 i89_ fun p0 =>
 ldI .i64 p0 h fun n1 =>
 ixS s4_ 1 i10_ fun p2 =>
 ldI .i64 p2 h fun n3 =>
 ixS s4_ 1 i89_ fun p4 =>
 ldI .i64 p4 h fun n5 =>
 bif (decide (n1 > (0))) then
 callI S .i64 i_impl_divisor [.int .i64 i6_, .int .i64 (mxI (w64 ((w64 (n3 + (1))) - n5)) (w64 (0 - (w64 ((w64 (n3 + (1))) - n5)))))] h fun n7 h6 =>
 X6 (impl_period_e6 s4_ n7 i10_ s80_ i81_ i82_ s87_ i88_ (w64 (i89_ + (1)))) h6
 else
 X6 (impl_period_e6 s4_ i6_ i10_ s80_ i81_ i82_ s87_ i88_ (w64 (i89_ + (1)))) h
 else
 impl_period_C6 S K X4 s4_ i6_ s80_ i81_ i82_ h
theorem impl_period_link6 (S : SatT) (K : AVal → H → Prop) (X4 : Frame → H → Prop) (X6 : Frame → H → Prop) (s4_ : Sl) (i6_ : Int) (i10_ : Int) (s80_ : Sl) (i81_ : Int) (i82_ : Int) (s87_ : Sl) (i88_ : Int) (i89_ : Int) (h : H) : impl_period_w6 S K X4 X6 (impl_period_e6 s4_ i6_ i10_ s80_ i81_ i82_ s87_ i88_ i89_) h = impl_period_b6 S K X4 X6 s4_ i6_ i10_ s80_ i81_ i82_ s87_ i88_ i89_ h := by kernel_rfl
theorem impl_period_rule6 (S : SatT) (K : AVal → H → Prop) (X4 : Frame → H → Prop) (s4_ : Sl) (i10_ : Int) (s80_ : Sl) (i81_ : Int) (i82_ : Int) (s87_ : Sl) (i88_ : Int) (I_ : Int → Int → H → Prop) (m_ : Int → Int → H → Nat)
    (hs : ∀ (X6 : Frame → H → Prop) (i6_ : Int) (i89_ : Int) (h : H), I_ i6_ i89_ h → (∀ (i6_' : Int) (i89_' : Int) (h' : H), I_ i6_' i89_' h' → m_ i6_' i89_' h' < m_ i6_ i89_ h → X6 (impl_period_e6 s4_ i6_' i10_ s80_ i81_ i82_ s87_ i88_ i89_') h') → impl_period_b6 S K X4 X6 s4_ i6_ i10_ s80_ i81_ i82_ s87_ i88_ i89_ h) (i6_ : Int) (i89_ : Int) {h : H} (h0 : I_ i6_ i89_ h) : impl_period_L6 S K X4 s4_ i6_ i10_ s80_ i81_ i82_ s87_ i88_ i89_ h :=
  loop_rule (σ := (Int) × (Int)) (fun s_ => impl_period_e6 s4_ (s_.1) i10_ s80_ i81_ i82_ s87_ i88_ (s_.2)) (fun s_ h => I_ (s_.1) (s_.2) h) (fun s_ h => m_ (s_.1) (s_.2) h)
    (fun X s_ h hi hx => (impl_period_link6 S K X4 X s4_ (s_.1) i10_ s80_ i81_ i82_ s87_ i88_ (s_.2) h).mpr (hs X (s_.1) (s_.2) h hi fun i6_' i89_' h' hi' hm' => hx (i6_', i89_') h' hi' hm')) (i6_, i89_) h0
theorem impl_period_unroll6 (S : SatT) (K : AVal → H → Prop) (X4 : Frame → H → Prop) (s4_ : Sl) (i6_ : Int) (i10_ : Int) (s80_ : Sl) (i81_ : Int) (i82_ : Int) (s87_ : Sl) (i88_ : Int) (i89_ : Int) (h : H) (hb : impl_period_b6 S K X4 (fun fr h => loopK (impl_period_w6 S K X4) fr h) s4_ i6_ i10_ s80_ i81_ i82_ s87_ i88_ i89_ h) : impl_period_L6 S K X4 s4_ i6_ i10_ s80_ i81_ i82_ s87_ i88_ i89_ h := loop_unroll ((impl_period_link6 S K X4 _ s4_ i6_ i10_ s80_ i81_ i82_ s87_ i88_ i89_ h).mpr hb)
def impl_period_C4 (S : SatT) (K : AVal → H → Prop) (i6_ : Int) (h : H) : Prop :=
 K (.int .i64 i6_) h
def impl_period_b4 (S : SatT) (K : AVal → H → Prop) (X4 : Frame → H → Prop) (s4_ : Sl) (i6_ : Int) (s80_ : Sl) (i81_ : Int) (i82_ : Int) (h : H) : Prop :=
 bif (decide (i82_ < i81_)) then
 ixS s80_ 1 i82_ fun p0 =>
 ldS p0 h fun s1 =>
 impl_period_L6 S K X4 s4_ i6_ i82_ s80_ i81_ i82_ s1 (s1.len : Int) (0) h
 else
 impl_period_C4 S K i6_ h
theorem impl_period_link4 (S : SatT) (K : AVal → H → Prop) (X4 : Frame → H → Prop) (s4_ : Sl) (i6_ : Int) (s80_ : Sl) (i81_ : Int) (i82_ : Int) (h : H) : impl_period_w4 S K X4 (impl_period_e4 s4_ i6_ s80_ i81_ i82_) h = impl_period_b4 S K X4 s4_ i6_ s80_ i81_ i82_ h := by kernel_rfl
theorem impl_period_rule4 (S : SatT) (K : AVal → H → Prop) (s4_ : Sl) (s80_ : Sl) (i81_ : Int) (I_ : Int → Int → H → Prop) (m_ : Int → Int → H → Nat)
    (hs : ∀ (X4 : Frame → H → Prop) (i6_ : Int) (i82_ : Int) (h : H), I_ i6_ i82_ h → (∀ (i6_' : Int) (i82_' : Int) (h' : H), I_ i6_' i82_' h' → m_ i6_' i82_' h' < m_ i6_ i82_ h → X4 (impl_period_e4 s4_ i6_' s80_ i81_ i82_') h') → impl_period_b4 S K X4 s4_ i6_ s80_ i81_ i82_ h) (i6_ : Int) (i82_ : Int) {h : H} (h0 : I_ i6_ i82_ h) : impl_period_L4 S K s4_ i6_ s80_ i81_ i82_ h :=
  loop_rule (σ := (Int) × (Int)) (fun s_ => impl_period_e4 s4_ (s_.1) s80_ i81_ (s_.2)) (fun s_ h => I_ (s_.1) (s_.2) h) (fun s_ h => m_ (s_.1) (s_.2) h)
    (fun X s_ h hi hx => (impl_period_link4 S K X s4_ (s_.1) s80_ i81_ (s_.2) h).mpr (hs X (s_.1) (s_.2) h hi fun i6_' i82_' h' hi' hm' => hx (i6_', i82_') h' hi' hm')) (i6_, i82_) h0
theorem impl_period_unroll4 (S : SatT) (K : AVal → H → Prop) (s4_ : Sl) (i6_ : Int) (s80_ : Sl) (i81_ : Int) (i82_ : Int) (h : H) (hb : impl_period_b4 S K (fun fr h => loopK (impl_period_w4 S K) fr h) s4_ i6_ s80_ i81_ i82_ h) : impl_period_L4 S K s4_ i6_ s80_ i81_ i82_ h := loop_unroll ((impl_period_link4 S K _ s4_ i6_ s80_ i81_ i82_ h).mpr hb)
def impl_period_C0 (S : SatT) (K : AVal → H → Prop) (s0_ : Sl) (s4_ : Sl) (i6_ : Int) (h : H) : Prop :=
 impl_period_L4 S K s4_ i6_ s0_ (s0_.len : Int) (0) h
def impl_period_b0 (S : SatT) (K : AVal → H → Prop) (X0 : Frame → H → Prop) (s0_ : Sl) (s4_ : Sl) (s5_ : Sl) (i6_ : Int) (i7_ : Int) (h : H) : Prop :=
 bif (decide (i7_ < (s5_.len : Int))) then
 ixS s5_ 1 i7_ fun p0 =>
 ldI .i64 p0 h fun n1 =>
 ixS s0_ 1 n1 fun p2 =>
 ldS p2 h fun s3 =>
 impl_period_L2 S K X0 s0_ s4_ s5_ i6_ i7_ s3 (s3.len : Int) (0) h
 else
 impl_period_C0 S K s0_ s4_ i6_ h
theorem impl_period_link0 (S : SatT) (K : AVal → H → Prop) (X0 : Frame → H → Prop) (s0_ : Sl) (s4_ : Sl) (s5_ : Sl) (i6_ : Int) (i7_ : Int) (h : H) : impl_period_w0 S K X0 (impl_period_e0 s0_ s4_ s5_ i6_ i7_) h = impl_period_b0 S K X0 s0_ s4_ s5_ i6_ i7_ h := by kernel_rfl
theorem impl_period_rule0 (S : SatT) (K : AVal → H → Prop) (s0_ : Sl) (s4_ : Sl) (i6_ : Int) (I_ : Sl → Int → H → Prop) (m_ : Sl → Int → H → Nat)
    (hs : ∀ (X0 : Frame → H → Prop) (s5_ : Sl) (i7_ : Int) (h : H), I_ s5_ i7_ h → (∀ (s5_' : Sl) (i7_' : Int) (h' : H), I_ s5_' i7_' h' → m_ s5_' i7_' h' < m_ s5_ i7_ h → X0 (impl_period_e0 s0_ s4_ s5_' i6_ i7_') h') → impl_period_b0 S K X0 s0_ s4_ s5_ i6_ i7_ h) (s5_ : Sl) (i7_ : Int) {h : H} (h0 : I_ s5_ i7_ h) : impl_period_L0 S K s0_ s4_ s5_ i6_ i7_ h :=
  loop_rule (σ := (Sl) × (Int)) (fun s_ => impl_period_e0 s0_ s4_ (s_.1) i6_ (s_.2)) (fun s_ h => I_ (s_.1) (s_.2) h) (fun s_ h => m_ (s_.1) (s_.2) h)
    (fun X s_ h hi hx => (impl_period_link0 S K X s0_ s4_ (s_.1) i6_ (s_.2) h).mpr (hs X (s_.1) (s_.2) h hi fun s5_' i7_' h' hi' hm' => hx (s5_', i7_') h' hi' hm')) (s5_, i7_) h0
theorem impl_period_unroll0 (S : SatT) (K : AVal → H → Prop) (s0_ : Sl) (s4_ : Sl) (s5_ : Sl) (i6_ : Int) (i7_ : Int) (h : H) (hb : impl_period_b0 S K (fun fr h => loopK (impl_period_w0 S K) fr h) s0_ s4_ s5_ i6_ i7_ h) : impl_period_L0 S K s0_ s4_ s5_ i6_ i7_ h := loop_unroll ((impl_period_link0 S K _ s0_ s4_ s5_ i6_ i7_ h).mpr hb)
def impl_period_main (S : SatT) (K : AVal → H → Prop) (x0 : Sl) (h : H) : Prop :=
 callS S i_impl_strongParts [.sl x0] h fun s1 h0 =>
 bif ((s1.len : Int) != (1)) then
 K (.int .i64 (0)) h0
 else
 ixS s1 1 (0) fun p2 =>
 ldS p2 h0 fun s3 =>
 bif ((s3.len : Int) != (x0.len : Int)) then
 K (.int .i64 (0)) h0
 else
 newS 1 1 [.int .i64 (-1)] h0 fun s4 h5 =>
 callS S i_slices_Repeat_s_int64_int64_ [.sl s4, .int .i64 (x0.len : Int)] h5 fun s7 h6 =>
 newS 1 1 [.int .i64 (0)] h6 fun s8 h9 =>
 ixS s7 1 (0) fun p10 =>
 st1 p10 (.int .i64 (0)) h9 fun h11 =>
 impl_period_L0 S K x0 s7 s8 (0) (0) h11
theorem impl_period_main_link (S : SatT) (K : AVal → H → Prop) (x0 : Sl) (h : H) : cwp S tab impl_period_M [] (bodyOf Try.f83) (kFun tab Try.f83.results.toList K) (fr0 Try.f83 [.sl x0]) h = impl_period_main S K x0 h := by kernel_rfl
theorem impl_period_call (x0 : Sl) (h : H) (K : Int → H → Prop) (hm : impl_period_main (Sat Try.prog) (fun v h' => ∃ r, v = .int .i64 r ∧ K r h') x0 h) : callI (Sat Try.prog) .i64 i_impl_period [.sl x0] h K := by
  have := Sat.ex tok mixed impl_period_M Try.func83 (c := bodyOf Try.f83) (by kernel_rfl) (calls_of Try.func83 (c := bodyOf Try.f83) (by kernel_rfl) (by decide)) ((impl_period_main_link _ _ x0 h).mpr hm)
  obtain ⟨v, h2, h3, r, rfl, h4⟩ := this; exact ⟨r, h2, h3, h4⟩

/-! ### (*loop.example/g01354/impl.strip).lasting -/
def impl_strip_lasting_M : Nat → List Nat := fun i => bif i == 4 then [4, 5, 6, 7, 9, 64, 65, 66] else bif i == 2 then [0, 4, 5, 6, 7, 9, 51, 52] else bif i == 0 then [0, 4, 5, 6, 7, 25, 26] else []
def impl_strip_lasting_ks3 (S : SatT) (K : AVal → H → Prop) : Kont := kSeq (cwp S tab impl_strip_lasting_M [] (sub [1, 1, 1, 1] (bodyOf Try.f102)) (kFun tab (Try.f102).results.toList K)) (kFun tab (Try.f102).results.toList K)
def impl_strip_lasting_e0 (p0_ : Pt) (s4_ : Sl) (s5_ : Sl) (s6_ : Sl) (s7_ : Sl) (i25_ : Int) (i26_ : Int) : Frame := [.ptr p0_, U, U, U, .sl s4_, .sl s5_, .sl s6_, .sl s7_, U, U, U, U, U, U, U, U, U, U, U, U, U, U, U, U, U, .int .i64 i25_, .int .i64 i26_, U, U, U, U, U, U, U, U, U, U, U, U, U, U, U, U, U, U, U, U, U, U, U, U, U, U, U, U, U, U, U, U, U, U, U, U, U, U, U, U, U, U, U, U, U, U, U, U, U, U, U, U, U, U, U, U, U, U, U, U, U, U, U, U, U, U, U, U, U, U, U, U, U, U, U]
def impl_strip_lasting_w0 (S : SatT) (K : AVal → H → Prop) : (Frame → H → Prop) → Frame → H → Prop := fun X fr h => cwp S tab impl_strip_lasting_M (impl_strip_lasting_M 0) (sub [1, 1, 1, 0, 1, 0, 0] (bodyOf Try.f102)) (kSeq (fun fr h => X (mask (impl_strip_lasting_M 0) fr) h) (kBlk 0 (impl_strip_lasting_ks3 S K))) fr h
def impl_strip_lasting_L0 (S : SatT) (K : AVal → H → Prop) (p0_ : Pt) (s4_ : Sl) (s5_ : Sl) (s6_ : Sl) (s7_ : Sl) (i25_ : Int) (i26_ : Int) (h : H) : Prop := loopK (impl_strip_lasting_w0 S K) (impl_strip_lasting_e0 p0_ s4_ s5_ s6_ s7_ i25_ i26_) h
def impl_strip_lasting_ks12 (S : SatT) (K : AVal → H → Prop) : Kont := kSeq (cwp S tab impl_strip_lasting_M [] (sub [1, 1, 1, 1, 1, 1] (bodyOf Try.f102)) (kFun tab (Try.f102).results.toList K)) (kFun tab (Try.f102).results.toList K)
def impl_strip_lasting_e2 (p0_ : Pt) (s4_ : Sl) (s5_ : Sl) (s6_ : Sl) (s7_ : Sl) (s9_ : Sl) (i51_ : Int) (i52_ : Int) : Frame := [.ptr p0_, U, U, U, .sl s4_, .sl s5_, .sl s6_, .sl s7_, U, .sl s9_, U, U, U, U, U, U, U, U, U, U, U, U, U, U, U, U, U, U, U, U, U, U, U, U, U, U, U, U, U, U, U, U, U, U, U, U, U, U, U, U, U, .int .i64 i51_, .int .i64 i52_, U, U, U, U, U, U, U, U, U, U, U, U, U, U, U, U, U, U, U, U, U, U, U, U, U, U, U, U, U, U, U, U, U, U, U, U, U, U, U, U, U, U, U, U, U, U, U, U, U]
def impl_strip_lasting_w2 (S : SatT) (K : AVal → H → Prop) : (Frame → H → Prop) → Frame → H → Prop := fun X fr h => cwp S tab impl_strip_lasting_M (impl_strip_lasting_M 2) (sub [1, 1, 1, 1, 1, 0, 1, 0, 0] (bodyOf Try.f102)) (kSeq (fun fr h => X (mask (impl_strip_lasting_M 2) fr) h) (kBlk 2 (impl_strip_lasting_ks12 S K))) fr h
def impl_strip_lasting_L2 (S : SatT) (K : AVal → H → Prop) (p0_ : Pt) (s4_ : Sl) (s5_ : Sl) (s6_ : Sl) (s7_ : Sl) (s9_ : Sl) (i51_ : Int) (i52_ : Int) (h : H) : Prop := loopK (impl_strip_lasting_w2 S K) (impl_strip_lasting_e2 p0_ s4_ s5_ s6_ s7_ s9_ i51_ i52_) h
def impl_strip_lasting_ks17 (S : SatT) (K : AVal → H → Prop) : Kont := kSeq (cwp S tab impl_strip_lasting_M [] (sub [1, 1, 1, 1, 1, 1, 1] (bodyOf Try.f102)) (kFun tab (Try.f102).results.toList K)) (kFun tab (Try.f102).results.toList K)
def impl_strip_lasting_e4 (s4_ : Sl) (s5_ : Sl) (s6_ : Sl) (s7_ : Sl) (s9_ : Sl) (s64_ : Sl) (i65_ : Int) (i66_ : Int) : Frame := [U, U, U, U, .sl s4_, .sl s5_, .sl s6_, .sl s7_, U, .sl s9_, U, U, U, U, U, U, U, U, U, U, U, U, U, U, U, U, U, U, U, U, U, U, U, U, U, U, U, U, U, U, U, U, U, U, U, U, U, U, U, U, U, U, U, U, U, U, U, U, U, U, U, U, U, U, .sl s64_, .int .i64 i65_, .int .i64 i66_, U, U, U, U, U, U, U, U, U, U, U, U, U, U, U, U, U, U, U, U, U, U, U, U, U, U, U, U, U, U, U, U, U, U, U]
def impl_strip_lasting_w4 (S : SatT) (K : AVal → H → Prop) : (Frame → H → Prop) → Frame → H → Prop := fun X fr h => cwp S tab impl_strip_lasting_M (impl_strip_lasting_M 4) (sub [1, 1, 1, 1, 1, 1, 0, 1, 0, 0] (bodyOf Try.f102)) (kSeq (fun fr h => X (mask (impl_strip_lasting_M 4) fr) h) (kBlk 4 (impl_strip_lasting_ks17 S K))) fr h
def impl_strip_lasting_L4 (S : SatT) (K : AVal → H → Prop) (s4_ : Sl) (s5_ : Sl) (s6_ : Sl) (s7_ : Sl) (s9_ : Sl) (s64_ : Sl) (i65_ : Int) (i66_ : Int) (h : H) : Prop := loopK (impl_strip_lasting_w4 S K) (impl_strip_lasting_e4 s4_ s5_ s6_ s7_ s9_ s64_ i65_ i66_) h
def impl_strip_lasting_C4 (S : SatT) (K : AVal → H → Prop) (s6_ : Sl) (s9_ : Sl) (h : H) : Prop :=
 K (.tuple [.sl s6_, .sl s9_]) h
def impl_strip_lasting_b4 (S : SatT) (K : AVal → H → Prop) (X4 : Frame → H → Prop) (s4_ : Sl) (s5_ : Sl) (s6_ : Sl) (s7_ : Sl) (s9_ : Sl) (s64_ : Sl) (i65_ : Int) (i66_ : Int) (h : H) : Prop :=
 bif (decide (i66_ < i65_)) then
 ixS s64_ 3 i66_ fun p0 =>
 ldA p0 3 h fun cs1 =>
 newO [.int .i64 (0), .int .i64 (0), .int .i64 (0)] h fun p2 h3 =>
 stN p2 3 cs1 h3 fun h4 =>
 ixA p2 3 1 (0) fun p5 =>
 ldI .i64 p5 h4 fun n6 =>
 ixS s4_ 1 n6 fun p7 =>
 ldB p7 h4 fun b8 =>
 bif b8 then
 ixA p2 3 1 (1) fun p9 =>
 ldI .i64 p9 h4 fun n10 =>
 ixS s5_ 1 n10 fun p11 =>
 ldB p11 h4 fun b12 =>
 bif b12 then
 ixA p2 3 1 (0) fun p13 =>
 ldI .i64 p13 h4 fun n14 =>
 ixS s7_ 1 n14 fun p15 =>
 ldI .i64 p15 h4 fun n16 =>
 ixS s9_ 1 n16 fun p17 =>
 ldS p17 h4 fun s18 =>
 ixA p2 3 1 (1) fun p19 =>
 ldI .i64 p19 h4 fun n20 =>
 ixS s7_ 1 n20 fun p21 =>
 ldI .i64 p21 h4 fun n22 =>
 ixS s18 1 n22 fun p23 =>
 ldI .i64 p23 h4 fun n24 =>
 ixS s18 1 n22 fun p25 =>
 st1 p25 (.int .i64 (w64 (n24 + (1)))) h4 fun h26 =>
 X4 (impl_strip_lasting_e4 s4_ s5_ s6_ s7_ s9_ s64_ i65_ (w64 (i66_ + (1)))) h26
 else
 X4 (impl_strip_lasting_e4 s4_ s5_ s6_ s7_ s9_ s64_ i65_ (w64 (i66_ + (1)))) h4
 else
 X4 (impl_strip_lasting_e4 s4_ s5_ s6_ s7_ s9_ s64_ i65_ (w64 (i66_ + (1)))) h4
 else
 impl_strip_lasting_C4 S K s6_ s9_ h
theorem impl_strip_lasting_link4 (S : SatT) (K : AVal → H → Prop) (X4 : Frame → H → Prop) (s4_ : Sl) (s5_ : Sl) (s6_ : Sl) (s7_ : Sl) (s9_ : Sl) (s64_ : Sl) (i65_ : Int) (i66_ : Int) (h : H) : impl_strip_lasting_w4 S K X4 (impl_strip_lasting_e4 s4_ s5_ s6_ s7_ s9_ s64_ i65_ i66_) h = impl_strip_lasting_b4 S K X4 s4_ s5_ s6_ s7_ s9_ s64_ i65_ i66_ h := by kernel_rfl
theorem impl_strip_lasting_rule4 (S : SatT) (K : AVal → H → Prop) (s4_ : Sl) (s5_ : Sl) (s6_ : Sl) (s7_ : Sl) (s9_ : Sl) (s64_ : Sl) (i65_ : Int) (I_ : Int → H → Prop) (m_ : Int → H → Nat)
    (hs : ∀ (X4 : Frame → H → Prop) (i66_ : Int) (h : H), I_ i66_ h → (∀ (i66_' : Int) (h' : H), I_ i66_' h' → m_ i66_' h' < m_ i66_ h → X4 (impl_strip_lasting_e4 s4_ s5_ s6_ s7_ s9_ s64_ i65_ i66_') h') → impl_strip_lasting_b4 S K X4 s4_ s5_ s6_ s7_ s9_ s64_ i65_ i66_ h) (i66_ : Int) {h : H} (h0 : I_ i66_ h) : impl_strip_lasting_L4 S K s4_ s5_ s6_ s7_ s9_ s64_ i65_ i66_ h :=
  loop_rule (σ := (Int)) (fun s_ => impl_strip_lasting_e4 s4_ s5_ s6_ s7_ s9_ s64_ i65_ (s_)) (fun s_ h => I_ (s_) h) (fun s_ h => m_ (s_) h)
    (fun X s_ h hi hx => (impl_strip_lasting_link4 S K X s4_ s5_ s6_ s7_ s9_ s64_ i65_ (s_) h).mpr (hs X (s_) h hi fun i66_' h' hi' hm' => hx (i66_') h' hi' hm')) (i66_) h0
theorem impl_strip_lasting_unroll4 (S : SatT) (K : AVal → H → Prop) (s4_ : Sl) (s5_ : Sl) (s6_ : Sl) (s7_ : Sl) (s9_ : Sl) (s64_ : Sl) (i65_ : Int) (i66_ : Int) (h : H) (hb : impl_strip_lasting_b4 S K (fun fr h => loopK (impl_strip_lasting_w4 S K) fr h) s4_ s5_ s6_ s7_ s9_ s64_ i65_ i66_ h) : impl_strip_lasting_L4 S K s4_ s5_ s6_ s7_ s9_ s64_ i65_ i66_ h := loop_unroll ((impl_strip_lasting_link4 S K _ s4_ s5_ s6_ s7_ s9_ s64_ i65_ i66_ h).mpr hb)
def impl_strip_lasting_C2 (S : SatT) (K : AVal → H → Prop) (p0_ : Pt) (s4_ : Sl) (s5_ : Sl) (s6_ : Sl) (s7_ : Sl) (s9_ : Sl) (h : H) : Prop :=
 nilC (.ptr p0_) (
 isPt p0_ (
 ldS (Pt.add p0_ 4) h fun s0 =>
 impl_strip_lasting_L4 S K s4_ s5_ s6_ s7_ s9_ s0 (s0.len : Int) (0) h))
def impl_strip_lasting_b2 (S : SatT) (K : AVal → H → Prop) (X2 : Frame → H → Prop) (p0_ : Pt) (s4_ : Sl) (s5_ : Sl) (s6_ : Sl) (s7_ : Sl) (s9_ : Sl) (i51_ : Int) (i52_ : Int) (h : H) : Prop :=
 bif (decide (i52_ < i51_)) then
 mkS (s6_.len : Int) [.int .i64 (0)] h fun s0 h1 =>
 newS 1 1 [.sl s0] h1 fun s2 h3 =>
 app s9_ s2 1 h3 fun s4 h5 =>
 X2 (impl_strip_lasting_e2 p0_ s4_ s5_ s6_ s7_ s4 i51_ (w64 (i52_ + (1)))) h5
 else
 impl_strip_lasting_C2 S K p0_ s4_ s5_ s6_ s7_ s9_ h
theorem impl_strip_lasting_link2 (S : SatT) (K : AVal → H → Prop) (X2 : Frame → H → Prop) (p0_ : Pt) (s4_ : Sl) (s5_ : Sl) (s6_ : Sl) (s7_ : Sl) (s9_ : Sl) (i51_ : Int) (i52_ : Int) (h : H) : impl_strip_lasting_w2 S K X2 (impl_strip_lasting_e2 p0_ s4_ s5_ s6_ s7_ s9_ i51_ i52_) h = impl_strip_lasting_b2 S K X2 p0_ s4_ s5_ s6_ s7_ s9_ i51_ i52_ h := by kernel_rfl
theorem impl_strip_lasting_rule2 (S : SatT) (K : AVal → H → Prop) (p0_ : Pt) (s4_ : Sl) (s5_ : Sl) (s6_ : Sl) (s7_ : Sl) (i51_ : Int) (I_ : Sl → Int → H → Prop) (m_ : Sl → Int → H → Nat)
    (hs : ∀ (X2 : Frame → H → Prop) (s9_ : Sl) (i52_ : Int) (h : H), I_ s9_ i52_ h → (∀ (s9_' : Sl) (i52_' : Int) (h' : H), I_ s9_' i52_' h' → m_ s9_' i52_' h' < m_ s9_ i52_ h → X2 (impl_strip_lasting_e2 p0_ s4_ s5_ s6_ s7_ s9_' i51_ i52_') h') → impl_strip_lasting_b2 S K X2 p0_ s4_ s5_ s6_ s7_ s9_ i51_ i52_ h) (s9_ : Sl) (i52_ : Int) {h : H} (h0 : I_ s9_ i52_ h) : impl_strip_lasting_L2 S K p0_ s4_ s5_ s6_ s7_ s9_ i51_ i52_ h :=
  loop_rule (σ := (Sl) × (Int)) (fun s_ => impl_strip_lasting_e2 p0_ s4_ s5_ s6_ s7_ (s_.1) i51_ (s_.2)) (fun s_ h => I_ (s_.1) (s_.2) h) (fun s_ h => m_ (s_.1) (s_.2) h)
    (fun X s_ h hi hx => (impl_strip_lasting_link2 S K X p0_ s4_ s5_ s6_ s7_ (s_.1) i51_ (s_.2) h).mpr (hs X (s_.1) (s_.2) h hi fun s9_' i52_' h' hi' hm' => hx (s9_', i52_') h' hi' hm')) (s9_, i52_) h0
theorem impl_strip_lasting_unroll2 (S : SatT) (K : AVal → H → Prop) (p0_ : Pt) (s4_ : Sl) (s5_ : Sl) (s6_ : Sl) (s7_ : Sl) (s9_ : Sl) (i51_ : Int) (i52_ : Int) (h : H) (hb : impl_strip_lasting_b2 S K (fun fr h => loopK (impl_strip_lasting_w2 S K) fr h) p0_ s4_ s5_ s6_ s7_ s9_ i51_ i52_ h) : impl_strip_lasting_L2 S K p0_ s4_ s5_ s6_ s7_ s9_ i51_ i52_ h := loop_unroll ((impl_strip_lasting_link2 S K _ p0_ s4_ s5_ s6_ s7_ s9_ i51_ i52_ h).mpr hb)
def impl_strip_lasting_C0 (S : SatT) (K : AVal → H → Prop) (p0_ : Pt) (s4_ : Sl) (s5_ : Sl) (s6_ : Sl) (s7_ : Sl) (h : H) : Prop :=
 newS 0 1 [] h fun s0 h1 =>
 impl_strip_lasting_L2 S K p0_ s4_ s5_ s6_ s7_ s0 (s6_.len : Int) (0) h1
def impl_strip_lasting_b0 (S : SatT) (K : AVal → H → Prop) (X0 : Frame → H → Prop) (p0_ : Pt) (s4_ : Sl) (s5_ : Sl) (s6_ : Sl) (s7_ : Sl) (i25_ : Int) (i26_ : Int) (h : H) : Prop :=
 bif (decide (i26_ < i25_)) then
 ixS s4_ 1 i26_ fun p0 =>
 ldB p0 h fun b1 =>
 bif b1 then
 ixS s5_ 1 i26_ fun p2 =>
 ldB p2 h fun b3 =>
 bif b3 then
 ixS s7_ 1 i26_ fun p4 =>
 st1 p4 (.int .i64 (s6_.len : Int)) h fun h5 =>
 newS 1 1 [.int .i64 i26_] h5 fun s6 h7 =>
 app s6_ s6 1 h7 fun s8 h9 =>
 X0 (impl_strip_lasting_e0 p0_ s4_ s5_ s8 s7_ i25_ (w64 (i26_ + (1)))) h9
 else
 X0 (impl_strip_lasting_e0 p0_ s4_ s5_ s6_ s7_ i25_ (w64 (i26_ + (1)))) h
 else
 X0 (impl_strip_lasting_e0 p0_ s4_ s5_ s6_ s7_ i25_ (w64 (i26_ + (1)))) h
 else
 impl_strip_lasting_C0 S K p0_ s4_ s5_ s6_ s7_ h
theorem impl_strip_lasting_link0 (S : SatT) (K : AVal → H → Prop) (X0 : Frame → H → Prop) (p0_ : Pt) (s4_ : Sl) (s5_ : Sl) (s6_ : Sl) (s7_ : Sl) (i25_ : Int) (i26_ : Int) (h : H) : impl_strip_lasting_w0 S K X0 (impl_strip_lasting_e0 p0_ s4_ s5_ s6_ s7_ i25_ i26_) h = impl_strip_lasting_b0 S K X0 p0_ s4_ s5_ s6_ s7_ i25_ i26_ h := by kernel_rfl
theorem impl_strip_lasting_rule0 (S : SatT) (K : AVal → H → Prop) (p0_ : Pt) (s4_ : Sl) (s5_ : Sl) (s7_ : Sl) (i25_ : Int) (I_ : Sl → Int → H → Prop) (m_ : Sl → Int → H → Nat)
    (hs : ∀ (X0 : Frame → H → Prop) (s6_ : Sl) (i26_ : Int) (h : H), I_ s6_ i26_ h → (∀ (s6_' : Sl) (i26_' : Int) (h' : H), I_ s6_' i26_' h' → m_ s6_' i26_' h' < m_ s6_ i26_ h → X0 (impl_strip_lasting_e0 p0_ s4_ s5_ s6_' s7_ i25_ i26_') h') → impl_strip_lasting_b0 S K X0 p0_ s4_ s5_ s6_ s7_ i25_ i26_ h) (s6_ : Sl) (i26_ : Int) {h : H} (h0 : I_ s6_ i26_ h) : impl_strip_lasting_L0 S K p0_ s4_ s5_ s6_ s7_ i25_ i26_ h :=
  loop_rule (σ := (Sl) × (Int)) (fun s_ => impl_strip_lasting_e0 p0_ s4_ s5_ (s_.1) s7_ i25_ (s_.2)) (fun s_ h => I_ (s_.1) (s_.2) h) (fun s_ h => m_ (s_.1) (s_.2) h)
    (fun X s_ h hi hx => (impl_strip_lasting_link0 S K X p0_ s4_ s5_ (s_.1) s7_ i25_ (s_.2) h).mpr (hs X (s_.1) (s_.2) h hi fun s6_' i26_' h' hi' hm' => hx (s6_', i26_') h' hi' hm')) (s6_, i26_) h0
theorem impl_strip_lasting_unroll0 (S : SatT) (K : AVal → H → Prop) (p0_ : Pt) (s4_ : Sl) (s5_ : Sl) (s6_ : Sl) (s7_ : Sl) (i25_ : Int) (i26_ : Int) (h : H) (hb : impl_strip_lasting_b0 S K (fun fr h => loopK (impl_strip_lasting_w0 S K) fr h) p0_ s4_ s5_ s6_ s7_ i25_ i26_ h) : impl_strip_lasting_L0 S K p0_ s4_ s5_ s6_ s7_ i25_ i26_ h := loop_unroll ((impl_strip_lasting_link0 S K _ p0_ s4_ s5_ s6_ s7_ i25_ i26_ h).mpr hb)
def impl_strip_lasting_main (S : SatT) (K : AVal → H → Prop) (x0 : Pt) (h : H) : Prop :=
 callS S i_impl_strip_endless [.ptr x0, .int .i64 (1), .int .i64 (0)] h fun s1 h0 =>
 callS S i_impl_strip_endless [.ptr x0, .int .i64 (0), .int .i64 (1)] h0 fun s3 h2 =>
 slotK 8 h2 fun h4 =>
 nilC (.ptr x0) (
 isPt x0 (
 ldI .i64 (Pt.add x0 3) h4 fun n5 =>
 newSat 0 1 [] h4 (h2.length + 0) fun s6 h7 =>
(cell h7 (Pt.add x0 3) = cell h4 (Pt.add x0 3)) ∧ (
 mkSat n5 [.int .i64 (0)] h7 (h2.length + 5) fun s8 h9 =>
 nilC (.ptr x0) (
 isPt x0 (
 ldI .i64 (Pt.add x0 3) h9 fun n10 =>
 impl_strip_lasting_L0 S K x0 s1 s3 s6 s8 n10 (0) h9)))))
theorem impl_strip_lasting_main_link (S : SatT) (K : AVal → H → Prop) (x0 : Pt) (h : H) : cwp S tab impl_strip_lasting_M [] (bodyOf Try.f102) (kFun tab Try.f102.results.toList K) (fr0 Try.f102 [.ptr x0]) h = impl_strip_lasting_main S K x0 h := by kernel_rfl
theorem impl_strip_lasting_call (x0 : Pt) (h : H) (K : AVal → H → Prop) (hm : impl_strip_lasting_main (Sat Try.prog) (fun v h' => K v h') x0 h) : callV (Sat Try.prog) i_impl_strip_lasting [.ptr x0] h K := by
  have := Sat.ex tok mixed impl_strip_lasting_M Try.func102 (c := bodyOf Try.f102) (by kernel_rfl) (calls_of Try.func102 (c := bodyOf Try.f102) (by kernel_rfl) (by decide)) ((impl_strip_lasting_main_link _ _ x0 h).mpr hm)
  exact this

/-! ### (loop.example/g01354/impl.Set).endless -/
def impl_Set_endless_M : Nat → List Nat := fun i => bif i == 2 then [1, 2, 3, 7, 8, 16, 17, 23, 24, 25] else bif i == 0 then [1, 2, 3, 7, 16, 17] else []
def impl_Set_endless_ks2 (S : SatT) (K : AVal → H → Prop) : Kont := kSeq (cwp S tab impl_Set_endless_M [] (sub [1, 1, 1] (bodyOf Try.f59)) (kFun tab (Try.f59).results.toList K)) (kFun tab (Try.f59).results.toList K)
def impl_Set_endless_e0 (i1_ : Int) (i2_ : Int) (p3_ : Pt) (s7_ : Sl) (i16_ : Int) (i17_ : Int) : Frame := [U, .int .i64 i1_, .int .i64 i2_, .ptr p3_, U, U, U, .sl s7_, U, U, U, U, U, U, U, U, .int .i64 i16_, .int .i64 i17_, U, U, U, U, U, U, U, U, U, U, U, U, U, U, U, U, U, U, U, U, U, U, U, U, U, U, U, U, U, U, U, U, U, U]
def impl_Set_endless_w0 (S : SatT) (K : AVal → H → Prop) : (Frame → H → Prop) → Frame → H → Prop := fun X fr h => cwp S tab impl_Set_endless_M (impl_Set_endless_M 0) (sub [1, 1, 0, 1, 0, 0] (bodyOf Try.f59)) (kSeq (fun fr h => X (mask (impl_Set_endless_M 0) fr) h) (kBlk 0 (impl_Set_endless_ks2 S K))) fr h
def impl_Set_endless_L0 (S : SatT) (K : AVal → H → Prop) (i1_ : Int) (i2_ : Int) (p3_ : Pt) (s7_ : Sl) (i16_ : Int) (i17_ : Int) (h : H) : Prop := loopK (impl_Set_endless_w0 S K) (impl_Set_endless_e0 i1_ i2_ p3_ s7_ i16_ i17_) h
def impl_Set_endless_ks6 (S : SatT) (K : AVal → H → Prop) (X0 : Frame → H → Prop) : Kont := kSeq (cwp S tab impl_Set_endless_M (impl_Set_endless_M 0) (sub [1, 1, 0, 1, 0, 0, 1, 1, 1] (bodyOf Try.f59)) (kSeq (fun fr h => X0 (mask (impl_Set_endless_M 0) fr) h) (kBlk 0 (impl_Set_endless_ks2 S K)))) (kSeq (fun fr h => X0 (mask (impl_Set_endless_M 0) fr) h) (kBlk 0 (impl_Set_endless_ks2 S K)))
def impl_Set_endless_ks8 (S : SatT) (K : AVal → H → Prop) (X0 : Frame → H → Prop) : Kont := kSeq (cwp S tab impl_Set_endless_M (impl_Set_endless_M 1) (sub [1, 1, 0, 1, 0, 0, 1, 1, 0, 0, 1, 1] (bodyOf Try.f59)) (kBlk 1 (impl_Set_endless_ks6 S K X0))) (kBlk 1 (impl_Set_endless_ks6 S K X0))
def impl_Set_endless_e2 (i1_ : Int) (i2_ : Int) (p3_ : Pt) (s7_ : Sl) (s8_ : Sl) (i16_ : Int) (i17_ : Int) (s23_ : Sl) (i24_ : Int) (i25_ : Int) : Frame := [U, .int .i64 i1_, .int .i64 i2_, .ptr p3_, U, U, U, .sl s7_, .sl s8_, U, U, U, U, U, U, U, .int .i64 i16_, .int .i64 i17_, U, U, U, U, U, .sl s23_, .int .i64 i24_, .int .i64 i25_, U, U, U, U, U, U, U, U, U, U, U, U, U, U, U, U, U, U, U, U, U, U, U, U, U, U]
def impl_Set_endless_w2 (S : SatT) (K : AVal → H → Prop) (X0 : Frame → H → Prop) : (Frame → H → Prop) → Frame → H → Prop := fun X fr h => cwp S tab impl_Set_endless_M (impl_Set_endless_M 2) (sub [1, 1, 0, 1, 0, 0, 1, 1, 0, 0, 1, 0, 1, 0, 0] (bodyOf Try.f59)) (kSeq (fun fr h => X (mask (impl_Set_endless_M 2) fr) h) (kBlk 2 (impl_Set_endless_ks8 S K X0))) fr h
def impl_Set_endless_L2 (S : SatT) (K : AVal → H → Prop) (X0 : Frame → H → Prop) (i1_ : Int) (i2_ : Int) (p3_ : Pt) (s7_ : Sl) (s8_ : Sl) (i16_ : Int) (i17_ : Int) (s23_ : Sl) (i24_ : Int) (i25_ : Int) (h : H) : Prop := loopK (impl_Set_endless_w2 S K X0) (impl_Set_endless_e2 i1_ i2_ p3_ s7_ s8_ i16_ i17_ s23_ i24_ i25_) h
def impl_Set_endless_C1 (S : SatT) (K : AVal → H → Prop) (X0 : Frame → H → Prop) (i1_ : Int) (i2_ : Int) (p3_ : Pt) (s7_ : Sl) (i16_ : Int) (i17_ : Int) (h : H) : Prop :=
 X0 (impl_Set_endless_e0 i1_ i2_ p3_ s7_ i16_ (w64 (i17_ + (1)))) h
def impl_Set_endless_C2 (S : SatT) (K : AVal → H → Prop) (X0 : Frame → H → Prop) (i1_ : Int) (i2_ : Int) (p3_ : Pt) (s8_ : Sl) (i16_ : Int) (i17_ : Int) (h : H) : Prop :=
 impl_Set_endless_C1 S K X0 i1_ i2_ p3_ s8_ i16_ i17_ h
def impl_Set_endless_b2 (S : SatT) (K : AVal → H → Prop) (X0 : Frame → H → Prop) (X2 : Frame → H → Prop) (i1_ : Int) (i2_ : Int) (p3_ : Pt) (s7_ : Sl) (s8_ : Sl) (i16_ : Int) (i17_ : Int) (s23_ : Sl) (i24_ : Int) (i25_ : Int) (h : H) : Prop :=
 bif (decide (i25_ < i24_)) then
 ixS s23_ 4 i25_ fun p0 =>
 ldA p0 4 h fun cs1 =>
 newO [.int .i64 (0), .int .i64 (0), .int .i64 (0), .int .i64 (0)] h fun p2 h3 =>
 stN p2 4 cs1 h3 fun h4 =>
 ixA p2 4 1 i1_ fun p5 =>
 ldI .i64 p5 h4 fun n6 =>
 ixA p2 4 1 i1_ fun p7 =>
 ldI .i64 p7 h4 fun n8 =>
 ixS s8_ 1 n8 fun p9 =>
 ldB p9 h4 fun b10 =>
 bif b10 then
 ixS s8_ 1 n6 fun p11 =>
 st1 p11 (.bool true) h4 fun h12 =>
 X2 (impl_Set_endless_e2 i1_ i2_ p3_ s7_ s8_ i16_ i17_ s23_ i24_ (w64 (i25_ + (1)))) h12
 else
 ixA p2 4 1 i2_ fun p13 =>
 ldI .i64 p13 h4 fun n14 =>
 ixS s7_ 1 n14 fun p15 =>
 ldB p15 h4 fun b16 =>
 ixS s8_ 1 n6 fun p17 =>
 st1 p17 (.bool b16) h4 fun h18 =>
 X2 (impl_Set_endless_e2 i1_ i2_ p3_ s7_ s8_ i16_ i17_ s23_ i24_ (w64 (i25_ + (1)))) h18
 else
 impl_Set_endless_C2 S K X0 i1_ i2_ p3_ s8_ i16_ i17_ h
theorem impl_Set_endless_link2 (S : SatT) (K : AVal → H → Prop) (X0 : Frame → H → Prop) (X2 : Frame → H → Prop) (i1_ : Int) (i2_ : Int) (p3_ : Pt) (s7_ : Sl) (s8_ : Sl) (i16_ : Int) (i17_ : Int) (s23_ : Sl) (i24_ : Int) (i25_ : Int) (h : H) : impl_Set_endless_w2 S K X0 X2 (impl_Set_endless_e2 i1_ i2_ p3_ s7_ s8_ i16_ i17_ s23_ i24_ i25_) h = impl_Set_endless_b2 S K X0 X2 i1_ i2_ p3_ s7_ s8_ i16_ i17_ s23_ i24_ i25_ h := by kernel_rfl
theorem impl_Set_endless_rule2 (S : SatT) (K : AVal → H → Prop) (X0 : Frame → H → Prop) (i1_ : Int) (i2_ : Int) (p3_ : Pt) (s7_ : Sl) (s8_ : Sl) (i16_ : Int) (i17_ : Int) (s23_ : Sl) (i24_ : Int) (I_ : Int → H → Prop) (m_ : Int → H → Nat)
    (hs : ∀ (X2 : Frame → H → Prop) (i25_ : Int) (h : H), I_ i25_ h → (∀ (i25_' : Int) (h' : H), I_ i25_' h' → m_ i25_' h' < m_ i25_ h → X2 (impl_Set_endless_e2 i1_ i2_ p3_ s7_ s8_ i16_ i17_ s23_ i24_ i25_') h') → impl_Set_endless_b2 S K X0 X2 i1_ i2_ p3_ s7_ s8_ i16_ i17_ s23_ i24_ i25_ h) (i25_ : Int) {h : H} (h0 : I_ i25_ h) : impl_Set_endless_L2 S K X0 i1_ i2_ p3_ s7_ s8_ i16_ i17_ s23_ i24_ i25_ h :=
  loop_rule (σ := (Int)) (fun s_ => impl_Set_endless_e2 i1_ i2_ p3_ s7_ s8_ i16_ i17_ s23_ i24_ (s_)) (fun s_ h => I_ (s_) h) (fun s_ h => m_ (s_) h)
    (fun X s_ h hi hx => (impl_Set_endless_link2 S K X0 X i1_ i2_ p3_ s7_ s8_ i16_ i17_ s23_ i24_ (s_) h).mpr (hs X (s_) h hi fun i25_' h' hi' hm' => hx (i25_') h' hi' hm')) (i25_) h0
theorem impl_Set_endless_unroll2 (S : SatT) (K : AVal → H → Prop) (X0 : Frame → H → Prop) (i1_ : Int) (i2_ : Int) (p3_ : Pt) (s7_ : Sl) (s8_ : Sl) (i16_ : Int) (i17_ : Int) (s23_ : Sl) (i24_ : Int) (i25_ : Int) (h : H) (hb : impl_Set_endless_b2 S K X0 (fun fr h => loopK (impl_Set_endless_w2 S K X0) fr h) i1_ i2_ p3_ s7_ s8_ i16_ i17_ s23_ i24_ i25_ h) : impl_Set_endless_L2 S K X0 i1_ i2_ p3_ s7_ s8_ i16_ i17_ s23_ i24_ i25_ h := loop_unroll ((impl_Set_endless_link2 S K X0 _ i1_ i2_ p3_ s7_ s8_ i16_ i17_ s23_ i24_ i25_ h).mpr hb)
def impl_Set_endless_C0 (S : SatT) (K : AVal → H → Prop) (s7_ : Sl) (h : H) : Prop :=
 K (.sl s7_) h
def impl_Set_endless_b0 (S : SatT) (K : AVal → H → Prop) (X0 : Frame → H → Prop) (i1_ : Int) (i2_ : Int) (p3_ : Pt) (s7_ : Sl) (i16_ : Int) (i17_ : Int) (h : H) : Prop :=
 bif (decide (i17_ < i16_)) then
 isPt p3_ (
 ldI .i64 (Pt.add p3_ 0) h fun n0 =>
 mkS n0 [.bool false] h fun s1 h2 =>
 isPt p3_ (
 ldS (Pt.add p3_ 1) h2 fun s3 =>
 impl_Set_endless_L2 S K X0 i1_ i2_ p3_ s7_ s1 i16_ i17_ s3 (s3.len : Int) (0) h2))
 else
 impl_Set_endless_C0 S K s7_ h
theorem impl_Set_endless_link0 (S : SatT) (K : AVal → H → Prop) (X0 : Frame → H → Prop) (i1_ : Int) (i2_ : Int) (p3_ : Pt) (s7_ : Sl) (i16_ : Int) (i17_ : Int) (h : H) : impl_Set_endless_w0 S K X0 (impl_Set_endless_e0 i1_ i2_ p3_ s7_ i16_ i17_) h = impl_Set_endless_b0 S K X0 i1_ i2_ p3_ s7_ i16_ i17_ h := by kernel_rfl
theorem impl_Set_endless_rule0 (S : SatT) (K : AVal → H → Prop) (i1_ : Int) (i2_ : Int) (p3_ : Pt) (i16_ : Int) (I_ : Sl → Int → H → Prop) (m_ : Sl → Int → H → Nat)
    (hs : ∀ (X0 : Frame → H → Prop) (s7_ : Sl) (i17_ : Int) (h : H), I_ s7_ i17_ h → (∀ (s7_' : Sl) (i17_' : Int) (h' : H), I_ s7_' i17_' h' → m_ s7_' i17_' h' < m_ s7_ i17_ h → X0 (impl_Set_endless_e0 i1_ i2_ p3_ s7_' i16_ i17_') h') → impl_Set_endless_b0 S K X0 i1_ i2_ p3_ s7_ i16_ i17_ h) (s7_ : Sl) (i17_ : Int) {h : H} (h0 : I_ s7_ i17_ h) : impl_Set_endless_L0 S K i1_ i2_ p3_ s7_ i16_ i17_ h :=
  loop_rule (σ := (Sl) × (Int)) (fun s_ => impl_Set_endless_e0 i1_ i2_ p3_ (s_.1) i16_ (s_.2)) (fun s_ h => I_ (s_.1) (s_.2) h) (fun s_ h => m_ (s_.1) (s_.2) h)
    (fun X s_ h hi hx => (impl_Set_endless_link0 S K X i1_ i2_ p3_ (s_.1) i16_ (s_.2) h).mpr (hs X (s_.1) (s_.2) h hi fun s7_' i17_' h' hi' hm' => hx (s7_', i17_') h' hi' hm')) (s7_, i17_) h0
theorem impl_Set_endless_unroll0 (S : SatT) (K : AVal → H → Prop) (i1_ : Int) (i2_ : Int) (p3_ : Pt) (s7_ : Sl) (i16_ : Int) (i17_ : Int) (h : H) (hb : impl_Set_endless_b0 S K (fun fr h => loopK (impl_Set_endless_w0 S K) fr h) i1_ i2_ p3_ s7_ i16_ i17_ h) : impl_Set_endless_L0 S K i1_ i2_ p3_ s7_ i16_ i17_ h := loop_unroll ((impl_Set_endless_link0 S K _ i1_ i2_ p3_ s7_ i16_ i17_ h).mpr hb)
def impl_Set_endless_main (S : SatT) (K : AVal → H → Prop) (x0 : List AVal) (x1 : Int) (x2 : Int) (h : H) : Prop :=
 newK 2 x0 h fun p0 h1 =>
 newS 1 1 [.bool true] h1 fun s2 h3 =>
 isPt p0 (
 ldI .i64 (Pt.add p0 0) h3 fun n4 =>
 callS S i_slices_Repeat_s_bool_bool_ [.sl s2, .int .i64 n4] h3 fun s6 h5 =>
 isPt p0 (
 ldI .i64 (Pt.add p0 0) h5 fun n7 =>
 impl_Set_endless_L0 S K x1 x2 p0 s6 n7 (0) h5))
theorem impl_Set_endless_main_link (S : SatT) (K : AVal → H → Prop) (x0 : List AVal) (x1 : Int) (x2 : Int) (h : H) : cwp S tab impl_Set_endless_M [] (bodyOf Try.f59) (kFun tab Try.f59.results.toList K) (fr0 Try.f59 [.agg x0, .int .i64 x1, .int .i64 x2]) h = impl_Set_endless_main S K x0 x1 x2 h := by kernel_rfl
theorem impl_Set_endless_call (x0 : List AVal) (x1 : Int) (x2 : Int) (h : H) (K : Sl → H → Prop) (hm : impl_Set_endless_main (Sat Try.prog) (fun v h' => ∃ r, v = .sl r ∧ K r h') x0 x1 x2 h) : callS (Sat Try.prog) i_impl_Set_endless [.agg x0, .int .i64 x1, .int .i64 x2] h K := by
  have := Sat.ex tok mixed impl_Set_endless_M Try.func59 (c := bodyOf Try.f59) (by kernel_rfl) (calls_of Try.func59 (c := bodyOf Try.f59) (by kernel_rfl) (by decide)) ((impl_Set_endless_main_link _ _ x0 x1 x2 h).mpr hm)
  obtain ⟨v, h2, h3, r, rfl, h4⟩ := this; exact ⟨r, h2, h3, h4⟩

/-! ### loop.example/g01354/impl.newStrip$1 -/
def impl_newStrip_1_M : Nat → List Nat := fun i => bif i == 0 then [0, 1, 2, 3, 4, 6, 7, 8, 39, 40, 41] else []
def impl_newStrip_1_ks5 (S : SatT) (K : AVal → H → Prop) : Kont := kSeq (cwp S tab impl_newStrip_1_M [] (sub [1, 1, 1] (bodyOf Try.f116)) (kFun tab (Try.f116).results.toList K)) (kFun tab (Try.f116).results.toList K)
def impl_newStrip_1_e0 (i0_ : Int) (i1_ : Int) (i2_ : Int) (i3_ : Int) (i4_ : Int) (p6_ : Pt) (p7_ : Pt) (p8_ : Pt) (s39_ : Sl) (i40_ : Int) (i41_ : Int) : Frame := [.int .i64 i0_, .int .i64 i1_, .int .i64 i2_, .int .i64 i3_, .int .i64 i4_, U, .ptr p6_, .ptr p7_, .ptr p8_, U, U, U, U, U, U, U, U, U, U, U, U, U, U, U, U, U, U, U, U, U, U, U, U, U, U, U, U, U, U, .sl s39_, .int .i64 i40_, .int .i64 i41_, U, U, U, U, U, U, U, U, U, U, U, U, U, U, U, U, U, U, U, U, U, U, U, U, U, U, U, U, U, U, U, U, U, U, U, U, U, U, U, U]
def impl_newStrip_1_w0 (S : SatT) (K : AVal → H → Prop) : (Frame → H → Prop) → Frame → H → Prop := fun X fr h => cwp S tab impl_newStrip_1_M (impl_newStrip_1_M 0) (sub [1, 1, 0, 1, 0, 0] (bodyOf Try.f116)) (kSeq (fun fr h => X (mask (impl_newStrip_1_M 0) fr) h) (kBlk 0 (impl_newStrip_1_ks5 S K))) fr h
def impl_newStrip_1_L0 (S : SatT) (K : AVal → H → Prop) (i0_ : Int) (i1_ : Int) (i2_ : Int) (i3_ : Int) (i4_ : Int) (p6_ : Pt) (p7_ : Pt) (p8_ : Pt) (s39_ : Sl) (i40_ : Int) (i41_ : Int) (h : H) : Prop := loopK (impl_newStrip_1_w0 S K) (impl_newStrip_1_e0 i0_ i1_ i2_ i3_ i4_ p6_ p7_ p8_ s39_ i40_ i41_) h
def impl_newStrip_1_C0 (S : SatT) (K : AVal → H → Prop) (h : H) : Prop :=
 K (.bool true) h
def impl_newStrip_1_b0 (S : SatT) (K : AVal → H → Prop) (X0 : Frame → H → Prop) (i0_ : Int) (i1_ : Int) (i2_ : Int) (i3_ : Int) (i4_ : Int) (p6_ : Pt) (p7_ : Pt) (p8_ : Pt) (s39_ : Sl) (i40_ : Int) (i41_ : Int) (h : H) : Prop :=
 bif (decide (i41_ < i40_)) then
 ixS s39_ 4 i41_ fun p0 =>
 ldA p0 4 h fun cs1 =>
 newO [.int .i64 (0), .int .i64 (0), .int .i64 (0), .int .i64 (0)] h fun p2 h3 =>
 stN p2 4 cs1 h3 fun h4 =>
 ldI .i64 p7_ h4 fun n5 =>
 bif (decide (i4_ < n5)) then
 ixA p2 4 1 (1) fun p6 =>
 ldI .i64 p6 h4 fun n7 =>
 bif (n7 != i1_) then
 X0 (impl_newStrip_1_e0 i0_ i1_ i2_ i3_ i4_ p6_ p7_ p8_ s39_ i40_ (w64 (i41_ + (1)))) h4
 else
 ldI .i64 p7_ h4 fun n8 =>
 bif (i4_ == n8) then
 ixA p2 4 1 (1) fun p9 =>
 ldI .i64 p9 h4 fun n10 =>
 ldV p8_ h4 fun v11 =>
 ixA p2 4 1 (3) fun p12 =>
 ldI .i64 p12 h4 fun n13 =>
 isPt p6_ (
 ldI .i64 (Pt.add p6_ 0) h4 fun n14 =>
 ixA p2 4 1 (0) fun p15 =>
 ldI .i64 p15 h4 fun n16 =>
 isPt p6_ (
 ldI .i64 (Pt.add p6_ 0) h4 fun n17 =>
 ixA p2 4 1 (2) fun p18 =>
 ldI .i64 p18 h4 fun n19 =>
 viaF v11 [.int .i64 n10, .int .i64 n13, .int .i64 (w64 ((w64 (i2_ * n14)) + n16)), .int .i64 (w64 ((w64 (i3_ * n17)) + n19)), .int .i64 (w64 (i4_ - (1)))] fun g20 ys21 =>
 callB S g20 ys21 h4 fun b23 h22 =>
 bif (!b23) then
 K (.bool false) h22
 else
 X0 (impl_newStrip_1_e0 n10 i1_ i2_ i3_ i4_ p6_ p7_ p8_ s39_ i40_ (w64 (i41_ + (1)))) h22))
 else
 ldV p8_ h4 fun v24 =>
 ixA p2 4 1 (3) fun p25 =>
 ldI .i64 p25 h4 fun n26 =>
 isPt p6_ (
 ldI .i64 (Pt.add p6_ 0) h4 fun n27 =>
 ixA p2 4 1 (0) fun p28 =>
 ldI .i64 p28 h4 fun n29 =>
 isPt p6_ (
 ldI .i64 (Pt.add p6_ 0) h4 fun n30 =>
 ixA p2 4 1 (2) fun p31 =>
 ldI .i64 p31 h4 fun n32 =>
 viaF v24 [.int .i64 i0_, .int .i64 n26, .int .i64 (w64 ((w64 (i2_ * n27)) + n29)), .int .i64 (w64 ((w64 (i3_ * n30)) + n32)), .int .i64 (w64 (i4_ - (1)))] fun g33 ys34 =>
 callB S g33 ys34 h4 fun b36 h35 =>
 bif (!b36) then
 K (.bool false) h35
 else
 X0 (impl_newStrip_1_e0 i0_ i1_ i2_ i3_ i4_ p6_ p7_ p8_ s39_ i40_ (w64 (i41_ + (1)))) h35))
 else
 ldI .i64 p7_ h4 fun n37 =>
 bif (i4_ == n37) then
 ixA p2 4 1 (1) fun p38 =>
 ldI .i64 p38 h4 fun n39 =>
 ldV p8_ h4 fun v40 =>
 ixA p2 4 1 (3) fun p41 =>
 ldI .i64 p41 h4 fun n42 =>
 isPt p6_ (
 ldI .i64 (Pt.add p6_ 0) h4 fun n43 =>
 ixA p2 4 1 (0) fun p44 =>
 ldI .i64 p44 h4 fun n45 =>
 isPt p6_ (
 ldI .i64 (Pt.add p6_ 0) h4 fun n46 =>
 ixA p2 4 1 (2) fun p47 =>
 ldI .i64 p47 h4 fun n48 =>
 viaF v40 [.int .i64 n39, .int .i64 n42, .int .i64 (w64 ((w64 (i2_ * n43)) + n45)), .int .i64 (w64 ((w64 (i3_ * n46)) + n48)), .int .i64 (w64 (i4_ - (1)))] fun g49 ys50 =>
 callB S g49 ys50 h4 fun b52 h51 =>
 bif (!b52) then
 K (.bool false) h51
 else
 X0 (impl_newStrip_1_e0 n39 i1_ i2_ i3_ i4_ p6_ p7_ p8_ s39_ i40_ (w64 (i41_ + (1)))) h51))
 else
 ldV p8_ h4 fun v53 =>
 ixA p2 4 1 (3) fun p54 =>
 ldI .i64 p54 h4 fun n55 =>
 isPt p6_ (
 ldI .i64 (Pt.add p6_ 0) h4 fun n56 =>
 ixA p2 4 1 (0) fun p57 =>
 ldI .i64 p57 h4 fun n58 =>
 isPt p6_ (
 ldI .i64 (Pt.add p6_ 0) h4 fun n59 =>
 ixA p2 4 1 (2) fun p60 =>
 ldI .i64 p60 h4 fun n61 =>
 viaF v53 [.int .i64 i0_, .int .i64 n55, .int .i64 (w64 ((w64 (i2_ * n56)) + n58)), .int .i64 (w64 ((w64 (i3_ * n59)) + n61)), .int .i64 (w64 (i4_ - (1)))] fun g62 ys63 =>
 callB S g62 ys63 h4 fun b65 h64 =>
 bif (!b65) then
 K (.bool false) h64
 else
 X0 (impl_newStrip_1_e0 i0_ i1_ i2_ i3_ i4_ p6_ p7_ p8_ s39_ i40_ (w64 (i41_ + (1)))) h64))
 else
 impl_newStrip_1_C0 S K h
theorem impl_newStrip_1_link0 (S : SatT) (K : AVal → H → Prop) (X0 : Frame → H → Prop) (i0_ : Int) (i1_ : Int) (i2_ : Int) (i3_ : Int) (i4_ : Int) (p6_ : Pt) (p7_ : Pt) (p8_ : Pt) (s39_ : Sl) (i40_ : Int) (i41_ : Int) (h : H) : impl_newStrip_1_w0 S K X0 (impl_newStrip_1_e0 i0_ i1_ i2_ i3_ i4_ p6_ p7_ p8_ s39_ i40_ i41_) h = impl_newStrip_1_b0 S K X0 i0_ i1_ i2_ i3_ i4_ p6_ p7_ p8_ s39_ i40_ i41_ h := by kernel_rfl
theorem impl_newStrip_1_rule0 (S : SatT) (K : AVal → H → Prop) (i1_ : Int) (i2_ : Int) (i3_ : Int) (i4_ : Int) (p6_ : Pt) (p7_ : Pt) (p8_ : Pt) (s39_ : Sl) (i40_ : Int) (I_ : Int → Int → H → Prop) (m_ : Int → Int → H → Nat)
    (hs : ∀ (X0 : Frame → H → Prop) (i0_ : Int) (i41_ : Int) (h : H), I_ i0_ i41_ h → (∀ (i0_' : Int) (i41_' : Int) (h' : H), I_ i0_' i41_' h' → m_ i0_' i41_' h' < m_ i0_ i41_ h → X0 (impl_newStrip_1_e0 i0_' i1_ i2_ i3_ i4_ p6_ p7_ p8_ s39_ i40_ i41_') h') → impl_newStrip_1_b0 S K X0 i0_ i1_ i2_ i3_ i4_ p6_ p7_ p8_ s39_ i40_ i41_ h) (i0_ : Int) (i41_ : Int) {h : H} (h0 : I_ i0_ i41_ h) : impl_newStrip_1_L0 S K i0_ i1_ i2_ i3_ i4_ p6_ p7_ p8_ s39_ i40_ i41_ h :=
  loop_rule (σ := (Int) × (Int)) (fun s_ => impl_newStrip_1_e0 (s_.1) i1_ i2_ i3_ i4_ p6_ p7_ p8_ s39_ i40_ (s_.2)) (fun s_ h => I_ (s_.1) (s_.2) h) (fun s_ h => m_ (s_.1) (s_.2) h)
    (fun X s_ h hi hx => (impl_newStrip_1_link0 S K X (s_.1) i1_ i2_ i3_ i4_ p6_ p7_ p8_ s39_ i40_ (s_.2) h).mpr (hs X (s_.1) (s_.2) h hi fun i0_' i41_' h' hi' hm' => hx (i0_', i41_') h' hi' hm')) (i0_, i41_) h0
theorem impl_newStrip_1_unroll0 (S : SatT) (K : AVal → H → Prop) (i0_ : Int) (i1_ : Int) (i2_ : Int) (i3_ : Int) (i4_ : Int) (p6_ : Pt) (p7_ : Pt) (p8_ : Pt) (s39_ : Sl) (i40_ : Int) (i41_ : Int) (h : H) (hb : impl_newStrip_1_b0 S K (fun fr h => loopK (impl_newStrip_1_w0 S K) fr h) i0_ i1_ i2_ i3_ i4_ p6_ p7_ p8_ s39_ i40_ i41_ h) : impl_newStrip_1_L0 S K i0_ i1_ i2_ i3_ i4_ p6_ p7_ p8_ s39_ i40_ i41_ h := loop_unroll ((impl_newStrip_1_link0 S K _ i0_ i1_ i2_ i3_ i4_ p6_ p7_ p8_ s39_ i40_ i41_ h).mpr hb)
def impl_newStrip_1_main (S : SatT) (K : AVal → H → Prop) (x0 : Int) (x1 : Int) (x2 : Int) (x3 : Int) (x4 : Int) (x5 : Pt) (x6 : Pt) (x7 : Pt) (x8 : Pt) (h : H) : Prop :=
 bif (x4 == (0)) then
 ldP x5 h fun p0 =>
 ldP x5 h fun p1 =>
 nilC (.ptr p1) (
 isPt p1 (
 ldS (Pt.add p1 4) h fun s2 =>
 lenA [.int .i64 x2, .int .i64 x3, .int .i64 x0] 3 (
 newS 1 3 (spl [.int .i64 (0), .int .i64 (0), .int .i64 (0)] 0 3 [.int .i64 x2, .int .i64 x3, .int .i64 x0]) h fun s3 h4 =>
(cell h4 (Pt.add p1 4) = cell h (Pt.add p1 4)) ∧ (
(cell h4 x5 = cell h x5) ∧ (
(cell h4 x5 = cell h x5) ∧ (
 app s2 s3 3 h4 fun s5 h6 =>
(cell h6 x5 = cell h x5) ∧ (
 nilC (.ptr p0) (
 isPt p0 (
 st1 (Pt.add p0 4) (.sl s5) h6 fun h7 =>
 ldP x5 h7 fun p8 =>
 nilC (.ptr p8) (
 isPt p8 (
 ldS (Pt.add p8 4) h7 fun s9 =>
 K (.bool (decide ((s9.len : Int) ≤ (5000)))) h7)))))))))))
 else
 isPt x6 (
 ldS (Pt.add x6 1) h fun s10 =>
 impl_newStrip_1_L0 S K x0 x1 x2 x3 x4 x6 x7 x8 s10 (s10.len : Int) (0) h)
theorem impl_newStrip_1_main_link (S : SatT) (K : AVal → H → Prop) (x0 : Int) (x1 : Int) (x2 : Int) (x3 : Int) (x4 : Int) (x5 : Pt) (x6 : Pt) (x7 : Pt) (x8 : Pt) (h : H) : cwp S tab impl_newStrip_1_M [] (bodyOf Try.f116) (kFun tab Try.f116.results.toList K) (fr0 Try.f116 [.int .i64 x0, .int .i64 x1, .int .i64 x2, .int .i64 x3, .int .i64 x4, .ptr x5, .ptr x6, .ptr x7, .ptr x8]) h = impl_newStrip_1_main S K x0 x1 x2 x3 x4 x5 x6 x7 x8 h := by kernel_rfl
theorem impl_newStrip_1_call (x0 : Int) (x1 : Int) (x2 : Int) (x3 : Int) (x4 : Int) (x5 : Pt) (x6 : Pt) (x7 : Pt) (x8 : Pt) (h : H) (K : Bool → H → Prop) (hm : impl_newStrip_1_main (Sat Try.prog) (fun v h' => ∃ r, v = .bool r ∧ K r h') x0 x1 x2 x3 x4 x5 x6 x7 x8 h) : callB (Sat Try.prog) i_impl_newStrip_1 [.int .i64 x0, .int .i64 x1, .int .i64 x2, .int .i64 x3, .int .i64 x4, .ptr x5, .ptr x6, .ptr x7, .ptr x8] h K := by
  have := Sat.ex tok mixed impl_newStrip_1_M Try.func116 (c := bodyOf Try.f116) (by kernel_rfl) (calls_of Try.func116 (c := bodyOf Try.f116) (by kernel_rfl) (by decide)) ((impl_newStrip_1_main_link _ _ x0 x1 x2 x3 x4 x5 x6 x7 x8 h).mpr hm)
  obtain ⟨v, h2, h3, r, rfl, h4⟩ := this; exact ⟨r, h2, h3, h4⟩

/-! ### loop.example/g01354/spec.l01Sort -/
def spec_l01Sort_M : Nat → List Nat := fun i => bif i == 2 then [0, 3, 4, 5] else bif i == 0 then [0, 3, 4] else []
def spec_l01Sort_ks2 (S : SatT) (K : AVal → H → Prop) : Kont := kSeq (cwp S tab spec_l01Sort_M [] (sub [1, 1, 1] (bodyOf Try.f141)) (kFun tab (Try.f141).results.toList K)) (kFun tab (Try.f141).results.toList K)
def spec_l01Sort_e0 (s0_ : Sl) (s3_ : Sl) (i4_ : Int) : Frame := [.sl s0_, U, U, .sl s3_, .int .i64 i4_, U, U, U, U, U, U, U, U, U, U, U, U, U, U, U, U, U, U, U, U, U, U, U, U, U, U, U, U, U, U, U, U, U, U, U, U, U, U, U, U, U, U, U, U, U, U, U, U, U, U, U, U, U, U, U, U, U, U]
def spec_l01Sort_w0 (S : SatT) (K : AVal → H → Prop) : (Frame → H → Prop) → Frame → H → Prop := fun X fr h => cwp S tab spec_l01Sort_M (spec_l01Sort_M 0) (sub [1, 1, 0, 1, 0, 0] (bodyOf Try.f141)) (kSeq (fun fr h => X (mask (spec_l01Sort_M 0) fr) h) (kBlk 0 (spec_l01Sort_ks2 S K))) fr h
def spec_l01Sort_L0 (S : SatT) (K : AVal → H → Prop) (s0_ : Sl) (s3_ : Sl) (i4_ : Int) (h : H) : Prop := loopK (spec_l01Sort_w0 S K) (spec_l01Sort_e0 s0_ s3_ i4_) h
def spec_l01Sort_ks6 (S : SatT) (K : AVal → H → Prop) (X0 : Frame → H → Prop) : Kont := kSeq (cwp S tab spec_l01Sort_M (spec_l01Sort_M 0) (sub [1, 1, 0, 1, 0, 0, 1, 1] (bodyOf Try.f141)) (kSeq (fun fr h => X0 (mask (spec_l01Sort_M 0) fr) h) (kBlk 0 (spec_l01Sort_ks2 S K)))) (kSeq (fun fr h => X0 (mask (spec_l01Sort_M 0) fr) h) (kBlk 0 (spec_l01Sort_ks2 S K)))
def spec_l01Sort_ks8 (S : SatT) (K : AVal → H → Prop) (X0 : Frame → H → Prop) : Kont := kSeq (cwp S tab spec_l01Sort_M (spec_l01Sort_M 1) (sub [1, 1, 0, 1, 0, 0, 1, 0, 0, 1, 1] (bodyOf Try.f141)) (kBlk 1 (spec_l01Sort_ks6 S K X0))) (kBlk 1 (spec_l01Sort_ks6 S K X0))
def spec_l01Sort_e2 (s0_ : Sl) (s3_ : Sl) (i4_ : Int) (i5_ : Int) : Frame := [.sl s0_, U, U, .sl s3_, .int .i64 i4_, .int .i64 i5_, U, U, U, U, U, U, U, U, U, U, U, U, U, U, U, U, U, U, U, U, U, U, U, U, U, U, U, U, U, U, U, U, U, U, U, U, U, U, U, U, U, U, U, U, U, U, U, U, U, U, U, U, U, U, U, U, U]
def spec_l01Sort_w2 (S : SatT) (K : AVal → H → Prop) (X0 : Frame → H → Prop) : (Frame → H → Prop) → Frame → H → Prop := fun X fr h => cwp S tab spec_l01Sort_M (spec_l01Sort_M 2) (sub [1, 1, 0, 1, 0, 0, 1, 0, 0, 1, 0, 0, 0] (bodyOf Try.f141)) (kSeq (fun fr h => X (mask (spec_l01Sort_M 2) fr) h) (kBlk 2 (spec_l01Sort_ks8 S K X0))) fr h
def spec_l01Sort_L2 (S : SatT) (K : AVal → H → Prop) (X0 : Frame → H → Prop) (s0_ : Sl) (s3_ : Sl) (i4_ : Int) (i5_ : Int) (h : H) : Prop := loopK (spec_l01Sort_w2 S K X0) (spec_l01Sort_e2 s0_ s3_ i4_ i5_) h
def spec_l01Sort_C1 (S : SatT) (K : AVal → H → Prop) (X0 : Frame → H → Prop) (s0_ : Sl) (s3_ : Sl) (i4_ : Int) (h : H) : Prop :=
 X0 (spec_l01Sort_e0 s0_ s3_ (w64 (i4_ + (1)))) h
def spec_l01Sort_C2 (S : SatT) (K : AVal → H → Prop) (X0 : Frame → H → Prop) (s0_ : Sl) (s3_ : Sl) (i4_ : Int) (i5_ : Int) (h : H) : Prop :=
 bif (decide (i5_ > (0))) then
 ixS s3_ 4 (w64 (i5_ - (1))) fun p0 =>
 ldA p0 4 h fun cs1 =>
 ixS s0_ 4 i4_ fun p2 =>
 ldA p2 4 h fun cs3 =>
 eqA .i64 4 cs1 cs3 fun b4 =>
 bif b4 then
 spec_l01Sort_C1 S K X0 s0_ s3_ i4_ h
 else
 ixS s0_ 4 i4_ fun p5 =>
 ldA p5 4 h fun cs6 =>
 lenA cs6 4 (
 newS 1 4 (spl [.int .i64 (0), .int .i64 (0), .int .i64 (0), .int .i64 (0)] 0 4 cs6) h fun s7 h8 =>
 cut s3_ 4 i5_ (s3_.len : Int) h8 fun s9 =>
 okS h s3_ ∧ (
 app s7 s9 4 h8 fun s10 h11 =>
 newS 0 4 [] h11 fun s12 h13 =>
 cut s3_ 4 (0) i5_ h13 fun s14 =>
 app s12 s14 4 h13 fun s15 h16 =>
 app s15 s10 4 h16 fun s17 h18 =>
 spec_l01Sort_C1 S K X0 s0_ s17 i4_ h18))
 else
 ixS s0_ 4 i4_ fun p19 =>
 ldA p19 4 h fun cs20 =>
 lenA cs20 4 (
 newS 1 4 (spl [.int .i64 (0), .int .i64 (0), .int .i64 (0), .int .i64 (0)] 0 4 cs20) h fun s21 h22 =>
 cut s3_ 4 i5_ (s3_.len : Int) h22 fun s23 =>
 okS h s3_ ∧ (
 app s21 s23 4 h22 fun s24 h25 =>
 newS 0 4 [] h25 fun s26 h27 =>
 cut s3_ 4 (0) i5_ h27 fun s28 =>
 app s26 s28 4 h27 fun s29 h30 =>
 app s29 s24 4 h30 fun s31 h32 =>
 spec_l01Sort_C1 S K X0 s0_ s31 i4_ h32))
def spec_l01Sort_b2 (S : SatT) (K : AVal → H → Prop) (X0 : Frame → H → Prop) (X2 : Frame → H → Prop) (s0_ : Sl) (s3_ : Sl) (i4_ : Int) (i5_ : Int) (h : H) : Prop :=
 bif (decide (i5_ > (0))) then
 ixS s0_ 4 i4_ fun p0 =>
 ldA p0 4 h fun cs1 =>
 ixS s3_ 4 (w64 (i5_ - (1))) fun p2 =>
 ldA p2 4 h fun cs3 =>
 callB S i_spec_l01Before [.agg cs1, .agg cs3] h fun b5 h4 =>
 bif b5 then
 X2 (spec_l01Sort_e2 s0_ s3_ i4_ (w64 (i5_ - (1)))) h4
 else
 spec_l01Sort_C2 S K X0 s0_ s3_ i4_ i5_ h4
 else
 spec_l01Sort_C2 S K X0 s0_ s3_ i4_ i5_ h
theorem spec_l01Sort_link2 (S : SatT) (K : AVal → H → Prop) (X0 : Frame → H → Prop) (X2 : Frame → H → Prop) (s0_ : Sl) (s3_ : Sl) (i4_ : Int) (i5_ : Int) (h : H) : spec_l01Sort_w2 S K X0 X2 (spec_l01Sort_e2 s0_ s3_ i4_ i5_) h = spec_l01Sort_b2 S K X0 X2 s0_ s3_ i4_ i5_ h := by kernel_rfl
theorem spec_l01Sort_rule2 (S : SatT) (K : AVal → H → Prop) (X0 : Frame → H → Prop) (s0_ : Sl) (s3_ : Sl) (i4_ : Int) (I_ : Int → H → Prop) (m_ : Int → H → Nat)
    (hs : ∀ (X2 : Frame → H → Prop) (i5_ : Int) (h : H), I_ i5_ h → (∀ (i5_' : Int) (h' : H), I_ i5_' h' → m_ i5_' h' < m_ i5_ h → X2 (spec_l01Sort_e2 s0_ s3_ i4_ i5_') h') → spec_l01Sort_b2 S K X0 X2 s0_ s3_ i4_ i5_ h) (i5_ : Int) {h : H} (h0 : I_ i5_ h) : spec_l01Sort_L2 S K X0 s0_ s3_ i4_ i5_ h :=
  loop_rule (σ := (Int)) (fun s_ => spec_l01Sort_e2 s0_ s3_ i4_ (s_)) (fun s_ h => I_ (s_) h) (fun s_ h => m_ (s_) h)
    (fun X s_ h hi hx => (spec_l01Sort_link2 S K X0 X s0_ s3_ i4_ (s_) h).mpr (hs X (s_) h hi fun i5_' h' hi' hm' => hx (i5_') h' hi' hm')) (i5_) h0
theorem spec_l01Sort_unroll2 (S : SatT) (K : AVal → H → Prop) (X0 : Frame → H → Prop) (s0_ : Sl) (s3_ : Sl) (i4_ : Int) (i5_ : Int) (h : H) (hb : spec_l01Sort_b2 S K X0 (fun fr h => loopK (spec_l01Sort_w2 S K X0) fr h) s0_ s3_ i4_ i5_ h) : spec_l01Sort_L2 S K X0 s0_ s3_ i4_ i5_ h := loop_unroll ((spec_l01Sort_link2 S K X0 _ s0_ s3_ i4_ i5_ h).mpr hb)
def spec_l01Sort_C0 (S : SatT) (K : AVal → H → Prop) (s3_ : Sl) (h : H) : Prop :=
 K (.sl s3_) h
def spec_l01Sort_b0 (S : SatT) (K : AVal → H → Prop) (X0 : Frame → H → Prop) (s0_ : Sl) (s3_ : Sl) (i4_ : Int) (h : H) : Prop :=
 bif (decide (i4_ < (s0_.len : Int))) then
 spec_l01Sort_L2 S K X0 s0_ s3_ i4_ (s3_.len : Int) h
 else
 spec_l01Sort_C0 S K s3_ h
theorem spec_l01Sort_link0 (S : SatT) (K : AVal → H → Prop) (X0 : Frame → H → Prop) (s0_ : Sl) (s3_ : Sl) (i4_ : Int) (h : H) : spec_l01Sort_w0 S K X0 (spec_l01Sort_e0 s0_ s3_ i4_) h = spec_l01Sort_b0 S K X0 s0_ s3_ i4_ h := by kernel_rfl
theorem spec_l01Sort_rule0 (S : SatT) (K : AVal → H → Prop) (s0_ : Sl) (I_ : Sl → Int → H → Prop) (m_ : Sl → Int → H → Nat)
    (hs : ∀ (X0 : Frame → H → Prop) (s3_ : Sl) (i4_ : Int) (h : H), I_ s3_ i4_ h → (∀ (s3_' : Sl) (i4_' : Int) (h' : H), I_ s3_' i4_' h' → m_ s3_' i4_' h' < m_ s3_ i4_ h → X0 (spec_l01Sort_e0 s0_ s3_' i4_') h') → spec_l01Sort_b0 S K X0 s0_ s3_ i4_ h) (s3_ : Sl) (i4_ : Int) {h : H} (h0 : I_ s3_ i4_ h) : spec_l01Sort_L0 S K s0_ s3_ i4_ h :=
  loop_rule (σ := (Sl) × (Int)) (fun s_ => spec_l01Sort_e0 s0_ (s_.1) (s_.2)) (fun s_ h => I_ (s_.1) (s_.2) h) (fun s_ h => m_ (s_.1) (s_.2) h)
    (fun X s_ h hi hx => (spec_l01Sort_link0 S K X s0_ (s_.1) (s_.2) h).mpr (hs X (s_.1) (s_.2) h hi fun s3_' i4_' h' hi' hm' => hx (s3_', i4_') h' hi' hm')) (s3_, i4_) h0
theorem spec_l01Sort_unroll0 (S : SatT) (K : AVal → H → Prop) (s0_ : Sl) (s3_ : Sl) (i4_ : Int) (h : H) (hb : spec_l01Sort_b0 S K (fun fr h => loopK (spec_l01Sort_w0 S K) fr h) s0_ s3_ i4_ h) : spec_l01Sort_L0 S K s0_ s3_ i4_ h := loop_unroll ((spec_l01Sort_link0 S K _ s0_ s3_ i4_ h).mpr hb)
def spec_l01Sort_main (S : SatT) (K : AVal → H → Prop) (x0 : Sl) (h : H) : Prop :=
 newS 0 4 [] h fun s0 h1 =>
 spec_l01Sort_L0 S K x0 s0 (0) h1
theorem spec_l01Sort_main_link (S : SatT) (K : AVal → H → Prop) (x0 : Sl) (h : H) : cwp S tab spec_l01Sort_M [] (bodyOf Try.f141) (kFun tab Try.f141.results.toList K) (fr0 Try.f141 [.sl x0]) h = spec_l01Sort_main S K x0 h := by kernel_rfl
theorem spec_l01Sort_call (x0 : Sl) (h : H) (K : Sl → H → Prop) (hm : spec_l01Sort_main (Sat Try.prog) (fun v h' => ∃ r, v = .sl r ∧ K r h') x0 h) : callS (Sat Try.prog) i_spec_l01Sort [.sl x0] h K := by
  have := Sat.ex tok mixed spec_l01Sort_M Try.func141 (c := bodyOf Try.f141) (by kernel_rfl) (calls_of Try.func141 (c := bodyOf Try.f141) (by kernel_rfl) (by decide)) ((spec_l01Sort_main_link _ _ x0 h).mpr hm)
  obtain ⟨v, h2, h3, r, rfl, h4⟩ := this; exact ⟨r, h2, h3, h4⟩

/-! ### loop.example/g01354/impl.LastingTiles -/
def impl_LastingTiles_M : Nat → List Nat := fun i => bif i == 0 then [4, 5, 6, 18, 19, 20] else []
def impl_LastingTiles_ks5 (S : SatT) (K : AVal → H → Prop) : Kont := kSeq (cwp S tab impl_LastingTiles_M [] (sub [1, 1, 1, 1] (bodyOf Try.f20)) (kFun tab (Try.f20).results.toList K)) (kFun tab (Try.f20).results.toList K)
def impl_LastingTiles_e0 (s4_ : Sl) (s5_ : Sl) (s6_ : Sl) (s18_ : Sl) (i19_ : Int) (i20_ : Int) : Frame := [U, U, U, U, .sl s4_, .sl s5_, .sl s6_, U, U, U, U, U, U, U, U, U, U, U, .sl s18_, .int .i64 i19_, .int .i64 i20_, U, U, U, U, U, U, U, U, U, U, U, U, U, U, U, U, U, U, U, U, U, U]
def impl_LastingTiles_w0 (S : SatT) (K : AVal → H → Prop) : (Frame → H → Prop) → Frame → H → Prop := fun X fr h => cwp S tab impl_LastingTiles_M (impl_LastingTiles_M 0) (sub [1, 1, 1, 0, 1, 0, 0] (bodyOf Try.f20)) (kSeq (fun fr h => X (mask (impl_LastingTiles_M 0) fr) h) (kBlk 0 (impl_LastingTiles_ks5 S K))) fr h
def impl_LastingTiles_L0 (S : SatT) (K : AVal → H → Prop) (s4_ : Sl) (s5_ : Sl) (s6_ : Sl) (s18_ : Sl) (i19_ : Int) (i20_ : Int) (h : H) : Prop := loopK (impl_LastingTiles_w0 S K) (impl_LastingTiles_e0 s4_ s5_ s6_ s18_ i19_ i20_) h
def impl_LastingTiles_C0 (S : SatT) (K : AVal → H → Prop) (s4_ : Sl) (h : H) : Prop :=
 K (.tuple [.sl s4_, .int .i64 (0)]) h
def impl_LastingTiles_b0 (S : SatT) (K : AVal → H → Prop) (X0 : Frame → H → Prop) (s4_ : Sl) (s5_ : Sl) (s6_ : Sl) (s18_ : Sl) (i19_ : Int) (i20_ : Int) (h : H) : Prop :=
 bif (decide (i20_ < i19_)) then
 ixS s18_ 4 i20_ fun p0 =>
 ldA p0 4 h fun cs1 =>
 newO [.int .i64 (0), .int .i64 (0), .int .i64 (0), .int .i64 (0)] h fun p2 h3 =>
 stN p2 4 cs1 h3 fun h4 =>
 ixA p2 4 1 (0) fun p5 =>
 ldI .i64 p5 h4 fun n6 =>
 ixS s5_ 1 n6 fun p7 =>
 ldB p7 h4 fun b8 =>
 bif b8 then
 ixA p2 4 1 (2) fun p9 =>
 ldI .i64 p9 h4 fun n10 =>
 ixS s6_ 1 n10 fun p11 =>
 ldB p11 h4 fun b12 =>
 bif b12 then
 newS 1 1 [.int .i64 i20_] h4 fun s13 h14 =>
 app s4_ s13 1 h14 fun s15 h16 =>
 X0 (impl_LastingTiles_e0 s15 s5_ s6_ s18_ i19_ (w64 (i20_ + (1)))) h16
 else
 X0 (impl_LastingTiles_e0 s4_ s5_ s6_ s18_ i19_ (w64 (i20_ + (1)))) h4
 else
 X0 (impl_LastingTiles_e0 s4_ s5_ s6_ s18_ i19_ (w64 (i20_ + (1)))) h4
 else
 impl_LastingTiles_C0 S K s4_ h
theorem impl_LastingTiles_link0 (S : SatT) (K : AVal → H → Prop) (X0 : Frame → H → Prop) (s4_ : Sl) (s5_ : Sl) (s6_ : Sl) (s18_ : Sl) (i19_ : Int) (i20_ : Int) (h : H) : impl_LastingTiles_w0 S K X0 (impl_LastingTiles_e0 s4_ s5_ s6_ s18_ i19_ i20_) h = impl_LastingTiles_b0 S K X0 s4_ s5_ s6_ s18_ i19_ i20_ h := by kernel_rfl
theorem impl_LastingTiles_rule0 (S : SatT) (K : AVal → H → Prop) (s5_ : Sl) (s6_ : Sl) (s18_ : Sl) (i19_ : Int) (I_ : Sl → Int → H → Prop) (m_ : Sl → Int → H → Nat)
    (hs : ∀ (X0 : Frame → H → Prop) (s4_ : Sl) (i20_ : Int) (h : H), I_ s4_ i20_ h → (∀ (s4_' : Sl) (i20_' : Int) (h' : H), I_ s4_' i20_' h' → m_ s4_' i20_' h' < m_ s4_ i20_ h → X0 (impl_LastingTiles_e0 s4_' s5_ s6_ s18_ i19_ i20_') h') → impl_LastingTiles_b0 S K X0 s4_ s5_ s6_ s18_ i19_ i20_ h) (s4_ : Sl) (i20_ : Int) {h : H} (h0 : I_ s4_ i20_ h) : impl_LastingTiles_L0 S K s4_ s5_ s6_ s18_ i19_ i20_ h :=
  loop_rule (σ := (Sl) × (Int)) (fun s_ => impl_LastingTiles_e0 (s_.1) s5_ s6_ s18_ i19_ (s_.2)) (fun s_ h => I_ (s_.1) (s_.2) h) (fun s_ h => m_ (s_.1) (s_.2) h)
    (fun X s_ h hi hx => (impl_LastingTiles_link0 S K X (s_.1) s5_ s6_ s18_ i19_ (s_.2) h).mpr (hs X (s_.1) (s_.2) h hi fun s4_' i20_' h' hi' hm' => hx (s4_', i20_') h' hi' hm')) (s4_, i20_) h0
theorem impl_LastingTiles_unroll0 (S : SatT) (K : AVal → H → Prop) (s4_ : Sl) (s5_ : Sl) (s6_ : Sl) (s18_ : Sl) (i19_ : Int) (i20_ : Int) (h : H) (hb : impl_LastingTiles_b0 S K (fun fr h => loopK (impl_LastingTiles_w0 S K) fr h) s4_ s5_ s6_ s18_ i19_ i20_ h) : impl_LastingTiles_L0 S K s4_ s5_ s6_ s18_ i19_ i20_ h := loop_unroll ((impl_LastingTiles_link0 S K _ s4_ s5_ s6_ s18_ i19_ i20_ h).mpr hb)
def impl_LastingTiles_main (S : SatT) (K : AVal → H → Prop) (x0 : List AVal) (h : H) : Prop :=
 newK 2 x0 h fun p0 h1 =>
 ldA p0 2 h1 fun cs2 =>
 callB S i_impl_IsSet [.agg cs2] h1 fun b4 h3 =>
 bif (!b4) then
 K (.tuple [.sl Sl.nil, .int .i64 (1)]) h3
 else
 slotK 8 h3 fun h5 =>
 ldA p0 2 h5 fun cs6 =>
 callS S i_impl_Set_endless [.agg cs6, .int .i64 (2), .int .i64 (0)] h5 fun s8 h7 =>
 ldA p0 2 h7 fun cs9 =>
(range h5 p0.o p0.n p0.off 2 = range h7 p0.o p0.n p0.off 2) ∧ (
 callS S i_impl_Set_endless [.agg cs9, .int .i64 (0), .int .i64 (2)] h7 fun s11 h10 =>
 newSat 0 1 [] h10 (h3.length + 0) fun s12 h13 =>
(range h10 p0.o p0.n p0.off 2 = range h7 p0.o p0.n p0.off 2) ∧ (
(range h10 p0.o p0.n p0.off 2 = range h5 p0.o p0.n p0.off 2) ∧ (
(range h13 p0.o p0.n p0.off 2 = range h7 p0.o p0.n p0.off 2) ∧ (
(range h13 p0.o p0.n p0.off 2 = range h5 p0.o p0.n p0.off 2) ∧ (
 isPt p0 (
 ldS (Pt.add p0 1) h13 fun s14 =>
 impl_LastingTiles_L0 S K s12 s8 s11 s14 (s14.len : Int) (0) h13))))))
theorem impl_LastingTiles_main_link (S : SatT) (K : AVal → H → Prop) (x0 : List AVal) (h : H) : cwp S tab impl_LastingTiles_M [] (bodyOf Try.f20) (kFun tab Try.f20.results.toList K) (fr0 Try.f20 [.agg x0]) h = impl_LastingTiles_main S K x0 h := by kernel_rfl
theorem impl_LastingTiles_call (x0 : List AVal) (h : H) (K : AVal → H → Prop) (hm : impl_LastingTiles_main (Sat Try.prog) (fun v h' => K v h') x0 h) : callV (Sat Try.prog) i_impl_LastingTiles [.agg x0] h K := by
  have := Sat.ex tok mixed impl_LastingTiles_M Try.func20 (c := bodyOf Try.f20) (by kernel_rfl) (calls_of Try.func20 (c := bodyOf Try.f20) (by kernel_rfl) (by decide)) ((impl_LastingTiles_main_link _ _ x0 h).mpr hm)
  exact this

/-! ### loop.example/g01354/impl.newStrip -/
def impl_newStrip_M : Nat → List Nat := fun i => bif i == 0 then [2, 3, 6, 12, 13] else []
def impl_newStrip_ks2 (S : SatT) (K : AVal → H → Prop) : Kont := kSeq (cwp S tab impl_newStrip_M [] (sub [1, 1, 1] (bodyOf Try.f92)) (kFun tab (Try.f92).results.toList K)) (kFun tab (Try.f92).results.toList K)
def impl_newStrip_e0 (p2_ : Pt) (p3_ : Pt) (p6_ : Pt) (i12_ : Int) (i13_ : Int) : Frame := [U, U, .ptr p2_, .ptr p3_, U, U, .ptr p6_, U, U, U, U, U, .int .i64 i12_, .int .i64 i13_, U, U, U, U, U, U, U, U, U, U, U, U, U, U, U, U, U, U, U, U, U]
def impl_newStrip_w0 (S : SatT) (K : AVal → H → Prop) : (Frame → H → Prop) → Frame → H → Prop := fun X fr h => cwp S tab impl_newStrip_M (impl_newStrip_M 0) (sub [1, 1, 0, 1, 0, 0] (bodyOf Try.f92)) (kSeq (fun fr h => X (mask (impl_newStrip_M 0) fr) h) (kBlk 0 (impl_newStrip_ks2 S K))) fr h
def impl_newStrip_L0 (S : SatT) (K : AVal → H → Prop) (p2_ : Pt) (p3_ : Pt) (p6_ : Pt) (i12_ : Int) (i13_ : Int) (h : H) : Prop := loopK (impl_newStrip_w0 S K) (impl_newStrip_e0 p2_ p3_ p6_ i12_ i13_) h
def impl_newStrip_C0 (S : SatT) (K : AVal → H → Prop) (p2_ : Pt) (p3_ : Pt) (p6_ : Pt) (h : H) : Prop :=
 ldP p6_ h fun p0 =>
 nilC (.ptr p0) (
 isPt p0 (
 ldI .i64 (Pt.add p0 3) h fun n1 =>
 bif (decide (n1 > (700))) then
 K (.tuple [.ptr Pt.nil, .bool false]) h
 else
 newO [.nilFunc] h fun p2 h3 =>
 st1 p2 (.func 116 [.ptr p6_, .ptr p2_, .ptr p3_, .ptr p2]) h3 fun h4 =>
 ldP p6_ h4 fun p5 =>
 ldV p2 h4 fun v6 =>
 ldI .i64 p3_ h4 fun n7 =>
 viaF v6 [.int .i64 (0), .int .i64 (0), .int .i64 (0), .int .i64 (0), .int .i64 n7] fun g8 ys9 =>
 callB S g8 ys9 h4 fun b11 h10 =>
(cell h10 p6_ = cell h4 p6_) ∧ (
 K (.tuple [.ptr p5, .bool b11]) h10)))
def impl_newStrip_b0 (S : SatT) (K : AVal → H → Prop) (X0 : Frame → H → Prop) (p2_ : Pt) (p3_ : Pt) (p6_ : Pt) (i12_ : Int) (i13_ : Int) (h : H) : Prop :=
 bif (decide (i13_ < i12_)) then
 ldP p6_ h fun p0 =>
 nilC (.ptr p0) (
 isPt p0 (
 ldI .i64 (Pt.add p0 3) h fun n1 =>
 isPt p2_ (
 ldI .i64 (Pt.add p2_ 0) h fun n2 =>
 nilC (.ptr p0) (
 isPt p0 (
 st1 (Pt.add p0 3) (.int .i64 (w64 (n1 * n2))) h fun h3 =>
 X0 (impl_newStrip_e0 p2_ p3_ p6_ i12_ (w64 (i13_ + (1)))) h3)))))
 else
 impl_newStrip_C0 S K p2_ p3_ p6_ h
theorem impl_newStrip_link0 (S : SatT) (K : AVal → H → Prop) (X0 : Frame → H → Prop) (p2_ : Pt) (p3_ : Pt) (p6_ : Pt) (i12_ : Int) (i13_ : Int) (h : H) : impl_newStrip_w0 S K X0 (impl_newStrip_e0 p2_ p3_ p6_ i12_ i13_) h = impl_newStrip_b0 S K X0 p2_ p3_ p6_ i12_ i13_ h := by kernel_rfl
theorem impl_newStrip_rule0 (S : SatT) (K : AVal → H → Prop) (p2_ : Pt) (p3_ : Pt) (p6_ : Pt) (i12_ : Int) (I_ : Int → H → Prop) (m_ : Int → H → Nat)
    (hs : ∀ (X0 : Frame → H → Prop) (i13_ : Int) (h : H), I_ i13_ h → (∀ (i13_' : Int) (h' : H), I_ i13_' h' → m_ i13_' h' < m_ i13_ h → X0 (impl_newStrip_e0 p2_ p3_ p6_ i12_ i13_') h') → impl_newStrip_b0 S K X0 p2_ p3_ p6_ i12_ i13_ h) (i13_ : Int) {h : H} (h0 : I_ i13_ h) : impl_newStrip_L0 S K p2_ p3_ p6_ i12_ i13_ h :=
  loop_rule (σ := (Int)) (fun s_ => impl_newStrip_e0 p2_ p3_ p6_ i12_ (s_)) (fun s_ h => I_ (s_) h) (fun s_ h => m_ (s_) h)
    (fun X s_ h hi hx => (impl_newStrip_link0 S K X p2_ p3_ p6_ i12_ (s_) h).mpr (hs X (s_) h hi fun i13_' h' hi' hm' => hx (i13_') h' hi' hm')) (i13_) h0
theorem impl_newStrip_unroll0 (S : SatT) (K : AVal → H → Prop) (p2_ : Pt) (p3_ : Pt) (p6_ : Pt) (i12_ : Int) (i13_ : Int) (h : H) (hb : impl_newStrip_b0 S K (fun fr h => loopK (impl_newStrip_w0 S K) fr h) p2_ p3_ p6_ i12_ i13_ h) : impl_newStrip_L0 S K p2_ p3_ p6_ i12_ i13_ h := loop_unroll ((impl_newStrip_link0 S K _ p2_ p3_ p6_ i12_ i13_ h).mpr hb)
def impl_newStrip_main (S : SatT) (K : AVal → H → Prop) (x0 : List AVal) (x1 : Int) (h : H) : Prop :=
 newK 2 x0 h fun p0 h1 =>
 newO [.int .i64 x1] h1 fun p2 h3 =>
 ldA p0 2 h3 fun cs4 =>
 ldI .i64 p2 h3 fun n5 =>
 lenA cs4 2 (
 newK 5 (spl (spl (spl [.int .i64 (0), .sl Sl.nil, .int .i64 (0), .int .i64 (0), .sl Sl.nil] 0 2 cs4) 2 1 [.int .i64 n5]) 3 1 [.int .i64 (1)]) h3 fun p6 h7 =>
 newO [.ptr Pt.nil] h7 fun p8 h9 =>
 st1 p8 (.ptr p6) h9 fun h10 =>
 ldI .i64 p2 h10 fun n11 =>
 impl_newStrip_L0 S K p0 p2 p8 n11 (0) h10)
theorem impl_newStrip_main_link (S : SatT) (K : AVal → H → Prop) (x0 : List AVal) (x1 : Int) (h : H) : cwp S tab impl_newStrip_M [] (bodyOf Try.f92) (kFun tab Try.f92.results.toList K) (fr0 Try.f92 [.agg x0, .int .i64 x1]) h = impl_newStrip_main S K x0 x1 h := by kernel_rfl
theorem impl_newStrip_call (x0 : List AVal) (x1 : Int) (h : H) (K : AVal → H → Prop) (hm : impl_newStrip_main (Sat Try.prog) (fun v h' => K v h') x0 x1 h) : callV (Sat Try.prog) i_impl_newStrip [.agg x0, .int .i64 x1] h K := by
  have := Sat.ex tok mixed impl_newStrip_M Try.func92 (c := bodyOf Try.f92) (by kernel_rfl) (calls_of Try.func92 (c := bodyOf Try.f92) (by kernel_rfl) (by decide)) ((impl_newStrip_main_link _ _ x0 x1 h).mpr hm)
  exact this

/-! ### slices.Repeat[[]int64,int64] -/
def slices_Repeat_s_int64_int64__M : Nat → List Nat := fun i => bif i == 0 then [7, 8] else []
def slices_Repeat_s_int64_int64__ks8 (S : SatT) (K : AVal → H → Prop) : Kont := kSeq (cwp S tab slices_Repeat_s_int64_int64__M [] (sub [1, 1, 1, 1, 1, 1, 1] (bodyOf Try.f99)) (kFun tab (Try.f99).results.toList K)) (kFun tab (Try.f99).results.toList K)
def slices_Repeat_s_int64_int64__e0 (s7_ : Sl) (i8_ : Int) : Frame := [U, U, U, U, U, U, U, .sl s7_, .int .i64 i8_, U, U, U, U, U, U, U, U, U, U, U, U, U, U, U, U, U, U, U, U, U, U, U, U, U, U, U, U, U, U, U, U, U, U, U, U, U, U, U]
def slices_Repeat_s_int64_int64__w0 (S : SatT) (K : AVal → H → Prop) : (Frame → H → Prop) → Frame → H → Prop := fun X fr h => cwp S tab slices_Repeat_s_int64_int64__M (slices_Repeat_s_int64_int64__M 0) (sub [1, 1, 1, 1, 1, 1, 0, 0, 0] (bodyOf Try.f99)) (kSeq (fun fr h => X (mask (slices_Repeat_s_int64_int64__M 0) fr) h) (kBlk 0 (slices_Repeat_s_int64_int64__ks8 S K))) fr h
def slices_Repeat_s_int64_int64__L0 (S : SatT) (K : AVal → H → Prop) (s7_ : Sl) (i8_ : Int) (h : H) : Prop := loopK (slices_Repeat_s_int64_int64__w0 S K) (slices_Repeat_s_int64_int64__e0 s7_ i8_) h
def slices_Repeat_s_int64_int64__C0 (S : SatT) (K : AVal → H → Prop) (s7_ : Sl) (h : H) : Prop :=
 K (.sl s7_) h
def slices_Repeat_s_int64_int64__b0 (S : SatT) (K : AVal → H → Prop) (X0 : Frame → H → Prop) (s7_ : Sl) (i8_ : Int) (h : H) : Prop :=
 bif (decide (i8_ < (s7_.len : Int))) then
 cut s7_ 1 i8_ (s7_.len : Int) h fun s0 =>
 cut s7_ 1 (0) i8_ h fun s1 =>
 copyS s0 s1 1 h fun n2 h3 =>
 X0 (slices_Repeat_s_int64_int64__e0 s7_ (w64 (i8_ + n2))) h3
 else
 slices_Repeat_s_int64_int64__C0 S K s7_ h
theorem slices_Repeat_s_int64_int64__link0 (S : SatT) (K : AVal → H → Prop) (X0 : Frame → H → Prop) (s7_ : Sl) (i8_ : Int) (h : H) : slices_Repeat_s_int64_int64__w0 S K X0 (slices_Repeat_s_int64_int64__e0 s7_ i8_) h = slices_Repeat_s_int64_int64__b0 S K X0 s7_ i8_ h := by kernel_rfl
theorem slices_Repeat_s_int64_int64__rule0 (S : SatT) (K : AVal → H → Prop) (s7_ : Sl) (I_ : Int → H → Prop) (m_ : Int → H → Nat)
    (hs : ∀ (X0 : Frame → H → Prop) (i8_ : Int) (h : H), I_ i8_ h → (∀ (i8_' : Int) (h' : H), I_ i8_' h' → m_ i8_' h' < m_ i8_ h → X0 (slices_Repeat_s_int64_int64__e0 s7_ i8_') h') → slices_Repeat_s_int64_int64__b0 S K X0 s7_ i8_ h) (i8_ : Int) {h : H} (h0 : I_ i8_ h) : slices_Repeat_s_int64_int64__L0 S K s7_ i8_ h :=
  loop_rule (σ := (Int)) (fun s_ => slices_Repeat_s_int64_int64__e0 s7_ (s_)) (fun s_ h => I_ (s_) h) (fun s_ h => m_ (s_) h)
    (fun X s_ h hi hx => (slices_Repeat_s_int64_int64__link0 S K X s7_ (s_) h).mpr (hs X (s_) h hi fun i8_' h' hi' hm' => hx (i8_') h' hi' hm')) (i8_) h0
theorem slices_Repeat_s_int64_int64__unroll0 (S : SatT) (K : AVal → H → Prop) (s7_ : Sl) (i8_ : Int) (h : H) (hb : slices_Repeat_s_int64_int64__b0 S K (fun fr h => loopK (slices_Repeat_s_int64_int64__w0 S K) fr h) s7_ i8_ h) : slices_Repeat_s_int64_int64__L0 S K s7_ i8_ h := loop_unroll ((slices_Repeat_s_int64_int64__link0 S K _ s7_ i8_ h).mpr hb)
def slices_Repeat_s_int64_int64__main (S : SatT) (K : AVal → H → Prop) (x0 : Sl) (x1 : Int) (h : H) : Prop :=
 bif (decide (x1 < (0))) then
 False
 else
 callV S i_math_bits_Mul [.int .u64 (IntKind.wrap .u64 ((x0.len : Int))), .int .u64 (IntKind.wrap .u64 (x1))] h fun v1 h0 =>
 viaT v1 fun vs2 =>
 exI .u64 vs2 0 fun n3 =>
 viaT v1 fun vs4 =>
 exI .u64 vs4 1 fun n5 =>
 bif (decide (n3 > (0))) then
 False
 else
 bif (decide (n5 > (9223372036854775807))) then
 False
 else
 mkS (w64 (n5)) [.int .i64 (0)] h0 fun s6 h7 =>
 copyS s6 x0 1 h7 fun n8 h9 =>
 slices_Repeat_s_int64_int64__L0 S K s6 n8 h9
theorem slices_Repeat_s_int64_int64__main_link (S : SatT) (K : AVal → H → Prop) (x0 : Sl) (x1 : Int) (h : H) : cwp S tab slices_Repeat_s_int64_int64__M [] (bodyOf Try.f99) (kFun tab Try.f99.results.toList K) (fr0 Try.f99 [.sl x0, .int .i64 x1]) h = slices_Repeat_s_int64_int64__main S K x0 x1 h := by kernel_rfl
theorem slices_Repeat_s_int64_int64__call (x0 : Sl) (x1 : Int) (h : H) (K : Sl → H → Prop) (hm : slices_Repeat_s_int64_int64__main (Sat Try.prog) (fun v h' => ∃ r, v = .sl r ∧ K r h') x0 x1 h) : callS (Sat Try.prog) i_slices_Repeat_s_int64_int64_ [.sl x0, .int .i64 x1] h K := by
  have := Sat.ex tok mixed slices_Repeat_s_int64_int64__M Try.func99 (c := bodyOf Try.f99) (by kernel_rfl) (calls_of Try.func99 (c := bodyOf Try.f99) (by kernel_rfl) (by decide)) ((slices_Repeat_s_int64_int64__main_link _ _ x0 x1 h).mpr hm)
  obtain ⟨v, h2, h3, r, rfl, h4⟩ := this; exact ⟨r, h2, h3, h4⟩

/-! ### loop.example/g01354/spec.l01DrawOf -/
def spec_l01DrawOf_M : Nat → List Nat := fun i => bif i == 0 then [0, 1, 6, 7, 8] else []
def spec_l01DrawOf_ks2 (S : SatT) (K : AVal → H → Prop) : Kont := kSeq (cwp S tab spec_l01DrawOf_M [] (sub [1, 1, 1] (bodyOf Try.f136)) (kFun tab (Try.f136).results.toList K)) (kFun tab (Try.f136).results.toList K)
def spec_l01DrawOf_e0 (p0_ : Pt) (i1_ : Int) (p6_ : Pt) (s7_ : Sl) (i8_ : Int) : Frame := [.ptr p0_, .int .i64 i1_, U, U, U, U, .ptr p6_, .sl s7_, .int .i64 i8_, U, U, U, U, U, U, U, U, U, U, U, U, U, U, U]
def spec_l01DrawOf_w0 (S : SatT) (K : AVal → H → Prop) : (Frame → H → Prop) → Frame → H → Prop := fun X fr h => cwp S tab spec_l01DrawOf_M (spec_l01DrawOf_M 0) (sub [1, 1, 0, 1, 0, 0] (bodyOf Try.f136)) (kSeq (fun fr h => X (mask (spec_l01DrawOf_M 0) fr) h) (kBlk 0 (spec_l01DrawOf_ks2 S K))) fr h
def spec_l01DrawOf_L0 (S : SatT) (K : AVal → H → Prop) (p0_ : Pt) (i1_ : Int) (p6_ : Pt) (s7_ : Sl) (i8_ : Int) (h : H) : Prop := loopK (spec_l01DrawOf_w0 S K) (spec_l01DrawOf_e0 p0_ i1_ p6_ s7_ i8_) h
def spec_l01DrawOf_C0 (S : SatT) (K : AVal → H → Prop) (i1_ : Int) (p6_ : Pt) (s7_ : Sl) (h : H) : Prop :=
 callA S i_spec_l01Made [.int .i64 i1_, .sl s7_] h fun cs1 h0 =>
 stN p6_ 2 cs1 h0 fun h2 =>
 ldA p6_ 2 h2 fun cs3 =>
 K (.agg cs3) h2
def spec_l01DrawOf_b0 (S : SatT) (K : AVal → H → Prop) (X0 : Frame → H → Prop) (p0_ : Pt) (i1_ : Int) (p6_ : Pt) (s7_ : Sl) (i8_ : Int) (h : H) : Prop :=
 bif (decide (i8_ > (0))) then
 callA S i_spec_l01DrawTile [.ptr p0_, .int .i64 i1_] h fun cs1 h0 =>
 lenA cs1 4 (
 newS 1 4 (spl [.int .i64 (0), .int .i64 (0), .int .i64 (0), .int .i64 (0)] 0 4 cs1) h0 fun s2 h3 =>
 app s7_ s2 4 h3 fun s4 h5 =>
 X0 (spec_l01DrawOf_e0 p0_ i1_ p6_ s4 (w64 (i8_ - (1)))) h5)
 else
 spec_l01DrawOf_C0 S K i1_ p6_ s7_ h
theorem spec_l01DrawOf_link0 (S : SatT) (K : AVal → H → Prop) (X0 : Frame → H → Prop) (p0_ : Pt) (i1_ : Int) (p6_ : Pt) (s7_ : Sl) (i8_ : Int) (h : H) : spec_l01DrawOf_w0 S K X0 (spec_l01DrawOf_e0 p0_ i1_ p6_ s7_ i8_) h = spec_l01DrawOf_b0 S K X0 p0_ i1_ p6_ s7_ i8_ h := by kernel_rfl
theorem spec_l01DrawOf_rule0 (S : SatT) (K : AVal → H → Prop) (p0_ : Pt) (i1_ : Int) (p6_ : Pt) (I_ : Sl → Int → H → Prop) (m_ : Sl → Int → H → Nat)
    (hs : ∀ (X0 : Frame → H → Prop) (s7_ : Sl) (i8_ : Int) (h : H), I_ s7_ i8_ h → (∀ (s7_' : Sl) (i8_' : Int) (h' : H), I_ s7_' i8_' h' → m_ s7_' i8_' h' < m_ s7_ i8_ h → X0 (spec_l01DrawOf_e0 p0_ i1_ p6_ s7_' i8_') h') → spec_l01DrawOf_b0 S K X0 p0_ i1_ p6_ s7_ i8_ h) (s7_ : Sl) (i8_ : Int) {h : H} (h0 : I_ s7_ i8_ h) : spec_l01DrawOf_L0 S K p0_ i1_ p6_ s7_ i8_ h :=
  loop_rule (σ := (Sl) × (Int)) (fun s_ => spec_l01DrawOf_e0 p0_ i1_ p6_ (s_.1) (s_.2)) (fun s_ h => I_ (s_.1) (s_.2) h) (fun s_ h => m_ (s_.1) (s_.2) h)
    (fun X s_ h hi hx => (spec_l01DrawOf_link0 S K X p0_ i1_ p6_ (s_.1) (s_.2) h).mpr (hs X (s_.1) (s_.2) h hi fun s7_' i8_' h' hi' hm' => hx (s7_', i8_') h' hi' hm')) (s7_, i8_) h0
theorem spec_l01DrawOf_unroll0 (S : SatT) (K : AVal → H → Prop) (p0_ : Pt) (i1_ : Int) (p6_ : Pt) (s7_ : Sl) (i8_ : Int) (h : H) (hb : spec_l01DrawOf_b0 S K (fun fr h => loopK (spec_l01DrawOf_w0 S K) fr h) p0_ i1_ p6_ s7_ i8_ h) : spec_l01DrawOf_L0 S K p0_ i1_ p6_ s7_ i8_ h := loop_unroll ((spec_l01DrawOf_link0 S K _ p0_ i1_ p6_ s7_ i8_ h).mpr hb)
def spec_l01DrawOf_main (S : SatT) (K : AVal → H → Prop) (x0 : Pt) (x1 : Int) (x2 : Int) (h : H) : Prop :=
 newO [.int .i64 (0), .sl Sl.nil] h fun p0 h1 =>
 newS 0 4 [] h1 fun s2 h3 =>
 spec_l01DrawOf_L0 S K x0 x1 p0 s2 x2 h3
theorem spec_l01DrawOf_main_link (S : SatT) (K : AVal → H → Prop) (x0 : Pt) (x1 : Int) (x2 : Int) (h : H) : cwp S tab spec_l01DrawOf_M [] (bodyOf Try.f136) (kFun tab Try.f136.results.toList K) (fr0 Try.f136 [.ptr x0, .int .i64 x1, .int .i64 x2]) h = spec_l01DrawOf_main S K x0 x1 x2 h := by kernel_rfl
theorem spec_l01DrawOf_call (x0 : Pt) (x1 : Int) (x2 : Int) (h : H) (K : List AVal → H → Prop) (hm : spec_l01DrawOf_main (Sat Try.prog) (fun v h' => ∃ r, v = .agg r ∧ K r h') x0 x1 x2 h) : callA (Sat Try.prog) i_spec_l01DrawOf [.ptr x0, .int .i64 x1, .int .i64 x2] h K := by
  have := Sat.ex tok mixed spec_l01DrawOf_M Try.func136 (c := bodyOf Try.f136) (by kernel_rfl) (calls_of Try.func136 (c := bodyOf Try.f136) (by kernel_rfl) (by decide)) ((spec_l01DrawOf_main_link _ _ x0 x1 x2 h).mpr hm)
  obtain ⟨v, h2, h3, r, rfl, h4⟩ := this; exact ⟨r, h2, h3, h4⟩

/-! ### loop.example/g01354/spec.l04Find -/
def spec_l04Find_M : Nat → List Nat := fun i => bif i == 0 then [0, 1, 5, 6] else []
def spec_l04Find_ks2 (S : SatT) (K : AVal → H → Prop) : Kont := kSeq (cwp S tab spec_l04Find_M [] (sub [1, 1, 1] (bodyOf Try.f101)) (kFun tab (Try.f101).results.toList K)) (kFun tab (Try.f101).results.toList K)
def spec_l04Find_e0 (s0_ : Sl) (i1_ : Int) (i5_ : Int) (i6_ : Int) : Frame := [.sl s0_, .int .i64 i1_, U, U, U, .int .i64 i5_, .int .i64 i6_, U, U, U, U, U, U, U, U, U, U, U, U, U, U, U, U, U, U, U, U, U, U, U, U, U, U, U, U, U, U, U, U]
def spec_l04Find_w0 (S : SatT) (K : AVal → H → Prop) : (Frame → H → Prop) → Frame → H → Prop := fun X fr h => cwp S tab spec_l04Find_M (spec_l04Find_M 0) (sub [1, 1, 0, 0, 0] (bodyOf Try.f101)) (kSeq (fun fr h => X (mask (spec_l04Find_M 0) fr) h) (kBlk 0 (spec_l04Find_ks2 S K))) fr h
def spec_l04Find_L0 (S : SatT) (K : AVal → H → Prop) (s0_ : Sl) (i1_ : Int) (i5_ : Int) (i6_ : Int) (h : H) : Prop := loopK (spec_l04Find_w0 S K) (spec_l04Find_e0 s0_ i1_ i5_ i6_) h
def spec_l04Find_C0 (S : SatT) (K : AVal → H → Prop) (s0_ : Sl) (i1_ : Int) (i5_ : Int) (h : H) : Prop :=
 bif (decide (i5_ < (s0_.len : Int))) then
 ixS s0_ 1 i5_ fun p0 =>
 ldI .i64 p0 h fun n1 =>
 bif (n1 == i1_) then
 K (.int .i64 i5_) h
 else
 K (.int .i64 (-1)) h
 else
 K (.int .i64 (-1)) h
def spec_l04Find_b0 (S : SatT) (K : AVal → H → Prop) (X0 : Frame → H → Prop) (s0_ : Sl) (i1_ : Int) (i5_ : Int) (i6_ : Int) (h : H) : Prop :=
 bif (decide (i5_ < i6_)) then
 nz (2) (
 ixS s0_ 1 (w64 (Int.tdiv (w64 (i5_ + i6_)) (2))) fun p0 =>
 ldI .i64 p0 h fun n1 =>
 bif (decide (n1 < i1_)) then
 X0 (spec_l04Find_e0 s0_ i1_ (w64 ((w64 (Int.tdiv (w64 (i5_ + i6_)) (2))) + (1))) i6_) h
 else
 X0 (spec_l04Find_e0 s0_ i1_ i5_ (w64 (Int.tdiv (w64 (i5_ + i6_)) (2)))) h)
 else
 spec_l04Find_C0 S K s0_ i1_ i5_ h
theorem spec_l04Find_link0 (S : SatT) (K : AVal → H → Prop) (X0 : Frame → H → Prop) (s0_ : Sl) (i1_ : Int) (i5_ : Int) (i6_ : Int) (h : H) : spec_l04Find_w0 S K X0 (spec_l04Find_e0 s0_ i1_ i5_ i6_) h = spec_l04Find_b0 S K X0 s0_ i1_ i5_ i6_ h := by kernel_rfl
theorem spec_l04Find_rule0 (S : SatT) (K : AVal → H → Prop) (s0_ : Sl) (i1_ : Int) (I_ : Int → Int → H → Prop) (m_ : Int → Int → H → Nat)
    (hs : ∀ (X0 : Frame → H → Prop) (i5_ : Int) (i6_ : Int) (h : H), I_ i5_ i6_ h → (∀ (i5_' : Int) (i6_' : Int) (h' : H), I_ i5_' i6_' h' → m_ i5_' i6_' h' < m_ i5_ i6_ h → X0 (spec_l04Find_e0 s0_ i1_ i5_' i6_') h') → spec_l04Find_b0 S K X0 s0_ i1_ i5_ i6_ h) (i5_ : Int) (i6_ : Int) {h : H} (h0 : I_ i5_ i6_ h) : spec_l04Find_L0 S K s0_ i1_ i5_ i6_ h :=
  loop_rule (σ := (Int) × (Int)) (fun s_ => spec_l04Find_e0 s0_ i1_ (s_.1) (s_.2)) (fun s_ h => I_ (s_.1) (s_.2) h) (fun s_ h => m_ (s_.1) (s_.2) h)
    (fun X s_ h hi hx => (spec_l04Find_link0 S K X s0_ i1_ (s_.1) (s_.2) h).mpr (hs X (s_.1) (s_.2) h hi fun i5_' i6_' h' hi' hm' => hx (i5_', i6_') h' hi' hm')) (i5_, i6_) h0
theorem spec_l04Find_unroll0 (S : SatT) (K : AVal → H → Prop) (s0_ : Sl) (i1_ : Int) (i5_ : Int) (i6_ : Int) (h : H) (hb : spec_l04Find_b0 S K (fun fr h => loopK (spec_l04Find_w0 S K) fr h) s0_ i1_ i5_ i6_ h) : spec_l04Find_L0 S K s0_ i1_ i5_ i6_ h := loop_unroll ((spec_l04Find_link0 S K _ s0_ i1_ i5_ i6_ h).mpr hb)
def spec_l04Find_main (S : SatT) (K : AVal → H → Prop) (x0 : Sl) (x1 : Int) (h : H) : Prop :=
 spec_l04Find_L0 S K x0 x1 (0) (x0.len : Int) h
theorem spec_l04Find_main_link (S : SatT) (K : AVal → H → Prop) (x0 : Sl) (x1 : Int) (h : H) : cwp S tab spec_l04Find_M [] (bodyOf Try.f101) (kFun tab Try.f101.results.toList K) (fr0 Try.f101 [.sl x0, .int .i64 x1]) h = spec_l04Find_main S K x0 x1 h := by kernel_rfl
theorem spec_l04Find_call (x0 : Sl) (x1 : Int) (h : H) (K : Int → H → Prop) (hm : spec_l04Find_main (Sat Try.prog) (fun v h' => ∃ r, v = .int .i64 r ∧ K r h') x0 x1 h) : callI (Sat Try.prog) .i64 i_spec_l04Find [.sl x0, .int .i64 x1] h K := by
  have := Sat.ex tok mixed spec_l04Find_M Try.func101 (c := bodyOf Try.f101) (by kernel_rfl) (calls_of Try.func101 (c := bodyOf Try.f101) (by kernel_rfl) (by decide)) ((spec_l04Find_main_link _ _ x0 x1 h).mpr hm)
  obtain ⟨v, h2, h3, r, rfl, h4⟩ := this; exact ⟨r, h2, h3, h4⟩

/-! ### loop.example/g01354/spec.l06Word -/
def spec_l06Word_M : Nat → List Nat := fun i => bif i == 0 then [0, 1, 7, 8] else []
def spec_l06Word_ks2 (S : SatT) (K : AVal → H → Prop) : Kont := kSeq (cwp S tab spec_l06Word_M [] (sub [1, 1, 1] (bodyOf Try.f74)) (kFun tab (Try.f74).results.toList K)) (kFun tab (Try.f74).results.toList K)
def spec_l06Word_e0 (i0_ : Int) (i1_ : Int) (s7_ : Sl) (i8_ : Int) : Frame := [.int .i64 i0_, .int .i64 i1_, U, U, U, U, U, .sl s7_, .int .i64 i8_, U, U, U, U, U, U, U, U, U, U, U, U, U, U, U, U, U, U]
def spec_l06Word_w0 (S : SatT) (K : AVal → H → Prop) : (Frame → H → Prop) → Frame → H → Prop := fun X fr h => cwp S tab spec_l06Word_M (spec_l06Word_M 0) (sub [1, 1, 0, 1, 0, 0] (bodyOf Try.f74)) (kSeq (fun fr h => X (mask (spec_l06Word_M 0) fr) h) (kBlk 0 (spec_l06Word_ks2 S K))) fr h
def spec_l06Word_L0 (S : SatT) (K : AVal → H → Prop) (i0_ : Int) (i1_ : Int) (s7_ : Sl) (i8_ : Int) (h : H) : Prop := loopK (spec_l06Word_w0 S K) (spec_l06Word_e0 i0_ i1_ s7_ i8_) h
def spec_l06Word_C0 (S : SatT) (K : AVal → H → Prop) (s7_ : Sl) (h : H) : Prop :=
 K (.sl s7_) h
def spec_l06Word_b0 (S : SatT) (K : AVal → H → Prop) (X0 : Frame → H → Prop) (i0_ : Int) (i1_ : Int) (s7_ : Sl) (i8_ : Int) (h : H) : Prop :=
 bif (decide (i8_ ≥ (0))) then
 nz i1_ (
 ixS s7_ 1 i8_ fun p0 =>
 st1 p0 (.int .i64 (Int.tmod i0_ i1_)) h fun h1 =>
 nz i1_ (
 X0 (spec_l06Word_e0 (w64 (Int.tdiv i0_ i1_)) i1_ s7_ (w64 (i8_ - (1)))) h1))
 else
 spec_l06Word_C0 S K s7_ h
theorem spec_l06Word_link0 (S : SatT) (K : AVal → H → Prop) (X0 : Frame → H → Prop) (i0_ : Int) (i1_ : Int) (s7_ : Sl) (i8_ : Int) (h : H) : spec_l06Word_w0 S K X0 (spec_l06Word_e0 i0_ i1_ s7_ i8_) h = spec_l06Word_b0 S K X0 i0_ i1_ s7_ i8_ h := by kernel_rfl
theorem spec_l06Word_rule0 (S : SatT) (K : AVal → H → Prop) (i1_ : Int) (s7_ : Sl) (I_ : Int → Int → H → Prop) (m_ : Int → Int → H → Nat)
    (hs : ∀ (X0 : Frame → H → Prop) (i0_ : Int) (i8_ : Int) (h : H), I_ i0_ i8_ h → (∀ (i0_' : Int) (i8_' : Int) (h' : H), I_ i0_' i8_' h' → m_ i0_' i8_' h' < m_ i0_ i8_ h → X0 (spec_l06Word_e0 i0_' i1_ s7_ i8_') h') → spec_l06Word_b0 S K X0 i0_ i1_ s7_ i8_ h) (i0_ : Int) (i8_ : Int) {h : H} (h0 : I_ i0_ i8_ h) : spec_l06Word_L0 S K i0_ i1_ s7_ i8_ h :=
  loop_rule (σ := (Int) × (Int)) (fun s_ => spec_l06Word_e0 (s_.1) i1_ s7_ (s_.2)) (fun s_ h => I_ (s_.1) (s_.2) h) (fun s_ h => m_ (s_.1) (s_.2) h)
    (fun X s_ h hi hx => (spec_l06Word_link0 S K X (s_.1) i1_ s7_ (s_.2) h).mpr (hs X (s_.1) (s_.2) h hi fun i0_' i8_' h' hi' hm' => hx (i0_', i8_') h' hi' hm')) (i0_, i8_) h0
theorem spec_l06Word_unroll0 (S : SatT) (K : AVal → H → Prop) (i0_ : Int) (i1_ : Int) (s7_ : Sl) (i8_ : Int) (h : H) (hb : spec_l06Word_b0 S K (fun fr h => loopK (spec_l06Word_w0 S K) fr h) i0_ i1_ s7_ i8_ h) : spec_l06Word_L0 S K i0_ i1_ s7_ i8_ h := loop_unroll ((spec_l06Word_link0 S K _ i0_ i1_ s7_ i8_ h).mpr hb)
def spec_l06Word_main (S : SatT) (K : AVal → H → Prop) (x0 : Int) (x1 : Int) (x2 : Int) (h : H) : Prop :=
 mkS x2 [.int .i64 (0)] h fun s0 h1 =>
 spec_l06Word_L0 S K x0 x1 s0 (w64 (x2 - (1))) h1
theorem spec_l06Word_main_link (S : SatT) (K : AVal → H → Prop) (x0 : Int) (x1 : Int) (x2 : Int) (h : H) : cwp S tab spec_l06Word_M [] (bodyOf Try.f74) (kFun tab Try.f74.results.toList K) (fr0 Try.f74 [.int .i64 x0, .int .i64 x1, .int .i64 x2]) h = spec_l06Word_main S K x0 x1 x2 h := by kernel_rfl
theorem spec_l06Word_call (x0 : Int) (x1 : Int) (x2 : Int) (h : H) (K : Sl → H → Prop) (hm : spec_l06Word_main (Sat Try.prog) (fun v h' => ∃ r, v = .sl r ∧ K r h') x0 x1 x2 h) : callS (Sat Try.prog) i_spec_l06Word [.int .i64 x0, .int .i64 x1, .int .i64 x2] h K := by
  have := Sat.ex tok mixed spec_l06Word_M Try.func74 (c := bodyOf Try.f74) (by kernel_rfl) (calls_of Try.func74 (c := bodyOf Try.f74) (by kernel_rfl) (by decide)) ((spec_l06Word_main_link _ _ x0 x1 x2 h).mpr hm)
  obtain ⟨v, h2, h3, r, rfl, h4⟩ := this; exact ⟨r, h2, h3, h4⟩

/-! ### loop.example/g01354/laws.markInt64SS -/
def laws_markInt64SS_M : Nat → List Nat := fun i => bif i == 0 then [0, 1, 5] else []
def laws_markInt64SS_ks1 (S : SatT) (K : AVal → H → Prop) : Kont := kSeq (cwp S tab laws_markInt64SS_M [] (sub [1, 1] (bodyOf Try.f30)) (kFun tab (Try.f30).results.toList K)) (kFun tab (Try.f30).results.toList K)
def laws_markInt64SS_e0 (s0_ : Sl) (i1_ : Int) (i5_ : Int) : Frame := [.sl s0_, .int .i64 i1_, U, U, U, .int .i64 i5_, U, U, U, U, U, U, U, U, U, U, U, U, U]
def laws_markInt64SS_w0 (S : SatT) (K : AVal → H → Prop) : (Frame → H → Prop) → Frame → H → Prop := fun X fr h => cwp S tab laws_markInt64SS_M (laws_markInt64SS_M 0) (sub [1, 0, 1, 0, 0] (bodyOf Try.f30)) (kSeq (fun fr h => X (mask (laws_markInt64SS_M 0) fr) h) (kBlk 0 (laws_markInt64SS_ks1 S K))) fr h
def laws_markInt64SS_L0 (S : SatT) (K : AVal → H → Prop) (s0_ : Sl) (i1_ : Int) (i5_ : Int) (h : H) : Prop := loopK (laws_markInt64SS_w0 S K) (laws_markInt64SS_e0 s0_ i1_ i5_) h
def laws_markInt64SS_C0 (S : SatT) (K : AVal → H → Prop) (i1_ : Int) (h : H) : Prop :=
 K (.int .i64 i1_) h
def laws_markInt64SS_b0 (S : SatT) (K : AVal → H → Prop) (X0 : Frame → H → Prop) (s0_ : Sl) (i1_ : Int) (i5_ : Int) (h : H) : Prop :=
 bif (decide (i5_ < (s0_.len : Int))) then
 ixS s0_ 1 i5_ fun p0 =>
 ldS p0 h fun s1 =>
 callI S .i64 i_laws_markInt64S [.sl s1, .int .i64 i1_] h fun n3 h2 =>
 X0 (laws_markInt64SS_e0 s0_ n3 (w64 (i5_ + (1)))) h2
 else
 laws_markInt64SS_C0 S K i1_ h
theorem laws_markInt64SS_link0 (S : SatT) (K : AVal → H → Prop) (X0 : Frame → H → Prop) (s0_ : Sl) (i1_ : Int) (i5_ : Int) (h : H) : laws_markInt64SS_w0 S K X0 (laws_markInt64SS_e0 s0_ i1_ i5_) h = laws_markInt64SS_b0 S K X0 s0_ i1_ i5_ h := by kernel_rfl
theorem laws_markInt64SS_rule0 (S : SatT) (K : AVal → H → Prop) (s0_ : Sl) (I_ : Int → Int → H → Prop) (m_ : Int → Int → H → Nat)
    (hs : ∀ (X0 : Frame → H → Prop) (i1_ : Int) (i5_ : Int) (h : H), I_ i1_ i5_ h → (∀ (i1_' : Int) (i5_' : Int) (h' : H), I_ i1_' i5_' h' → m_ i1_' i5_' h' < m_ i1_ i5_ h → X0 (laws_markInt64SS_e0 s0_ i1_' i5_') h') → laws_markInt64SS_b0 S K X0 s0_ i1_ i5_ h) (i1_ : Int) (i5_ : Int) {h : H} (h0 : I_ i1_ i5_ h) : laws_markInt64SS_L0 S K s0_ i1_ i5_ h :=
  loop_rule (σ := (Int) × (Int)) (fun s_ => laws_markInt64SS_e0 s0_ (s_.1) (s_.2)) (fun s_ h => I_ (s_.1) (s_.2) h) (fun s_ h => m_ (s_.1) (s_.2) h)
    (fun X s_ h hi hx => (laws_markInt64SS_link0 S K X s0_ (s_.1) (s_.2) h).mpr (hs X (s_.1) (s_.2) h hi fun i1_' i5_' h' hi' hm' => hx (i1_', i5_') h' hi' hm')) (i1_, i5_) h0
theorem laws_markInt64SS_unroll0 (S : SatT) (K : AVal → H → Prop) (s0_ : Sl) (i1_ : Int) (i5_ : Int) (h : H) (hb : laws_markInt64SS_b0 S K (fun fr h => loopK (laws_markInt64SS_w0 S K) fr h) s0_ i1_ i5_ h) : laws_markInt64SS_L0 S K s0_ i1_ i5_ h := loop_unroll ((laws_markInt64SS_link0 S K _ s0_ i1_ i5_ h).mpr hb)
def laws_markInt64SS_main (S : SatT) (K : AVal → H → Prop) (x0 : Sl) (x1 : Int) (h : H) : Prop :=
 laws_markInt64SS_L0 S K x0 x1 (0) h
theorem laws_markInt64SS_main_link (S : SatT) (K : AVal → H → Prop) (x0 : Sl) (x1 : Int) (h : H) : cwp S tab laws_markInt64SS_M [] (bodyOf Try.f30) (kFun tab Try.f30.results.toList K) (fr0 Try.f30 [.sl x0, .int .i64 x1]) h = laws_markInt64SS_main S K x0 x1 h := by kernel_rfl
theorem laws_markInt64SS_call (x0 : Sl) (x1 : Int) (h : H) (K : Int → H → Prop) (hm : laws_markInt64SS_main (Sat Try.prog) (fun v h' => ∃ r, v = .int .i64 r ∧ K r h') x0 x1 h) : callI (Sat Try.prog) .i64 i_laws_markInt64SS [.sl x0, .int .i64 x1] h K := by
  have := Sat.ex tok mixed laws_markInt64SS_M Try.func30 (c := bodyOf Try.f30) (by kernel_rfl) (calls_of Try.func30 (c := bodyOf Try.f30) (by kernel_rfl) (by decide)) ((laws_markInt64SS_main_link _ _ x0 x1 h).mpr hm)
  obtain ⟨v, h2, h3, r, rfl, h4⟩ := this; exact ⟨r, h2, h3, h4⟩

/-! ### loop.example/g01354/spec.l06Size -/
def spec_l06Size_M : Nat → List Nat := fun i => bif i == 0 then [1, 2, 5, 6] else []
def spec_l06Size_ks2 (S : SatT) (K : AVal → H → Prop) : Kont := kSeq (cwp S tab spec_l06Size_M [] (sub [1, 1, 1] (bodyOf Try.f63)) (kFun tab (Try.f63).results.toList K)) (kFun tab (Try.f63).results.toList K)
def spec_l06Size_e0 (i1_ : Int) (p2_ : Pt) (i5_ : Int) (i6_ : Int) : Frame := [U, .int .i64 i1_, .ptr p2_, U, U, .int .i64 i5_, .int .i64 i6_, U, U, U, U, U, U, U, U, U, U]
def spec_l06Size_w0 (S : SatT) (K : AVal → H → Prop) : (Frame → H → Prop) → Frame → H → Prop := fun X fr h => cwp S tab spec_l06Size_M (spec_l06Size_M 0) (sub [1, 1, 0, 1, 0, 0] (bodyOf Try.f63)) (kSeq (fun fr h => X (mask (spec_l06Size_M 0) fr) h) (kBlk 0 (spec_l06Size_ks2 S K))) fr h
def spec_l06Size_L0 (S : SatT) (K : AVal → H → Prop) (i1_ : Int) (p2_ : Pt) (i5_ : Int) (i6_ : Int) (h : H) : Prop := loopK (spec_l06Size_w0 S K) (spec_l06Size_e0 i1_ p2_ i5_ i6_) h
def spec_l06Size_C0 (S : SatT) (K : AVal → H → Prop) (i5_ : Int) (h : H) : Prop :=
 K (.int .i64 i5_) h
def spec_l06Size_b0 (S : SatT) (K : AVal → H → Prop) (X0 : Frame → H → Prop) (i1_ : Int) (p2_ : Pt) (i5_ : Int) (i6_ : Int) (h : H) : Prop :=
 bif (decide (i6_ < i1_)) then
 isPt p2_ (
 ldI .i64 (Pt.add p2_ 0) h fun n0 =>
 X0 (spec_l06Size_e0 i1_ p2_ (w64 (i5_ * n0)) (w64 (i6_ + (1)))) h)
 else
 spec_l06Size_C0 S K i5_ h
theorem spec_l06Size_link0 (S : SatT) (K : AVal → H → Prop) (X0 : Frame → H → Prop) (i1_ : Int) (p2_ : Pt) (i5_ : Int) (i6_ : Int) (h : H) : spec_l06Size_w0 S K X0 (spec_l06Size_e0 i1_ p2_ i5_ i6_) h = spec_l06Size_b0 S K X0 i1_ p2_ i5_ i6_ h := by kernel_rfl
theorem spec_l06Size_rule0 (S : SatT) (K : AVal → H → Prop) (i1_ : Int) (p2_ : Pt) (I_ : Int → Int → H → Prop) (m_ : Int → Int → H → Nat)
    (hs : ∀ (X0 : Frame → H → Prop) (i5_ : Int) (i6_ : Int) (h : H), I_ i5_ i6_ h → (∀ (i5_' : Int) (i6_' : Int) (h' : H), I_ i5_' i6_' h' → m_ i5_' i6_' h' < m_ i5_ i6_ h → X0 (spec_l06Size_e0 i1_ p2_ i5_' i6_') h') → spec_l06Size_b0 S K X0 i1_ p2_ i5_ i6_ h) (i5_ : Int) (i6_ : Int) {h : H} (h0 : I_ i5_ i6_ h) : spec_l06Size_L0 S K i1_ p2_ i5_ i6_ h :=
  loop_rule (σ := (Int) × (Int)) (fun s_ => spec_l06Size_e0 i1_ p2_ (s_.1) (s_.2)) (fun s_ h => I_ (s_.1) (s_.2) h) (fun s_ h => m_ (s_.1) (s_.2) h)
    (fun X s_ h hi hx => (spec_l06Size_link0 S K X i1_ p2_ (s_.1) (s_.2) h).mpr (hs X (s_.1) (s_.2) h hi fun i5_' i6_' h' hi' hm' => hx (i5_', i6_') h' hi' hm')) (i5_, i6_) h0
theorem spec_l06Size_unroll0 (S : SatT) (K : AVal → H → Prop) (i1_ : Int) (p2_ : Pt) (i5_ : Int) (i6_ : Int) (h : H) (hb : spec_l06Size_b0 S K (fun fr h => loopK (spec_l06Size_w0 S K) fr h) i1_ p2_ i5_ i6_ h) : spec_l06Size_L0 S K i1_ p2_ i5_ i6_ h := loop_unroll ((spec_l06Size_link0 S K _ i1_ p2_ i5_ i6_ h).mpr hb)
def spec_l06Size_main (S : SatT) (K : AVal → H → Prop) (x0 : List AVal) (x1 : Int) (h : H) : Prop :=
 newK 2 x0 h fun p0 h1 =>
 spec_l06Size_L0 S K x1 p0 (1) (0) h1
theorem spec_l06Size_main_link (S : SatT) (K : AVal → H → Prop) (x0 : List AVal) (x1 : Int) (h : H) : cwp S tab spec_l06Size_M [] (bodyOf Try.f63) (kFun tab Try.f63.results.toList K) (fr0 Try.f63 [.agg x0, .int .i64 x1]) h = spec_l06Size_main S K x0 x1 h := by kernel_rfl
theorem spec_l06Size_call (x0 : List AVal) (x1 : Int) (h : H) (K : Int → H → Prop) (hm : spec_l06Size_main (Sat Try.prog) (fun v h' => ∃ r, v = .int .i64 r ∧ K r h') x0 x1 h) : callI (Sat Try.prog) .i64 i_spec_l06Size [.agg x0, .int .i64 x1] h K := by
  have := Sat.ex tok mixed spec_l06Size_M Try.func63 (c := bodyOf Try.f63) (by kernel_rfl) (calls_of Try.func63 (c := bodyOf Try.f63) (by kernel_rfl) (by decide)) ((spec_l06Size_main_link _ _ x0 x1 h).mpr hm)
  obtain ⟨v, h2, h3, r, rfl, h4⟩ := this; exact ⟨r, h2, h3, h4⟩

/-! ### loop.example/g01354/laws.eqInt64S -/
def laws_eqInt64S_M : Nat → List Nat := fun i => bif i == 0 then [0, 1, 5] else []
def laws_eqInt64S_ks4 (S : SatT) (K : AVal → H → Prop) : Kont := kSeq (cwp S tab laws_eqInt64S_M [] (sub [1, 1, 1] (bodyOf Try.f21)) (kFun tab (Try.f21).results.toList K)) (kFun tab (Try.f21).results.toList K)
def laws_eqInt64S_e0 (s0_ : Sl) (s1_ : Sl) (i5_ : Int) : Frame := [.sl s0_, .sl s1_, U, U, U, .int .i64 i5_, U, U, U, U, U, U, U, U, U, U, U, U, U, U, U, U, U, U, U, U]
def laws_eqInt64S_w0 (S : SatT) (K : AVal → H → Prop) : (Frame → H → Prop) → Frame → H → Prop := fun X fr h => cwp S tab laws_eqInt64S_M (laws_eqInt64S_M 0) (sub [1, 1, 0, 1, 0, 0] (bodyOf Try.f21)) (kSeq (fun fr h => X (mask (laws_eqInt64S_M 0) fr) h) (kBlk 0 (laws_eqInt64S_ks4 S K))) fr h
def laws_eqInt64S_L0 (S : SatT) (K : AVal → H → Prop) (s0_ : Sl) (s1_ : Sl) (i5_ : Int) (h : H) : Prop := loopK (laws_eqInt64S_w0 S K) (laws_eqInt64S_e0 s0_ s1_ i5_) h
def laws_eqInt64S_C0 (S : SatT) (K : AVal → H → Prop) (h : H) : Prop :=
 K (.bool true) h
def laws_eqInt64S_b0 (S : SatT) (K : AVal → H → Prop) (X0 : Frame → H → Prop) (s0_ : Sl) (s1_ : Sl) (i5_ : Int) (h : H) : Prop :=
 bif (decide (i5_ < (s0_.len : Int))) then
 ixS s0_ 1 i5_ fun p0 =>
 ldI .i64 p0 h fun n1 =>
 ixS s1_ 1 i5_ fun p2 =>
 ldI .i64 p2 h fun n3 =>
 bif (n1 != n3) then
 K (.bool false) h
 else
 X0 (laws_eqInt64S_e0 s0_ s1_ (w64 (i5_ + (1)))) h
 else
 laws_eqInt64S_C0 S K h
theorem laws_eqInt64S_link0 (S : SatT) (K : AVal → H → Prop) (X0 : Frame → H → Prop) (s0_ : Sl) (s1_ : Sl) (i5_ : Int) (h : H) : laws_eqInt64S_w0 S K X0 (laws_eqInt64S_e0 s0_ s1_ i5_) h = laws_eqInt64S_b0 S K X0 s0_ s1_ i5_ h := by kernel_rfl
theorem laws_eqInt64S_rule0 (S : SatT) (K : AVal → H → Prop) (s0_ : Sl) (s1_ : Sl) (I_ : Int → H → Prop) (m_ : Int → H → Nat)
    (hs : ∀ (X0 : Frame → H → Prop) (i5_ : Int) (h : H), I_ i5_ h → (∀ (i5_' : Int) (h' : H), I_ i5_' h' → m_ i5_' h' < m_ i5_ h → X0 (laws_eqInt64S_e0 s0_ s1_ i5_') h') → laws_eqInt64S_b0 S K X0 s0_ s1_ i5_ h) (i5_ : Int) {h : H} (h0 : I_ i5_ h) : laws_eqInt64S_L0 S K s0_ s1_ i5_ h :=
  loop_rule (σ := (Int)) (fun s_ => laws_eqInt64S_e0 s0_ s1_ (s_)) (fun s_ h => I_ (s_) h) (fun s_ h => m_ (s_) h)
    (fun X s_ h hi hx => (laws_eqInt64S_link0 S K X s0_ s1_ (s_) h).mpr (hs X (s_) h hi fun i5_' h' hi' hm' => hx (i5_') h' hi' hm')) (i5_) h0
theorem laws_eqInt64S_unroll0 (S : SatT) (K : AVal → H → Prop) (s0_ : Sl) (s1_ : Sl) (i5_ : Int) (h : H) (hb : laws_eqInt64S_b0 S K (fun fr h => loopK (laws_eqInt64S_w0 S K) fr h) s0_ s1_ i5_ h) : laws_eqInt64S_L0 S K s0_ s1_ i5_ h := loop_unroll ((laws_eqInt64S_link0 S K _ s0_ s1_ i5_ h).mpr hb)
def laws_eqInt64S_main (S : SatT) (K : AVal → H → Prop) (x0 : Sl) (x1 : Sl) (h : H) : Prop :=
 bif ((x0.len : Int) != (x1.len : Int)) then
 K (.bool false) h
 else
 laws_eqInt64S_L0 S K x0 x1 (0) h
theorem laws_eqInt64S_main_link (S : SatT) (K : AVal → H → Prop) (x0 : Sl) (x1 : Sl) (h : H) : cwp S tab laws_eqInt64S_M [] (bodyOf Try.f21) (kFun tab Try.f21.results.toList K) (fr0 Try.f21 [.sl x0, .sl x1]) h = laws_eqInt64S_main S K x0 x1 h := by kernel_rfl
theorem laws_eqInt64S_call (x0 : Sl) (x1 : Sl) (h : H) (K : Bool → H → Prop) (hm : laws_eqInt64S_main (Sat Try.prog) (fun v h' => ∃ r, v = .bool r ∧ K r h') x0 x1 h) : callB (Sat Try.prog) i_laws_eqInt64S [.sl x0, .sl x1] h K := by
  have := Sat.ex tok mixed laws_eqInt64S_M Try.func21 (c := bodyOf Try.f21) (by kernel_rfl) (calls_of Try.func21 (c := bodyOf Try.f21) (by kernel_rfl) (by decide)) ((laws_eqInt64S_main_link _ _ x0 x1 h).mpr hm)
  obtain ⟨v, h2, h3, r, rfl, h4⟩ := this; exact ⟨r, h2, h3, h4⟩

/-! ### loop.example/g01354/spec.l02Total -/
def spec_l02Total_M : Nat → List Nat := fun i => bif i == 0 then [0, 3, 4] else []
def spec_l02Total_ks2 (S : SatT) (K : AVal → H → Prop) : Kont := kSeq (cwp S tab spec_l02Total_M [] (sub [1, 1, 1] (bodyOf Try.f65)) (kFun tab (Try.f65).results.toList K)) (kFun tab (Try.f65).results.toList K)
def spec_l02Total_e0 (s0_ : Sl) (i3_ : Int) (i4_ : Int) : Frame := [.sl s0_, U, U, .int .i64 i3_, .int .i64 i4_, U, U, U, U, U, U, U, U, U, U, U, U, U, U]
def spec_l02Total_w0 (S : SatT) (K : AVal → H → Prop) : (Frame → H → Prop) → Frame → H → Prop := fun X fr h => cwp S tab spec_l02Total_M (spec_l02Total_M 0) (sub [1, 1, 0, 1, 0, 0] (bodyOf Try.f65)) (kSeq (fun fr h => X (mask (spec_l02Total_M 0) fr) h) (kBlk 0 (spec_l02Total_ks2 S K))) fr h
def spec_l02Total_L0 (S : SatT) (K : AVal → H → Prop) (s0_ : Sl) (i3_ : Int) (i4_ : Int) (h : H) : Prop := loopK (spec_l02Total_w0 S K) (spec_l02Total_e0 s0_ i3_ i4_) h
def spec_l02Total_C0 (S : SatT) (K : AVal → H → Prop) (i3_ : Int) (h : H) : Prop :=
 K (.int .i64 i3_) h
def spec_l02Total_b0 (S : SatT) (K : AVal → H → Prop) (X0 : Frame → H → Prop) (s0_ : Sl) (i3_ : Int) (i4_ : Int) (h : H) : Prop :=
 bif (decide (i4_ < (s0_.len : Int))) then
 ixS s0_ 1 i4_ fun p0 =>
 ldI .i64 p0 h fun n1 =>
 X0 (spec_l02Total_e0 s0_ (mnI (w64 (i3_ + n1)) (1000000000000001)) (w64 (i4_ + (1)))) h
 else
 spec_l02Total_C0 S K i3_ h
theorem spec_l02Total_link0 (S : SatT) (K : AVal → H → Prop) (X0 : Frame → H → Prop) (s0_ : Sl) (i3_ : Int) (i4_ : Int) (h : H) : spec_l02Total_w0 S K X0 (spec_l02Total_e0 s0_ i3_ i4_) h = spec_l02Total_b0 S K X0 s0_ i3_ i4_ h := by kernel_rfl
theorem spec_l02Total_rule0 (S : SatT) (K : AVal → H → Prop) (s0_ : Sl) (I_ : Int → Int → H → Prop) (m_ : Int → Int → H → Nat)
    (hs : ∀ (X0 : Frame → H → Prop) (i3_ : Int) (i4_ : Int) (h : H), I_ i3_ i4_ h → (∀ (i3_' : Int) (i4_' : Int) (h' : H), I_ i3_' i4_' h' → m_ i3_' i4_' h' < m_ i3_ i4_ h → X0 (spec_l02Total_e0 s0_ i3_' i4_') h') → spec_l02Total_b0 S K X0 s0_ i3_ i4_ h) (i3_ : Int) (i4_ : Int) {h : H} (h0 : I_ i3_ i4_ h) : spec_l02Total_L0 S K s0_ i3_ i4_ h :=
  loop_rule (σ := (Int) × (Int)) (fun s_ => spec_l02Total_e0 s0_ (s_.1) (s_.2)) (fun s_ h => I_ (s_.1) (s_.2) h) (fun s_ h => m_ (s_.1) (s_.2) h)
    (fun X s_ h hi hx => (spec_l02Total_link0 S K X s0_ (s_.1) (s_.2) h).mpr (hs X (s_.1) (s_.2) h hi fun i3_' i4_' h' hi' hm' => hx (i3_', i4_') h' hi' hm')) (i3_, i4_) h0
theorem spec_l02Total_unroll0 (S : SatT) (K : AVal → H → Prop) (s0_ : Sl) (i3_ : Int) (i4_ : Int) (h : H) (hb : spec_l02Total_b0 S K (fun fr h => loopK (spec_l02Total_w0 S K) fr h) s0_ i3_ i4_ h) : spec_l02Total_L0 S K s0_ i3_ i4_ h := loop_unroll ((spec_l02Total_link0 S K _ s0_ i3_ i4_ h).mpr hb)
def spec_l02Total_main (S : SatT) (K : AVal → H → Prop) (x0 : Sl) (h : H) : Prop :=
 spec_l02Total_L0 S K x0 (0) (0) h
theorem spec_l02Total_main_link (S : SatT) (K : AVal → H → Prop) (x0 : Sl) (h : H) : cwp S tab spec_l02Total_M [] (bodyOf Try.f65) (kFun tab Try.f65.results.toList K) (fr0 Try.f65 [.sl x0]) h = spec_l02Total_main S K x0 h := by kernel_rfl
theorem spec_l02Total_call (x0 : Sl) (h : H) (K : Int → H → Prop) (hm : spec_l02Total_main (Sat Try.prog) (fun v h' => ∃ r, v = .int .i64 r ∧ K r h') x0 h) : callI (Sat Try.prog) .i64 i_spec_l02Total [.sl x0] h K := by
  have := Sat.ex tok mixed spec_l02Total_M Try.func65 (c := bodyOf Try.f65) (by kernel_rfl) (calls_of Try.func65 (c := bodyOf Try.f65) (by kernel_rfl) (by decide)) ((spec_l02Total_main_link _ _ x0 h).mpr hm)
  obtain ⟨v, h2, h3, r, rfl, h4⟩ := this; exact ⟨r, h2, h3, h4⟩

/-! ### loop.example/g01354/spec.l02Each -/
def spec_l02Each_M : Nat → List Nat := fun i => bif i == 0 then [0, 3, 4] else []
def spec_l02Each_ks2 (S : SatT) (K : AVal → H → Prop) : Kont := kSeq (cwp S tab spec_l02Each_M [] (sub [1, 1, 1] (bodyOf Try.f62)) (kFun tab (Try.f62).results.toList K)) (kFun tab (Try.f62).results.toList K)
def spec_l02Each_e0 (i0_ : Int) (s3_ : Sl) (i4_ : Int) : Frame := [.int .i64 i0_, U, U, .sl s3_, .int .i64 i4_, U, U, U, U, U, U, U, U, U, U]
def spec_l02Each_w0 (S : SatT) (K : AVal → H → Prop) : (Frame → H → Prop) → Frame → H → Prop := fun X fr h => cwp S tab spec_l02Each_M (spec_l02Each_M 0) (sub [1, 1, 0, 1, 0, 0] (bodyOf Try.f62)) (kSeq (fun fr h => X (mask (spec_l02Each_M 0) fr) h) (kBlk 0 (spec_l02Each_ks2 S K))) fr h
def spec_l02Each_L0 (S : SatT) (K : AVal → H → Prop) (i0_ : Int) (s3_ : Sl) (i4_ : Int) (h : H) : Prop := loopK (spec_l02Each_w0 S K) (spec_l02Each_e0 i0_ s3_ i4_) h
def spec_l02Each_C0 (S : SatT) (K : AVal → H → Prop) (s3_ : Sl) (h : H) : Prop :=
 K (.sl s3_) h
def spec_l02Each_b0 (S : SatT) (K : AVal → H → Prop) (X0 : Frame → H → Prop) (i0_ : Int) (s3_ : Sl) (i4_ : Int) (h : H) : Prop :=
 bif (decide (i4_ < i0_)) then
 newS 1 1 [.int .i64 (1)] h fun s0 h1 =>
 app s3_ s0 1 h1 fun s2 h3 =>
 X0 (spec_l02Each_e0 i0_ s2 (w64 (i4_ + (1)))) h3
 else
 spec_l02Each_C0 S K s3_ h
theorem spec_l02Each_link0 (S : SatT) (K : AVal → H → Prop) (X0 : Frame → H → Prop) (i0_ : Int) (s3_ : Sl) (i4_ : Int) (h : H) : spec_l02Each_w0 S K X0 (spec_l02Each_e0 i0_ s3_ i4_) h = spec_l02Each_b0 S K X0 i0_ s3_ i4_ h := by kernel_rfl
theorem spec_l02Each_rule0 (S : SatT) (K : AVal → H → Prop) (i0_ : Int) (I_ : Sl → Int → H → Prop) (m_ : Sl → Int → H → Nat)
    (hs : ∀ (X0 : Frame → H → Prop) (s3_ : Sl) (i4_ : Int) (h : H), I_ s3_ i4_ h → (∀ (s3_' : Sl) (i4_' : Int) (h' : H), I_ s3_' i4_' h' → m_ s3_' i4_' h' < m_ s3_ i4_ h → X0 (spec_l02Each_e0 i0_ s3_' i4_') h') → spec_l02Each_b0 S K X0 i0_ s3_ i4_ h) (s3_ : Sl) (i4_ : Int) {h : H} (h0 : I_ s3_ i4_ h) : spec_l02Each_L0 S K i0_ s3_ i4_ h :=
  loop_rule (σ := (Sl) × (Int)) (fun s_ => spec_l02Each_e0 i0_ (s_.1) (s_.2)) (fun s_ h => I_ (s_.1) (s_.2) h) (fun s_ h => m_ (s_.1) (s_.2) h)
    (fun X s_ h hi hx => (spec_l02Each_link0 S K X i0_ (s_.1) (s_.2) h).mpr (hs X (s_.1) (s_.2) h hi fun s3_' i4_' h' hi' hm' => hx (s3_', i4_') h' hi' hm')) (s3_, i4_) h0
theorem spec_l02Each_unroll0 (S : SatT) (K : AVal → H → Prop) (i0_ : Int) (s3_ : Sl) (i4_ : Int) (h : H) (hb : spec_l02Each_b0 S K (fun fr h => loopK (spec_l02Each_w0 S K) fr h) i0_ s3_ i4_ h) : spec_l02Each_L0 S K i0_ s3_ i4_ h := loop_unroll ((spec_l02Each_link0 S K _ i0_ s3_ i4_ h).mpr hb)
def spec_l02Each_main (S : SatT) (K : AVal → H → Prop) (x0 : Int) (h : H) : Prop :=
 newS 0 1 [] h fun s0 h1 =>
 spec_l02Each_L0 S K x0 s0 (0) h1
theorem spec_l02Each_main_link (S : SatT) (K : AVal → H → Prop) (x0 : Int) (h : H) : cwp S tab spec_l02Each_M [] (bodyOf Try.f62) (kFun tab Try.f62.results.toList K) (fr0 Try.f62 [.int .i64 x0]) h = spec_l02Each_main S K x0 h := by kernel_rfl
theorem spec_l02Each_call (x0 : Int) (h : H) (K : Sl → H → Prop) (hm : spec_l02Each_main (Sat Try.prog) (fun v h' => ∃ r, v = .sl r ∧ K r h') x0 h) : callS (Sat Try.prog) i_spec_l02Each [.int .i64 x0] h K := by
  have := Sat.ex tok mixed spec_l02Each_M Try.func62 (c := bodyOf Try.f62) (by kernel_rfl) (calls_of Try.func62 (c := bodyOf Try.f62) (by kernel_rfl) (by decide)) ((spec_l02Each_main_link _ _ x0 h).mpr hm)
  obtain ⟨v, h2, h3, r, rfl, h4⟩ := this; exact ⟨r, h2, h3, h4⟩

/-! ### loop.example/g01354/spec.l01Bad -/
def spec_l01Bad_M : Nat → List Nat := fun i => []
def spec_l01Bad_main (S : SatT) (K : AVal → H → Prop) (x0 : Pt) (x1 : List AVal) (h : H) : Prop :=
 newK 2 x1 h fun p0 h1 =>
 newO [.int .i64 (0), .sl Sl.nil] h1 fun p2 h3 =>
 newS 0 4 [] h3 fun s4 h5 =>
 isPt p0 (
 ldS (Pt.add p0 1) h5 fun s6 =>
 app s4 s6 4 h5 fun s7 h8 =>
 callI S .i64 i_spec_l01Next [.ptr x0, .int .i64 (50)] h8 fun n10 h9 =>
 bif (n10 == (0)) then
 newS 3 1 [.int .i64 (0), .int .i64 (7), .int .i64 (-1)] h9 fun s11 h12 =>
 callI S .i64 i_spec_l01Pick [.ptr x0, .sl s11] h12 fun n14 h13 =>
 stN p2 2 [.int .i64 n14, .sl s7] h13 fun h15 =>
 ldA p2 2 h15 fun cs16 =>
 K (.agg cs16) h15
 else
 bif (n10 == (1)) then
 isPt p0 (
 ldI .i64 (Pt.add p0 0) h9 fun n17 =>
 newS 2 1 [.int .i64 (0), .int .i64 (-1)] h9 fun s18 h19 =>
(cell h19 (Pt.add p0 0) = cell h9 (Pt.add p0 0)) ∧ (
 callI S .i64 i_spec_l01Pick [.ptr x0, .sl s18] h19 fun n21 h20 =>
(cell h20 (Pt.add p0 0) = cell h9 (Pt.add p0 0)) ∧ (
 lenA [.int .i64 n17, .int .i64 (0), .int .i64 (0), .int .i64 n21] 4 (
 newS 1 4 (spl [.int .i64 (0), .int .i64 (0), .int .i64 (0), .int .i64 (0)] 0 4 [.int .i64 n17, .int .i64 (0), .int .i64 (0), .int .i64 n21]) h20 fun s22 h23 =>
 app s7 s22 4 h23 fun s24 h25 =>
 isPt p0 (
 ldI .i64 (Pt.add p0 0) h25 fun n26 =>
 stN p2 2 [.int .i64 n26, .sl s24] h25 fun h27 =>
 ldA p2 2 h27 fun cs28 =>
 K (.agg cs28) h27)))))
 else
 bif (n10 == (2)) then
 isPt p0 (
 ldI .i64 (Pt.add p0 0) h9 fun n29 =>
 callA S i_spec_l01DrawTile [.ptr x0, .int .i64 n29] h9 fun cs31 h30 =>
 lenA cs31 4 (
 newS 1 4 (spl [.int .i64 (0), .int .i64 (0), .int .i64 (0), .int .i64 (0)] 0 4 cs31) h30 fun s32 h33 =>
 app s7 s32 4 h33 fun s34 h35 =>
 isPt p0 (
 ldI .i64 (Pt.add p0 0) h35 fun n36 =>
 stN p2 2 [.int .i64 n36, .sl s34] h35 fun h37 =>
 ldA p2 2 h37 fun cs38 =>
 K (.agg cs38) h37)))
 else
 bif (n10 == (3)) then
 bif (decide ((s7.len : Int) > (1))) then
 ixS s7 4 (0) fun p39 =>
 ldA p39 4 h9 fun cs40 =>
 newO [.int .i64 (0), .int .i64 (0), .int .i64 (0), .int .i64 (0)] h9 fun p41 h42 =>
 stN p41 4 cs40 h42 fun h43 =>
 ixS s7 4 (1) fun p44 =>
 ldA p44 4 h43 fun cs45 =>
 ixS s7 4 (0) fun p46 =>
 stN p46 4 cs45 h43 fun h47 =>
 ldA p41 4 h47 fun cs48 =>
 ixS s7 4 (1) fun p49 =>
 stN p49 4 cs48 h47 fun h50 =>
 isPt p0 (
 ldI .i64 (Pt.add p0 0) h50 fun n51 =>
 stN p2 2 [.int .i64 n51, .sl s7] h50 fun h52 =>
 ldA p2 2 h52 fun cs53 =>
 K (.agg cs53) h52)
 else
 isPt p0 (
 ldI .i64 (Pt.add p0 0) h9 fun n54 =>
 stN p2 2 [.int .i64 n54, .sl s7] h9 fun h55 =>
 ldA p2 2 h55 fun cs56 =>
 K (.agg cs56) h55)
 else
 ldA p0 2 h9 fun cs57 =>
 stN p2 2 cs57 h9 fun h58 =>
 ldA p2 2 h58 fun cs59 =>
 K (.agg cs59) h58)
theorem spec_l01Bad_main_link (S : SatT) (K : AVal → H → Prop) (x0 : Pt) (x1 : List AVal) (h : H) : cwp S tab spec_l01Bad_M [] (bodyOf Try.f130) (kFun tab Try.f130.results.toList K) (fr0 Try.f130 [.ptr x0, .agg x1]) h = spec_l01Bad_main S K x0 x1 h := by kernel_rfl
theorem spec_l01Bad_call (x0 : Pt) (x1 : List AVal) (h : H) (K : List AVal → H → Prop) (hm : spec_l01Bad_main (Sat Try.prog) (fun v h' => ∃ r, v = .agg r ∧ K r h') x0 x1 h) : callA (Sat Try.prog) i_spec_l01Bad [.ptr x0, .agg x1] h K := by
  have := Sat.ex tok mixed spec_l01Bad_M Try.func130 (c := bodyOf Try.f130) (by kernel_rfl) (calls_of Try.func130 (c := bodyOf Try.f130) (by kernel_rfl) (by decide)) ((spec_l01Bad_main_link _ _ x0 x1 h).mpr hm)
  obtain ⟨v, h2, h3, r, rfl, h4⟩ := this; exact ⟨r, h2, h3, h4⟩

/-! ### loop.example/g01354/laws.sum -/
def laws_sum_M : Nat → List Nat := fun i => bif i == 0 then [0, 3, 4] else []
def laws_sum_ks2 (S : SatT) (K : AVal → H → Prop) : Kont := kSeq (cwp S tab laws_sum_M [] (sub [1, 1, 1] (bodyOf Try.f48)) (kFun tab (Try.f48).results.toList K)) (kFun tab (Try.f48).results.toList K)
def laws_sum_e0 (s0_ : Sl) (i3_ : Int) (i4_ : Int) : Frame := [.sl s0_, U, U, .int .i64 i3_, .int .i64 i4_, U, U, U, U, U, U, U, U, U, U, U, U, U]
def laws_sum_w0 (S : SatT) (K : AVal → H → Prop) : (Frame → H → Prop) → Frame → H → Prop := fun X fr h => cwp S tab laws_sum_M (laws_sum_M 0) (sub [1, 1, 0, 1, 0, 0] (bodyOf Try.f48)) (kSeq (fun fr h => X (mask (laws_sum_M 0) fr) h) (kBlk 0 (laws_sum_ks2 S K))) fr h
def laws_sum_L0 (S : SatT) (K : AVal → H → Prop) (s0_ : Sl) (i3_ : Int) (i4_ : Int) (h : H) : Prop := loopK (laws_sum_w0 S K) (laws_sum_e0 s0_ i3_ i4_) h
def laws_sum_C0 (S : SatT) (K : AVal → H → Prop) (i3_ : Int) (h : H) : Prop :=
 K (.int .i64 i3_) h
def laws_sum_b0 (S : SatT) (K : AVal → H → Prop) (X0 : Frame → H → Prop) (s0_ : Sl) (i3_ : Int) (i4_ : Int) (h : H) : Prop :=
 bif (decide (i4_ < (s0_.len : Int))) then
 ixS s0_ 1 i4_ fun p0 =>
 ldI .i64 p0 h fun n1 =>
 X0 (laws_sum_e0 s0_ (w64 (i3_ + n1)) (w64 (i4_ + (1)))) h
 else
 laws_sum_C0 S K i3_ h
theorem laws_sum_link0 (S : SatT) (K : AVal → H → Prop) (X0 : Frame → H → Prop) (s0_ : Sl) (i3_ : Int) (i4_ : Int) (h : H) : laws_sum_w0 S K X0 (laws_sum_e0 s0_ i3_ i4_) h = laws_sum_b0 S K X0 s0_ i3_ i4_ h := by kernel_rfl
theorem laws_sum_rule0 (S : SatT) (K : AVal → H → Prop) (s0_ : Sl) (I_ : Int → Int → H → Prop) (m_ : Int → Int → H → Nat)
    (hs : ∀ (X0 : Frame → H → Prop) (i3_ : Int) (i4_ : Int) (h : H), I_ i3_ i4_ h → (∀ (i3_' : Int) (i4_' : Int) (h' : H), I_ i3_' i4_' h' → m_ i3_' i4_' h' < m_ i3_ i4_ h → X0 (laws_sum_e0 s0_ i3_' i4_') h') → laws_sum_b0 S K X0 s0_ i3_ i4_ h) (i3_ : Int) (i4_ : Int) {h : H} (h0 : I_ i3_ i4_ h) : laws_sum_L0 S K s0_ i3_ i4_ h :=
  loop_rule (σ := (Int) × (Int)) (fun s_ => laws_sum_e0 s0_ (s_.1) (s_.2)) (fun s_ h => I_ (s_.1) (s_.2) h) (fun s_ h => m_ (s_.1) (s_.2) h)
    (fun X s_ h hi hx => (laws_sum_link0 S K X s0_ (s_.1) (s_.2) h).mpr (hs X (s_.1) (s_.2) h hi fun i3_' i4_' h' hi' hm' => hx (i3_', i4_') h' hi' hm')) (i3_, i4_) h0
theorem laws_sum_unroll0 (S : SatT) (K : AVal → H → Prop) (s0_ : Sl) (i3_ : Int) (i4_ : Int) (h : H) (hb : laws_sum_b0 S K (fun fr h => loopK (laws_sum_w0 S K) fr h) s0_ i3_ i4_ h) : laws_sum_L0 S K s0_ i3_ i4_ h := loop_unroll ((laws_sum_link0 S K _ s0_ i3_ i4_ h).mpr hb)
def laws_sum_main (S : SatT) (K : AVal → H → Prop) (x0 : Sl) (h : H) : Prop :=
 laws_sum_L0 S K x0 (0) (0) h
theorem laws_sum_main_link (S : SatT) (K : AVal → H → Prop) (x0 : Sl) (h : H) : cwp S tab laws_sum_M [] (bodyOf Try.f48) (kFun tab Try.f48.results.toList K) (fr0 Try.f48 [.sl x0]) h = laws_sum_main S K x0 h := by kernel_rfl
theorem laws_sum_call (x0 : Sl) (h : H) (K : Int → H → Prop) (hm : laws_sum_main (Sat Try.prog) (fun v h' => ∃ r, v = .int .i64 r ∧ K r h') x0 h) : callI (Sat Try.prog) .i64 i_laws_sum [.sl x0] h K := by
  have := Sat.ex tok mixed laws_sum_M Try.func48 (c := bodyOf Try.f48) (by kernel_rfl) (calls_of Try.func48 (c := bodyOf Try.f48) (by kernel_rfl) (by decide)) ((laws_sum_main_link _ _ x0 h).mpr hm)
  obtain ⟨v, h2, h3, r, rfl, h4⟩ := this; exact ⟨r, h2, h3, h4⟩

/-! ### loop.example/g01354/spec.l01Next -/
def spec_l01Next_M : Nat → List Nat := fun i => []
def spec_l01Next_main (S : SatT) (K : AVal → H → Prop) (x0 : Pt) (x1 : Int) (h : H) : Prop :=
 bif (decide (x1 < (1))) then
 K (.int .i64 (0)) h
 else
 nilC (.ptr x0) (
 isPt x0 (
 ldI .u64 (Pt.add x0 2) h fun n0 =>
 nilC (.ptr x0) (
 isPt x0 (
 st1 (Pt.add x0 2) (.int .u64 (IntKind.wrap .u64 ((IntKind.wrap .u64 (n0 * (6364136223846793005))) + (1442695040888963407)))) h fun h1 =>
 nilC (.ptr x0) (
 isPt x0 (
 ldI .u64 (Pt.add x0 2) h1 fun n2 =>
 nn (33) (
 nilC (.ptr x0) (
 isPt x0 (
 ldI .i64 (Pt.add x0 1) h1 fun n3 =>
 nilC (.ptr x0) (
 isPt x0 (
 ldS (Pt.add x0 0) h1 fun s4 =>
 bif (decide (n3 < (s4.len : Int))) then
 nilC (.ptr x0) (
 isPt x0 (
 ldS (Pt.add x0 0) h1 fun s5 =>
 nilC (.ptr x0) (
 isPt x0 (
 ldI .i64 (Pt.add x0 1) h1 fun n6 =>
 ixS s5 1 n6 fun p7 =>
 ldI .u8 p7 h1 fun n8 =>
 nilC (.ptr x0) (
 isPt x0 (
 ldI .i64 (Pt.add x0 1) h1 fun n9 =>
 nilC (.ptr x0) (
 isPt x0 (
 st1 (Pt.add x0 1) (.int .i64 (w64 (n9 + (1)))) h1 fun h10 =>
 nz x1 (
 K (.int .i64 (Int.tmod (w64 ((w64 ((bitsOp .and .u64 (shrI .u64 n2 (33)) (16777215)))) + (w64 (n8)))) x1)) h10)))))))))
 else
 nz x1 (
 K (.int .i64 (Int.tmod (w64 ((bitsOp .and .u64 (shrI .u64 n2 (33)) (16777215)))) x1)) h1))))))))))))
theorem spec_l01Next_main_link (S : SatT) (K : AVal → H → Prop) (x0 : Pt) (x1 : Int) (h : H) : cwp S tab spec_l01Next_M [] (bodyOf Try.f122) (kFun tab Try.f122.results.toList K) (fr0 Try.f122 [.ptr x0, .int .i64 x1]) h = spec_l01Next_main S K x0 x1 h := by kernel_rfl
theorem spec_l01Next_call (x0 : Pt) (x1 : Int) (h : H) (K : Int → H → Prop) (hm : spec_l01Next_main (Sat Try.prog) (fun v h' => ∃ r, v = .int .i64 r ∧ K r h') x0 x1 h) : callI (Sat Try.prog) .i64 i_spec_l01Next [.ptr x0, .int .i64 x1] h K := by
  have := Sat.ex tok mixed spec_l01Next_M Try.func122 (c := bodyOf Try.f122) (by kernel_rfl) (calls_of Try.func122 (c := bodyOf Try.f122) (by kernel_rfl) (by decide)) ((spec_l01Next_main_link _ _ x0 x1 h).mpr hm)
  obtain ⟨v, h2, h3, r, rfl, h4⟩ := this; exact ⟨r, h2, h3, h4⟩

/-! ### loop.example/g01354/impl.StripSequence$3 -/
def impl_StripSequence_3_M : Nat → List Nat := fun i => []
def impl_StripSequence_3_main (S : SatT) (K : AVal → H → Prop) (x0 : Int) (x1 : Pt) (x2 : Pt) (x3 : Pt) (h : H) : Prop :=
 ldS x1 h fun s0 =>
 newS 1 1 [.int .i64 x0] h fun s1 h2 =>
(cell h2 x1 = cell h x1) ∧ (
 app s0 s1 1 h2 fun s3 h4 =>
 ldB x2 h4 fun b5 =>
(cell h2 x2 = cell h4 x2) ∧ (
(cell h x2 = cell h4 x2) ∧ (
 bif b5 then
 st1 x1 (.sl s3) h4 fun h6 =>
 st1 x2 (.bool (decide (x0 ≤ (1000000000000000)))) h6 fun h7 =>
 ldB x2 h7 fun b8 =>
 bif b8 then
 ldS x1 h7 fun s9 =>
 ldI .i64 x3 h7 fun n10 =>
 K (.bool (decide ((s9.len : Int) < n10))) h7
 else
 K (.bool false) h7
 else
 st1 x1 (.sl s3) h4 fun h11 =>
 st1 x2 (.bool false) h11 fun h12 =>
 ldB x2 h12 fun b13 =>
 bif b13 then
 ldS x1 h12 fun s14 =>
 ldI .i64 x3 h12 fun n15 =>
 K (.bool (decide ((s14.len : Int) < n15))) h12
 else
 K (.bool false) h12)))
theorem impl_StripSequence_3_main_link (S : SatT) (K : AVal → H → Prop) (x0 : Int) (x1 : Pt) (x2 : Pt) (x3 : Pt) (h : H) : cwp S tab impl_StripSequence_3_M [] (bodyOf Try.f71) (kFun tab Try.f71.results.toList K) (fr0 Try.f71 [.int .i64 x0, .ptr x1, .ptr x2, .ptr x3]) h = impl_StripSequence_3_main S K x0 x1 x2 x3 h := by kernel_rfl
theorem impl_StripSequence_3_call (x0 : Int) (x1 : Pt) (x2 : Pt) (x3 : Pt) (h : H) (K : Bool → H → Prop) (hm : impl_StripSequence_3_main (Sat Try.prog) (fun v h' => ∃ r, v = .bool r ∧ K r h') x0 x1 x2 x3 h) : callB (Sat Try.prog) i_impl_StripSequence_3 [.int .i64 x0, .ptr x1, .ptr x2, .ptr x3] h K := by
  have := Sat.ex tok mixed impl_StripSequence_3_M Try.func71 (c := bodyOf Try.f71) (by kernel_rfl) (calls_of Try.func71 (c := bodyOf Try.f71) (by kernel_rfl) (by decide)) ((impl_StripSequence_3_main_link _ _ x0 x1 x2 x3 h).mpr hm)
  obtain ⟨v, h2, h3, r, rfl, h4⟩ := this; exact ⟨r, h2, h3, h4⟩

/-! ### loop.example/g01354/spec.l06Code -/
def spec_l06Code_M : Nat → List Nat := fun i => []
def spec_l06Code_main (S : SatT) (K : AVal → H → Prop) (x0 : List AVal) (x1 : Int) (h : H) : Prop :=
 newK 2 x0 h fun p0 h1 =>
 ldA p0 2 h1 fun cs2 =>
 callB S i_spec_l01Is [.agg cs2] h1 fun b4 h3 =>
 bif (!b4) then
 K (.tuple [.sl Sl.nil, .int .i64 (1)]) h3
 else
 callB S i_spec_l01In [.int .i64 x1, .int .i64 (1), .int .i64 (4)] h3 fun b6 h5 =>
 bif (!b6) then
 K (.tuple [.sl Sl.nil, .int .i64 (2)]) h5
 else
 ldA p0 2 h5 fun cs7 =>
 callI S .i64 i_spec_l06Size [.agg cs7, .int .i64 x1] h5 fun n9 h8 =>
 bif (decide (n9 > (700))) then
 K (.tuple [.sl Sl.nil, .int .i64 (3)]) h8
 else
 ldA p0 2 h8 fun cs10 =>
 callV S i_spec_l06Columns [.agg cs10, .int .i64 x1] h8 fun v12 h11 =>
 viaT v12 fun vs13 =>
 exS vs13 0 fun s14 =>
 viaT v12 fun vs15 =>
 exB vs15 1 fun b16 =>
 bif (!b16) then
 K (.tuple [.sl Sl.nil, .int .i64 (3)]) h11
 else
 K (.tuple [.sl s14, .int .i64 (0)]) h11
theorem spec_l06Code_main_link (S : SatT) (K : AVal → H → Prop) (x0 : List AVal) (x1 : Int) (h : H) : cwp S tab spec_l06Code_M [] (bodyOf Try.f52) (kFun tab Try.f52.results.toList K) (fr0 Try.f52 [.agg x0, .int .i64 x1]) h = spec_l06Code_main S K x0 x1 h := by kernel_rfl
theorem spec_l06Code_call (x0 : List AVal) (x1 : Int) (h : H) (K : AVal → H → Prop) (hm : spec_l06Code_main (Sat Try.prog) (fun v h' => K v h') x0 x1 h) : callV (Sat Try.prog) i_spec_l06Code [.agg x0, .int .i64 x1] h K := by
  have := Sat.ex tok mixed spec_l06Code_M Try.func52 (c := bodyOf Try.f52) (by kernel_rfl) (calls_of Try.func52 (c := bodyOf Try.f52) (by kernel_rfl) (by decide)) ((spec_l06Code_main_link _ _ x0 x1 h).mpr hm)
  exact this

/-! ### loop.example/g01354/spec.l01DrawTile -/
def spec_l01DrawTile_M : Nat → List Nat := fun i => []
def spec_l01DrawTile_main (S : SatT) (K : AVal → H → Prop) (x0 : Pt) (x1 : Int) (h : H) : Prop :=
 newO [.int .i64 (0), .int .i64 (0), .int .i64 (0), .int .i64 (0)] h fun p0 h1 =>
 callI S .i64 i_spec_l01Next [.ptr x0, .int .i64 x1] h1 fun n3 h2 =>
 callI S .i64 i_spec_l01Next [.ptr x0, .int .i64 x1] h2 fun n5 h4 =>
 callI S .i64 i_spec_l01Next [.ptr x0, .int .i64 x1] h4 fun n7 h6 =>
 callI S .i64 i_spec_l01Next [.ptr x0, .int .i64 x1] h6 fun n9 h8 =>
 stN p0 4 [.int .i64 n3, .int .i64 n5, .int .i64 n7, .int .i64 n9] h8 fun h10 =>
 ldA p0 4 h10 fun cs11 =>
 K (.agg cs11) h10
theorem spec_l01DrawTile_main_link (S : SatT) (K : AVal → H → Prop) (x0 : Pt) (x1 : Int) (h : H) : cwp S tab spec_l01DrawTile_M [] (bodyOf Try.f138) (kFun tab Try.f138.results.toList K) (fr0 Try.f138 [.ptr x0, .int .i64 x1]) h = spec_l01DrawTile_main S K x0 x1 h := by kernel_rfl
theorem spec_l01DrawTile_call (x0 : Pt) (x1 : Int) (h : H) (K : List AVal → H → Prop) (hm : spec_l01DrawTile_main (Sat Try.prog) (fun v h' => ∃ r, v = .agg r ∧ K r h') x0 x1 h) : callA (Sat Try.prog) i_spec_l01DrawTile [.ptr x0, .int .i64 x1] h K := by
  have := Sat.ex tok mixed spec_l01DrawTile_M Try.func138 (c := bodyOf Try.f138) (by kernel_rfl) (calls_of Try.func138 (c := bodyOf Try.f138) (by kernel_rfl) (by decide)) ((spec_l01DrawTile_main_link _ _ x0 x1 h).mpr hm)
  obtain ⟨v, h2, h3, r, rfl, h4⟩ := this; exact ⟨r, h2, h3, h4⟩

/-! ### cmp.Compare[int64] -/
def cmp_Compare_int64__M : Nat → List Nat := fun i => []
def cmp_Compare_int64__main (S : SatT) (K : AVal → H → Prop) (x0 : Int) (x1 : Int) (h : H) : Prop :=
 callB S i_cmp_isNaN_int64_ [.int .i64 x0] h fun b1 h0 =>
 callB S i_cmp_isNaN_int64_ [.int .i64 x1] h0 fun b3 h2 =>
 bif b1 then
 bif b3 then
 K (.int .i64 (0)) h2
 else
 K (.int .i64 (-1)) h2
 else
 bif b3 then
 K (.int .i64 (1)) h2
 else
 bif (decide (x0 < x1)) then
 K (.int .i64 (-1)) h2
 else
 bif (decide (x0 > x1)) then
 K (.int .i64 (1)) h2
 else
 K (.int .i64 (0)) h2
theorem cmp_Compare_int64__main_link (S : SatT) (K : AVal → H → Prop) (x0 : Int) (x1 : Int) (h : H) : cwp S tab cmp_Compare_int64__M [] (bodyOf Try.f126) (kFun tab Try.f126.results.toList K) (fr0 Try.f126 [.int .i64 x0, .int .i64 x1]) h = cmp_Compare_int64__main S K x0 x1 h := by kernel_rfl
theorem cmp_Compare_int64__call (x0 : Int) (x1 : Int) (h : H) (K : Int → H → Prop) (hm : cmp_Compare_int64__main (Sat Try.prog) (fun v h' => ∃ r, v = .int .i64 r ∧ K r h') x0 x1 h) : callI (Sat Try.prog) .i64 i_cmp_Compare_int64_ [.int .i64 x0, .int .i64 x1] h K := by
  have := Sat.ex tok mixed cmp_Compare_int64__M Try.func126 (c := bodyOf Try.f126) (by kernel_rfl) (calls_of Try.func126 (c := bodyOf Try.f126) (by kernel_rfl) (by decide)) ((cmp_Compare_int64__main_link _ _ x0 x1 h).mpr hm)
  obtain ⟨v, h2, h3, r, rfl, h4⟩ := this; exact ⟨r, h2, h3, h4⟩

/-! ### loop.example/g01354/impl.IsMixing -/
def impl_IsMixing_M : Nat → List Nat := fun i => []
def impl_IsMixing_main (S : SatT) (K : AVal → H → Prop) (x0 : List AVal) (x1 : Int) (h : H) : Prop :=
 newK 2 x0 h fun p0 h1 =>
 ldA p0 2 h1 fun cs2 =>
 callV S i_impl_lastingOf [.agg cs2, .int .i64 x1] h1 fun v4 h3 =>
 viaT v4 fun vs5 =>
 exP vs5 0 fun p6 =>
 viaT v4 fun vs7 =>
 exS vs7 1 fun s8 =>
 viaT v4 fun vs9 =>
 exS vs9 2 fun s10 =>
 viaT v4 fun vs11 =>
 exI .i64 vs11 3 fun n12 =>
 bif (n12 != (0)) then
 K (.tuple [.bool false, .int .i64 n12]) h3
 else
 callI S .i64 i_impl_period [.sl s10] h3 fun n14 h13 =>
 K (.tuple [.bool (n14 == (1)), .int .i64 (0)]) h13
theorem impl_IsMixing_main_link (S : SatT) (K : AVal → H → Prop) (x0 : List AVal) (x1 : Int) (h : H) : cwp S tab impl_IsMixing_M [] (bodyOf Try.f39) (kFun tab Try.f39.results.toList K) (fr0 Try.f39 [.agg x0, .int .i64 x1]) h = impl_IsMixing_main S K x0 x1 h := by kernel_rfl
theorem impl_IsMixing_call (x0 : List AVal) (x1 : Int) (h : H) (K : AVal → H → Prop) (hm : impl_IsMixing_main (Sat Try.prog) (fun v h' => K v h') x0 x1 h) : callV (Sat Try.prog) i_impl_IsMixing [.agg x0, .int .i64 x1] h K := by
  have := Sat.ex tok mixed impl_IsMixing_M Try.func39 (c := bodyOf Try.f39) (by kernel_rfl) (calls_of Try.func39 (c := bodyOf Try.f39) (by kernel_rfl) (by decide)) ((impl_IsMixing_main_link _ _ x0 x1 h).mpr hm)
  exact this

/-! ### loop.example/g01354/spec.DrawCountColumns -/
def spec_DrawCountColumns_M : Nat → List Nat := fun i => []
def spec_DrawCountColumns_main (S : SatT) (K : AVal → H → Prop) (x0 : Sl) (h : H) : Prop :=
 newO [.int .i64 (0), .sl Sl.nil] h fun p0 h1 =>
 callP S i_spec_l01From [.sl x0] h1 fun p3 h2 =>
 callV S i_spec_l06Draw [.ptr p3] h2 fun v5 h4 =>
 viaT v5 fun vs6 =>
 exA vs6 0 fun cs7 =>
 viaT v5 fun vs8 =>
 exI .i64 vs8 1 fun n9 =>
 newO [.int .i64 (0), .sl Sl.nil] h4 fun p10 h11 =>
 stN p10 2 cs7 h11 fun h12 =>
 ldA p10 2 h12 fun cs13 =>
 stN p0 2 cs13 h12 fun h14 =>
 ldA p0 2 h14 fun cs15 =>
 K (.tuple [.agg cs15, .int .i64 n9]) h14
theorem spec_DrawCountColumns_main_link (S : SatT) (K : AVal → H → Prop) (x0 : Sl) (h : H) : cwp S tab spec_DrawCountColumns_M [] (bodyOf Try.f84) (kFun tab Try.f84.results.toList K) (fr0 Try.f84 [.sl x0]) h = spec_DrawCountColumns_main S K x0 h := by kernel_rfl
theorem spec_DrawCountColumns_call (x0 : Sl) (h : H) (K : AVal → H → Prop) (hm : spec_DrawCountColumns_main (Sat Try.prog) (fun v h' => K v h') x0 h) : callV (Sat Try.prog) i_spec_DrawCountColumns [.sl x0] h K := by
  have := Sat.ex tok mixed spec_DrawCountColumns_M Try.func84 (c := bodyOf Try.f84) (by kernel_rfl) (calls_of Try.func84 (c := bodyOf Try.f84) (by kernel_rfl) (by decide)) ((spec_DrawCountColumns_main_link _ _ x0 h).mpr hm)
  exact this

/-! ### loop.example/g01354/spec.DrawStripSequence -/
def spec_DrawStripSequence_M : Nat → List Nat := fun i => []
def spec_DrawStripSequence_main (S : SatT) (K : AVal → H → Prop) (x0 : Sl) (h : H) : Prop :=
 newO [.int .i64 (0), .sl Sl.nil] h fun p0 h1 =>
 callV S i_spec_l06With [.sl x0] h1 fun v3 h2 =>
 viaT v3 fun vs4 =>
 exA vs4 0 fun cs5 =>
 viaT v3 fun vs6 =>
 exI .i64 vs6 1 fun n7 =>
 viaT v3 fun vs8 =>
 exI .i64 vs8 2 fun n9 =>
 stN p0 2 cs5 h2 fun h10 =>
 ldA p0 2 h10 fun cs11 =>
 K (.tuple [.agg cs11, .int .i64 n7, .int .i64 n9]) h10
theorem spec_DrawStripSequence_main_link (S : SatT) (K : AVal → H → Prop) (x0 : Sl) (h : H) : cwp S tab spec_DrawStripSequence_M [] (bodyOf Try.f45) (kFun tab Try.f45.results.toList K) (fr0 Try.f45 [.sl x0]) h = spec_DrawStripSequence_main S K x0 h := by kernel_rfl
theorem spec_DrawStripSequence_call (x0 : Sl) (h : H) (K : AVal → H → Prop) (hm : spec_DrawStripSequence_main (Sat Try.prog) (fun v h' => K v h') x0 h) : callV (Sat Try.prog) i_spec_DrawStripSequence [.sl x0] h K := by
  have := Sat.ex tok mixed spec_DrawStripSequence_M Try.func45 (c := bodyOf Try.f45) (by kernel_rfl) (calls_of Try.func45 (c := bodyOf Try.f45) (by kernel_rfl) (by decide)) ((spec_DrawStripSequence_main_link _ _ x0 h).mpr hm)
  exact this

/-! ### loop.example/g01354/impl.compare -/
def impl_compare_M : Nat → List Nat := fun i => []
def impl_compare_main (S : SatT) (K : AVal → H → Prop) (x0 : List AVal) (x1 : List AVal) (h : H) : Prop :=
 newK 4 x0 h fun p0 h1 =>
 newK 4 x1 h1 fun p2 h3 =>
 cutA p0 4 1 (0) ((4 : Nat) : Int) fun s4 =>
 cutA p2 4 1 (0) ((4 : Nat) : Int) fun s5 =>
 callI S .i64 i_slices_Compare_s_int64_int64_ [.sl s4, .sl s5] h3 fun n7 h6 =>
 K (.int .i64 n7) h6
theorem impl_compare_main_link (S : SatT) (K : AVal → H → Prop) (x0 : List AVal) (x1 : List AVal) (h : H) : cwp S tab impl_compare_M [] (bodyOf Try.f97) (kFun tab Try.f97.results.toList K) (fr0 Try.f97 [.agg x0, .agg x1]) h = impl_compare_main S K x0 x1 h := by kernel_rfl
theorem impl_compare_call (x0 : List AVal) (x1 : List AVal) (h : H) (K : Int → H → Prop) (hm : impl_compare_main (Sat Try.prog) (fun v h' => ∃ r, v = .int .i64 r ∧ K r h') x0 x1 h) : callI (Sat Try.prog) .i64 i_impl_compare [.agg x0, .agg x1] h K := by
  have := Sat.ex tok mixed impl_compare_M Try.func97 (c := bodyOf Try.f97) (by kernel_rfl) (calls_of Try.func97 (c := bodyOf Try.f97) (by kernel_rfl) (by decide)) ((impl_compare_main_link _ _ x0 x1 h).mpr hm)
  obtain ⟨v, h2, h3, r, rfl, h4⟩ := this; exact ⟨r, h2, h3, h4⟩

/-! ### math/bits.Mul32 -/
def math_bits_Mul32_M : Nat → List Nat := fun i => []
def math_bits_Mul32_main (S : SatT) (K : AVal → H → Prop) (x0 : Int) (x1 : Int) (h : H) : Prop :=
 nn (32) (
 K (.tuple [.int .u32 (IntKind.wrap .u32 ((shrI .u64 (IntKind.wrap .u64 ((IntKind.wrap .u64 (x0)) * (IntKind.wrap .u64 (x1)))) (32)))), .int .u32 (IntKind.wrap .u32 ((IntKind.wrap .u64 ((IntKind.wrap .u64 (x0)) * (IntKind.wrap .u64 (x1))))))]) h)
theorem math_bits_Mul32_main_link (S : SatT) (K : AVal → H → Prop) (x0 : Int) (x1 : Int) (h : H) : cwp S tab math_bits_Mul32_M [] (bodyOf Try.f127) (kFun tab Try.f127.results.toList K) (fr0 Try.f127 [.int .u32 x0, .int .u32 x1]) h = math_bits_Mul32_main S K x0 x1 h := by kernel_rfl
theorem math_bits_Mul32_call (x0 : Int) (x1 : Int) (h : H) (K : AVal → H → Prop) (hm : math_bits_Mul32_main (Sat Try.prog) (fun v h' => K v h') x0 x1 h) : callV (Sat Try.prog) i_math_bits_Mul32 [.int .u32 x0, .int .u32 x1] h K := by
  have := Sat.ex tok mixed math_bits_Mul32_M Try.func127 (c := bodyOf Try.f127) (by kernel_rfl) (calls_of Try.func127 (c := bodyOf Try.f127) (by kernel_rfl) (by decide)) ((math_bits_Mul32_main_link _ _ x0 x1 h).mpr hm)
  exact this

/-! ### loop.example/g01354/laws.markSet -/
def laws_markSet_M : Nat → List Nat := fun i => []
def laws_markSet_main (S : SatT) (K : AVal → H → Prop) (x0 : List AVal) (x1 : Int) (h : H) : Prop :=
 newK 2 x0 h fun p0 h1 =>
 isPt p0 (
 ldS (Pt.add p0 1) h1 fun s2 =>
 callI S .i64 i_laws_markTileS [.sl s2, .int .i64 x1] h1 fun n4 h3 =>
 K (.int .i64 n4) h3)
theorem laws_markSet_main_link (S : SatT) (K : AVal → H → Prop) (x0 : List AVal) (x1 : Int) (h : H) : cwp S tab laws_markSet_M [] (bodyOf Try.f22) (kFun tab Try.f22.results.toList K) (fr0 Try.f22 [.agg x0, .int .i64 x1]) h = laws_markSet_main S K x0 x1 h := by kernel_rfl
theorem laws_markSet_call (x0 : List AVal) (x1 : Int) (h : H) (K : Int → H → Prop) (hm : laws_markSet_main (Sat Try.prog) (fun v h' => ∃ r, v = .int .i64 r ∧ K r h') x0 x1 h) : callI (Sat Try.prog) .i64 i_laws_markSet [.agg x0, .int .i64 x1] h K := by
  have := Sat.ex tok mixed laws_markSet_M Try.func22 (c := bodyOf Try.f22) (by kernel_rfl) (calls_of Try.func22 (c := bodyOf Try.f22) (by kernel_rfl) (by decide)) ((laws_markSet_main_link _ _ x0 x1 h).mpr hm)
  obtain ⟨v, h2, h3, r, rfl, h4⟩ := this; exact ⟨r, h2, h3, h4⟩

/-! ### loop.example/g01354/spec.l01In -/
def spec_l01In_M : Nat → List Nat := fun i => []
def spec_l01In_main (S : SatT) (K : AVal → H → Prop) (x0 : Int) (x1 : Int) (x2 : Int) (h : H) : Prop :=
 bif (decide (x0 ≥ x1)) then
 K (.bool (decide (x0 ≤ x2))) h
 else
 K (.bool false) h
theorem spec_l01In_main_link (S : SatT) (K : AVal → H → Prop) (x0 : Int) (x1 : Int) (x2 : Int) (h : H) : cwp S tab spec_l01In_M [] (bodyOf Try.f61) (kFun tab Try.f61.results.toList K) (fr0 Try.f61 [.int .i64 x0, .int .i64 x1, .int .i64 x2]) h = spec_l01In_main S K x0 x1 x2 h := by kernel_rfl
theorem spec_l01In_call (x0 : Int) (x1 : Int) (x2 : Int) (h : H) (K : Bool → H → Prop) (hm : spec_l01In_main (Sat Try.prog) (fun v h' => ∃ r, v = .bool r ∧ K r h') x0 x1 x2 h) : callB (Sat Try.prog) i_spec_l01In [.int .i64 x0, .int .i64 x1, .int .i64 x2] h K := by
  have := Sat.ex tok mixed spec_l01In_M Try.func61 (c := bodyOf Try.f61) (by kernel_rfl) (calls_of Try.func61 (c := bodyOf Try.f61) (by kernel_rfl) (by decide)) ((spec_l01In_main_link _ _ x0 x1 x2 h).mpr hm)
  obtain ⟨v, h2, h3, r, rfl, h4⟩ := this; exact ⟨r, h2, h3, h4⟩

/-! ### loop.example/g01354/impl.StripSequence$2 -/
def impl_StripSequence_2_M : Nat → List Nat := fun i => []
def impl_StripSequence_2_main (S : SatT) (K : AVal → H → Prop) (x0 : Int) (h : H) : Prop :=
 K (.int .i64 (mnI x0 (1000000000000001))) h
theorem impl_StripSequence_2_main_link (S : SatT) (K : AVal → H → Prop) (x0 : Int) (h : H) : cwp S tab impl_StripSequence_2_M [] (bodyOf Try.f70) (kFun tab Try.f70.results.toList K) (fr0 Try.f70 [.int .i64 x0]) h = impl_StripSequence_2_main S K x0 h := by kernel_rfl
theorem impl_StripSequence_2_call (x0 : Int) (h : H) (K : Int → H → Prop) (hm : impl_StripSequence_2_main (Sat Try.prog) (fun v h' => ∃ r, v = .int .i64 r ∧ K r h') x0 h) : callI (Sat Try.prog) .i64 i_impl_StripSequence_2 [.int .i64 x0] h K := by
  have := Sat.ex tok mixed impl_StripSequence_2_M Try.func70 (c := bodyOf Try.f70) (by kernel_rfl) (calls_of Try.func70 (c := bodyOf Try.f70) (by kernel_rfl) (by decide)) ((impl_StripSequence_2_main_link _ _ x0 h).mpr hm)
  obtain ⟨v, h2, h3, r, rfl, h4⟩ := this; exact ⟨r, h2, h3, h4⟩

/-! ### loop.example/g01354/impl.at -/
def impl_at_M : Nat → List Nat := fun i => []
def impl_at_main (S : SatT) (K : AVal → H → Prop) (x0 : Sl) (x1 : Int) (h : H) : Prop :=
 bif (decide (x1 < (0))) then
 K (.int .i64 (0)) h
 else
 ixS x0 1 x1 fun p0 =>
 ldI .i64 p0 h fun n1 =>
 K (.int .i64 n1) h
theorem impl_at_main_link (S : SatT) (K : AVal → H → Prop) (x0 : Sl) (x1 : Int) (h : H) : cwp S tab impl_at_M [] (bodyOf Try.f105) (kFun tab Try.f105.results.toList K) (fr0 Try.f105 [.sl x0, .int .i64 x1]) h = impl_at_main S K x0 x1 h := by kernel_rfl
theorem impl_at_call (x0 : Sl) (x1 : Int) (h : H) (K : Int → H → Prop) (hm : impl_at_main (Sat Try.prog) (fun v h' => ∃ r, v = .int .i64 r ∧ K r h') x0 x1 h) : callI (Sat Try.prog) .i64 i_impl_at [.sl x0, .int .i64 x1] h K := by
  have := Sat.ex tok mixed impl_at_M Try.func105 (c := bodyOf Try.f105) (by kernel_rfl) (calls_of Try.func105 (c := bodyOf Try.f105) (by kernel_rfl) (by decide)) ((impl_at_main_link _ _ x0 x1 h).mpr hm)
  obtain ⟨v, h2, h3, r, rfl, h4⟩ := this; exact ⟨r, h2, h3, h4⟩

/-! ### loop.example/g01354/spec.l01Own -/
def spec_l01Own_M : Nat → List Nat := fun i => []
def spec_l01Own_main (S : SatT) (K : AVal → H → Prop) (x0 : Sl) (h : H) : Prop :=
 newS 0 1 [] h fun s0 h1 =>
 app s0 x0 1 h1 fun s2 h3 =>
 K (.sl s2) h3
theorem spec_l01Own_main_link (S : SatT) (K : AVal → H → Prop) (x0 : Sl) (h : H) : cwp S tab spec_l01Own_M [] (bodyOf Try.f103) (kFun tab Try.f103.results.toList K) (fr0 Try.f103 [.sl x0]) h = spec_l01Own_main S K x0 h := by kernel_rfl
theorem spec_l01Own_call (x0 : Sl) (h : H) (K : Sl → H → Prop) (hm : spec_l01Own_main (Sat Try.prog) (fun v h' => ∃ r, v = .sl r ∧ K r h') x0 h) : callS (Sat Try.prog) i_spec_l01Own [.sl x0] h K := by
  have := Sat.ex tok mixed spec_l01Own_M Try.func103 (c := bodyOf Try.f103) (by kernel_rfl) (calls_of Try.func103 (c := bodyOf Try.f103) (by kernel_rfl) (by decide)) ((spec_l01Own_main_link _ _ x0 h).mpr hm)
  obtain ⟨v, h2, h3, r, rfl, h4⟩ := this; exact ⟨r, h2, h3, h4⟩

end Go.Proofs.Ytdmhchgaeepdmaa.Cl
