/- Typed forms of functions, and their links. No claim is stated here. -/
import Derived.Test.YtgeakkmpohjohaaFT
/- Typed forms of functions of the program, and their links. Printed by program. No claim is stated here. -/
set_option linter.unusedVariables false
namespace Go.Proofs.Ytgeakkmpohjohaa.Cl
open Go
/-! ### loop.example/g01354/impl.newFiller -/
def impl_newFiller_M : Nat → List Nat := fun i => bif i == 12 then [3, 7, 8, 17, 18, 176, 177, 178, 200, 201] else bif i == 10 then [3, 7, 8, 17, 176, 177, 178] else bif i == 8 then [3, 7, 8, 17] else bif i == 6 then [3, 7, 8, 10, 11, 12, 13, 90, 91, 102, 103, 104, 111, 112] else bif i == 4 then [3, 7, 8, 10, 11, 90, 91, 102, 103, 104] else bif i == 2 then [3, 7, 8, 90, 91] else bif i == 0 then [3, 7, 32, 33] else []
def impl_newFiller_ks2 (S : SatT) (K : AVal → H → Prop) : Kont := kSeq (cwp S tab impl_newFiller_M [] (sub [1, 1, 1] (bodyOf Try.f30)) (kFun tab (Try.f30).results.toList K)) (kFun tab (Try.f30).results.toList K)
def impl_newFiller_e0 (p3_ : Pt) (p7_ : Pt) (i32_ : Int) (i33_ : Int) : Frame := [U, U, U, .ptr p3_, U, U, U, .ptr p7_, U, U, U, U, U, U, U, U, U, U, U, U, U, U, U, U, U, U, U, U, U, U, U, U, .int .i64 i32_, .int .i64 i33_, U, U, U, U, U, U, U, U, U, U, U, U, U, U, U, U, U, U, U, U, U, U, U, U, U, U, U, U, U, U, U, U, U, U, U, U, U, U, U, U, U, U, U, U, U, U, U, U, U, U, U, U, U, U, U, U, U, U, U, U, U, U, U, U, U, U, U, U, U, U, U, U, U, U, U, U, U, U, U, U, U, U, U, U, U, U, U, U, U, U, U, U, U, U, U, U, U, U, U, U, U, U, U, U, U, U, U, U, U, U, U, U, U, U, U, U, U, U, U, U, U, U, U, U, U, U, U, U, U, U, U, U, U, U, U, U, U, U, U, U, U, U, U, U, U, U, U, U, U, U, U, U, U, U, U, U, U, U, U, U, U, U, U, U, U, U, U, U, U, U, U, U, U, U, U, U, U, U, U, U, U, U, U, U, U, U, U, U, U, U, U, U, U, U, U, U, U, U, U, U, U, U, U, U, U, U, U, U, U, U, U, U, U, U, U, U, U, U, U, U]
def impl_newFiller_w0 (S : SatT) (K : AVal → H → Prop) : (Frame → H → Prop) → Frame → H → Prop := fun X fr h => cwp S tab impl_newFiller_M (impl_newFiller_M 0) (sub [1, 1, 0, 1, 0, 0] (bodyOf Try.f30)) (kSeq (fun fr h => X (mask (impl_newFiller_M 0) fr) h) (kBlk 0 (impl_newFiller_ks2 S K))) fr h
def impl_newFiller_L0 (S : SatT) (K : AVal → H → Prop) (p3_ : Pt) (p7_ : Pt) (i32_ : Int) (i33_ : Int) (h : H) : Prop := loopK (impl_newFiller_w0 S K) (impl_newFiller_e0 p3_ p7_ i32_ i33_) h
def impl_newFiller_ks11 (S : SatT) (K : AVal → H → Prop) : Kont := kSeq (cwp S tab impl_newFiller_M [] (sub [1, 1, 1, 1, 1, 1, 1, 1] (bodyOf Try.f30)) (kFun tab (Try.f30).results.toList K)) (kFun tab (Try.f30).results.toList K)
def impl_newFiller_e2 (p3_ : Pt) (p7_ : Pt) (i8_ : Int) (i90_ : Int) (i91_ : Int) : Frame := [U, U, U, .ptr p3_, U, U, U, .ptr p7_, .int .i64 i8_, U, U, U, U, U, U, U, U, U, U, U, U, U, U, U, U, U, U, U, U, U, U, U, U, U, U, U, U, U, U, U, U, U, U, U, U, U, U, U, U, U, U, U, U, U, U, U, U, U, U, U, U, U, U, U, U, U, U, U, U, U, U, U, U, U, U, U, U, U, U, U, U, U, U, U, U, U, U, U, U, U, .int .i64 i90_, .int .i64 i91_, U, U, U, U, U, U, U, U, U, U, U, U, U, U, U, U, U, U, U, U, U, U, U, U, U, U, U, U, U, U, U, U, U, U, U, U, U, U, U, U, U, U, U, U, U, U, U, U, U, U, U, U, U, U, U, U, U, U, U, U, U, U, U, U, U, U, U, U, U, U, U, U, U, U, U, U, U, U, U, U, U, U, U, U, U, U, U, U, U, U, U, U, U, U, U, U, U, U, U, U, U, U, U, U, U, U, U, U, U, U, U, U, U, U, U, U, U, U, U, U, U, U, U, U, U, U, U, U, U, U, U, U, U, U, U, U, U, U, U, U, U, U, U, U, U, U, U, U, U, U, U, U, U, U, U, U, U, U, U, U, U, U]
def impl_newFiller_w2 (S : SatT) (K : AVal → H → Prop) : (Frame → H → Prop) → Frame → H → Prop := fun X fr h => cwp S tab impl_newFiller_M (impl_newFiller_M 2) (sub [1, 1, 1, 1, 1, 1, 1, 0, 1, 0, 0] (bodyOf Try.f30)) (kSeq (fun fr h => X (mask (impl_newFiller_M 2) fr) h) (kBlk 2 (impl_newFiller_ks11 S K))) fr h
def impl_newFiller_L2 (S : SatT) (K : AVal → H → Prop) (p3_ : Pt) (p7_ : Pt) (i8_ : Int) (i90_ : Int) (i91_ : Int) (h : H) : Prop := loopK (impl_newFiller_w2 S K) (impl_newFiller_e2 p3_ p7_ i8_ i90_ i91_) h
def impl_newFiller_ks15 (S : SatT) (K : AVal → H → Prop) (X2 : Frame → H → Prop) : Kont := kSeq (cwp S tab impl_newFiller_M (impl_newFiller_M 2) (sub [1, 1, 1, 1, 1, 1, 1, 0, 1, 0, 0, 1, 1, 1] (bodyOf Try.f30)) (kSeq (fun fr h => X2 (mask (impl_newFiller_M 2) fr) h) (kBlk 2 (impl_newFiller_ks11 S K)))) (kSeq (fun fr h => X2 (mask (impl_newFiller_M 2) fr) h) (kBlk 2 (impl_newFiller_ks11 S K)))
def impl_newFiller_ks18 (S : SatT) (K : AVal → H → Prop) (X2 : Frame → H → Prop) : Kont := kSeq (cwp S tab impl_newFiller_M (impl_newFiller_M 3) (sub [1, 1, 1, 1, 1, 1, 1, 0, 1, 0, 0, 1, 1, 0, 0, 1, 1, 1] (bodyOf Try.f30)) (kBlk 3 (impl_newFiller_ks15 S K X2))) (kBlk 3 (impl_newFiller_ks15 S K X2))
def impl_newFiller_e4 (p3_ : Pt) (p7_ : Pt) (i8_ : Int) (i10_ : Int) (s11_ : Sl) (i90_ : Int) (i91_ : Int) (s102_ : Sl) (i103_ : Int) (i104_ : Int) : Frame := [U, U, U, .ptr p3_, U, U, U, .ptr p7_, .int .i64 i8_, U, .int .i64 i10_, .sl s11_, U, U, U, U, U, U, U, U, U, U, U, U, U, U, U, U, U, U, U, U, U, U, U, U, U, U, U, U, U, U, U, U, U, U, U, U, U, U, U, U, U, U, U, U, U, U, U, U, U, U, U, U, U, U, U, U, U, U, U, U, U, U, U, U, U, U, U, U, U, U, U, U, U, U, U, U, U, U, .int .i64 i90_, .int .i64 i91_, U, U, U, U, U, U, U, U, U, U, .sl s102_, .int .i64 i103_, .int .i64 i104_, U, U, U, U, U, U, U, U, U, U, U, U, U, U, U, U, U, U, U, U, U, U, U, U, U, U, U, U, U, U, U, U, U, U, U, U, U, U, U, U, U, U, U, U, U, U, U, U, U, U, U, U, U, U, U, U, U, U, U, U, U, U, U, U, U, U, U, U, U, U, U, U, U, U, U, U, U, U, U, U, U, U, U, U, U, U, U, U, U, U, U, U, U, U, U, U, U, U, U, U, U, U, U, U, U, U, U, U, U, U, U, U, U, U, U, U, U, U, U, U, U, U, U, U, U, U, U, U, U, U, U, U, U, U, U, U, U, U, U, U, U, U, U, U, U, U, U, U, U]
def impl_newFiller_w4 (S : SatT) (K : AVal → H → Prop) (X2 : Frame → H → Prop) : (Frame → H → Prop) → Frame → H → Prop := fun X fr h => cwp S tab impl_newFiller_M (impl_newFiller_M 4) (sub [1, 1, 1, 1, 1, 1, 1, 0, 1, 0, 0, 1, 1, 0, 0, 1, 1, 0, 1, 0, 0] (bodyOf Try.f30)) (kSeq (fun fr h => X (mask (impl_newFiller_M 4) fr) h) (kBlk 4 (impl_newFiller_ks18 S K X2))) fr h
def impl_newFiller_L4 (S : SatT) (K : AVal → H → Prop) (X2 : Frame → H → Prop) (p3_ : Pt) (p7_ : Pt) (i8_ : Int) (i10_ : Int) (s11_ : Sl) (i90_ : Int) (i91_ : Int) (s102_ : Sl) (i103_ : Int) (i104_ : Int) (h : H) : Prop := loopK (impl_newFiller_w4 S K X2) (impl_newFiller_e4 p3_ p7_ i8_ i10_ s11_ i90_ i91_ s102_ i103_ i104_) h
def impl_newFiller_ks22 (S : SatT) (K : AVal → H → Prop) (X2 : Frame → H → Prop) (X4 : Frame → H → Prop) : Kont := kSeq (cwp S tab impl_newFiller_M (impl_newFiller_M 4) (sub [1, 1, 1, 1, 1, 1, 1, 0, 1, 0, 0, 1, 1, 0, 0, 1, 1, 0, 1, 0, 0, 1, 1, 1] (bodyOf Try.f30)) (kSeq (fun fr h => X4 (mask (impl_newFiller_M 4) fr) h) (kBlk 4 (impl_newFiller_ks18 S K X2)))) (kSeq (fun fr h => X4 (mask (impl_newFiller_M 4) fr) h) (kBlk 4 (impl_newFiller_ks18 S K X2)))
def impl_newFiller_e6 (p3_ : Pt) (p7_ : Pt) (i8_ : Int) (i10_ : Int) (s11_ : Sl) (i12_ : Int) (i13_ : Int) (i90_ : Int) (i91_ : Int) (s102_ : Sl) (i103_ : Int) (i104_ : Int) (i111_ : Int) (i112_ : Int) : Frame := [U, U, U, .ptr p3_, U, U, U, .ptr p7_, .int .i64 i8_, U, .int .i64 i10_, .sl s11_, .int .i64 i12_, .int .i64 i13_, U, U, U, U, U, U, U, U, U, U, U, U, U, U, U, U, U, U, U, U, U, U, U, U, U, U, U, U, U, U, U, U, U, U, U, U, U, U, U, U, U, U, U, U, U, U, U, U, U, U, U, U, U, U, U, U, U, U, U, U, U, U, U, U, U, U, U, U, U, U, U, U, U, U, U, U, .int .i64 i90_, .int .i64 i91_, U, U, U, U, U, U, U, U, U, U, .sl s102_, .int .i64 i103_, .int .i64 i104_, U, U, U, U, U, U, .int .i64 i111_, .int .i64 i112_, U, U, U, U, U, U, U, U, U, U, U, U, U, U, U, U, U, U, U, U, U, U, U, U, U, U, U, U, U, U, U, U, U, U, U, U, U, U, U, U, U, U, U, U, U, U, U, U, U, U, U, U, U, U, U, U, U, U, U, U, U, U, U, U, U, U, U, U, U, U, U, U, U, U, U, U, U, U, U, U, U, U, U, U, U, U, U, U, U, U, U, U, U, U, U, U, U, U, U, U, U, U, U, U, U, U, U, U, U, U, U, U, U, U, U, U, U, U, U, U, U, U, U, U, U, U, U, U, U, U, U, U, U, U, U, U, U, U, U, U, U]
def impl_newFiller_w6 (S : SatT) (K : AVal → H → Prop) (X2 : Frame → H → Prop) (X4 : Frame → H → Prop) : (Frame → H → Prop) → Frame → H → Prop := fun X fr h => cwp S tab impl_newFiller_M (impl_newFiller_M 6) (sub [1, 1, 1, 1, 1, 1, 1, 0, 1, 0, 0, 1, 1, 0, 0, 1, 1, 0, 1, 0, 0, 1, 1, 0, 0, 1, 1, 0, 0] (bodyOf Try.f30)) (kSeq (fun fr h => X (mask (impl_newFiller_M 6) fr) h) (kBlk 6 (kBlk 5 (impl_newFiller_ks22 S K X2 X4)))) fr h
def impl_newFiller_L6 (S : SatT) (K : AVal → H → Prop) (X2 : Frame → H → Prop) (X4 : Frame → H → Prop) (p3_ : Pt) (p7_ : Pt) (i8_ : Int) (i10_ : Int) (s11_ : Sl) (i12_ : Int) (i13_ : Int) (i90_ : Int) (i91_ : Int) (s102_ : Sl) (i103_ : Int) (i104_ : Int) (i111_ : Int) (i112_ : Int) (h : H) : Prop := loopK (impl_newFiller_w6 S K X2 X4) (impl_newFiller_e6 p3_ p7_ i8_ i10_ s11_ i12_ i13_ i90_ i91_ s102_ i103_ i104_ i111_ i112_) h
def impl_newFiller_C5 (S : SatT) (K : AVal → H → Prop) (X2 : Frame → H → Prop) (X4 : Frame → H → Prop) (p3_ : Pt) (p7_ : Pt) (i8_ : Int) (i10_ : Int) (s11_ : Sl) (i90_ : Int) (i91_ : Int) (s102_ : Sl) (i103_ : Int) (i104_ : Int) (h : H) : Prop :=
 X4 (impl_newFiller_e4 p3_ p7_ i8_ i10_ s11_ i90_ i91_ s102_ i103_ (w64 (i104_ + (1)))) h
def impl_newFiller_C6 (S : SatT) (K : AVal → H → Prop) (X2 : Frame → H → Prop) (X4 : Frame → H → Prop) (p3_ : Pt) (p7_ : Pt) (i8_ : Int) (i10_ : Int) (s11_ : Sl) (i90_ : Int) (i91_ : Int) (s102_ : Sl) (i103_ : Int) (i104_ : Int) (h : H) : Prop :=
 impl_newFiller_C5 S K X2 X4 p3_ p7_ i8_ i10_ s11_ i90_ i91_ s102_ i103_ i104_ h
def impl_newFiller_b6 (S : SatT) (K : AVal → H → Prop) (X2 : Frame → H → Prop) (X4 : Frame → H → Prop) (X6 : Frame → H → Prop) (p3_ : Pt) (p7_ : Pt) (i8_ : Int) (i10_ : Int) (s11_ : Sl) (i12_ : Int) (i13_ : Int) (i90_ : Int) (i91_ : Int) (s102_ : Sl) (i103_ : Int) (i104_ : Int) (i111_ : Int) (i112_ : Int) (h : H) : Prop :=
 bif (decide (i112_ < i111_)) then
 bif (i13_ == (0)) then
 impl_newFiller_C6 S K X2 X4 p3_ p7_ i8_ i10_ s11_ i90_ i91_ s102_ i103_ i104_ h
 else
 callV S i_impl_filler_fits [.ptr p7_, .int .i64 i10_, .int .i64 i12_, .int .i64 i112_] h fun v1 h0 =>
 viaT v1 fun vs2 =>
 exI .i64 vs2 0 fun n3 =>
 viaT v1 fun vs4 =>
 exB vs4 1 fun b5 =>
 bif b5 then
 ixS s11_ 1 n3 fun p6 =>
 ldI .i64 p6 h0 fun n7 =>
 ixS s11_ 1 n3 fun p8 =>
 st1 p8 (.int .i64 (mnI (1000000000000001) (w64 (n7 + i13_)))) h0 fun h9 =>
 X6 (impl_newFiller_e6 p3_ p7_ i8_ i10_ s11_ i12_ i13_ i90_ i91_ s102_ i103_ i104_ i111_ (w64 (i112_ + (1)))) h9
 else
 X6 (impl_newFiller_e6 p3_ p7_ i8_ i10_ s11_ i12_ i13_ i90_ i91_ s102_ i103_ i104_ i111_ (w64 (i112_ + (1)))) h0
 else
 impl_newFiller_C6 S K X2 X4 p3_ p7_ i8_ i10_ s11_ i90_ i91_ s102_ i103_ i104_ h
theorem impl_newFiller_link6 (S : SatT) (K : AVal → H → Prop) (X2 : Frame → H → Prop) (X4 : Frame → H → Prop) (X6 : Frame → H → Prop) (p3_ : Pt) (p7_ : Pt) (i8_ : Int) (i10_ : Int) (s11_ : Sl) (i12_ : Int) (i13_ : Int) (i90_ : Int) (i91_ : Int) (s102_ : Sl) (i103_ : Int) (i104_ : Int) (i111_ : Int) (i112_ : Int) (h : H) : impl_newFiller_w6 S K X2 X4 X6 (impl_newFiller_e6 p3_ p7_ i8_ i10_ s11_ i12_ i13_ i90_ i91_ s102_ i103_ i104_ i111_ i112_) h = impl_newFiller_b6 S K X2 X4 X6 p3_ p7_ i8_ i10_ s11_ i12_ i13_ i90_ i91_ s102_ i103_ i104_ i111_ i112_ h := by kernel_rfl
theorem impl_newFiller_rule6 (S : SatT) (K : AVal → H → Prop) (X2 : Frame → H → Prop) (X4 : Frame → H → Prop) (p3_ : Pt) (p7_ : Pt) (i8_ : Int) (i10_ : Int) (s11_ : Sl) (i12_ : Int) (i13_ : Int) (i90_ : Int) (i91_ : Int) (s102_ : Sl) (i103_ : Int) (i104_ : Int) (i111_ : Int) (I_ : Int → H → Prop) (m_ : Int → H → Nat)
    (hs : ∀ (X6 : Frame → H → Prop) (i112_ : Int) (h : H), I_ i112_ h → (∀ (i112_' : Int) (h' : H), I_ i112_' h' → m_ i112_' h' < m_ i112_ h → X6 (impl_newFiller_e6 p3_ p7_ i8_ i10_ s11_ i12_ i13_ i90_ i91_ s102_ i103_ i104_ i111_ i112_') h') → impl_newFiller_b6 S K X2 X4 X6 p3_ p7_ i8_ i10_ s11_ i12_ i13_ i90_ i91_ s102_ i103_ i104_ i111_ i112_ h) (i112_ : Int) {h : H} (h0 : I_ i112_ h) : impl_newFiller_L6 S K X2 X4 p3_ p7_ i8_ i10_ s11_ i12_ i13_ i90_ i91_ s102_ i103_ i104_ i111_ i112_ h :=
  loop_rule (σ := (Int)) (fun s_ => impl_newFiller_e6 p3_ p7_ i8_ i10_ s11_ i12_ i13_ i90_ i91_ s102_ i103_ i104_ i111_ (s_)) (fun s_ h => I_ (s_) h) (fun s_ h => m_ (s_) h)
    (fun X s_ h hi hx => (impl_newFiller_link6 S K X2 X4 X p3_ p7_ i8_ i10_ s11_ i12_ i13_ i90_ i91_ s102_ i103_ i104_ i111_ (s_) h).mpr (hs X (s_) h hi fun i112_' h' hi' hm' => hx (i112_') h' hi' hm')) (i112_) h0
theorem impl_newFiller_unroll6 (S : SatT) (K : AVal → H → Prop) (X2 : Frame → H → Prop) (X4 : Frame → H → Prop) (p3_ : Pt) (p7_ : Pt) (i8_ : Int) (i10_ : Int) (s11_ : Sl) (i12_ : Int) (i13_ : Int) (i90_ : Int) (i91_ : Int) (s102_ : Sl) (i103_ : Int) (i104_ : Int) (i111_ : Int) (i112_ : Int) (h : H) (hb : impl_newFiller_b6 S K X2 X4 (fun fr h => loopK (impl_newFiller_w6 S K X2 X4) fr h) p3_ p7_ i8_ i10_ s11_ i12_ i13_ i90_ i91_ s102_ i103_ i104_ i111_ i112_ h) : impl_newFiller_L6 S K X2 X4 p3_ p7_ i8_ i10_ s11_ i12_ i13_ i90_ i91_ s102_ i103_ i104_ i111_ i112_ h := loop_unroll ((impl_newFiller_link6 S K X2 X4 _ p3_ p7_ i8_ i10_ s11_ i12_ i13_ i90_ i91_ s102_ i103_ i104_ i111_ i112_ h).mpr hb)
def impl_newFiller_C3 (S : SatT) (K : AVal → H → Prop) (X2 : Frame → H → Prop) (p3_ : Pt) (p7_ : Pt) (i8_ : Int) (i90_ : Int) (i91_ : Int) (h : H) : Prop :=
 X2 (impl_newFiller_e2 p3_ p7_ i8_ i90_ (w64 (i91_ + (1)))) h
def impl_newFiller_C4 (S : SatT) (K : AVal → H → Prop) (X2 : Frame → H → Prop) (p3_ : Pt) (p7_ : Pt) (i8_ : Int) (s11_ : Sl) (i90_ : Int) (i91_ : Int) (h : H) : Prop :=
 nilC (.ptr p7_) (
 isPt p7_ (
 ldS (Pt.add p7_ 5) h fun s0 =>
 newS 1 1 [.sl s11_] h fun s1 h2 =>
 app s0 s1 1 h2 fun s3 h4 =>
 nilC (.ptr p7_) (
 isPt p7_ (
 st1 (Pt.add p7_ 5) (.sl s3) h4 fun h5 =>
 impl_newFiller_C3 S K X2 p3_ p7_ i8_ i90_ i91_ h5))))
def impl_newFiller_b4 (S : SatT) (K : AVal → H → Prop) (X2 : Frame → H → Prop) (X4 : Frame → H → Prop) (p3_ : Pt) (p7_ : Pt) (i8_ : Int) (i10_ : Int) (s11_ : Sl) (i90_ : Int) (i91_ : Int) (s102_ : Sl) (i103_ : Int) (i104_ : Int) (h : H) : Prop :=
 bif (decide (i104_ < i103_)) then
 ixS s102_ 1 i104_ fun p0 =>
 ldI .i64 p0 h fun n1 =>
 isPt p3_ (
 ldS (Pt.add p3_ 1) h fun s2 =>
 impl_newFiller_L6 S K X2 X4 p3_ p7_ i8_ i10_ s11_ i104_ n1 i90_ i91_ s102_ i103_ i104_ (s2.len : Int) (0) h)
 else
 impl_newFiller_C4 S K X2 p3_ p7_ i8_ s11_ i90_ i91_ h
theorem impl_newFiller_link4 (S : SatT) (K : AVal → H → Prop) (X2 : Frame → H → Prop) (X4 : Frame → H → Prop) (p3_ : Pt) (p7_ : Pt) (i8_ : Int) (i10_ : Int) (s11_ : Sl) (i90_ : Int) (i91_ : Int) (s102_ : Sl) (i103_ : Int) (i104_ : Int) (h : H) : impl_newFiller_w4 S K X2 X4 (impl_newFiller_e4 p3_ p7_ i8_ i10_ s11_ i90_ i91_ s102_ i103_ i104_) h = impl_newFiller_b4 S K X2 X4 p3_ p7_ i8_ i10_ s11_ i90_ i91_ s102_ i103_ i104_ h := by kernel_rfl
theorem impl_newFiller_rule4 (S : SatT) (K : AVal → H → Prop) (X2 : Frame → H → Prop) (p3_ : Pt) (p7_ : Pt) (i8_ : Int) (i10_ : Int) (s11_ : Sl) (i90_ : Int) (i91_ : Int) (s102_ : Sl) (i103_ : Int) (I_ : Int → H → Prop) (m_ : Int → H → Nat)
    (hs : ∀ (X4 : Frame → H → Prop) (i104_ : Int) (h : H), I_ i104_ h → (∀ (i104_' : Int) (h' : H), I_ i104_' h' → m_ i104_' h' < m_ i104_ h → X4 (impl_newFiller_e4 p3_ p7_ i8_ i10_ s11_ i90_ i91_ s102_ i103_ i104_') h') → impl_newFiller_b4 S K X2 X4 p3_ p7_ i8_ i10_ s11_ i90_ i91_ s102_ i103_ i104_ h) (i104_ : Int) {h : H} (h0 : I_ i104_ h) : impl_newFiller_L4 S K X2 p3_ p7_ i8_ i10_ s11_ i90_ i91_ s102_ i103_ i104_ h :=
  loop_rule (σ := (Int)) (fun s_ => impl_newFiller_e4 p3_ p7_ i8_ i10_ s11_ i90_ i91_ s102_ i103_ (s_)) (fun s_ h => I_ (s_) h) (fun s_ h => m_ (s_) h)
    (fun X s_ h hi hx => (impl_newFiller_link4 S K X2 X p3_ p7_ i8_ i10_ s11_ i90_ i91_ s102_ i103_ (s_) h).mpr (hs X (s_) h hi fun i104_' h' hi' hm' => hx (i104_') h' hi' hm')) (i104_) h0
theorem impl_newFiller_unroll4 (S : SatT) (K : AVal → H → Prop) (X2 : Frame → H → Prop) (p3_ : Pt) (p7_ : Pt) (i8_ : Int) (i10_ : Int) (s11_ : Sl) (i90_ : Int) (i91_ : Int) (s102_ : Sl) (i103_ : Int) (i104_ : Int) (h : H) (hb : impl_newFiller_b4 S K X2 (fun fr h => loopK (impl_newFiller_w4 S K X2) fr h) p3_ p7_ i8_ i10_ s11_ i90_ i91_ s102_ i103_ i104_ h) : impl_newFiller_L4 S K X2 p3_ p7_ i8_ i10_ s11_ i90_ i91_ s102_ i103_ i104_ h := loop_unroll ((impl_newFiller_link4 S K X2 _ p3_ p7_ i8_ i10_ s11_ i90_ i91_ s102_ i103_ i104_ h).mpr hb)
def impl_newFiller_ks34 (S : SatT) (K : AVal → H → Prop) : Kont := kSeq (cwp S tab impl_newFiller_M [] (sub [1, 1, 1, 1, 1, 1, 1, 1, 1, 1] (bodyOf Try.f30)) (kFun tab (Try.f30).results.toList K)) (kFun tab (Try.f30).results.toList K)
def impl_newFiller_e8 (p3_ : Pt) (p7_ : Pt) (i8_ : Int) (i17_ : Int) : Frame := [U, U, U, .ptr p3_, U, U, U, .ptr p7_, .int .i64 i8_, U, U, U, U, U, U, U, U, .int .i64 i17_, U, U, U, U, U, U, U, U, U, U, U, U, U, U, U, U, U, U, U, U, U, U, U, U, U, U, U, U, U, U, U, U, U, U, U, U, U, U, U, U, U, U, U, U, U, U, U, U, U, U, U, U, U, U, U, U, U, U, U, U, U, U, U, U, U, U, U, U, U, U, U, U, U, U, U, U, U, U, U, U, U, U, U, U, U, U, U, U, U, U, U, U, U, U, U, U, U, U, U, U, U, U, U, U, U, U, U, U, U, U, U, U, U, U, U, U, U, U, U, U, U, U, U, U, U, U, U, U, U, U, U, U, U, U, U, U, U, U, U, U, U, U, U, U, U, U, U, U, U, U, U, U, U, U, U, U, U, U, U, U, U, U, U, U, U, U, U, U, U, U, U, U, U, U, U, U, U, U, U, U, U, U, U, U, U, U, U, U, U, U, U, U, U, U, U, U, U, U, U, U, U, U, U, U, U, U, U, U, U, U, U, U, U, U, U, U, U, U, U, U, U, U, U, U, U, U, U, U, U, U, U, U, U, U, U, U]
def impl_newFiller_w8 (S : SatT) (K : AVal → H → Prop) : (Frame → H → Prop) → Frame → H → Prop := fun X fr h => cwp S tab impl_newFiller_M (impl_newFiller_M 8) (sub [1, 1, 1, 1, 1, 1, 1, 1, 1, 0, 1, 0, 0] (bodyOf Try.f30)) (kSeq (fun fr h => X (mask (impl_newFiller_M 8) fr) h) (kBlk 8 (impl_newFiller_ks34 S K))) fr h
def impl_newFiller_L8 (S : SatT) (K : AVal → H → Prop) (p3_ : Pt) (p7_ : Pt) (i8_ : Int) (i17_ : Int) (h : H) : Prop := loopK (impl_newFiller_w8 S K) (impl_newFiller_e8 p3_ p7_ i8_ i17_) h
def impl_newFiller_ks38 (S : SatT) (K : AVal → H → Prop) (X8 : Frame → H → Prop) : Kont := kSeq (cwp S tab impl_newFiller_M (impl_newFiller_M 8) (sub [1, 1, 1, 1, 1, 1, 1, 1, 1, 0, 1, 0, 0, 1, 1] (bodyOf Try.f30)) (kSeq (fun fr h => X8 (mask (impl_newFiller_M 8) fr) h) (kBlk 8 (impl_newFiller_ks34 S K)))) (kSeq (fun fr h => X8 (mask (impl_newFiller_M 8) fr) h) (kBlk 8 (impl_newFiller_ks34 S K)))
def impl_newFiller_e10 (p3_ : Pt) (p7_ : Pt) (i8_ : Int) (i17_ : Int) (s176_ : Sl) (i177_ : Int) (i178_ : Int) : Frame := [U, U, U, .ptr p3_, U, U, U, .ptr p7_, .int .i64 i8_, U, U, U, U, U, U, U, U, .int .i64 i17_, U, U, U, U, U, U, U, U, U, U, U, U, U, U, U, U, U, U, U, U, U, U, U, U, U, U, U, U, U, U, U, U, U, U, U, U, U, U, U, U, U, U, U, U, U, U, U, U, U, U, U, U, U, U, U, U, U, U, U, U, U, U, U, U, U, U, U, U, U, U, U, U, U, U, U, U, U, U, U, U, U, U, U, U, U, U, U, U, U, U, U, U, U, U, U, U, U, U, U, U, U, U, U, U, U, U, U, U, U, U, U, U, U, U, U, U, U, U, U, U, U, U, U, U, U, U, U, U, U, U, U, U, U, U, U, U, U, U, U, U, U, U, U, U, U, U, U, U, U, U, U, U, U, U, U, U, U, U, .sl s176_, .int .i64 i177_, .int .i64 i178_, U, U, U, U, U, U, U, U, U, U, U, U, U, U, U, U, U, U, U, U, U, U, U, U, U, U, U, U, U, U, U, U, U, U, U, U, U, U, U, U, U, U, U, U, U, U, U, U, U, U, U, U, U, U, U, U, U, U, U, U, U, U, U, U, U, U, U, U, U, U, U, U, U, U, U]
def impl_newFiller_w10 (S : SatT) (K : AVal → H → Prop) (X8 : Frame → H → Prop) : (Frame → H → Prop) → Frame → H → Prop := fun X fr h => cwp S tab impl_newFiller_M (impl_newFiller_M 10) (sub [1, 1, 1, 1, 1, 1, 1, 1, 1, 0, 1, 0, 0, 1, 0, 0, 1, 1, 0, 0] (bodyOf Try.f30)) (kSeq (fun fr h => X (mask (impl_newFiller_M 10) fr) h) (kBlk 10 (kBlk 9 (impl_newFiller_ks38 S K X8)))) fr h
def impl_newFiller_L10 (S : SatT) (K : AVal → H → Prop) (X8 : Frame → H → Prop) (p3_ : Pt) (p7_ : Pt) (i8_ : Int) (i17_ : Int) (s176_ : Sl) (i177_ : Int) (i178_ : Int) (h : H) : Prop := loopK (impl_newFiller_w10 S K X8) (impl_newFiller_e10 p3_ p7_ i8_ i17_ s176_ i177_ i178_) h
def impl_newFiller_C11 (S : SatT) (K : AVal → H → Prop) (X8 : Frame → H → Prop) (X10 : Frame → H → Prop) (p3_ : Pt) (p7_ : Pt) (i8_ : Int) (i17_ : Int) (s176_ : Sl) (i177_ : Int) (i178_ : Int) (h : H) : Prop :=
 X10 (impl_newFiller_e10 p3_ p7_ i8_ i17_ s176_ i177_ (w64 (i178_ + (1)))) h
def impl_newFiller_ks43 (S : SatT) (K : AVal → H → Prop) (X8 : Frame → H → Prop) (X10 : Frame → H → Prop) : Kont := kSeq (cwp S tab impl_newFiller_M (impl_newFiller_M 10) (sub [1, 1, 1, 1, 1, 1, 1, 1, 1, 0, 1, 0, 0, 1, 0, 0, 1, 1, 0, 0, 1, 1, 1] (bodyOf Try.f30)) (kSeq (fun fr h => X10 (mask (impl_newFiller_M 10) fr) h) (kBlk 10 (kBlk 9 (impl_newFiller_ks38 S K X8))))) (kSeq (fun fr h => X10 (mask (impl_newFiller_M 10) fr) h) (kBlk 10 (kBlk 9 (impl_newFiller_ks38 S K X8))))
def impl_newFiller_e12 (p3_ : Pt) (p7_ : Pt) (i8_ : Int) (i17_ : Int) (i18_ : Int) (s176_ : Sl) (i177_ : Int) (i178_ : Int) (i200_ : Int) (i201_ : Int) : Frame := [U, U, U, .ptr p3_, U, U, U, .ptr p7_, .int .i64 i8_, U, U, U, U, U, U, U, U, .int .i64 i17_, .int .i64 i18_, U, U, U, U, U, U, U, U, U, U, U, U, U, U, U, U, U, U, U, U, U, U, U, U, U, U, U, U, U, U, U, U, U, U, U, U, U, U, U, U, U, U, U, U, U, U, U, U, U, U, U, U, U, U, U, U, U, U, U, U, U, U, U, U, U, U, U, U, U, U, U, U, U, U, U, U, U, U, U, U, U, U, U, U, U, U, U, U, U, U, U, U, U, U, U, U, U, U, U, U, U, U, U, U, U, U, U, U, U, U, U, U, U, U, U, U, U, U, U, U, U, U, U, U, U, U, U, U, U, U, U, U, U, U, U, U, U, U, U, U, U, U, U, U, U, U, U, U, U, U, U, U, U, U, U, U, U, .sl s176_, .int .i64 i177_, .int .i64 i178_, U, U, U, U, U, U, U, U, U, U, U, U, U, U, U, U, U, U, U, U, U, .int .i64 i200_, .int .i64 i201_, U, U, U, U, U, U, U, U, U, U, U, U, U, U, U, U, U, U, U, U, U, U, U, U, U, U, U, U, U, U, U, U, U, U, U, U, U, U, U, U, U, U, U, U, U, U, U, U, U, U, U, U]
def impl_newFiller_w12 (S : SatT) (K : AVal → H → Prop) (X8 : Frame → H → Prop) (X10 : Frame → H → Prop) : (Frame → H → Prop) → Frame → H → Prop := fun X fr h => cwp S tab impl_newFiller_M (impl_newFiller_M 12) (sub [1, 1, 1, 1, 1, 1, 1, 1, 1, 0, 1, 0, 0, 1, 0, 0, 1, 1, 0, 0, 1, 1, 0, 0, 1, 1, 1, 1, 0, 0] (bodyOf Try.f30)) (kSeq (fun fr h => X (mask (impl_newFiller_M 12) fr) h) (kBlk 12 (kBlk 11 (impl_newFiller_ks43 S K X8 X10)))) fr h
def impl_newFiller_L12 (S : SatT) (K : AVal → H → Prop) (X8 : Frame → H → Prop) (X10 : Frame → H → Prop) (p3_ : Pt) (p7_ : Pt) (i8_ : Int) (i17_ : Int) (i18_ : Int) (s176_ : Sl) (i177_ : Int) (i178_ : Int) (i200_ : Int) (i201_ : Int) (h : H) : Prop := loopK (impl_newFiller_w12 S K X8 X10) (impl_newFiller_e12 p3_ p7_ i8_ i17_ i18_ s176_ i177_ i178_ i200_ i201_) h
def impl_newFiller_C12 (S : SatT) (K : AVal → H → Prop) (X8 : Frame → H → Prop) (X10 : Frame → H → Prop) (p3_ : Pt) (p7_ : Pt) (i8_ : Int) (i17_ : Int) (s176_ : Sl) (i177_ : Int) (i178_ : Int) (h : H) : Prop :=
 impl_newFiller_C11 S K X8 X10 p3_ p7_ i8_ i17_ s176_ i177_ i178_ h
def impl_newFiller_b12 (S : SatT) (K : AVal → H → Prop) (X8 : Frame → H → Prop) (X10 : Frame → H → Prop) (X12 : Frame → H → Prop) (p3_ : Pt) (p7_ : Pt) (i8_ : Int) (i17_ : Int) (i18_ : Int) (s176_ : Sl) (i177_ : Int) (i178_ : Int) (i200_ : Int) (i201_ : Int) (h : H) : Prop :=
 bif (decide (i201_ < i200_)) then
 callI S .i64 i_impl_filler_size [.ptr p7_] h fun n1 h0 =>
 bif (i17_ == n1) then
 impl_newFiller_C12 S K X8 X10 p3_ p7_ i8_ i17_ s176_ i177_ i178_ h0
 else
 nilC (.ptr p7_) (
 isPt p7_ (
 ldS (Pt.add p7_ 6) h0 fun s2 =>
 ixS s2 1 i17_ fun p3 =>
 ldS p3 h0 fun s4 =>
 ixS s4 1 i18_ fun p5 =>
 ldB p5 h0 fun b6 =>
 bif b6 then
 impl_newFiller_C12 S K X8 X10 p3_ p7_ i8_ i17_ s176_ i177_ i178_ h0
 else
 callV S i_impl_filler_fits [.ptr p7_, .int .i64 i17_, .int .i64 i18_, .int .i64 i201_] h0 fun v8 h7 =>
 viaT v8 fun vs9 =>
 exI .i64 vs9 0 fun n10 =>
 viaT v8 fun vs11 =>
 exB vs11 1 fun b12 =>
 nilC (.ptr p7_) (
 isPt p7_ (
 ldS (Pt.add p7_ 6) h7 fun s13 =>
 ixS s13 1 i17_ fun p14 =>
 ldS p14 h7 fun s15 =>
 bif b12 then
 nilC (.ptr p7_) (
 isPt p7_ (
 ldS (Pt.add p7_ 6) h7 fun s16 =>
 ixS s16 1 (w64 (i17_ + (1))) fun p17 =>
 ldS p17 h7 fun s18 =>
 ixS s18 1 n10 fun p19 =>
 ldB p19 h7 fun b20 =>
 ixS s15 1 i18_ fun p21 =>
 st1 p21 (.bool b20) h7 fun h22 =>
 X12 (impl_newFiller_e12 p3_ p7_ i8_ i17_ i18_ s176_ i177_ i178_ i200_ (w64 (i201_ + (1)))) h22))
 else
 ixS s15 1 i18_ fun p23 =>
 st1 p23 (.bool false) h7 fun h24 =>
 X12 (impl_newFiller_e12 p3_ p7_ i8_ i17_ i18_ s176_ i177_ i178_ i200_ (w64 (i201_ + (1)))) h24))))
 else
 impl_newFiller_C12 S K X8 X10 p3_ p7_ i8_ i17_ s176_ i177_ i178_ h
theorem impl_newFiller_link12 (S : SatT) (K : AVal → H → Prop) (X8 : Frame → H → Prop) (X10 : Frame → H → Prop) (X12 : Frame → H → Prop) (p3_ : Pt) (p7_ : Pt) (i8_ : Int) (i17_ : Int) (i18_ : Int) (s176_ : Sl) (i177_ : Int) (i178_ : Int) (i200_ : Int) (i201_ : Int) (h : H) : impl_newFiller_w12 S K X8 X10 X12 (impl_newFiller_e12 p3_ p7_ i8_ i17_ i18_ s176_ i177_ i178_ i200_ i201_) h = impl_newFiller_b12 S K X8 X10 X12 p3_ p7_ i8_ i17_ i18_ s176_ i177_ i178_ i200_ i201_ h := by kernel_rfl
theorem impl_newFiller_rule12 (S : SatT) (K : AVal → H → Prop) (X8 : Frame → H → Prop) (X10 : Frame → H → Prop) (p3_ : Pt) (p7_ : Pt) (i8_ : Int) (i17_ : Int) (i18_ : Int) (s176_ : Sl) (i177_ : Int) (i178_ : Int) (i200_ : Int) (I_ : Int → H → Prop) (m_ : Int → H → Nat)
    (hs : ∀ (X12 : Frame → H → Prop) (i201_ : Int) (h : H), I_ i201_ h → (∀ (i201_' : Int) (h' : H), I_ i201_' h' → m_ i201_' h' < m_ i201_ h → X12 (impl_newFiller_e12 p3_ p7_ i8_ i17_ i18_ s176_ i177_ i178_ i200_ i201_') h') → impl_newFiller_b12 S K X8 X10 X12 p3_ p7_ i8_ i17_ i18_ s176_ i177_ i178_ i200_ i201_ h) (i201_ : Int) {h : H} (h0 : I_ i201_ h) : impl_newFiller_L12 S K X8 X10 p3_ p7_ i8_ i17_ i18_ s176_ i177_ i178_ i200_ i201_ h :=
  loop_rule (σ := (Int)) (fun s_ => impl_newFiller_e12 p3_ p7_ i8_ i17_ i18_ s176_ i177_ i178_ i200_ (s_)) (fun s_ h => I_ (s_) h) (fun s_ h => m_ (s_) h)
    (fun X s_ h hi hx => (impl_newFiller_link12 S K X8 X10 X p3_ p7_ i8_ i17_ i18_ s176_ i177_ i178_ i200_ (s_) h).mpr (hs X (s_) h hi fun i201_' h' hi' hm' => hx (i201_') h' hi' hm')) (i201_) h0
theorem impl_newFiller_unroll12 (S : SatT) (K : AVal → H → Prop) (X8 : Frame → H → Prop) (X10 : Frame → H → Prop) (p3_ : Pt) (p7_ : Pt) (i8_ : Int) (i17_ : Int) (i18_ : Int) (s176_ : Sl) (i177_ : Int) (i178_ : Int) (i200_ : Int) (i201_ : Int) (h : H) (hb : impl_newFiller_b12 S K X8 X10 (fun fr h => loopK (impl_newFiller_w12 S K X8 X10) fr h) p3_ p7_ i8_ i17_ i18_ s176_ i177_ i178_ i200_ i201_ h) : impl_newFiller_L12 S K X8 X10 p3_ p7_ i8_ i17_ i18_ s176_ i177_ i178_ i200_ i201_ h := loop_unroll ((impl_newFiller_link12 S K X8 X10 _ p3_ p7_ i8_ i17_ i18_ s176_ i177_ i178_ i200_ i201_ h).mpr hb)
def impl_newFiller_C9 (S : SatT) (K : AVal → H → Prop) (X8 : Frame → H → Prop) (p3_ : Pt) (p7_ : Pt) (i8_ : Int) (i17_ : Int) (h : H) : Prop :=
 X8 (impl_newFiller_e8 p3_ p7_ i8_ (w64 (i17_ - (1)))) h
def impl_newFiller_C10 (S : SatT) (K : AVal → H → Prop) (X8 : Frame → H → Prop) (p3_ : Pt) (p7_ : Pt) (i8_ : Int) (i17_ : Int) (h : H) : Prop :=
 impl_newFiller_C9 S K X8 p3_ p7_ i8_ i17_ h
def impl_newFiller_b10 (S : SatT) (K : AVal → H → Prop) (X8 : Frame → H → Prop) (X10 : Frame → H → Prop) (p3_ : Pt) (p7_ : Pt) (i8_ : Int) (i17_ : Int) (s176_ : Sl) (i177_ : Int) (i178_ : Int) (h : H) : Prop :=
 bif (decide (i178_ < i177_)) then
 ixS s176_ 1 i178_ fun p0 =>
 ldI .i64 p0 h fun n1 =>
 bif (n1 == (0)) then
 impl_newFiller_C11 S K X8 X10 p3_ p7_ i8_ i17_ s176_ i177_ i178_ h
 else
 nilC (.ptr p7_) (
 isPt p7_ (
 ldS (Pt.add p7_ 6) h fun s2 =>
 ixS s2 1 i17_ fun p3 =>
 ldS p3 h fun s4 =>
 callI S .i64 i_impl_filler_size [.ptr p7_] h fun n6 h5 =>
(cell h5 p3 = cell h p3) ∧ (
(cell h5 (Pt.add p7_ 6) = cell h (Pt.add p7_ 6)) ∧ (
 ixS s4 1 i178_ fun p7 =>
 st1 p7 (.bool (i17_ == n6)) h5 fun h8 =>
 isPt p3_ (
 ldS (Pt.add p3_ 1) h8 fun s9 =>
 impl_newFiller_L12 S K X8 X10 p3_ p7_ i8_ i17_ i178_ s176_ i177_ i178_ (s9.len : Int) (0) h8)))))
 else
 impl_newFiller_C10 S K X8 p3_ p7_ i8_ i17_ h
theorem impl_newFiller_link10 (S : SatT) (K : AVal → H → Prop) (X8 : Frame → H → Prop) (X10 : Frame → H → Prop) (p3_ : Pt) (p7_ : Pt) (i8_ : Int) (i17_ : Int) (s176_ : Sl) (i177_ : Int) (i178_ : Int) (h : H) : impl_newFiller_w10 S K X8 X10 (impl_newFiller_e10 p3_ p7_ i8_ i17_ s176_ i177_ i178_) h = impl_newFiller_b10 S K X8 X10 p3_ p7_ i8_ i17_ s176_ i177_ i178_ h := by kernel_rfl
theorem impl_newFiller_rule10 (S : SatT) (K : AVal → H → Prop) (X8 : Frame → H → Prop) (p3_ : Pt) (p7_ : Pt) (i8_ : Int) (i17_ : Int) (s176_ : Sl) (i177_ : Int) (I_ : Int → H → Prop) (m_ : Int → H → Nat)
    (hs : ∀ (X10 : Frame → H → Prop) (i178_ : Int) (h : H), I_ i178_ h → (∀ (i178_' : Int) (h' : H), I_ i178_' h' → m_ i178_' h' < m_ i178_ h → X10 (impl_newFiller_e10 p3_ p7_ i8_ i17_ s176_ i177_ i178_') h') → impl_newFiller_b10 S K X8 X10 p3_ p7_ i8_ i17_ s176_ i177_ i178_ h) (i178_ : Int) {h : H} (h0 : I_ i178_ h) : impl_newFiller_L10 S K X8 p3_ p7_ i8_ i17_ s176_ i177_ i178_ h :=
  loop_rule (σ := (Int)) (fun s_ => impl_newFiller_e10 p3_ p7_ i8_ i17_ s176_ i177_ (s_)) (fun s_ h => I_ (s_) h) (fun s_ h => m_ (s_) h)
    (fun X s_ h hi hx => (impl_newFiller_link10 S K X8 X p3_ p7_ i8_ i17_ s176_ i177_ (s_) h).mpr (hs X (s_) h hi fun i178_' h' hi' hm' => hx (i178_') h' hi' hm')) (i178_) h0
theorem impl_newFiller_unroll10 (S : SatT) (K : AVal → H → Prop) (X8 : Frame → H → Prop) (p3_ : Pt) (p7_ : Pt) (i8_ : Int) (i17_ : Int) (s176_ : Sl) (i177_ : Int) (i178_ : Int) (h : H) (hb : impl_newFiller_b10 S K X8 (fun fr h => loopK (impl_newFiller_w10 S K X8) fr h) p3_ p7_ i8_ i17_ s176_ i177_ i178_ h) : impl_newFiller_L10 S K X8 p3_ p7_ i8_ i17_ s176_ i177_ i178_ h := loop_unroll ((impl_newFiller_link10 S K X8 _ p3_ p7_ i8_ i17_ s176_ i177_ i178_ h).mpr hb)
def impl_newFiller_C8 (S : SatT) (K : AVal → H → Prop) (p7_ : Pt) (h : H) : Prop :=
 K (.ptr p7_) h
def impl_newFiller_b8 (S : SatT) (K : AVal → H → Prop) (X8 : Frame → H → Prop) (p3_ : Pt) (p7_ : Pt) (i8_ : Int) (i17_ : Int) (h : H) : Prop :=
 bif (decide (i17_ ≥ (0))) then
 nilC (.ptr p7_) (
 isPt p7_ (
 ldS (Pt.add p7_ 6) h fun s0 =>
 mkS i8_ [.bool false] h fun s1 h2 =>
(cell h2 (Pt.add p7_ 6) = cell h (Pt.add p7_ 6)) ∧ (
 ixS s0 1 i17_ fun p3 =>
 st1 p3 (.sl s1) h2 fun h4 =>
 nilC (.ptr p7_) (
 isPt p7_ (
 ldS (Pt.add p7_ 5) h4 fun s5 =>
 ixS s5 1 i17_ fun p6 =>
 ldS p6 h4 fun s7 =>
 impl_newFiller_L10 S K X8 p3_ p7_ i8_ i17_ s7 (s7.len : Int) (0) h4)))))
 else
 impl_newFiller_C8 S K p7_ h
theorem impl_newFiller_link8 (S : SatT) (K : AVal → H → Prop) (X8 : Frame → H → Prop) (p3_ : Pt) (p7_ : Pt) (i8_ : Int) (i17_ : Int) (h : H) : impl_newFiller_w8 S K X8 (impl_newFiller_e8 p3_ p7_ i8_ i17_) h = impl_newFiller_b8 S K X8 p3_ p7_ i8_ i17_ h := by kernel_rfl
theorem impl_newFiller_rule8 (S : SatT) (K : AVal → H → Prop) (p3_ : Pt) (p7_ : Pt) (i8_ : Int) (I_ : Int → H → Prop) (m_ : Int → H → Nat)
    (hs : ∀ (X8 : Frame → H → Prop) (i17_ : Int) (h : H), I_ i17_ h → (∀ (i17_' : Int) (h' : H), I_ i17_' h' → m_ i17_' h' < m_ i17_ h → X8 (impl_newFiller_e8 p3_ p7_ i8_ i17_') h') → impl_newFiller_b8 S K X8 p3_ p7_ i8_ i17_ h) (i17_ : Int) {h : H} (h0 : I_ i17_ h) : impl_newFiller_L8 S K p3_ p7_ i8_ i17_ h :=
  loop_rule (σ := (Int)) (fun s_ => impl_newFiller_e8 p3_ p7_ i8_ (s_)) (fun s_ h => I_ (s_) h) (fun s_ h => m_ (s_) h)
    (fun X s_ h hi hx => (impl_newFiller_link8 S K X p3_ p7_ i8_ (s_) h).mpr (hs X (s_) h hi fun i17_' h' hi' hm' => hx (i17_') h' hi' hm')) (i17_) h0
theorem impl_newFiller_unroll8 (S : SatT) (K : AVal → H → Prop) (p3_ : Pt) (p7_ : Pt) (i8_ : Int) (i17_ : Int) (h : H) (hb : impl_newFiller_b8 S K (fun fr h => loopK (impl_newFiller_w8 S K) fr h) p3_ p7_ i8_ i17_ h) : impl_newFiller_L8 S K p3_ p7_ i8_ i17_ h := loop_unroll ((impl_newFiller_link8 S K _ p3_ p7_ i8_ i17_ h).mpr hb)
def impl_newFiller_C2 (S : SatT) (K : AVal → H → Prop) (p3_ : Pt) (p7_ : Pt) (i8_ : Int) (h : H) : Prop :=
 callI S .i64 i_impl_filler_size [.ptr p7_] h fun n1 h0 =>
 mkS (w64 (n1 + (1))) [.sl Sl.nil] h0 fun s2 h3 =>
 nilC (.ptr p7_) (
 isPt p7_ (
 st1 (Pt.add p7_ 6) (.sl s2) h3 fun h4 =>
 callI S .i64 i_impl_filler_size [.ptr p7_] h4 fun n6 h5 =>
 impl_newFiller_L8 S K p3_ p7_ i8_ n6 h5))
def impl_newFiller_b2 (S : SatT) (K : AVal → H → Prop) (X2 : Frame → H → Prop) (p3_ : Pt) (p7_ : Pt) (i8_ : Int) (i90_ : Int) (i91_ : Int) (h : H) : Prop :=
 bif (decide (i91_ < i90_)) then
 mkS i8_ [.int .i64 (0)] h fun s0 h1 =>
 nilC (.ptr p7_) (
 isPt p7_ (
 ldS (Pt.add p7_ 5) h1 fun s2 =>
 ixS s2 1 i91_ fun p3 =>
 ldS p3 h1 fun s4 =>
 impl_newFiller_L4 S K X2 p3_ p7_ i8_ i91_ s0 i90_ i91_ s4 (s4.len : Int) (0) h1))
 else
 impl_newFiller_C2 S K p3_ p7_ i8_ h
theorem impl_newFiller_link2 (S : SatT) (K : AVal → H → Prop) (X2 : Frame → H → Prop) (p3_ : Pt) (p7_ : Pt) (i8_ : Int) (i90_ : Int) (i91_ : Int) (h : H) : impl_newFiller_w2 S K X2 (impl_newFiller_e2 p3_ p7_ i8_ i90_ i91_) h = impl_newFiller_b2 S K X2 p3_ p7_ i8_ i90_ i91_ h := by kernel_rfl
theorem impl_newFiller_rule2 (S : SatT) (K : AVal → H → Prop) (p3_ : Pt) (p7_ : Pt) (i8_ : Int) (i90_ : Int) (I_ : Int → H → Prop) (m_ : Int → H → Nat)
    (hs : ∀ (X2 : Frame → H → Prop) (i91_ : Int) (h : H), I_ i91_ h → (∀ (i91_' : Int) (h' : H), I_ i91_' h' → m_ i91_' h' < m_ i91_ h → X2 (impl_newFiller_e2 p3_ p7_ i8_ i90_ i91_') h') → impl_newFiller_b2 S K X2 p3_ p7_ i8_ i90_ i91_ h) (i91_ : Int) {h : H} (h0 : I_ i91_ h) : impl_newFiller_L2 S K p3_ p7_ i8_ i90_ i91_ h :=
  loop_rule (σ := (Int)) (fun s_ => impl_newFiller_e2 p3_ p7_ i8_ i90_ (s_)) (fun s_ h => I_ (s_) h) (fun s_ h => m_ (s_) h)
    (fun X s_ h hi hx => (impl_newFiller_link2 S K X p3_ p7_ i8_ i90_ (s_) h).mpr (hs X (s_) h hi fun i91_' h' hi' hm' => hx (i91_') h' hi' hm')) (i91_) h0
theorem impl_newFiller_unroll2 (S : SatT) (K : AVal → H → Prop) (p3_ : Pt) (p7_ : Pt) (i8_ : Int) (i90_ : Int) (i91_ : Int) (h : H) (hb : impl_newFiller_b2 S K (fun fr h => loopK (impl_newFiller_w2 S K) fr h) p3_ p7_ i8_ i90_ i91_ h) : impl_newFiller_L2 S K p3_ p7_ i8_ i90_ i91_ h := loop_unroll ((impl_newFiller_link2 S K _ p3_ p7_ i8_ i90_ i91_ h).mpr hb)
def impl_newFiller_C0 (S : SatT) (K : AVal → H → Prop) (p3_ : Pt) (p7_ : Pt) (h : H) : Prop :=
 nilC (.ptr p7_) (
 isPt p7_ (
 ldS (Pt.add p7_ 4) h fun s0 =>
 nilC (.ptr p7_) (
 isPt p7_ (
 ldS (Pt.add p7_ 4) h fun s1 =>
 ixS s0 1 (w64 ((s1.len : Int) - (1))) fun p2 =>
 ldI .i64 p2 h fun n3 =>
 isPt p3_ (
 ldI .i64 (Pt.add p3_ 0) h fun n4 =>
 mkS (w64 (n3 * n4)) [.int .i64 (0)] h fun s5 h6 =>
 ixS s5 1 (0) fun p7 =>
 st1 p7 (.int .i64 (1)) h6 fun h8 =>
 nilC (.ptr p7_) (
 isPt p7_ (
 ldS (Pt.add p7_ 5) h8 fun s9 =>
 newS 1 1 [.sl s5] h8 fun s10 h11 =>
 app s9 s10 1 h11 fun s12 h13 =>
 nilC (.ptr p7_) (
 isPt p7_ (
 st1 (Pt.add p7_ 5) (.sl s12) h13 fun h14 =>
 callI S .i64 i_impl_filler_size [.ptr p7_] h14 fun n16 h15 =>
 impl_newFiller_L2 S K p3_ p7_ (w64 (n3 * n4)) n16 (0) h15)))))))))
def impl_newFiller_b0 (S : SatT) (K : AVal → H → Prop) (X0 : Frame → H → Prop) (p3_ : Pt) (p7_ : Pt) (i32_ : Int) (i33_ : Int) (h : H) : Prop :=
 bif (decide (i33_ < i32_)) then
 nilC (.ptr p7_) (
 isPt p7_ (
 ldS (Pt.add p7_ 4) h fun s0 =>
 nilC (.ptr p7_) (
 isPt p7_ (
 ldS (Pt.add p7_ 4) h fun s1 =>
 nilC (.ptr p7_) (
 isPt p7_ (
 ldS (Pt.add p7_ 4) h fun s2 =>
 ixS s1 1 (w64 ((s2.len : Int) - (1))) fun p3 =>
 ldI .i64 p3 h fun n4 =>
 isPt p3_ (
 ldI .i64 (Pt.add p3_ 0) h fun n5 =>
 newS 1 1 [.int .i64 (w64 (n4 * n5))] h fun s6 h7 =>
(cell h7 (Pt.add p7_ 4) = cell h (Pt.add p7_ 4)) ∧ (
 app s0 s6 1 h7 fun s8 h9 =>
 nilC (.ptr p7_) (
 isPt p7_ (
 st1 (Pt.add p7_ 4) (.sl s8) h9 fun h10 =>
 X0 (impl_newFiller_e0 p3_ p7_ i32_ (w64 (i33_ + (1)))) h10))))))))))
 else
 impl_newFiller_C0 S K p3_ p7_ h
theorem impl_newFiller_link0 (S : SatT) (K : AVal → H → Prop) (X0 : Frame → H → Prop) (p3_ : Pt) (p7_ : Pt) (i32_ : Int) (i33_ : Int) (h : H) : impl_newFiller_w0 S K X0 (impl_newFiller_e0 p3_ p7_ i32_ i33_) h = impl_newFiller_b0 S K X0 p3_ p7_ i32_ i33_ h := by kernel_rfl
theorem impl_newFiller_rule0 (S : SatT) (K : AVal → H → Prop) (p3_ : Pt) (p7_ : Pt) (i32_ : Int) (I_ : Int → H → Prop) (m_ : Int → H → Nat)
    (hs : ∀ (X0 : Frame → H → Prop) (i33_ : Int) (h : H), I_ i33_ h → (∀ (i33_' : Int) (h' : H), I_ i33_' h' → m_ i33_' h' < m_ i33_ h → X0 (impl_newFiller_e0 p3_ p7_ i32_ i33_') h') → impl_newFiller_b0 S K X0 p3_ p7_ i32_ i33_ h) (i33_ : Int) {h : H} (h0 : I_ i33_ h) : impl_newFiller_L0 S K p3_ p7_ i32_ i33_ h :=
  loop_rule (σ := (Int)) (fun s_ => impl_newFiller_e0 p3_ p7_ i32_ (s_)) (fun s_ h => I_ (s_) h) (fun s_ h => m_ (s_) h)
    (fun X s_ h hi hx => (impl_newFiller_link0 S K X p3_ p7_ i32_ (s_) h).mpr (hs X (s_) h hi fun i33_' h' hi' hm' => hx (i33_') h' hi' hm')) (i33_) h0
theorem impl_newFiller_unroll0 (S : SatT) (K : AVal → H → Prop) (p3_ : Pt) (p7_ : Pt) (i32_ : Int) (i33_ : Int) (h : H) (hb : impl_newFiller_b0 S K (fun fr h => loopK (impl_newFiller_w0 S K) fr h) p3_ p7_ i32_ i33_ h) : impl_newFiller_L0 S K p3_ p7_ i32_ i33_ h := loop_unroll ((impl_newFiller_link0 S K _ p3_ p7_ i32_ i33_ h).mpr hb)
def impl_newFiller_main (S : SatT) (K : AVal → H → Prop) (x0 : List AVal) (x1 : Sl) (x2 : Sl) (h : H) : Prop :=
 newK 2 x0 h fun p0 h1 =>
 ldA p0 2 h1 fun cs2 =>
 newS 1 1 [.int .i64 (1)] h1 fun s3 h4 =>
 lenA cs2 2 (
 newK 7 (spl (spl (spl (spl [.int .i64 (0), .sl Sl.nil, .sl Sl.nil, .sl Sl.nil, .sl Sl.nil, .sl Sl.nil, .sl Sl.nil] 0 2 cs2) 2 1 [.sl x1]) 3 1 [.sl x2]) 4 1 [.sl s3]) h4 fun p5 h6 =>
 ixS x1 1 (0) fun p7 =>
 ldS p7 h6 fun s8 =>
 impl_newFiller_L0 S K p0 p5 (s8.len : Int) (0) h6)
theorem impl_newFiller_main_link (S : SatT) (K : AVal → H → Prop) (x0 : List AVal) (x1 : Sl) (x2 : Sl) (h : H) : cwp S tab impl_newFiller_M [] (bodyOf Try.f30) (kFun tab Try.f30.results.toList K) (fr0 Try.f30 [.agg x0, .sl x1, .sl x2]) h = impl_newFiller_main S K x0 x1 x2 h := by kernel_rfl
theorem impl_newFiller_call (x0 : List AVal) (x1 : Sl) (x2 : Sl) (h : H) (K : Pt → H → Prop) (hm : impl_newFiller_main (Sat Try.prog) (fun v h' => ∃ r, v = .ptr r ∧ K r h') x0 x1 x2 h) : callP (Sat Try.prog) i_impl_newFiller [.agg x0, .sl x1, .sl x2] h K := by
  have := Sat.ex tok mixed impl_newFiller_M Try.func30 (c := bodyOf Try.f30) (by kernel_rfl) (calls_of Try.func30 (c := bodyOf Try.f30) (by kernel_rfl) (by decide)) ((impl_newFiller_main_link _ _ x0 x1 x2 h).mpr hm)
  obtain ⟨v, h2, h3, r, rfl, h4⟩ := this; exact ⟨r, h2, h3, h4⟩

/-! ### loop.example/g01354/laws.FnExactTilesAt -/
def laws_FnExactTilesAt_M : Nat → List Nat := fun i => []
def laws_FnExactTilesAt_main (S : SatT) (K : AVal → H → Prop) (x0 : List AVal) (x1 : Sl) (x2 : Sl) (x3 : Int) (x4 : Int) (h : H) : Prop :=
 newK 2 x0 h fun p0 h1 =>
 ldA p0 2 h1 fun cs2 =>
 callI S .i64 i_laws_szSet [.agg cs2, .int .i64 (1048576)] h1 fun n4 h3 =>
 bif (decide (n4 < (0))) then
 K (.bool true) h3
 else
 callI S .i64 i_laws_szInt64SS [.sl x1, .int .i64 n4] h3 fun n6 h5 =>
 bif (decide (n6 < (0))) then
 K (.bool true) h5
 else
 callI S .i64 i_laws_szInt64SS [.sl x2, .int .i64 n6] h5 fun n8 h7 =>
 bif (decide (n8 < (0))) then
 K (.bool true) h7
 else
 ldA p0 2 h7 fun cs9 =>
 callA S i_laws_toSet [.agg cs9] h7 fun cs11 h10 =>
 callS S i_laws_toInt64SS [.sl x1] h10 fun s13 h12 =>
 callS S i_laws_toInt64SS [.sl x2] h12 fun s15 h14 =>
 callV S i_spec_TilesAt [.agg cs11, .sl s13, .sl s15, .int .i64 x3, .int .i64 x4] h14 fun v17 h16 =>
 viaT v17 fun vs18 =>
 exS vs18 0 fun s19 =>
 viaT v17 fun vs20 =>
 exI .i64 vs20 1 fun n21 =>
 ldA p0 2 h16 fun cs22 =>
 callA S i_laws_toSet [.agg cs22] h16 fun cs24 h23 =>
 newO [.int .i64 (0), .sl Sl.nil] h23 fun p25 h26 =>
 stN p25 2 cs24 h26 fun h27 =>
 callS S i_laws_toInt64SS [.sl x1] h27 fun s29 h28 =>
 callS S i_laws_toInt64SS [.sl x2] h28 fun s31 h30 =>
 ldA p25 2 h30 fun cs32 =>
 callV S i_impl_TilesAt [.agg cs32, .sl s29, .sl s31, .int .i64 x3, .int .i64 x4] h30 fun v34 h33 =>
 viaT v34 fun vs35 =>
 exS vs35 0 fun s36 =>
 viaT v34 fun vs37 =>
 exI .i64 vs37 1 fun n38 =>
 callB S i_laws_eqInt64S [.sl s36, .sl s19] h33 fun b40 h39 =>
 bif (!b40) then
 K (.bool false) h39
 else
 bif (n38 != n21) then
 K (.bool false) h39
 else
 ldA p25 2 h39 fun cs41 =>
 ldA p0 2 h39 fun cs42 =>
 callA S i_laws_toSet [.agg cs42] h39 fun cs44 h43 =>
(range h43 p25.o p25.n p25.off 2 = range h39 p25.o p25.n p25.off 2) ∧ (
 callB S i_laws_eqSet [.agg cs41, .agg cs44] h43 fun b46 h45 =>
 bif (!b46) then
 K (.bool false) h45
 else
 callS S i_laws_toInt64SS [.sl x1] h45 fun s48 h47 =>
 callB S i_laws_eqInt64SS [.sl s29, .sl s48] h47 fun b50 h49 =>
 bif (!b50) then
 K (.bool false) h49
 else
 callS S i_laws_toInt64SS [.sl x2] h49 fun s52 h51 =>
 callB S i_laws_eqInt64SS [.sl s31, .sl s52] h51 fun b54 h53 =>
 bif (!b54) then
 K (.bool false) h53
 else
 ldA p25 2 h53 fun cs55 =>
 callI S .i64 i_laws_markSet [.agg cs55, .int .i64 (1)] h53 fun n57 h56 =>
 callI S .i64 i_laws_markInt64SS [.sl s29, .int .i64 n57] h56 fun n59 h58 =>
 callI S .i64 i_laws_markInt64SS [.sl s31, .int .i64 n59] h58 fun n61 h60 =>
 bif (decide (n61 < (0))) then
 K (.bool false) h60
 else
 callB S i_laws_eqInt64S [.sl s36, .sl s19] h60 fun b63 h62 =>
 bif (!b63) then
 K (.bool false) h62
 else
 bif (n38 != n21) then
 K (.bool false) h62
 else
 callI S .i64 i_laws_markInt64S [.sl s36, .int .i64 (1)] h62 fun n65 h64 =>
 callI S .i64 i_laws_heldInt64S [.sl s36, .int .i64 (1)] h64 fun n67 h66 =>
 bif (decide (n67 < (0))) then
 K (.bool false) h66
 else
 bif (n67 != n65) then
 K (.bool false) h66
 else
 ldA p0 2 h66 fun cs68 =>
 callA S i_laws_toSet [.agg cs68] h66 fun cs70 h69 =>
 callS S i_laws_toInt64SS [.sl x1] h69 fun s72 h71 =>
 callS S i_laws_toInt64SS [.sl x2] h71 fun s74 h73 =>
 callV S i_impl_TilesAt [.agg cs70, .sl s72, .sl s74, .int .i64 x3, .int .i64 x4] h73 fun v76 h75 =>
 viaT v76 fun vs77 =>
 exS vs77 0 fun s78 =>
 viaT v76 fun vs79 =>
 exI .i64 vs79 1 fun n80 =>
 callB S i_laws_eqInt64S [.sl s78, .sl s19] h75 fun b82 h81 =>
 bif (!b82) then
 K (.bool false) h81
 else
 bif (n80 != n21) then
 K (.bool false) h81
 else
 callI S .i64 i_laws_heldInt64S [.sl s36, .int .i64 (1)] h81 fun n84 h83 =>
 bif (decide (n84 < (0))) then
 K (.bool false) h83
 else
 bif (n84 != n65) then
 K (.bool false) h83
 else
 K (.bool true) h83)
theorem laws_FnExactTilesAt_main_link (S : SatT) (K : AVal → H → Prop) (x0 : List AVal) (x1 : Sl) (x2 : Sl) (x3 : Int) (x4 : Int) (h : H) : cwp S tab laws_FnExactTilesAt_M [] (bodyOf Try.f3) (kFun tab Try.f3.results.toList K) (fr0 Try.f3 [.agg x0, .sl x1, .sl x2, .int .i64 x3, .int .i64 x4]) h = laws_FnExactTilesAt_main S K x0 x1 x2 x3 x4 h := by kernel_rfl
theorem laws_FnExactTilesAt_call (x0 : List AVal) (x1 : Sl) (x2 : Sl) (x3 : Int) (x4 : Int) (h : H) (K : Bool → H → Prop) (hm : laws_FnExactTilesAt_main (Sat Try.prog) (fun v h' => ∃ r, v = .bool r ∧ K r h') x0 x1 x2 x3 x4 h) : callB (Sat Try.prog) i_laws_FnExactTilesAt [.agg x0, .sl x1, .sl x2, .int .i64 x3, .int .i64 x4] h K := by
  have := Sat.ex tok mixed laws_FnExactTilesAt_M Try.func3 (c := bodyOf Try.f3) (by kernel_rfl) (calls_of Try.func3 (c := bodyOf Try.f3) (by kernel_rfl) (by decide)) ((laws_FnExactTilesAt_main_link _ _ x0 x1 x2 x3 x4 h).mpr hm)
  obtain ⟨v, h2, h3, r, rfl, h4⟩ := this; exact ⟨r, h2, h3, h4⟩

/-! ### loop.example/g01354/impl.isTable -/
def impl_isTable_M : Nat → List Nat := fun i => bif i == 0 then [0, 1, 16, 17, 18] else []
def impl_isTable_ks5 (S : SatT) (K : AVal → H → Prop) : Kont := kSeq (cwp S tab impl_isTable_M [] (sub [1, 1, 1] (bodyOf Try.f56)) (kFun tab (Try.f56).results.toList K)) (kFun tab (Try.f56).results.toList K)
def impl_isTable_e0 (s0_ : Sl) (i1_ : Int) (s16_ : Sl) (i17_ : Int) (i18_ : Int) : Frame := [.sl s0_, .int .i64 i1_, U, U, U, U, U, U, U, U, U, U, U, U, U, U, .sl s16_, .int .i64 i17_, .int .i64 i18_, U, U, U, U, U, U, U, U, U, U, U, U, U, U, U, U, U, U, U, U, U, U]
def impl_isTable_w0 (S : SatT) (K : AVal → H → Prop) : (Frame → H → Prop) → Frame → H → Prop := fun X fr h => cwp S tab impl_isTable_M (impl_isTable_M 0) (sub [1, 1, 0, 1, 0, 0] (bodyOf Try.f56)) (kSeq (fun fr h => X (mask (impl_isTable_M 0) fr) h) (kBlk 0 (impl_isTable_ks5 S K))) fr h
def impl_isTable_L0 (S : SatT) (K : AVal → H → Prop) (s0_ : Sl) (i1_ : Int) (s16_ : Sl) (i17_ : Int) (i18_ : Int) (h : H) : Prop := loopK (impl_isTable_w0 S K) (impl_isTable_e0 s0_ i1_ s16_ i17_ i18_) h
def impl_isTable_C0 (S : SatT) (K : AVal → H → Prop) (h : H) : Prop :=
 K (.bool true) h
def impl_isTable_b0 (S : SatT) (K : AVal → H → Prop) (X0 : Frame → H → Prop) (s0_ : Sl) (i1_ : Int) (s16_ : Sl) (i17_ : Int) (i18_ : Int) (h : H) : Prop :=
 bif (decide (i18_ < i17_)) then
 ixS s16_ 1 i18_ fun p0 =>
 ldS p0 h fun s1 =>
 ixS s0_ 1 (0) fun p2 =>
 ldS p2 h fun s3 =>
 bif ((s1.len : Int) != (s3.len : Int)) then
 K (.bool false) h
 else
 bif (decide ((s1.len : Int) < (1))) then
 K (.bool false) h
 else
 bif (decide ((s1.len : Int) > i1_)) then
 K (.bool false) h
 else
 X0 (impl_isTable_e0 s0_ i1_ s16_ i17_ (w64 (i18_ + (1)))) h
 else
 impl_isTable_C0 S K h
theorem impl_isTable_link0 (S : SatT) (K : AVal → H → Prop) (X0 : Frame → H → Prop) (s0_ : Sl) (i1_ : Int) (s16_ : Sl) (i17_ : Int) (i18_ : Int) (h : H) : impl_isTable_w0 S K X0 (impl_isTable_e0 s0_ i1_ s16_ i17_ i18_) h = impl_isTable_b0 S K X0 s0_ i1_ s16_ i17_ i18_ h := by kernel_rfl
theorem impl_isTable_rule0 (S : SatT) (K : AVal → H → Prop) (s0_ : Sl) (i1_ : Int) (s16_ : Sl) (i17_ : Int) (I_ : Int → H → Prop) (m_ : Int → H → Nat)
    (hs : ∀ (X0 : Frame → H → Prop) (i18_ : Int) (h : H), I_ i18_ h → (∀ (i18_' : Int) (h' : H), I_ i18_' h' → m_ i18_' h' < m_ i18_ h → X0 (impl_isTable_e0 s0_ i1_ s16_ i17_ i18_') h') → impl_isTable_b0 S K X0 s0_ i1_ s16_ i17_ i18_ h) (i18_ : Int) {h : H} (h0 : I_ i18_ h) : impl_isTable_L0 S K s0_ i1_ s16_ i17_ i18_ h :=
  loop_rule (σ := (Int)) (fun s_ => impl_isTable_e0 s0_ i1_ s16_ i17_ (s_)) (fun s_ h => I_ (s_) h) (fun s_ h => m_ (s_) h)
    (fun X s_ h hi hx => (impl_isTable_link0 S K X s0_ i1_ s16_ i17_ (s_) h).mpr (hs X (s_) h hi fun i18_' h' hi' hm' => hx (i18_') h' hi' hm')) (i18_) h0
theorem impl_isTable_unroll0 (S : SatT) (K : AVal → H → Prop) (s0_ : Sl) (i1_ : Int) (s16_ : Sl) (i17_ : Int) (i18_ : Int) (h : H) (hb : impl_isTable_b0 S K (fun fr h => loopK (impl_isTable_w0 S K) fr h) s0_ i1_ s16_ i17_ i18_ h) : impl_isTable_L0 S K s0_ i1_ s16_ i17_ i18_ h := loop_unroll ((impl_isTable_link0 S K _ s0_ i1_ s16_ i17_ i18_ h).mpr hb)
def impl_isTable_main (S : SatT) (K : AVal → H → Prop) (x0 : Sl) (x1 : Int) (h : H) : Prop :=
 bif (decide ((x0.len : Int) < (1))) then
 K (.bool false) h
 else
 bif (decide ((x0.len : Int) > x1)) then
 K (.bool false) h
 else
 impl_isTable_L0 S K x0 x1 x0 (x0.len : Int) (0) h
theorem impl_isTable_main_link (S : SatT) (K : AVal → H → Prop) (x0 : Sl) (x1 : Int) (h : H) : cwp S tab impl_isTable_M [] (bodyOf Try.f56) (kFun tab Try.f56.results.toList K) (fr0 Try.f56 [.sl x0, .int .i64 x1]) h = impl_isTable_main S K x0 x1 h := by kernel_rfl
theorem impl_isTable_call (x0 : Sl) (x1 : Int) (h : H) (K : Bool → H → Prop) (hm : impl_isTable_main (Sat Try.prog) (fun v h' => ∃ r, v = .bool r ∧ K r h') x0 x1 h) : callB (Sat Try.prog) i_impl_isTable [.sl x0, .int .i64 x1] h K := by
  have := Sat.ex tok mixed impl_isTable_M Try.func56 (c := bodyOf Try.f56) (by kernel_rfl) (calls_of Try.func56 (c := bodyOf Try.f56) (by kernel_rfl) (by decide)) ((impl_isTable_main_link _ _ x0 x1 h).mpr hm)
  obtain ⟨v, h2, h3, r, rfl, h4⟩ := this; exact ⟨r, h2, h3, h4⟩

/-! ### loop.example/g01354/laws.markInt64SS -/
def laws_markInt64SS_M : Nat → List Nat := fun i => bif i == 0 then [0, 1, 5] else []
def laws_markInt64SS_ks1 (S : SatT) (K : AVal → H → Prop) : Kont := kSeq (cwp S tab laws_markInt64SS_M [] (sub [1, 1] (bodyOf Try.f15)) (kFun tab (Try.f15).results.toList K)) (kFun tab (Try.f15).results.toList K)
def laws_markInt64SS_e0 (s0_ : Sl) (i1_ : Int) (i5_ : Int) : Frame := [.sl s0_, .int .i64 i1_, U, U, U, .int .i64 i5_, U, U, U, U, U, U, U, U, U, U, U, U, U]
def laws_markInt64SS_w0 (S : SatT) (K : AVal → H → Prop) : (Frame → H → Prop) → Frame → H → Prop := fun X fr h => cwp S tab laws_markInt64SS_M (laws_markInt64SS_M 0) (sub [1, 0, 1, 0, 0] (bodyOf Try.f15)) (kSeq (fun fr h => X (mask (laws_markInt64SS_M 0) fr) h) (kBlk 0 (laws_markInt64SS_ks1 S K))) fr h
def laws_markInt64SS_L0 (S : SatT) (K : AVal → H → Prop) (s0_ : Sl) (i1_ : Int) (i5_ : Int) (h : H) : Prop := loopK (laws_markInt64SS_w0 S K) (laws_markInt64SS_e0 s0_ i1_ i5_) h
def laws_markInt64SS_C0 (S : SatT) (K : AVal → H → Prop) (i1_ : Int) (h : H) : Prop :=
 K (.int .i64 i1_) h
def laws_markInt64SS_b0 (S : SatT) (K : AVal → H → Prop) (X0 : Frame → H → Prop) (s0_ : Sl) (i1_ : Int) (i5_ : Int) (h : H) : Prop :=
 bif (decide (i5_ < (s0_.len : Int))) then
 ixS s0_ 1 i5_ fun p0 =>
 ldS p0 h fun s1 =>
 callI S .i64 i_laws_markInt64S [.sl s1, .int .i64 i1_] h fun n3 h2 =>
 X0 (laws_markInt64SS_e0 s0_ n3 (w64 (i5_ + (1)))) h2
 else
 laws_markInt64SS_C0 S K i1_ h
theorem laws_markInt64SS_link0 (S : SatT) (K : AVal → H → Prop) (X0 : Frame → H → Prop) (s0_ : Sl) (i1_ : Int) (i5_ : Int) (h : H) : laws_markInt64SS_w0 S K X0 (laws_markInt64SS_e0 s0_ i1_ i5_) h = laws_markInt64SS_b0 S K X0 s0_ i1_ i5_ h := by kernel_rfl
theorem laws_markInt64SS_rule0 (S : SatT) (K : AVal → H → Prop) (s0_ : Sl) (I_ : Int → Int → H → Prop) (m_ : Int → Int → H → Nat)
    (hs : ∀ (X0 : Frame → H → Prop) (i1_ : Int) (i5_ : Int) (h : H), I_ i1_ i5_ h → (∀ (i1_' : Int) (i5_' : Int) (h' : H), I_ i1_' i5_' h' → m_ i1_' i5_' h' < m_ i1_ i5_ h → X0 (laws_markInt64SS_e0 s0_ i1_' i5_') h') → laws_markInt64SS_b0 S K X0 s0_ i1_ i5_ h) (i1_ : Int) (i5_ : Int) {h : H} (h0 : I_ i1_ i5_ h) : laws_markInt64SS_L0 S K s0_ i1_ i5_ h :=
  loop_rule (σ := (Int) × (Int)) (fun s_ => laws_markInt64SS_e0 s0_ (s_.1) (s_.2)) (fun s_ h => I_ (s_.1) (s_.2) h) (fun s_ h => m_ (s_.1) (s_.2) h)
    (fun X s_ h hi hx => (laws_markInt64SS_link0 S K X s0_ (s_.1) (s_.2) h).mpr (hs X (s_.1) (s_.2) h hi fun i1_' i5_' h' hi' hm' => hx (i1_', i5_') h' hi' hm')) (i1_, i5_) h0
theorem laws_markInt64SS_unroll0 (S : SatT) (K : AVal → H → Prop) (s0_ : Sl) (i1_ : Int) (i5_ : Int) (h : H) (hb : laws_markInt64SS_b0 S K (fun fr h => loopK (laws_markInt64SS_w0 S K) fr h) s0_ i1_ i5_ h) : laws_markInt64SS_L0 S K s0_ i1_ i5_ h := loop_unroll ((laws_markInt64SS_link0 S K _ s0_ i1_ i5_ h).mpr hb)
def laws_markInt64SS_main (S : SatT) (K : AVal → H → Prop) (x0 : Sl) (x1 : Int) (h : H) : Prop :=
 laws_markInt64SS_L0 S K x0 x1 (0) h
theorem laws_markInt64SS_main_link (S : SatT) (K : AVal → H → Prop) (x0 : Sl) (x1 : Int) (h : H) : cwp S tab laws_markInt64SS_M [] (bodyOf Try.f15) (kFun tab Try.f15.results.toList K) (fr0 Try.f15 [.sl x0, .int .i64 x1]) h = laws_markInt64SS_main S K x0 x1 h := by kernel_rfl
theorem laws_markInt64SS_call (x0 : Sl) (x1 : Int) (h : H) (K : Int → H → Prop) (hm : laws_markInt64SS_main (Sat Try.prog) (fun v h' => ∃ r, v = .int .i64 r ∧ K r h') x0 x1 h) : callI (Sat Try.prog) .i64 i_laws_markInt64SS [.sl x0, .int .i64 x1] h K := by
  have := Sat.ex tok mixed laws_markInt64SS_M Try.func15 (c := bodyOf Try.f15) (by kernel_rfl) (calls_of Try.func15 (c := bodyOf Try.f15) (by kernel_rfl) (by decide)) ((laws_markInt64SS_main_link _ _ x0 x1 h).mpr hm)
  obtain ⟨v, h2, h3, r, rfl, h4⟩ := this; exact ⟨r, h2, h3, h4⟩

/-! ### loop.example/g01354/laws.heldInt64S -/
def laws_heldInt64S_M : Nat → List Nat := fun i => bif i == 0 then [0, 1, 5] else []
def laws_heldInt64S_ks1 (S : SatT) (K : AVal → H → Prop) : Kont := kSeq (cwp S tab laws_heldInt64S_M [] (sub [1, 1] (bodyOf Try.f17)) (kFun tab (Try.f17).results.toList K)) (kFun tab (Try.f17).results.toList K)
def laws_heldInt64S_e0 (s0_ : Sl) (i1_ : Int) (i5_ : Int) : Frame := [.sl s0_, .int .i64 i1_, U, U, U, .int .i64 i5_, U, U, U, U, U, U, U, U, U, U, U, U, U, U, U]
def laws_heldInt64S_w0 (S : SatT) (K : AVal → H → Prop) : (Frame → H → Prop) → Frame → H → Prop := fun X fr h => cwp S tab laws_heldInt64S_M (laws_heldInt64S_M 0) (sub [1, 0, 1, 0, 0] (bodyOf Try.f17)) (kSeq (fun fr h => X (mask (laws_heldInt64S_M 0) fr) h) (kBlk 0 (laws_heldInt64S_ks1 S K))) fr h
def laws_heldInt64S_L0 (S : SatT) (K : AVal → H → Prop) (s0_ : Sl) (i1_ : Int) (i5_ : Int) (h : H) : Prop := loopK (laws_heldInt64S_w0 S K) (laws_heldInt64S_e0 s0_ i1_ i5_) h
def laws_heldInt64S_C0 (S : SatT) (K : AVal → H → Prop) (i1_ : Int) (h : H) : Prop :=
 K (.int .i64 i1_) h
def laws_heldInt64S_b0 (S : SatT) (K : AVal → H → Prop) (X0 : Frame → H → Prop) (s0_ : Sl) (i1_ : Int) (i5_ : Int) (h : H) : Prop :=
 bif (decide (i5_ < (s0_.len : Int))) then
 ixS s0_ 1 i5_ fun p0 =>
 ldI .i64 p0 h fun n1 =>
 bif (n1 != i1_) then
 K (.int .i64 (-1)) h
 else
 X0 (laws_heldInt64S_e0 s0_ (w64 (i1_ + (1))) (w64 (i5_ + (1)))) h
 else
 laws_heldInt64S_C0 S K i1_ h
theorem laws_heldInt64S_link0 (S : SatT) (K : AVal → H → Prop) (X0 : Frame → H → Prop) (s0_ : Sl) (i1_ : Int) (i5_ : Int) (h : H) : laws_heldInt64S_w0 S K X0 (laws_heldInt64S_e0 s0_ i1_ i5_) h = laws_heldInt64S_b0 S K X0 s0_ i1_ i5_ h := by kernel_rfl
theorem laws_heldInt64S_rule0 (S : SatT) (K : AVal → H → Prop) (s0_ : Sl) (I_ : Int → Int → H → Prop) (m_ : Int → Int → H → Nat)
    (hs : ∀ (X0 : Frame → H → Prop) (i1_ : Int) (i5_ : Int) (h : H), I_ i1_ i5_ h → (∀ (i1_' : Int) (i5_' : Int) (h' : H), I_ i1_' i5_' h' → m_ i1_' i5_' h' < m_ i1_ i5_ h → X0 (laws_heldInt64S_e0 s0_ i1_' i5_') h') → laws_heldInt64S_b0 S K X0 s0_ i1_ i5_ h) (i1_ : Int) (i5_ : Int) {h : H} (h0 : I_ i1_ i5_ h) : laws_heldInt64S_L0 S K s0_ i1_ i5_ h :=
  loop_rule (σ := (Int) × (Int)) (fun s_ => laws_heldInt64S_e0 s0_ (s_.1) (s_.2)) (fun s_ h => I_ (s_.1) (s_.2) h) (fun s_ h => m_ (s_.1) (s_.2) h)
    (fun X s_ h hi hx => (laws_heldInt64S_link0 S K X s0_ (s_.1) (s_.2) h).mpr (hs X (s_.1) (s_.2) h hi fun i1_' i5_' h' hi' hm' => hx (i1_', i5_') h' hi' hm')) (i1_, i5_) h0
theorem laws_heldInt64S_unroll0 (S : SatT) (K : AVal → H → Prop) (s0_ : Sl) (i1_ : Int) (i5_ : Int) (h : H) (hb : laws_heldInt64S_b0 S K (fun fr h => loopK (laws_heldInt64S_w0 S K) fr h) s0_ i1_ i5_ h) : laws_heldInt64S_L0 S K s0_ i1_ i5_ h := loop_unroll ((laws_heldInt64S_link0 S K _ s0_ i1_ i5_ h).mpr hb)
def laws_heldInt64S_main (S : SatT) (K : AVal → H → Prop) (x0 : Sl) (x1 : Int) (h : H) : Prop :=
 laws_heldInt64S_L0 S K x0 x1 (0) h
theorem laws_heldInt64S_main_link (S : SatT) (K : AVal → H → Prop) (x0 : Sl) (x1 : Int) (h : H) : cwp S tab laws_heldInt64S_M [] (bodyOf Try.f17) (kFun tab Try.f17.results.toList K) (fr0 Try.f17 [.sl x0, .int .i64 x1]) h = laws_heldInt64S_main S K x0 x1 h := by kernel_rfl
theorem laws_heldInt64S_call (x0 : Sl) (x1 : Int) (h : H) (K : Int → H → Prop) (hm : laws_heldInt64S_main (Sat Try.prog) (fun v h' => ∃ r, v = .int .i64 r ∧ K r h') x0 x1 h) : callI (Sat Try.prog) .i64 i_laws_heldInt64S [.sl x0, .int .i64 x1] h K := by
  have := Sat.ex tok mixed laws_heldInt64S_M Try.func17 (c := bodyOf Try.f17) (by kernel_rfl) (calls_of Try.func17 (c := bodyOf Try.f17) (by kernel_rfl) (by decide)) ((laws_heldInt64S_main_link _ _ x0 x1 h).mpr hm)
  obtain ⟨v, h2, h3, r, rfl, h4⟩ := this; exact ⟨r, h2, h3, h4⟩

/-! ### loop.example/g01354/spec.l01Word -/
def spec_l01Word_M : Nat → List Nat := fun i => bif i == 0 then [1, 2, 5] else []
def spec_l01Word_ks1 (S : SatT) (K : AVal → H → Prop) : Kont := kSeq (cwp S tab spec_l01Word_M [] (sub [1, 1] (bodyOf Try.f36)) (kFun tab (Try.f36).results.toList K)) (kFun tab (Try.f36).results.toList K)
def spec_l01Word_e0 (s1_ : Sl) (p2_ : Pt) (i5_ : Int) : Frame := [U, .sl s1_, .ptr p2_, U, U, .int .i64 i5_, U, U, U, U, U, U, U, U, U, U, U, U, U, U, U]
def spec_l01Word_w0 (S : SatT) (K : AVal → H → Prop) : (Frame → H → Prop) → Frame → H → Prop := fun X fr h => cwp S tab spec_l01Word_M (spec_l01Word_M 0) (sub [1, 0, 1, 0, 0] (bodyOf Try.f36)) (kSeq (fun fr h => X (mask (spec_l01Word_M 0) fr) h) (kBlk 0 (spec_l01Word_ks1 S K))) fr h
def spec_l01Word_L0 (S : SatT) (K : AVal → H → Prop) (s1_ : Sl) (p2_ : Pt) (i5_ : Int) (h : H) : Prop := loopK (spec_l01Word_w0 S K) (spec_l01Word_e0 s1_ p2_ i5_) h
def spec_l01Word_C0 (S : SatT) (K : AVal → H → Prop) (h : H) : Prop :=
 K (.bool true) h
def spec_l01Word_b0 (S : SatT) (K : AVal → H → Prop) (X0 : Frame → H → Prop) (s1_ : Sl) (p2_ : Pt) (i5_ : Int) (h : H) : Prop :=
 bif (decide (i5_ < (s1_.len : Int))) then
 ixS s1_ 1 i5_ fun p0 =>
 ldI .i64 p0 h fun n1 =>
 isPt p2_ (
 ldI .i64 (Pt.add p2_ 0) h fun n2 =>
 callB S i_spec_l01In [.int .i64 n1, .int .i64 (0), .int .i64 (w64 (n2 - (1)))] h fun b4 h3 =>
 bif (!b4) then
 K (.bool false) h3
 else
 X0 (spec_l01Word_e0 s1_ p2_ (w64 (i5_ + (1)))) h3)
 else
 spec_l01Word_C0 S K h
theorem spec_l01Word_link0 (S : SatT) (K : AVal → H → Prop) (X0 : Frame → H → Prop) (s1_ : Sl) (p2_ : Pt) (i5_ : Int) (h : H) : spec_l01Word_w0 S K X0 (spec_l01Word_e0 s1_ p2_ i5_) h = spec_l01Word_b0 S K X0 s1_ p2_ i5_ h := by kernel_rfl
theorem spec_l01Word_rule0 (S : SatT) (K : AVal → H → Prop) (s1_ : Sl) (p2_ : Pt) (I_ : Int → H → Prop) (m_ : Int → H → Nat)
    (hs : ∀ (X0 : Frame → H → Prop) (i5_ : Int) (h : H), I_ i5_ h → (∀ (i5_' : Int) (h' : H), I_ i5_' h' → m_ i5_' h' < m_ i5_ h → X0 (spec_l01Word_e0 s1_ p2_ i5_') h') → spec_l01Word_b0 S K X0 s1_ p2_ i5_ h) (i5_ : Int) {h : H} (h0 : I_ i5_ h) : spec_l01Word_L0 S K s1_ p2_ i5_ h :=
  loop_rule (σ := (Int)) (fun s_ => spec_l01Word_e0 s1_ p2_ (s_)) (fun s_ h => I_ (s_) h) (fun s_ h => m_ (s_) h)
    (fun X s_ h hi hx => (spec_l01Word_link0 S K X s1_ p2_ (s_) h).mpr (hs X (s_) h hi fun i5_' h' hi' hm' => hx (i5_') h' hi' hm')) (i5_) h0
theorem spec_l01Word_unroll0 (S : SatT) (K : AVal → H → Prop) (s1_ : Sl) (p2_ : Pt) (i5_ : Int) (h : H) (hb : spec_l01Word_b0 S K (fun fr h => loopK (spec_l01Word_w0 S K) fr h) s1_ p2_ i5_ h) : spec_l01Word_L0 S K s1_ p2_ i5_ h := loop_unroll ((spec_l01Word_link0 S K _ s1_ p2_ i5_ h).mpr hb)
def spec_l01Word_main (S : SatT) (K : AVal → H → Prop) (x0 : List AVal) (x1 : Sl) (h : H) : Prop :=
 newK 2 x0 h fun p0 h1 =>
 spec_l01Word_L0 S K x1 p0 (0) h1
theorem spec_l01Word_main_link (S : SatT) (K : AVal → H → Prop) (x0 : List AVal) (x1 : Sl) (h : H) : cwp S tab spec_l01Word_M [] (bodyOf Try.f36) (kFun tab Try.f36.results.toList K) (fr0 Try.f36 [.agg x0, .sl x1]) h = spec_l01Word_main S K x0 x1 h := by kernel_rfl
theorem spec_l01Word_call (x0 : List AVal) (x1 : Sl) (h : H) (K : Bool → H → Prop) (hm : spec_l01Word_main (Sat Try.prog) (fun v h' => ∃ r, v = .bool r ∧ K r h') x0 x1 h) : callB (Sat Try.prog) i_spec_l01Word [.agg x0, .sl x1] h K := by
  have := Sat.ex tok mixed spec_l01Word_M Try.func36 (c := bodyOf Try.f36) (by kernel_rfl) (calls_of Try.func36 (c := bodyOf Try.f36) (by kernel_rfl) (by decide)) ((spec_l01Word_main_link _ _ x0 x1 h).mpr hm)
  obtain ⟨v, h2, h3, r, rfl, h4⟩ := this; exact ⟨r, h2, h3, h4⟩

/-! ### loop.example/g01354/spec.l03Power -/
def spec_l03Power_M : Nat → List Nat := fun i => bif i == 0 then [0, 1, 5] else []
def spec_l03Power_ks2 (S : SatT) (K : AVal → H → Prop) : Kont := kSeq (cwp S tab spec_l03Power_M [] (sub [1, 1, 1] (bodyOf Try.f51)) (kFun tab (Try.f51).results.toList K)) (kFun tab (Try.f51).results.toList K)
def spec_l03Power_e0 (i0_ : Int) (i1_ : Int) (i5_ : Int) : Frame := [.int .i64 i0_, .int .i64 i1_, U, U, U, .int .i64 i5_, U, U, U, U, U, U, U, U]
def spec_l03Power_w0 (S : SatT) (K : AVal → H → Prop) : (Frame → H → Prop) → Frame → H → Prop := fun X fr h => cwp S tab spec_l03Power_M (spec_l03Power_M 0) (sub [1, 1, 0, 0, 0] (bodyOf Try.f51)) (kSeq (fun fr h => X (mask (spec_l03Power_M 0) fr) h) (kBlk 0 (spec_l03Power_ks2 S K))) fr h
def spec_l03Power_L0 (S : SatT) (K : AVal → H → Prop) (i0_ : Int) (i1_ : Int) (i5_ : Int) (h : H) : Prop := loopK (spec_l03Power_w0 S K) (spec_l03Power_e0 i0_ i1_ i5_) h
def spec_l03Power_C0 (S : SatT) (K : AVal → H → Prop) (i5_ : Int) (h : H) : Prop :=
 K (.int .i64 i5_) h
def spec_l03Power_b0 (S : SatT) (K : AVal → H → Prop) (X0 : Frame → H → Prop) (i0_ : Int) (i1_ : Int) (i5_ : Int) (h : H) : Prop :=
 bif (decide (i1_ > (0))) then
 X0 (spec_l03Power_e0 i0_ (w64 (i1_ - (1))) (w64 (i5_ * i0_))) h
 else
 spec_l03Power_C0 S K i5_ h
theorem spec_l03Power_link0 (S : SatT) (K : AVal → H → Prop) (X0 : Frame → H → Prop) (i0_ : Int) (i1_ : Int) (i5_ : Int) (h : H) : spec_l03Power_w0 S K X0 (spec_l03Power_e0 i0_ i1_ i5_) h = spec_l03Power_b0 S K X0 i0_ i1_ i5_ h := by kernel_rfl
theorem spec_l03Power_rule0 (S : SatT) (K : AVal → H → Prop) (i0_ : Int) (I_ : Int → Int → H → Prop) (m_ : Int → Int → H → Nat)
    (hs : ∀ (X0 : Frame → H → Prop) (i1_ : Int) (i5_ : Int) (h : H), I_ i1_ i5_ h → (∀ (i1_' : Int) (i5_' : Int) (h' : H), I_ i1_' i5_' h' → m_ i1_' i5_' h' < m_ i1_ i5_ h → X0 (spec_l03Power_e0 i0_ i1_' i5_') h') → spec_l03Power_b0 S K X0 i0_ i1_ i5_ h) (i1_ : Int) (i5_ : Int) {h : H} (h0 : I_ i1_ i5_ h) : spec_l03Power_L0 S K i0_ i1_ i5_ h :=
  loop_rule (σ := (Int) × (Int)) (fun s_ => spec_l03Power_e0 i0_ (s_.1) (s_.2)) (fun s_ h => I_ (s_.1) (s_.2) h) (fun s_ h => m_ (s_.1) (s_.2) h)
    (fun X s_ h hi hx => (spec_l03Power_link0 S K X i0_ (s_.1) (s_.2) h).mpr (hs X (s_.1) (s_.2) h hi fun i1_' i5_' h' hi' hm' => hx (i1_', i5_') h' hi' hm')) (i1_, i5_) h0
theorem spec_l03Power_unroll0 (S : SatT) (K : AVal → H → Prop) (i0_ : Int) (i1_ : Int) (i5_ : Int) (h : H) (hb : spec_l03Power_b0 S K (fun fr h => loopK (spec_l03Power_w0 S K) fr h) i0_ i1_ i5_ h) : spec_l03Power_L0 S K i0_ i1_ i5_ h := loop_unroll ((spec_l03Power_link0 S K _ i0_ i1_ i5_ h).mpr hb)
def spec_l03Power_main (S : SatT) (K : AVal → H → Prop) (x0 : Int) (x1 : Int) (h : H) : Prop :=
 spec_l03Power_L0 S K x0 x1 (1) h
theorem spec_l03Power_main_link (S : SatT) (K : AVal → H → Prop) (x0 : Int) (x1 : Int) (h : H) : cwp S tab spec_l03Power_M [] (bodyOf Try.f51) (kFun tab Try.f51.results.toList K) (fr0 Try.f51 [.int .i64 x0, .int .i64 x1]) h = spec_l03Power_main S K x0 x1 h := by kernel_rfl
theorem spec_l03Power_call (x0 : Int) (x1 : Int) (h : H) (K : Int → H → Prop) (hm : spec_l03Power_main (Sat Try.prog) (fun v h' => ∃ r, v = .int .i64 r ∧ K r h') x0 x1 h) : callI (Sat Try.prog) .i64 i_spec_l03Power [.int .i64 x0, .int .i64 x1] h K := by
  have := Sat.ex tok mixed spec_l03Power_M Try.func51 (c := bodyOf Try.f51) (by kernel_rfl) (calls_of Try.func51 (c := bodyOf Try.f51) (by kernel_rfl) (by decide)) ((spec_l03Power_main_link _ _ x0 x1 h).mpr hm)
  obtain ⟨v, h2, h3, r, rfl, h4⟩ := this; exact ⟨r, h2, h3, h4⟩

/-! ### loop.example/g01354/spec.l03Can -/
def spec_l03Can_M : Nat → List Nat := fun i => []
def spec_l03Can_main (S : SatT) (K : AVal → H → Prop) (x0 : List AVal) (x1 : Sl) (x2 : Sl) (x3 : Int) (x4 : Int) (x5 : Int) (h : H) : Prop :=
 newK 2 x0 h fun p0 h1 =>
 ixS x1 1 (0) fun p2 =>
 ldS p2 h1 fun s3 =>
 isPt p0 (
 ldI .i64 (Pt.add p0 0) h1 fun n4 =>
 isPt p0 (
 ldS (Pt.add p0 1) h1 fun s5 =>
 ixS s5 4 x5 fun p6 =>
 ldA p6 4 h1 fun cs7 =>
 newO [.int .i64 (0), .int .i64 (0), .int .i64 (0), .int .i64 (0)] h1 fun p8 h9 =>
(range h9 p6.o p6.n p6.off 4 = range h1 p6.o p6.n p6.off 4) ∧ (
(cell h9 (Pt.add p0 1) = cell h1 (Pt.add p0 1)) ∧ (
(cell h9 (Pt.add p0 0) = cell h1 (Pt.add p0 0)) ∧ (
(cell h9 p2 = cell h1 p2) ∧ (
 stN p8 4 cs7 h9 fun h10 =>
 nz (s3.len : Int) (
 nz (s3.len : Int) (
 ldA p0 2 h10 fun cs11 =>
 callB S i_spec_l03Fits [.agg cs11, .sl x1, .sl x2, .int .i64 (w64 (Int.tdiv x4 (s3.len : Int))), .int .i64 (Int.tmod x4 (s3.len : Int)), .int .i64 x5] h10 fun b13 h12 =>
 bif b13 then
 bif ((w64 (Int.tdiv x4 (s3.len : Int))) == (0)) then
 bif ((Int.tmod x4 (s3.len : Int)) == (0)) then
 K (.bool true) h12
 else
 callI S .i64 i_spec_l03Digit [.int .i64 x3, .int .i64 n4, .int .i64 (s3.len : Int)] h12 fun n15 h14 =>
 ixA p8 4 1 (0) fun p16 =>
 ldI .i64 p16 h14 fun n17 =>
(cell h12 p16 = cell h14 p16) ∧ (
 K (.bool (n15 == n17)) h14)
 else
 callI S .i64 i_spec_l03Digit [.int .i64 x3, .int .i64 n4, .int .i64 (Int.tmod x4 (s3.len : Int))] h12 fun n19 h18 =>
 ixA p8 4 1 (1) fun p20 =>
 ldI .i64 p20 h18 fun n21 =>
(cell h12 p20 = cell h18 p20) ∧ (
 bif (n19 == n21) then
 bif ((Int.tmod x4 (s3.len : Int)) == (0)) then
 K (.bool true) h18
 else
 callI S .i64 i_spec_l03Digit [.int .i64 x3, .int .i64 n4, .int .i64 (s3.len : Int)] h18 fun n23 h22 =>
 ixA p8 4 1 (0) fun p24 =>
 ldI .i64 p24 h22 fun n25 =>
(cell h18 p24 = cell h22 p24) ∧ (
 K (.bool (n23 == n25)) h22)
 else
 K (.bool false) h18)
 else
 K (.bool false) h12))))))))
theorem spec_l03Can_main_link (S : SatT) (K : AVal → H → Prop) (x0 : List AVal) (x1 : Sl) (x2 : Sl) (x3 : Int) (x4 : Int) (x5 : Int) (h : H) : cwp S tab spec_l03Can_M [] (bodyOf Try.f38) (kFun tab Try.f38.results.toList K) (fr0 Try.f38 [.agg x0, .sl x1, .sl x2, .int .i64 x3, .int .i64 x4, .int .i64 x5]) h = spec_l03Can_main S K x0 x1 x2 x3 x4 x5 h := by kernel_rfl
theorem spec_l03Can_call (x0 : List AVal) (x1 : Sl) (x2 : Sl) (x3 : Int) (x4 : Int) (x5 : Int) (h : H) (K : Bool → H → Prop) (hm : spec_l03Can_main (Sat Try.prog) (fun v h' => ∃ r, v = .bool r ∧ K r h') x0 x1 x2 x3 x4 x5 h) : callB (Sat Try.prog) i_spec_l03Can [.agg x0, .sl x1, .sl x2, .int .i64 x3, .int .i64 x4, .int .i64 x5] h K := by
  have := Sat.ex tok mixed spec_l03Can_M Try.func38 (c := bodyOf Try.f38) (by kernel_rfl) (calls_of Try.func38 (c := bodyOf Try.f38) (by kernel_rfl) (by decide)) ((spec_l03Can_main_link _ _ x0 x1 x2 x3 x4 x5 h).mpr hm)
  obtain ⟨v, h2, h3, r, rfl, h4⟩ := this; exact ⟨r, h2, h3, h4⟩

/-! ### loop.example/g01354/laws.eqSet -/
def laws_eqSet_M : Nat → List Nat := fun i => []
def laws_eqSet_main (S : SatT) (K : AVal → H → Prop) (x0 : List AVal) (x1 : List AVal) (h : H) : Prop :=
 newK 2 x0 h fun p0 h1 =>
 newK 2 x1 h1 fun p2 h3 =>
 isPt p0 (
 ldI .i64 (Pt.add p0 0) h3 fun n4 =>
 isPt p2 (
 ldI .i64 (Pt.add p2 0) h3 fun n5 =>
 bif (n4 != n5) then
 K (.bool false) h3
 else
 isPt p0 (
 ldS (Pt.add p0 1) h3 fun s6 =>
 isPt p2 (
 ldS (Pt.add p2 1) h3 fun s7 =>
 callB S i_laws_eqTileS [.sl s6, .sl s7] h3 fun b9 h8 =>
 bif (!b9) then
 K (.bool false) h8
 else
 K (.bool true) h8))))
theorem laws_eqSet_main_link (S : SatT) (K : AVal → H → Prop) (x0 : List AVal) (x1 : List AVal) (h : H) : cwp S tab laws_eqSet_M [] (bodyOf Try.f12) (kFun tab Try.f12.results.toList K) (fr0 Try.f12 [.agg x0, .agg x1]) h = laws_eqSet_main S K x0 x1 h := by kernel_rfl
theorem laws_eqSet_call (x0 : List AVal) (x1 : List AVal) (h : H) (K : Bool → H → Prop) (hm : laws_eqSet_main (Sat Try.prog) (fun v h' => ∃ r, v = .bool r ∧ K r h') x0 x1 h) : callB (Sat Try.prog) i_laws_eqSet [.agg x0, .agg x1] h K := by
  have := Sat.ex tok mixed laws_eqSet_M Try.func12 (c := bodyOf Try.f12) (by kernel_rfl) (calls_of Try.func12 (c := bodyOf Try.f12) (by kernel_rfl) (by decide)) ((laws_eqSet_main_link _ _ x0 x1 h).mpr hm)
  obtain ⟨v, h2, h3, r, rfl, h4⟩ := this; exact ⟨r, h2, h3, h4⟩

/-! ### loop.example/g01354/impl.planCode -/
def impl_planCode_M : Nat → List Nat := fun i => []
def impl_planCode_main (S : SatT) (K : AVal → H → Prop) (x0 : List AVal) (x1 : Sl) (x2 : Sl) (h : H) : Prop :=
 newK 2 x0 h fun p0 h1 =>
 newO [.sl x1] h1 fun p2 h3 =>
 newO [.sl x2] h3 fun p4 h5 =>
 ldA p0 2 h5 fun cs6 =>
 callI S .i64 i_impl_setCode [.agg cs6, .func 42 [.ptr p0, .ptr p2, .ptr p4]] h5 fun n8 h7 =>
 K (.int .i64 n8) h7
theorem impl_planCode_main_link (S : SatT) (K : AVal → H → Prop) (x0 : List AVal) (x1 : Sl) (x2 : Sl) (h : H) : cwp S tab impl_planCode_M [] (bodyOf Try.f28) (kFun tab Try.f28.results.toList K) (fr0 Try.f28 [.agg x0, .sl x1, .sl x2]) h = impl_planCode_main S K x0 x1 x2 h := by kernel_rfl
theorem impl_planCode_call (x0 : List AVal) (x1 : Sl) (x2 : Sl) (h : H) (K : Int → H → Prop) (hm : impl_planCode_main (Sat Try.prog) (fun v h' => ∃ r, v = .int .i64 r ∧ K r h') x0 x1 x2 h) : callI (Sat Try.prog) .i64 i_impl_planCode [.agg x0, .sl x1, .sl x2] h K := by
  have := Sat.ex tok mixed impl_planCode_M Try.func28 (c := bodyOf Try.f28) (by kernel_rfl) (calls_of Try.func28 (c := bodyOf Try.f28) (by kernel_rfl) (by decide)) ((impl_planCode_main_link _ _ x0 x1 x2 h).mpr hm)
  obtain ⟨v, h2, h3, r, rfl, h4⟩ := this; exact ⟨r, h2, h3, h4⟩

/-! ### loop.example/g01354/spec.l03Digit -/
def spec_l03Digit_M : Nat → List Nat := fun i => []
def spec_l03Digit_main (S : SatT) (K : AVal → H → Prop) (x0 : Int) (x1 : Int) (x2 : Int) (h : H) : Prop :=
 callI S .i64 i_spec_l03Power [.int .i64 x1, .int .i64 x2] h fun n1 h0 =>
 nz n1 (
 nz x1 (
 K (.int .i64 (Int.tmod (w64 (Int.tdiv x0 n1)) x1)) h0))
theorem spec_l03Digit_main_link (S : SatT) (K : AVal → H → Prop) (x0 : Int) (x1 : Int) (x2 : Int) (h : H) : cwp S tab spec_l03Digit_M [] (bodyOf Try.f53) (kFun tab Try.f53.results.toList K) (fr0 Try.f53 [.int .i64 x0, .int .i64 x1, .int .i64 x2]) h = spec_l03Digit_main S K x0 x1 x2 h := by kernel_rfl
theorem spec_l03Digit_call (x0 : Int) (x1 : Int) (x2 : Int) (h : H) (K : Int → H → Prop) (hm : spec_l03Digit_main (Sat Try.prog) (fun v h' => ∃ r, v = .int .i64 r ∧ K r h') x0 x1 x2 h) : callI (Sat Try.prog) .i64 i_spec_l03Digit [.int .i64 x0, .int .i64 x1, .int .i64 x2] h K := by
  have := Sat.ex tok mixed spec_l03Digit_M Try.func53 (c := bodyOf Try.f53) (by kernel_rfl) (calls_of Try.func53 (c := bodyOf Try.f53) (by kernel_rfl) (by decide)) ((spec_l03Digit_main_link _ _ x0 x1 x2 h).mpr hm)
  obtain ⟨v, h2, h3, r, rfl, h4⟩ := this; exact ⟨r, h2, h3, h4⟩

/-! ### (*loop.example/g01354/impl.filler).size -/
def impl_filler_size_M : Nat → List Nat := fun i => []
def impl_filler_size_main (S : SatT) (K : AVal → H → Prop) (x0 : Pt) (h : H) : Prop :=
 nilC (.ptr x0) (
 isPt x0 (
 ldS (Pt.add x0 2) h fun s0 =>
 nilC (.ptr x0) (
 isPt x0 (
 ldS (Pt.add x0 2) h fun s1 =>
 ixS s1 1 (0) fun p2 =>
 ldS p2 h fun s3 =>
 K (.int .i64 (w64 ((s0.len : Int) * (s3.len : Int)))) h))))
theorem impl_filler_size_main_link (S : SatT) (K : AVal → H → Prop) (x0 : Pt) (h : H) : cwp S tab impl_filler_size_M [] (bodyOf Try.f45) (kFun tab Try.f45.results.toList K) (fr0 Try.f45 [.ptr x0]) h = impl_filler_size_main S K x0 h := by kernel_rfl
theorem impl_filler_size_call (x0 : Pt) (h : H) (K : Int → H → Prop) (hm : impl_filler_size_main (Sat Try.prog) (fun v h' => ∃ r, v = .int .i64 r ∧ K r h') x0 h) : callI (Sat Try.prog) .i64 i_impl_filler_size [.ptr x0] h K := by
  have := Sat.ex tok mixed impl_filler_size_M Try.func45 (c := bodyOf Try.f45) (by kernel_rfl) (calls_of Try.func45 (c := bodyOf Try.f45) (by kernel_rfl) (by decide)) ((impl_filler_size_main_link _ _ x0 h).mpr hm)
  obtain ⟨v, h2, h3, r, rfl, h4⟩ := this; exact ⟨r, h2, h3, h4⟩

/-! ### loop.example/g01354/spec.l01In -/
def spec_l01In_M : Nat → List Nat := fun i => []
def spec_l01In_main (S : SatT) (K : AVal → H → Prop) (x0 : Int) (x1 : Int) (x2 : Int) (h : H) : Prop :=
 bif (decide (x0 ≥ x1)) then
 K (.bool (decide (x0 ≤ x2))) h
 else
 K (.bool false) h
theorem spec_l01In_main_link (S : SatT) (K : AVal → H → Prop) (x0 : Int) (x1 : Int) (x2 : Int) (h : H) : cwp S tab spec_l01In_M [] (bodyOf Try.f24) (kFun tab Try.f24.results.toList K) (fr0 Try.f24 [.int .i64 x0, .int .i64 x1, .int .i64 x2]) h = spec_l01In_main S K x0 x1 x2 h := by kernel_rfl
theorem spec_l01In_call (x0 : Int) (x1 : Int) (x2 : Int) (h : H) (K : Bool → H → Prop) (hm : spec_l01In_main (Sat Try.prog) (fun v h' => ∃ r, v = .bool r ∧ K r h') x0 x1 x2 h) : callB (Sat Try.prog) i_spec_l01In [.int .i64 x0, .int .i64 x1, .int .i64 x2] h K := by
  have := Sat.ex tok mixed spec_l01In_M Try.func24 (c := bodyOf Try.f24) (by kernel_rfl) (calls_of Try.func24 (c := bodyOf Try.f24) (by kernel_rfl) (by decide)) ((spec_l01In_main_link _ _ x0 x1 x2 h).mpr hm)
  obtain ⟨v, h2, h3, r, rfl, h4⟩ := this; exact ⟨r, h2, h3, h4⟩

/-! ### loop.example/g01354/spec.l03Layers -/
def spec_l03Layers_M : Nat → List Nat := fun i => bif i == 6 then [1, 2, 3, 8, 9, 10, 13, 14, 15, 16, 17, 18, 19, 20, 21, 22] else bif i == 4 then [1, 2, 3, 8, 9, 10, 13, 14, 15, 16, 17, 18, 19, 20] else bif i == 2 then [1, 2, 3, 8, 9, 10, 13, 14, 15] else bif i == 0 then [1, 2, 3, 7, 8, 9, 10, 11, 41, 42] else []
def spec_l03Layers_ks4 (S : SatT) (K : AVal → H → Prop) : Kont := kSeq (cwp S tab spec_l03Layers_M [] (sub [1, 1, 1, 1, 1] (bodyOf Try.f37)) (kFun tab (Try.f37).results.toList K)) (kFun tab (Try.f37).results.toList K)
def spec_l03Layers_e0 (s1_ : Sl) (s2_ : Sl) (p3_ : Pt) (i7_ : Int) (i8_ : Int) (i9_ : Int) (i10_ : Int) (s11_ : Sl) (i41_ : Int) (i42_ : Int) : Frame := [U, .sl s1_, .sl s2_, .ptr p3_, U, U, U, .int .i64 i7_, .int .i64 i8_, .int .i64 i9_, .int .i64 i10_, .sl s11_, U, U, U, U, U, U, U, U, U, U, U, U, U, U, U, U, U, U, U, U, U, U, U, U, U, U, U, U, U, .int .i64 i41_, .int .i64 i42_, U, U, U, U, U, U, U, U, U, U, U, U, U, U, U, U, U, U, U, U, U, U, U, U, U, U, U, U, U, U, U, U, U, U, U, U, U, U, U, U, U, U, U, U, U, U, U, U, U, U, U, U, U, U, U, U, U, U, U, U, U, U, U, U, U, U, U, U, U, U, U, U, U, U, U, U, U, U, U, U, U, U, U, U, U, U, U, U, U, U, U, U, U, U, U, U, U, U, U, U, U, U, U, U, U, U, U, U, U, U, U, U, U, U, U, U, U, U, U, U, U, U, U, U, U, U, U]
def spec_l03Layers_w0 (S : SatT) (K : AVal → H → Prop) : (Frame → H → Prop) → Frame → H → Prop := fun X fr h => cwp S tab spec_l03Layers_M (spec_l03Layers_M 0) (sub [1, 1, 1, 1, 0, 1, 0, 0] (bodyOf Try.f37)) (kSeq (fun fr h => X (mask (spec_l03Layers_M 0) fr) h) (kBlk 0 (spec_l03Layers_ks4 S K))) fr h
def spec_l03Layers_L0 (S : SatT) (K : AVal → H → Prop) (s1_ : Sl) (s2_ : Sl) (p3_ : Pt) (i7_ : Int) (i8_ : Int) (i9_ : Int) (i10_ : Int) (s11_ : Sl) (i41_ : Int) (i42_ : Int) (h : H) : Prop := loopK (spec_l03Layers_w0 S K) (spec_l03Layers_e0 s1_ s2_ p3_ i7_ i8_ i9_ i10_ s11_ i41_ i42_) h
def spec_l03Layers_ks13 (S : SatT) (K : AVal → H → Prop) : Kont := kSeq (cwp S tab spec_l03Layers_M [] (sub [1, 1, 1, 1, 1, 1, 1, 1, 1] (bodyOf Try.f37)) (kFun tab (Try.f37).results.toList K)) (kFun tab (Try.f37).results.toList K)
def spec_l03Layers_e2 (s1_ : Sl) (s2_ : Sl) (p3_ : Pt) (i8_ : Int) (i9_ : Int) (i10_ : Int) (s13_ : Sl) (i14_ : Int) (i15_ : Int) : Frame := [U, .sl s1_, .sl s2_, .ptr p3_, U, U, U, U, .int .i64 i8_, .int .i64 i9_, .int .i64 i10_, U, U, .sl s13_, .int .i64 i14_, .int .i64 i15_, U, U, U, U, U, U, U, U, U, U, U, U, U, U, U, U, U, U, U, U, U, U, U, U, U, U, U, U, U, U, U, U, U, U, U, U, U, U, U, U, U, U, U, U, U, U, U, U, U, U, U, U, U, U, U, U, U, U, U, U, U, U, U, U, U, U, U, U, U, U, U, U, U, U, U, U, U, U, U, U, U, U, U, U, U, U, U, U, U, U, U, U, U, U, U, U, U, U, U, U, U, U, U, U, U, U, U, U, U, U, U, U, U, U, U, U, U, U, U, U, U, U, U, U, U, U, U, U, U, U, U, U, U, U, U, U, U, U, U, U, U, U, U, U, U, U, U, U, U, U, U, U, U, U]
def spec_l03Layers_w2 (S : SatT) (K : AVal → H → Prop) : (Frame → H → Prop) → Frame → H → Prop := fun X fr h => cwp S tab spec_l03Layers_M (spec_l03Layers_M 2) (sub [1, 1, 1, 1, 1, 1, 1, 1, 0, 1, 0, 0] (bodyOf Try.f37)) (kSeq (fun fr h => X (mask (spec_l03Layers_M 2) fr) h) (kBlk 2 (spec_l03Layers_ks13 S K))) fr h
def spec_l03Layers_L2 (S : SatT) (K : AVal → H → Prop) (s1_ : Sl) (s2_ : Sl) (p3_ : Pt) (i8_ : Int) (i9_ : Int) (i10_ : Int) (s13_ : Sl) (i14_ : Int) (i15_ : Int) (h : H) : Prop := loopK (spec_l03Layers_w2 S K) (spec_l03Layers_e2 s1_ s2_ p3_ i8_ i9_ i10_ s13_ i14_ i15_) h
def spec_l03Layers_ks17 (S : SatT) (K : AVal → H → Prop) (X2 : Frame → H → Prop) : Kont := kSeq (cwp S tab spec_l03Layers_M (spec_l03Layers_M 2) (sub [1, 1, 1, 1, 1, 1, 1, 1, 0, 1, 0, 0, 1, 1] (bodyOf Try.f37)) (kSeq (fun fr h => X2 (mask (spec_l03Layers_M 2) fr) h) (kBlk 2 (spec_l03Layers_ks13 S K)))) (kSeq (fun fr h => X2 (mask (spec_l03Layers_M 2) fr) h) (kBlk 2 (spec_l03Layers_ks13 S K)))
def spec_l03Layers_ks20 (S : SatT) (K : AVal → H → Prop) (X2 : Frame → H → Prop) : Kont := kSeq (cwp S tab spec_l03Layers_M (spec_l03Layers_M 3) (sub [1, 1, 1, 1, 1, 1, 1, 1, 0, 1, 0, 0, 1, 0, 0, 1, 1, 1] (bodyOf Try.f37)) (kBlk 3 (spec_l03Layers_ks17 S K X2))) (kBlk 3 (spec_l03Layers_ks17 S K X2))
def spec_l03Layers_e4 (s1_ : Sl) (s2_ : Sl) (p3_ : Pt) (i8_ : Int) (i9_ : Int) (i10_ : Int) (s13_ : Sl) (i14_ : Int) (i15_ : Int) (i16_ : Int) (i17_ : Int) (s18_ : Sl) (i19_ : Int) (i20_ : Int) : Frame := [U, .sl s1_, .sl s2_, .ptr p3_, U, U, U, U, .int .i64 i8_, .int .i64 i9_, .int .i64 i10_, U, U, .sl s13_, .int .i64 i14_, .int .i64 i15_, .int .i64 i16_, .int .i64 i17_, .sl s18_, .int .i64 i19_, .int .i64 i20_, U, U, U, U, U, U, U, U, U, U, U, U, U, U, U, U, U, U, U, U, U, U, U, U, U, U, U, U, U, U, U, U, U, U, U, U, U, U, U, U, U, U, U, U, U, U, U, U, U, U, U, U, U, U, U, U, U, U, U, U, U, U, U, U, U, U, U, U, U, U, U, U, U, U, U, U, U, U, U, U, U, U, U, U, U, U, U, U, U, U, U, U, U, U, U, U, U, U, U, U, U, U, U, U, U, U, U, U, U, U, U, U, U, U, U, U, U, U, U, U, U, U, U, U, U, U, U, U, U, U, U, U, U, U, U, U, U, U, U, U, U, U, U, U, U, U, U, U, U]
def spec_l03Layers_w4 (S : SatT) (K : AVal → H → Prop) (X2 : Frame → H → Prop) : (Frame → H → Prop) → Frame → H → Prop := fun X fr h => cwp S tab spec_l03Layers_M (spec_l03Layers_M 4) (sub [1, 1, 1, 1, 1, 1, 1, 1, 0, 1, 0, 0, 1, 0, 0, 1, 1, 0, 1, 0, 0] (bodyOf Try.f37)) (kSeq (fun fr h => X (mask (spec_l03Layers_M 4) fr) h) (kBlk 4 (spec_l03Layers_ks20 S K X2))) fr h
def spec_l03Layers_L4 (S : SatT) (K : AVal → H → Prop) (X2 : Frame → H → Prop) (s1_ : Sl) (s2_ : Sl) (p3_ : Pt) (i8_ : Int) (i9_ : Int) (i10_ : Int) (s13_ : Sl) (i14_ : Int) (i15_ : Int) (i16_ : Int) (i17_ : Int) (s18_ : Sl) (i19_ : Int) (i20_ : Int) (h : H) : Prop := loopK (spec_l03Layers_w4 S K X2) (spec_l03Layers_e4 s1_ s2_ p3_ i8_ i9_ i10_ s13_ i14_ i15_ i16_ i17_ s18_ i19_ i20_) h
def spec_l03Layers_C5 (S : SatT) (K : AVal → H → Prop) (X2 : Frame → H → Prop) (X4 : Frame → H → Prop) (s1_ : Sl) (s2_ : Sl) (p3_ : Pt) (i8_ : Int) (i9_ : Int) (i10_ : Int) (s13_ : Sl) (i14_ : Int) (i15_ : Int) (i16_ : Int) (i17_ : Int) (s18_ : Sl) (i19_ : Int) (i20_ : Int) (h : H) : Prop :=
 X4 (spec_l03Layers_e4 s1_ s2_ p3_ i8_ i9_ i10_ s13_ i14_ i15_ i16_ i17_ s18_ i19_ (w64 (i20_ + (1)))) h
def spec_l03Layers_ks24 (S : SatT) (K : AVal → H → Prop) (X2 : Frame → H → Prop) (X4 : Frame → H → Prop) : Kont := kSeq (cwp S tab spec_l03Layers_M (spec_l03Layers_M 4) (sub [1, 1, 1, 1, 1, 1, 1, 1, 0, 1, 0, 0, 1, 0, 0, 1, 1, 0, 1, 0, 0, 1, 1] (bodyOf Try.f37)) (kSeq (fun fr h => X4 (mask (spec_l03Layers_M 4) fr) h) (kBlk 4 (spec_l03Layers_ks20 S K X2)))) (kSeq (fun fr h => X4 (mask (spec_l03Layers_M 4) fr) h) (kBlk 4 (spec_l03Layers_ks20 S K X2)))
def spec_l03Layers_e6 (s1_ : Sl) (s2_ : Sl) (p3_ : Pt) (i8_ : Int) (i9_ : Int) (i10_ : Int) (s13_ : Sl) (i14_ : Int) (i15_ : Int) (i16_ : Int) (i17_ : Int) (s18_ : Sl) (i19_ : Int) (i20_ : Int) (p21_ : Pt) (i22_ : Int) : Frame := [U, .sl s1_, .sl s2_, .ptr p3_, U, U, U, U, .int .i64 i8_, .int .i64 i9_, .int .i64 i10_, U, U, .sl s13_, .int .i64 i14_, .int .i64 i15_, .int .i64 i16_, .int .i64 i17_, .sl s18_, .int .i64 i19_, .int .i64 i20_, .ptr p21_, .int .i64 i22_, U, U, U, U, U, U, U, U, U, U, U, U, U, U, U, U, U, U, U, U, U, U, U, U, U, U, U, U, U, U, U, U, U, U, U, U, U, U, U, U, U, U, U, U, U, U, U, U, U, U, U, U, U, U, U, U, U, U, U, U, U, U, U, U, U, U, U, U, U, U, U, U, U, U, U, U, U, U, U, U, U, U, U, U, U, U, U, U, U, U, U, U, U, U, U, U, U, U, U, U, U, U, U, U, U, U, U, U, U, U, U, U, U, U, U, U, U, U, U, U, U, U, U, U, U, U, U, U, U, U, U, U, U, U, U, U, U, U, U, U, U, U, U, U, U, U, U]
def spec_l03Layers_w6 (S : SatT) (K : AVal → H → Prop) (X2 : Frame → H → Prop) (X4 : Frame → H → Prop) : (Frame → H → Prop) → Frame → H → Prop := fun X fr h => cwp S tab spec_l03Layers_M (spec_l03Layers_M 6) (sub [1, 1, 1, 1, 1, 1, 1, 1, 0, 1, 0, 0, 1, 0, 0, 1, 1, 0, 1, 0, 0, 1, 0, 0, 1, 1, 1, 0, 0] (bodyOf Try.f37)) (kSeq (fun fr h => X (mask (spec_l03Layers_M 6) fr) h) (kBlk 6 (kBlk 5 (spec_l03Layers_ks24 S K X2 X4)))) fr h
def spec_l03Layers_L6 (S : SatT) (K : AVal → H → Prop) (X2 : Frame → H → Prop) (X4 : Frame → H → Prop) (s1_ : Sl) (s2_ : Sl) (p3_ : Pt) (i8_ : Int) (i9_ : Int) (i10_ : Int) (s13_ : Sl) (i14_ : Int) (i15_ : Int) (i16_ : Int) (i17_ : Int) (s18_ : Sl) (i19_ : Int) (i20_ : Int) (p21_ : Pt) (i22_ : Int) (h : H) : Prop := loopK (spec_l03Layers_w6 S K X2 X4) (spec_l03Layers_e6 s1_ s2_ p3_ i8_ i9_ i10_ s13_ i14_ i15_ i16_ i17_ s18_ i19_ i20_ p21_ i22_) h
def spec_l03Layers_C6 (S : SatT) (K : AVal → H → Prop) (X2 : Frame → H → Prop) (X4 : Frame → H → Prop) (s1_ : Sl) (s2_ : Sl) (p3_ : Pt) (i8_ : Int) (i9_ : Int) (i10_ : Int) (s13_ : Sl) (i14_ : Int) (i15_ : Int) (i16_ : Int) (i17_ : Int) (s18_ : Sl) (i19_ : Int) (i20_ : Int) (h : H) : Prop :=
 spec_l03Layers_C5 S K X2 X4 s1_ s2_ p3_ i8_ i9_ i10_ s13_ i14_ i15_ i16_ i17_ s18_ i19_ i20_ h
def spec_l03Layers_b6 (S : SatT) (K : AVal → H → Prop) (X2 : Frame → H → Prop) (X4 : Frame → H → Prop) (X6 : Frame → H → Prop) (s1_ : Sl) (s2_ : Sl) (p3_ : Pt) (i8_ : Int) (i9_ : Int) (i10_ : Int) (s13_ : Sl) (i14_ : Int) (i15_ : Int) (i16_ : Int) (i17_ : Int) (s18_ : Sl) (i19_ : Int) (i20_ : Int) (p21_ : Pt) (i22_ : Int) (h : H) : Prop :=
 bif (decide (i22_ < i10_)) then
 nz i19_ (
 nz i9_ (
 nz i14_ (
 bif (decide (i16_ > (0))) then
 ixA p21_ 4 1 (1) fun p0 =>
 ldI .i64 p0 h fun n1 =>
 bif ((Int.tmod (w64 (Int.tdiv i22_ i19_)) i9_) != n1) then
 X6 (spec_l03Layers_e6 s1_ s2_ p3_ i8_ i9_ i10_ s13_ i14_ i15_ i16_ i17_ s18_ i19_ i20_ p21_ (w64 (i22_ + (1)))) h
 else
 bif (decide (i17_ > (0))) then
 ixA p21_ 4 1 (0) fun p2 =>
 ldI .i64 p2 h fun n3 =>
 bif ((w64 (Int.tdiv i22_ i14_)) != n3) then
 X6 (spec_l03Layers_e6 s1_ s2_ p3_ i8_ i9_ i10_ s13_ i14_ i15_ i16_ i17_ s18_ i19_ i20_ p21_ (w64 (i22_ + (1)))) h
 else
 ixA p21_ 4 1 (3) fun p4 =>
 ldI .i64 p4 h fun n5 =>
 ixA p21_ 4 1 (2) fun p6 =>
 ldI .i64 p6 h fun n7 =>
 ixS s18_ 1 i22_ fun p8 =>
 ldI .i64 p8 h fun n9 =>
 ixS s13_ 1 (w64 (i15_ + (1))) fun p10 =>
 ldS p10 h fun s11 =>
 ixS s11 1 (w64 ((w64 (i22_ + (w64 ((w64 (n5 - (Int.tmod (w64 (Int.tdiv i22_ i19_)) i9_))) * i19_)))) + (w64 ((w64 (n7 - (w64 (Int.tdiv i22_ i14_)))) * i14_)))) fun p12 =>
 ldI .i64 p12 h fun n13 =>
 ixS s18_ 1 i22_ fun p14 =>
 st1 p14 (.int .i64 (mnI (w64 (n9 + n13)) (1000000000000001))) h fun h15 =>
 X6 (spec_l03Layers_e6 s1_ s2_ p3_ i8_ i9_ i10_ s13_ i14_ i15_ i16_ i17_ s18_ i19_ i20_ p21_ (w64 (i22_ + (1)))) h15
 else
 ixA p21_ 4 1 (3) fun p16 =>
 ldI .i64 p16 h fun n17 =>
 ixA p21_ 4 1 (2) fun p18 =>
 ldI .i64 p18 h fun n19 =>
 ixS s18_ 1 i22_ fun p20 =>
 ldI .i64 p20 h fun n21 =>
 ixS s13_ 1 (w64 (i15_ + (1))) fun p22 =>
 ldS p22 h fun s23 =>
 ixS s23 1 (w64 ((w64 (i22_ + (w64 ((w64 (n17 - (Int.tmod (w64 (Int.tdiv i22_ i19_)) i9_))) * i19_)))) + (w64 ((w64 (n19 - (w64 (Int.tdiv i22_ i14_)))) * i14_)))) fun p24 =>
 ldI .i64 p24 h fun n25 =>
 ixS s18_ 1 i22_ fun p26 =>
 st1 p26 (.int .i64 (mnI (w64 (n21 + n25)) (1000000000000001))) h fun h27 =>
 X6 (spec_l03Layers_e6 s1_ s2_ p3_ i8_ i9_ i10_ s13_ i14_ i15_ i16_ i17_ s18_ i19_ i20_ p21_ (w64 (i22_ + (1)))) h27
 else
 bif (decide (i17_ > (0))) then
 ixA p21_ 4 1 (0) fun p28 =>
 ldI .i64 p28 h fun n29 =>
 bif ((w64 (Int.tdiv i22_ i14_)) != n29) then
 X6 (spec_l03Layers_e6 s1_ s2_ p3_ i8_ i9_ i10_ s13_ i14_ i15_ i16_ i17_ s18_ i19_ i20_ p21_ (w64 (i22_ + (1)))) h
 else
 ixA p21_ 4 1 (3) fun p30 =>
 ldI .i64 p30 h fun n31 =>
 ixA p21_ 4 1 (2) fun p32 =>
 ldI .i64 p32 h fun n33 =>
 ixS s18_ 1 i22_ fun p34 =>
 ldI .i64 p34 h fun n35 =>
 ixS s13_ 1 (w64 (i15_ + (1))) fun p36 =>
 ldS p36 h fun s37 =>
 ixS s37 1 (w64 ((w64 (i22_ + (w64 ((w64 (n31 - (Int.tmod (w64 (Int.tdiv i22_ i19_)) i9_))) * i19_)))) + (w64 ((w64 (n33 - (w64 (Int.tdiv i22_ i14_)))) * i14_)))) fun p38 =>
 ldI .i64 p38 h fun n39 =>
 ixS s18_ 1 i22_ fun p40 =>
 st1 p40 (.int .i64 (mnI (w64 (n35 + n39)) (1000000000000001))) h fun h41 =>
 X6 (spec_l03Layers_e6 s1_ s2_ p3_ i8_ i9_ i10_ s13_ i14_ i15_ i16_ i17_ s18_ i19_ i20_ p21_ (w64 (i22_ + (1)))) h41
 else
 ixA p21_ 4 1 (3) fun p42 =>
 ldI .i64 p42 h fun n43 =>
 ixA p21_ 4 1 (2) fun p44 =>
 ldI .i64 p44 h fun n45 =>
 ixS s18_ 1 i22_ fun p46 =>
 ldI .i64 p46 h fun n47 =>
 ixS s13_ 1 (w64 (i15_ + (1))) fun p48 =>
 ldS p48 h fun s49 =>
 ixS s49 1 (w64 ((w64 (i22_ + (w64 ((w64 (n43 - (Int.tmod (w64 (Int.tdiv i22_ i19_)) i9_))) * i19_)))) + (w64 ((w64 (n45 - (w64 (Int.tdiv i22_ i14_)))) * i14_)))) fun p50 =>
 ldI .i64 p50 h fun n51 =>
 ixS s18_ 1 i22_ fun p52 =>
 st1 p52 (.int .i64 (mnI (w64 (n47 + n51)) (1000000000000001))) h fun h53 =>
 X6 (spec_l03Layers_e6 s1_ s2_ p3_ i8_ i9_ i10_ s13_ i14_ i15_ i16_ i17_ s18_ i19_ i20_ p21_ (w64 (i22_ + (1)))) h53)))
 else
 spec_l03Layers_C6 S K X2 X4 s1_ s2_ p3_ i8_ i9_ i10_ s13_ i14_ i15_ i16_ i17_ s18_ i19_ i20_ h
theorem spec_l03Layers_link6 (S : SatT) (K : AVal → H → Prop) (X2 : Frame → H → Prop) (X4 : Frame → H → Prop) (X6 : Frame → H → Prop) (s1_ : Sl) (s2_ : Sl) (p3_ : Pt) (i8_ : Int) (i9_ : Int) (i10_ : Int) (s13_ : Sl) (i14_ : Int) (i15_ : Int) (i16_ : Int) (i17_ : Int) (s18_ : Sl) (i19_ : Int) (i20_ : Int) (p21_ : Pt) (i22_ : Int) (h : H) : spec_l03Layers_w6 S K X2 X4 X6 (spec_l03Layers_e6 s1_ s2_ p3_ i8_ i9_ i10_ s13_ i14_ i15_ i16_ i17_ s18_ i19_ i20_ p21_ i22_) h = spec_l03Layers_b6 S K X2 X4 X6 s1_ s2_ p3_ i8_ i9_ i10_ s13_ i14_ i15_ i16_ i17_ s18_ i19_ i20_ p21_ i22_ h := by kernel_rfl
theorem spec_l03Layers_rule6 (S : SatT) (K : AVal → H → Prop) (X2 : Frame → H → Prop) (X4 : Frame → H → Prop) (s1_ : Sl) (s2_ : Sl) (p3_ : Pt) (i8_ : Int) (i9_ : Int) (i10_ : Int) (s13_ : Sl) (i14_ : Int) (i15_ : Int) (i16_ : Int) (i17_ : Int) (s18_ : Sl) (i19_ : Int) (i20_ : Int) (p21_ : Pt) (I_ : Int → H → Prop) (m_ : Int → H → Nat)
    (hs : ∀ (X6 : Frame → H → Prop) (i22_ : Int) (h : H), I_ i22_ h → (∀ (i22_' : Int) (h' : H), I_ i22_' h' → m_ i22_' h' < m_ i22_ h → X6 (spec_l03Layers_e6 s1_ s2_ p3_ i8_ i9_ i10_ s13_ i14_ i15_ i16_ i17_ s18_ i19_ i20_ p21_ i22_') h') → spec_l03Layers_b6 S K X2 X4 X6 s1_ s2_ p3_ i8_ i9_ i10_ s13_ i14_ i15_ i16_ i17_ s18_ i19_ i20_ p21_ i22_ h) (i22_ : Int) {h : H} (h0 : I_ i22_ h) : spec_l03Layers_L6 S K X2 X4 s1_ s2_ p3_ i8_ i9_ i10_ s13_ i14_ i15_ i16_ i17_ s18_ i19_ i20_ p21_ i22_ h :=
  loop_rule (σ := (Int)) (fun s_ => spec_l03Layers_e6 s1_ s2_ p3_ i8_ i9_ i10_ s13_ i14_ i15_ i16_ i17_ s18_ i19_ i20_ p21_ (s_)) (fun s_ h => I_ (s_) h) (fun s_ h => m_ (s_) h)
    (fun X s_ h hi hx => (spec_l03Layers_link6 S K X2 X4 X s1_ s2_ p3_ i8_ i9_ i10_ s13_ i14_ i15_ i16_ i17_ s18_ i19_ i20_ p21_ (s_) h).mpr (hs X (s_) h hi fun i22_' h' hi' hm' => hx (i22_') h' hi' hm')) (i22_) h0
theorem spec_l03Layers_unroll6 (S : SatT) (K : AVal → H → Prop) (X2 : Frame → H → Prop) (X4 : Frame → H → Prop) (s1_ : Sl) (s2_ : Sl) (p3_ : Pt) (i8_ : Int) (i9_ : Int) (i10_ : Int) (s13_ : Sl) (i14_ : Int) (i15_ : Int) (i16_ : Int) (i17_ : Int) (s18_ : Sl) (i19_ : Int) (i20_ : Int) (p21_ : Pt) (i22_ : Int) (h : H) (hb : spec_l03Layers_b6 S K X2 X4 (fun fr h => loopK (spec_l03Layers_w6 S K X2 X4) fr h) s1_ s2_ p3_ i8_ i9_ i10_ s13_ i14_ i15_ i16_ i17_ s18_ i19_ i20_ p21_ i22_ h) : spec_l03Layers_L6 S K X2 X4 s1_ s2_ p3_ i8_ i9_ i10_ s13_ i14_ i15_ i16_ i17_ s18_ i19_ i20_ p21_ i22_ h := loop_unroll ((spec_l03Layers_link6 S K X2 X4 _ s1_ s2_ p3_ i8_ i9_ i10_ s13_ i14_ i15_ i16_ i17_ s18_ i19_ i20_ p21_ i22_ h).mpr hb)
def spec_l03Layers_C3 (S : SatT) (K : AVal → H → Prop) (X2 : Frame → H → Prop) (s1_ : Sl) (s2_ : Sl) (p3_ : Pt) (i8_ : Int) (i9_ : Int) (i10_ : Int) (s13_ : Sl) (i14_ : Int) (i15_ : Int) (h : H) : Prop :=
 X2 (spec_l03Layers_e2 s1_ s2_ p3_ i8_ i9_ i10_ s13_ i14_ (w64 (i15_ - (1)))) h
def spec_l03Layers_C4 (S : SatT) (K : AVal → H → Prop) (X2 : Frame → H → Prop) (s1_ : Sl) (s2_ : Sl) (p3_ : Pt) (i8_ : Int) (i9_ : Int) (i10_ : Int) (s13_ : Sl) (i14_ : Int) (i15_ : Int) (s18_ : Sl) (h : H) : Prop :=
 ixS s13_ 1 i15_ fun p0 =>
 st1 p0 (.sl s18_) h fun h1 =>
 spec_l03Layers_C3 S K X2 s1_ s2_ p3_ i8_ i9_ i10_ s13_ i14_ i15_ h1
def spec_l03Layers_b4 (S : SatT) (K : AVal → H → Prop) (X2 : Frame → H → Prop) (X4 : Frame → H → Prop) (s1_ : Sl) (s2_ : Sl) (p3_ : Pt) (i8_ : Int) (i9_ : Int) (i10_ : Int) (s13_ : Sl) (i14_ : Int) (i15_ : Int) (i16_ : Int) (i17_ : Int) (s18_ : Sl) (i19_ : Int) (i20_ : Int) (h : H) : Prop :=
 isPt p3_ (
 ldS (Pt.add p3_ 1) h fun s0 =>
 bif (decide (i20_ < (s0.len : Int))) then
 ldA p3_ 2 h fun cs1 =>
 callB S i_spec_l03Fits [.agg cs1, .sl s1_, .sl s2_, .int .i64 i16_, .int .i64 i17_, .int .i64 i20_] h fun b3 h2 =>
 bif (!b3) then
 spec_l03Layers_C5 S K X2 X4 s1_ s2_ p3_ i8_ i9_ i10_ s13_ i14_ i15_ i16_ i17_ s18_ i19_ i20_ h2
 else
 isPt p3_ (
 ldS (Pt.add p3_ 1) h2 fun s4 =>
 ixS s4 4 i20_ fun p5 =>
 ldA p5 4 h2 fun cs6 =>
 newO [.int .i64 (0), .int .i64 (0), .int .i64 (0), .int .i64 (0)] h2 fun p7 h8 =>
 stN p7 4 cs6 h8 fun h9 =>
 spec_l03Layers_L6 S K X2 X4 s1_ s2_ p3_ i8_ i9_ i10_ s13_ i14_ i15_ i16_ i17_ s18_ i19_ i20_ p7 (0) h9)
 else
 spec_l03Layers_C4 S K X2 s1_ s2_ p3_ i8_ i9_ i10_ s13_ i14_ i15_ s18_ h)
theorem spec_l03Layers_link4 (S : SatT) (K : AVal → H → Prop) (X2 : Frame → H → Prop) (X4 : Frame → H → Prop) (s1_ : Sl) (s2_ : Sl) (p3_ : Pt) (i8_ : Int) (i9_ : Int) (i10_ : Int) (s13_ : Sl) (i14_ : Int) (i15_ : Int) (i16_ : Int) (i17_ : Int) (s18_ : Sl) (i19_ : Int) (i20_ : Int) (h : H) : spec_l03Layers_w4 S K X2 X4 (spec_l03Layers_e4 s1_ s2_ p3_ i8_ i9_ i10_ s13_ i14_ i15_ i16_ i17_ s18_ i19_ i20_) h = spec_l03Layers_b4 S K X2 X4 s1_ s2_ p3_ i8_ i9_ i10_ s13_ i14_ i15_ i16_ i17_ s18_ i19_ i20_ h := by kernel_rfl
theorem spec_l03Layers_rule4 (S : SatT) (K : AVal → H → Prop) (X2 : Frame → H → Prop) (s1_ : Sl) (s2_ : Sl) (p3_ : Pt) (i8_ : Int) (i9_ : Int) (i10_ : Int) (s13_ : Sl) (i14_ : Int) (i15_ : Int) (i16_ : Int) (i17_ : Int) (s18_ : Sl) (i19_ : Int) (I_ : Int → H → Prop) (m_ : Int → H → Nat)
    (hs : ∀ (X4 : Frame → H → Prop) (i20_ : Int) (h : H), I_ i20_ h → (∀ (i20_' : Int) (h' : H), I_ i20_' h' → m_ i20_' h' < m_ i20_ h → X4 (spec_l03Layers_e4 s1_ s2_ p3_ i8_ i9_ i10_ s13_ i14_ i15_ i16_ i17_ s18_ i19_ i20_') h') → spec_l03Layers_b4 S K X2 X4 s1_ s2_ p3_ i8_ i9_ i10_ s13_ i14_ i15_ i16_ i17_ s18_ i19_ i20_ h) (i20_ : Int) {h : H} (h0 : I_ i20_ h) : spec_l03Layers_L4 S K X2 s1_ s2_ p3_ i8_ i9_ i10_ s13_ i14_ i15_ i16_ i17_ s18_ i19_ i20_ h :=
  loop_rule (σ := (Int)) (fun s_ => spec_l03Layers_e4 s1_ s2_ p3_ i8_ i9_ i10_ s13_ i14_ i15_ i16_ i17_ s18_ i19_ (s_)) (fun s_ h => I_ (s_) h) (fun s_ h => m_ (s_) h)
    (fun X s_ h hi hx => (spec_l03Layers_link4 S K X2 X s1_ s2_ p3_ i8_ i9_ i10_ s13_ i14_ i15_ i16_ i17_ s18_ i19_ (s_) h).mpr (hs X (s_) h hi fun i20_' h' hi' hm' => hx (i20_') h' hi' hm')) (i20_) h0
theorem spec_l03Layers_unroll4 (S : SatT) (K : AVal → H → Prop) (X2 : Frame → H → Prop) (s1_ : Sl) (s2_ : Sl) (p3_ : Pt) (i8_ : Int) (i9_ : Int) (i10_ : Int) (s13_ : Sl) (i14_ : Int) (i15_ : Int) (i16_ : Int) (i17_ : Int) (s18_ : Sl) (i19_ : Int) (i20_ : Int) (h : H) (hb : spec_l03Layers_b4 S K X2 (fun fr h => loopK (spec_l03Layers_w4 S K X2) fr h) s1_ s2_ p3_ i8_ i9_ i10_ s13_ i14_ i15_ i16_ i17_ s18_ i19_ i20_ h) : spec_l03Layers_L4 S K X2 s1_ s2_ p3_ i8_ i9_ i10_ s13_ i14_ i15_ i16_ i17_ s18_ i19_ i20_ h := loop_unroll ((spec_l03Layers_link4 S K X2 _ s1_ s2_ p3_ i8_ i9_ i10_ s13_ i14_ i15_ i16_ i17_ s18_ i19_ i20_ h).mpr hb)
def spec_l03Layers_C2 (S : SatT) (K : AVal → H → Prop) (s13_ : Sl) (h : H) : Prop :=
 K (.sl s13_) h
def spec_l03Layers_b2 (S : SatT) (K : AVal → H → Prop) (X2 : Frame → H → Prop) (s1_ : Sl) (s2_ : Sl) (p3_ : Pt) (i8_ : Int) (i9_ : Int) (i10_ : Int) (s13_ : Sl) (i14_ : Int) (i15_ : Int) (h : H) : Prop :=
 bif (decide (i15_ ≥ (0))) then
 nz i8_ (
 nz i8_ (
 mkS i10_ [.int .i64 (0)] h fun s0 h1 =>
 callI S .i64 i_spec_l03Power [.int .i64 i9_, .int .i64 (Int.tmod i15_ i8_)] h1 fun n3 h2 =>
 spec_l03Layers_L4 S K X2 s1_ s2_ p3_ i8_ i9_ i10_ s13_ i14_ i15_ (w64 (Int.tdiv i15_ i8_)) (Int.tmod i15_ i8_) s0 n3 (0) h2))
 else
 spec_l03Layers_C2 S K s13_ h
theorem spec_l03Layers_link2 (S : SatT) (K : AVal → H → Prop) (X2 : Frame → H → Prop) (s1_ : Sl) (s2_ : Sl) (p3_ : Pt) (i8_ : Int) (i9_ : Int) (i10_ : Int) (s13_ : Sl) (i14_ : Int) (i15_ : Int) (h : H) : spec_l03Layers_w2 S K X2 (spec_l03Layers_e2 s1_ s2_ p3_ i8_ i9_ i10_ s13_ i14_ i15_) h = spec_l03Layers_b2 S K X2 s1_ s2_ p3_ i8_ i9_ i10_ s13_ i14_ i15_ h := by kernel_rfl
theorem spec_l03Layers_rule2 (S : SatT) (K : AVal → H → Prop) (s1_ : Sl) (s2_ : Sl) (p3_ : Pt) (i8_ : Int) (i9_ : Int) (i10_ : Int) (s13_ : Sl) (i14_ : Int) (I_ : Int → H → Prop) (m_ : Int → H → Nat)
    (hs : ∀ (X2 : Frame → H → Prop) (i15_ : Int) (h : H), I_ i15_ h → (∀ (i15_' : Int) (h' : H), I_ i15_' h' → m_ i15_' h' < m_ i15_ h → X2 (spec_l03Layers_e2 s1_ s2_ p3_ i8_ i9_ i10_ s13_ i14_ i15_') h') → spec_l03Layers_b2 S K X2 s1_ s2_ p3_ i8_ i9_ i10_ s13_ i14_ i15_ h) (i15_ : Int) {h : H} (h0 : I_ i15_ h) : spec_l03Layers_L2 S K s1_ s2_ p3_ i8_ i9_ i10_ s13_ i14_ i15_ h :=
  loop_rule (σ := (Int)) (fun s_ => spec_l03Layers_e2 s1_ s2_ p3_ i8_ i9_ i10_ s13_ i14_ (s_)) (fun s_ h => I_ (s_) h) (fun s_ h => m_ (s_) h)
    (fun X s_ h hi hx => (spec_l03Layers_link2 S K X s1_ s2_ p3_ i8_ i9_ i10_ s13_ i14_ (s_) h).mpr (hs X (s_) h hi fun i15_' h' hi' hm' => hx (i15_') h' hi' hm')) (i15_) h0
theorem spec_l03Layers_unroll2 (S : SatT) (K : AVal → H → Prop) (s1_ : Sl) (s2_ : Sl) (p3_ : Pt) (i8_ : Int) (i9_ : Int) (i10_ : Int) (s13_ : Sl) (i14_ : Int) (i15_ : Int) (h : H) (hb : spec_l03Layers_b2 S K (fun fr h => loopK (spec_l03Layers_w2 S K) fr h) s1_ s2_ p3_ i8_ i9_ i10_ s13_ i14_ i15_ h) : spec_l03Layers_L2 S K s1_ s2_ p3_ i8_ i9_ i10_ s13_ i14_ i15_ h := loop_unroll ((spec_l03Layers_link2 S K _ s1_ s2_ p3_ i8_ i9_ i10_ s13_ i14_ i15_ h).mpr hb)
def spec_l03Layers_C0 (S : SatT) (K : AVal → H → Prop) (s1_ : Sl) (s2_ : Sl) (p3_ : Pt) (i7_ : Int) (i8_ : Int) (i9_ : Int) (i10_ : Int) (s11_ : Sl) (h : H) : Prop :=
 mkS (w64 ((w64 (i7_ * i8_)) + (1))) [.sl Sl.nil] h fun s0 h1 =>
 ixS s0 1 (w64 (i7_ * i8_)) fun p2 =>
 st1 p2 (.sl s11_) h1 fun h3 =>
 callI S .i64 i_spec_l03Power [.int .i64 i9_, .int .i64 i8_] h3 fun n5 h4 =>
 spec_l03Layers_L2 S K s1_ s2_ p3_ i8_ i9_ i10_ s0 n5 (w64 ((w64 (i7_ * i8_)) - (1))) h4
def spec_l03Layers_b0 (S : SatT) (K : AVal → H → Prop) (X0 : Frame → H → Prop) (s1_ : Sl) (s2_ : Sl) (p3_ : Pt) (i7_ : Int) (i8_ : Int) (i9_ : Int) (i10_ : Int) (s11_ : Sl) (i41_ : Int) (i42_ : Int) (h : H) : Prop :=
 bif (decide (i42_ < i41_)) then
 ixS s11_ 1 i42_ fun p0 =>
 st1 p0 (.int .i64 (1)) h fun h1 =>
 X0 (spec_l03Layers_e0 s1_ s2_ p3_ i7_ i8_ i9_ i10_ s11_ i41_ (w64 (i42_ + (1)))) h1
 else
 spec_l03Layers_C0 S K s1_ s2_ p3_ i7_ i8_ i9_ i10_ s11_ h
theorem spec_l03Layers_link0 (S : SatT) (K : AVal → H → Prop) (X0 : Frame → H → Prop) (s1_ : Sl) (s2_ : Sl) (p3_ : Pt) (i7_ : Int) (i8_ : Int) (i9_ : Int) (i10_ : Int) (s11_ : Sl) (i41_ : Int) (i42_ : Int) (h : H) : spec_l03Layers_w0 S K X0 (spec_l03Layers_e0 s1_ s2_ p3_ i7_ i8_ i9_ i10_ s11_ i41_ i42_) h = spec_l03Layers_b0 S K X0 s1_ s2_ p3_ i7_ i8_ i9_ i10_ s11_ i41_ i42_ h := by kernel_rfl
theorem spec_l03Layers_rule0 (S : SatT) (K : AVal → H → Prop) (s1_ : Sl) (s2_ : Sl) (p3_ : Pt) (i7_ : Int) (i8_ : Int) (i9_ : Int) (i10_ : Int) (s11_ : Sl) (i41_ : Int) (I_ : Int → H → Prop) (m_ : Int → H → Nat)
    (hs : ∀ (X0 : Frame → H → Prop) (i42_ : Int) (h : H), I_ i42_ h → (∀ (i42_' : Int) (h' : H), I_ i42_' h' → m_ i42_' h' < m_ i42_ h → X0 (spec_l03Layers_e0 s1_ s2_ p3_ i7_ i8_ i9_ i10_ s11_ i41_ i42_') h') → spec_l03Layers_b0 S K X0 s1_ s2_ p3_ i7_ i8_ i9_ i10_ s11_ i41_ i42_ h) (i42_ : Int) {h : H} (h0 : I_ i42_ h) : spec_l03Layers_L0 S K s1_ s2_ p3_ i7_ i8_ i9_ i10_ s11_ i41_ i42_ h :=
  loop_rule (σ := (Int)) (fun s_ => spec_l03Layers_e0 s1_ s2_ p3_ i7_ i8_ i9_ i10_ s11_ i41_ (s_)) (fun s_ h => I_ (s_) h) (fun s_ h => m_ (s_) h)
    (fun X s_ h hi hx => (spec_l03Layers_link0 S K X s1_ s2_ p3_ i7_ i8_ i9_ i10_ s11_ i41_ (s_) h).mpr (hs X (s_) h hi fun i42_' h' hi' hm' => hx (i42_') h' hi' hm')) (i42_) h0
theorem spec_l03Layers_unroll0 (S : SatT) (K : AVal → H → Prop) (s1_ : Sl) (s2_ : Sl) (p3_ : Pt) (i7_ : Int) (i8_ : Int) (i9_ : Int) (i10_ : Int) (s11_ : Sl) (i41_ : Int) (i42_ : Int) (h : H) (hb : spec_l03Layers_b0 S K (fun fr h => loopK (spec_l03Layers_w0 S K) fr h) s1_ s2_ p3_ i7_ i8_ i9_ i10_ s11_ i41_ i42_ h) : spec_l03Layers_L0 S K s1_ s2_ p3_ i7_ i8_ i9_ i10_ s11_ i41_ i42_ h := loop_unroll ((spec_l03Layers_link0 S K _ s1_ s2_ p3_ i7_ i8_ i9_ i10_ s11_ i41_ i42_ h).mpr hb)
def spec_l03Layers_main (S : SatT) (K : AVal → H → Prop) (x0 : List AVal) (x1 : Sl) (x2 : Sl) (h : H) : Prop :=
 newK 2 x0 h fun p0 h1 =>
 ixS x1 1 (0) fun p2 =>
 ldS p2 h1 fun s3 =>
 isPt p0 (
 ldI .i64 (Pt.add p0 0) h1 fun n4 =>
 callI S .i64 i_spec_l03Power [.int .i64 n4, .int .i64 (w64 ((s3.len : Int) + (1)))] h1 fun n6 h5 =>
 mkS n6 [.int .i64 (0)] h5 fun s7 h8 =>
 spec_l03Layers_L0 S K x1 x2 p0 (x1.len : Int) (s3.len : Int) n4 n6 s7 (s7.len : Int) (0) h8)
theorem spec_l03Layers_main_link (S : SatT) (K : AVal → H → Prop) (x0 : List AVal) (x1 : Sl) (x2 : Sl) (h : H) : cwp S tab spec_l03Layers_M [] (bodyOf Try.f37) (kFun tab Try.f37.results.toList K) (fr0 Try.f37 [.agg x0, .sl x1, .sl x2]) h = spec_l03Layers_main S K x0 x1 x2 h := by kernel_rfl
theorem spec_l03Layers_call (x0 : List AVal) (x1 : Sl) (x2 : Sl) (h : H) (K : Sl → H → Prop) (hm : spec_l03Layers_main (Sat Try.prog) (fun v h' => ∃ r, v = .sl r ∧ K r h') x0 x1 x2 h) : callS (Sat Try.prog) i_spec_l03Layers [.agg x0, .sl x1, .sl x2] h K := by
  have := Sat.ex tok mixed spec_l03Layers_M Try.func37 (c := bodyOf Try.f37) (by kernel_rfl) (calls_of Try.func37 (c := bodyOf Try.f37) (by kernel_rfl) (by decide)) ((spec_l03Layers_main_link _ _ x0 x1 x2 h).mpr hm)
  obtain ⟨v, h2, h3, r, rfl, h4⟩ := this; exact ⟨r, h2, h3, h4⟩

/-! ### (loop.example/g01354/impl.Set).isPlan -/
def impl_Set_isPlan_M : Nat → List Nat := fun i => bif i == 2 then [1, 2, 9, 10, 11, 15, 16, 17] else bif i == 0 then [1, 2, 9, 10, 11] else []
def impl_Set_isPlan_ks1 (S : SatT) (K : AVal → H → Prop) : Kont := kSeq (cwp S tab impl_Set_isPlan_M [] (sub [1, 1] (bodyOf Try.f43)) (kFun tab (Try.f43).results.toList K)) (kFun tab (Try.f43).results.toList K)
def impl_Set_isPlan_e0 (s1_ : Sl) (p2_ : Pt) (s9_ : Sl) (i10_ : Int) (i11_ : Int) : Frame := [U, .sl s1_, .ptr p2_, U, U, U, U, U, U, .sl s9_, .int .i64 i10_, .int .i64 i11_, U, U, U, U, U, U, U, U, U, U, U, U, U, U, U, U, U, U, U, U, U]
def impl_Set_isPlan_w0 (S : SatT) (K : AVal → H → Prop) : (Frame → H → Prop) → Frame → H → Prop := fun X fr h => cwp S tab impl_Set_isPlan_M (impl_Set_isPlan_M 0) (sub [1, 0, 1, 0, 0] (bodyOf Try.f43)) (kSeq (fun fr h => X (mask (impl_Set_isPlan_M 0) fr) h) (kBlk 0 (impl_Set_isPlan_ks1 S K))) fr h
def impl_Set_isPlan_L0 (S : SatT) (K : AVal → H → Prop) (s1_ : Sl) (p2_ : Pt) (s9_ : Sl) (i10_ : Int) (i11_ : Int) (h : H) : Prop := loopK (impl_Set_isPlan_w0 S K) (impl_Set_isPlan_e0 s1_ p2_ s9_ i10_ i11_) h
def impl_Set_isPlan_ks5 (S : SatT) (K : AVal → H → Prop) (X0 : Frame → H → Prop) : Kont := kSeq (cwp S tab impl_Set_isPlan_M (impl_Set_isPlan_M 0) (sub [1, 0, 1, 0, 0, 1, 1, 1] (bodyOf Try.f43)) (kSeq (fun fr h => X0 (mask (impl_Set_isPlan_M 0) fr) h) (kBlk 0 (impl_Set_isPlan_ks1 S K)))) (kSeq (fun fr h => X0 (mask (impl_Set_isPlan_M 0) fr) h) (kBlk 0 (impl_Set_isPlan_ks1 S K)))
def impl_Set_isPlan_e2 (s1_ : Sl) (p2_ : Pt) (s9_ : Sl) (i10_ : Int) (i11_ : Int) (s15_ : Sl) (i16_ : Int) (i17_ : Int) : Frame := [U, .sl s1_, .ptr p2_, U, U, U, U, U, U, .sl s9_, .int .i64 i10_, .int .i64 i11_, U, U, U, .sl s15_, .int .i64 i16_, .int .i64 i17_, U, U, U, U, U, U, U, U, U, U, U, U, U, U, U]
def impl_Set_isPlan_w2 (S : SatT) (K : AVal → H → Prop) (X0 : Frame → H → Prop) : (Frame → H → Prop) → Frame → H → Prop := fun X fr h => cwp S tab impl_Set_isPlan_M (impl_Set_isPlan_M 2) (sub [1, 0, 1, 0, 0, 1, 1, 0, 0, 1, 1, 0, 0] (bodyOf Try.f43)) (kSeq (fun fr h => X (mask (impl_Set_isPlan_M 2) fr) h) (kBlk 2 (kBlk 1 (impl_Set_isPlan_ks5 S K X0)))) fr h
def impl_Set_isPlan_L2 (S : SatT) (K : AVal → H → Prop) (X0 : Frame → H → Prop) (s1_ : Sl) (p2_ : Pt) (s9_ : Sl) (i10_ : Int) (i11_ : Int) (s15_ : Sl) (i16_ : Int) (i17_ : Int) (h : H) : Prop := loopK (impl_Set_isPlan_w2 S K X0) (impl_Set_isPlan_e2 s1_ p2_ s9_ i10_ i11_ s15_ i16_ i17_) h
def impl_Set_isPlan_C1 (S : SatT) (K : AVal → H → Prop) (X0 : Frame → H → Prop) (s1_ : Sl) (p2_ : Pt) (s9_ : Sl) (i10_ : Int) (i11_ : Int) (h : H) : Prop :=
 X0 (impl_Set_isPlan_e0 s1_ p2_ s9_ i10_ (w64 (i11_ + (1)))) h
def impl_Set_isPlan_C2 (S : SatT) (K : AVal → H → Prop) (X0 : Frame → H → Prop) (s1_ : Sl) (p2_ : Pt) (s9_ : Sl) (i10_ : Int) (i11_ : Int) (h : H) : Prop :=
 impl_Set_isPlan_C1 S K X0 s1_ p2_ s9_ i10_ i11_ h
def impl_Set_isPlan_b2 (S : SatT) (K : AVal → H → Prop) (X0 : Frame → H → Prop) (X2 : Frame → H → Prop) (s1_ : Sl) (p2_ : Pt) (s9_ : Sl) (i10_ : Int) (i11_ : Int) (s15_ : Sl) (i16_ : Int) (i17_ : Int) (h : H) : Prop :=
 bif (decide (i17_ < i16_)) then
 ixS s15_ 1 i17_ fun p0 =>
 ldI .i64 p0 h fun n1 =>
 bif (n1 != (-1)) then
 ldA p2_ 2 h fun cs2 =>
 callB S i_impl_Set_isNumber [.agg cs2, .int .i64 n1] h fun b4 h3 =>
 bif (!b4) then
 K (.bool false) h3
 else
 X2 (impl_Set_isPlan_e2 s1_ p2_ s9_ i10_ i11_ s15_ i16_ (w64 (i17_ + (1)))) h3
 else
 X2 (impl_Set_isPlan_e2 s1_ p2_ s9_ i10_ i11_ s15_ i16_ (w64 (i17_ + (1)))) h
 else
 impl_Set_isPlan_C2 S K X0 s1_ p2_ s9_ i10_ i11_ h
theorem impl_Set_isPlan_link2 (S : SatT) (K : AVal → H → Prop) (X0 : Frame → H → Prop) (X2 : Frame → H → Prop) (s1_ : Sl) (p2_ : Pt) (s9_ : Sl) (i10_ : Int) (i11_ : Int) (s15_ : Sl) (i16_ : Int) (i17_ : Int) (h : H) : impl_Set_isPlan_w2 S K X0 X2 (impl_Set_isPlan_e2 s1_ p2_ s9_ i10_ i11_ s15_ i16_ i17_) h = impl_Set_isPlan_b2 S K X0 X2 s1_ p2_ s9_ i10_ i11_ s15_ i16_ i17_ h := by kernel_rfl
theorem impl_Set_isPlan_rule2 (S : SatT) (K : AVal → H → Prop) (X0 : Frame → H → Prop) (s1_ : Sl) (p2_ : Pt) (s9_ : Sl) (i10_ : Int) (i11_ : Int) (s15_ : Sl) (i16_ : Int) (I_ : Int → H → Prop) (m_ : Int → H → Nat)
    (hs : ∀ (X2 : Frame → H → Prop) (i17_ : Int) (h : H), I_ i17_ h → (∀ (i17_' : Int) (h' : H), I_ i17_' h' → m_ i17_' h' < m_ i17_ h → X2 (impl_Set_isPlan_e2 s1_ p2_ s9_ i10_ i11_ s15_ i16_ i17_') h') → impl_Set_isPlan_b2 S K X0 X2 s1_ p2_ s9_ i10_ i11_ s15_ i16_ i17_ h) (i17_ : Int) {h : H} (h0 : I_ i17_ h) : impl_Set_isPlan_L2 S K X0 s1_ p2_ s9_ i10_ i11_ s15_ i16_ i17_ h :=
  loop_rule (σ := (Int)) (fun s_ => impl_Set_isPlan_e2 s1_ p2_ s9_ i10_ i11_ s15_ i16_ (s_)) (fun s_ h => I_ (s_) h) (fun s_ h => m_ (s_) h)
    (fun X s_ h hi hx => (impl_Set_isPlan_link2 S K X0 X s1_ p2_ s9_ i10_ i11_ s15_ i16_ (s_) h).mpr (hs X (s_) h hi fun i17_' h' hi' hm' => hx (i17_') h' hi' hm')) (i17_) h0
theorem impl_Set_isPlan_unroll2 (S : SatT) (K : AVal → H → Prop) (X0 : Frame → H → Prop) (s1_ : Sl) (p2_ : Pt) (s9_ : Sl) (i10_ : Int) (i11_ : Int) (s15_ : Sl) (i16_ : Int) (i17_ : Int) (h : H) (hb : impl_Set_isPlan_b2 S K X0 (fun fr h => loopK (impl_Set_isPlan_w2 S K X0) fr h) s1_ p2_ s9_ i10_ i11_ s15_ i16_ i17_ h) : impl_Set_isPlan_L2 S K X0 s1_ p2_ s9_ i10_ i11_ s15_ i16_ i17_ h := loop_unroll ((impl_Set_isPlan_link2 S K X0 _ s1_ p2_ s9_ i10_ i11_ s15_ i16_ i17_ h).mpr hb)
def impl_Set_isPlan_C0 (S : SatT) (K : AVal → H → Prop) (s1_ : Sl) (h : H) : Prop :=
 callB S i_impl_isTable [.sl s1_, .int .i64 (5)] h fun b1 h0 =>
 K (.bool b1) h0
def impl_Set_isPlan_b0 (S : SatT) (K : AVal → H → Prop) (X0 : Frame → H → Prop) (s1_ : Sl) (p2_ : Pt) (s9_ : Sl) (i10_ : Int) (i11_ : Int) (h : H) : Prop :=
 bif (decide (i11_ < i10_)) then
 ixS s9_ 1 i11_ fun p0 =>
 ldS p0 h fun s1 =>
 impl_Set_isPlan_L2 S K X0 s1_ p2_ s9_ i10_ i11_ s1 (s1.len : Int) (0) h
 else
 impl_Set_isPlan_C0 S K s1_ h
theorem impl_Set_isPlan_link0 (S : SatT) (K : AVal → H → Prop) (X0 : Frame → H → Prop) (s1_ : Sl) (p2_ : Pt) (s9_ : Sl) (i10_ : Int) (i11_ : Int) (h : H) : impl_Set_isPlan_w0 S K X0 (impl_Set_isPlan_e0 s1_ p2_ s9_ i10_ i11_) h = impl_Set_isPlan_b0 S K X0 s1_ p2_ s9_ i10_ i11_ h := by kernel_rfl
theorem impl_Set_isPlan_rule0 (S : SatT) (K : AVal → H → Prop) (s1_ : Sl) (p2_ : Pt) (s9_ : Sl) (i10_ : Int) (I_ : Int → H → Prop) (m_ : Int → H → Nat)
    (hs : ∀ (X0 : Frame → H → Prop) (i11_ : Int) (h : H), I_ i11_ h → (∀ (i11_' : Int) (h' : H), I_ i11_' h' → m_ i11_' h' < m_ i11_ h → X0 (impl_Set_isPlan_e0 s1_ p2_ s9_ i10_ i11_') h') → impl_Set_isPlan_b0 S K X0 s1_ p2_ s9_ i10_ i11_ h) (i11_ : Int) {h : H} (h0 : I_ i11_ h) : impl_Set_isPlan_L0 S K s1_ p2_ s9_ i10_ i11_ h :=
  loop_rule (σ := (Int)) (fun s_ => impl_Set_isPlan_e0 s1_ p2_ s9_ i10_ (s_)) (fun s_ h => I_ (s_) h) (fun s_ h => m_ (s_) h)
    (fun X s_ h hi hx => (impl_Set_isPlan_link0 S K X s1_ p2_ s9_ i10_ (s_) h).mpr (hs X (s_) h hi fun i11_' h' hi' hm' => hx (i11_') h' hi' hm')) (i11_) h0
theorem impl_Set_isPlan_unroll0 (S : SatT) (K : AVal → H → Prop) (s1_ : Sl) (p2_ : Pt) (s9_ : Sl) (i10_ : Int) (i11_ : Int) (h : H) (hb : impl_Set_isPlan_b0 S K (fun fr h => loopK (impl_Set_isPlan_w0 S K) fr h) s1_ p2_ s9_ i10_ i11_ h) : impl_Set_isPlan_L0 S K s1_ p2_ s9_ i10_ i11_ h := loop_unroll ((impl_Set_isPlan_link0 S K _ s1_ p2_ s9_ i10_ i11_ h).mpr hb)
def impl_Set_isPlan_main (S : SatT) (K : AVal → H → Prop) (x0 : List AVal) (x1 : Sl) (h : H) : Prop :=
 newK 2 x0 h fun p0 h1 =>
 impl_Set_isPlan_L0 S K x1 p0 x1 (x1.len : Int) (0) h1
theorem impl_Set_isPlan_main_link (S : SatT) (K : AVal → H → Prop) (x0 : List AVal) (x1 : Sl) (h : H) : cwp S tab impl_Set_isPlan_M [] (bodyOf Try.f43) (kFun tab Try.f43.results.toList K) (fr0 Try.f43 [.agg x0, .sl x1]) h = impl_Set_isPlan_main S K x0 x1 h := by kernel_rfl
theorem impl_Set_isPlan_call (x0 : List AVal) (x1 : Sl) (h : H) (K : Bool → H → Prop) (hm : impl_Set_isPlan_main (Sat Try.prog) (fun v h' => ∃ r, v = .bool r ∧ K r h') x0 x1 h) : callB (Sat Try.prog) i_impl_Set_isPlan [.agg x0, .sl x1] h K := by
  have := Sat.ex tok mixed impl_Set_isPlan_M Try.func43 (c := bodyOf Try.f43) (by kernel_rfl) (calls_of Try.func43 (c := bodyOf Try.f43) (by kernel_rfl) (by decide)) ((impl_Set_isPlan_main_link _ _ x0 x1 h).mpr hm)
  obtain ⟨v, h2, h3, r, rfl, h4⟩ := this; exact ⟨r, h2, h3, h4⟩

/-! ### slices.Compare[[]int64,int64] -/
def slices_Compare_s_int64_int64__M : Nat → List Nat := fun i => bif i == 0 then [0, 1, 9, 10, 11] else []
def slices_Compare_s_int64_int64__ks1 (S : SatT) (K : AVal → H → Prop) : Kont := kSeq (cwp S tab slices_Compare_s_int64_int64__M [] (sub [1, 1] (bodyOf Try.f65)) (kFun tab (Try.f65).results.toList K)) (kFun tab (Try.f65).results.toList K)
def slices_Compare_s_int64_int64__e0 (s0_ : Sl) (s1_ : Sl) (s9_ : Sl) (i10_ : Int) (i11_ : Int) : Frame := [.sl s0_, .sl s1_, U, U, U, U, U, U, U, .sl s9_, .int .i64 i10_, .int .i64 i11_, U, U, U, U, U, U, U, U, U, U, U, U, U, U, U, U, U, U, U, U, U, U, U, U]
def slices_Compare_s_int64_int64__w0 (S : SatT) (K : AVal → H → Prop) : (Frame → H → Prop) → Frame → H → Prop := fun X fr h => cwp S tab slices_Compare_s_int64_int64__M (slices_Compare_s_int64_int64__M 0) (sub [1, 0, 1, 0, 0] (bodyOf Try.f65)) (kSeq (fun fr h => X (mask (slices_Compare_s_int64_int64__M 0) fr) h) (kBlk 0 (slices_Compare_s_int64_int64__ks1 S K))) fr h
def slices_Compare_s_int64_int64__L0 (S : SatT) (K : AVal → H → Prop) (s0_ : Sl) (s1_ : Sl) (s9_ : Sl) (i10_ : Int) (i11_ : Int) (h : H) : Prop := loopK (slices_Compare_s_int64_int64__w0 S K) (slices_Compare_s_int64_int64__e0 s0_ s1_ s9_ i10_ i11_) h
def slices_Compare_s_int64_int64__C0 (S : SatT) (K : AVal → H → Prop) (s0_ : Sl) (s1_ : Sl) (h : H) : Prop :=
 bif (decide ((s0_.len : Int) < (s1_.len : Int))) then
 K (.int .i64 (-1)) h
 else
 K (.int .i64 (0)) h
def slices_Compare_s_int64_int64__b0 (S : SatT) (K : AVal → H → Prop) (X0 : Frame → H → Prop) (s0_ : Sl) (s1_ : Sl) (s9_ : Sl) (i10_ : Int) (i11_ : Int) (h : H) : Prop :=
 bif (decide (i11_ < i10_)) then
 ixS s9_ 1 i11_ fun p0 =>
 ldI .i64 p0 h fun n1 =>
 bif (decide (i11_ ≥ (s1_.len : Int))) then
 K (.int .i64 (1)) h
 else
 ixS s1_ 1 i11_ fun p2 =>
 ldI .i64 p2 h fun n3 =>
 callI S .i64 i_cmp_Compare_int64_ [.int .i64 n1, .int .i64 n3] h fun n5 h4 =>
 bif (n5 != (0)) then
 K (.int .i64 n5) h4
 else
 X0 (slices_Compare_s_int64_int64__e0 s0_ s1_ s9_ i10_ (w64 (i11_ + (1)))) h4
 else
 slices_Compare_s_int64_int64__C0 S K s0_ s1_ h
theorem slices_Compare_s_int64_int64__link0 (S : SatT) (K : AVal → H → Prop) (X0 : Frame → H → Prop) (s0_ : Sl) (s1_ : Sl) (s9_ : Sl) (i10_ : Int) (i11_ : Int) (h : H) : slices_Compare_s_int64_int64__w0 S K X0 (slices_Compare_s_int64_int64__e0 s0_ s1_ s9_ i10_ i11_) h = slices_Compare_s_int64_int64__b0 S K X0 s0_ s1_ s9_ i10_ i11_ h := by kernel_rfl
theorem slices_Compare_s_int64_int64__rule0 (S : SatT) (K : AVal → H → Prop) (s0_ : Sl) (s1_ : Sl) (s9_ : Sl) (i10_ : Int) (I_ : Int → H → Prop) (m_ : Int → H → Nat)
    (hs : ∀ (X0 : Frame → H → Prop) (i11_ : Int) (h : H), I_ i11_ h → (∀ (i11_' : Int) (h' : H), I_ i11_' h' → m_ i11_' h' < m_ i11_ h → X0 (slices_Compare_s_int64_int64__e0 s0_ s1_ s9_ i10_ i11_') h') → slices_Compare_s_int64_int64__b0 S K X0 s0_ s1_ s9_ i10_ i11_ h) (i11_ : Int) {h : H} (h0 : I_ i11_ h) : slices_Compare_s_int64_int64__L0 S K s0_ s1_ s9_ i10_ i11_ h :=
  loop_rule (σ := (Int)) (fun s_ => slices_Compare_s_int64_int64__e0 s0_ s1_ s9_ i10_ (s_)) (fun s_ h => I_ (s_) h) (fun s_ h => m_ (s_) h)
    (fun X s_ h hi hx => (slices_Compare_s_int64_int64__link0 S K X s0_ s1_ s9_ i10_ (s_) h).mpr (hs X (s_) h hi fun i11_' h' hi' hm' => hx (i11_') h' hi' hm')) (i11_) h0
theorem slices_Compare_s_int64_int64__unroll0 (S : SatT) (K : AVal → H → Prop) (s0_ : Sl) (s1_ : Sl) (s9_ : Sl) (i10_ : Int) (i11_ : Int) (h : H) (hb : slices_Compare_s_int64_int64__b0 S K (fun fr h => loopK (slices_Compare_s_int64_int64__w0 S K) fr h) s0_ s1_ s9_ i10_ i11_ h) : slices_Compare_s_int64_int64__L0 S K s0_ s1_ s9_ i10_ i11_ h := loop_unroll ((slices_Compare_s_int64_int64__link0 S K _ s0_ s1_ s9_ i10_ i11_ h).mpr hb)
def slices_Compare_s_int64_int64__main (S : SatT) (K : AVal → H → Prop) (x0 : Sl) (x1 : Sl) (h : H) : Prop :=
 slices_Compare_s_int64_int64__L0 S K x0 x1 x0 (x0.len : Int) (0) h
theorem slices_Compare_s_int64_int64__main_link (S : SatT) (K : AVal → H → Prop) (x0 : Sl) (x1 : Sl) (h : H) : cwp S tab slices_Compare_s_int64_int64__M [] (bodyOf Try.f65) (kFun tab Try.f65.results.toList K) (fr0 Try.f65 [.sl x0, .sl x1]) h = slices_Compare_s_int64_int64__main S K x0 x1 h := by kernel_rfl
theorem slices_Compare_s_int64_int64__call (x0 : Sl) (x1 : Sl) (h : H) (K : Int → H → Prop) (hm : slices_Compare_s_int64_int64__main (Sat Try.prog) (fun v h' => ∃ r, v = .int .i64 r ∧ K r h') x0 x1 h) : callI (Sat Try.prog) .i64 i_slices_Compare_s_int64_int64_ [.sl x0, .sl x1] h K := by
  have := Sat.ex tok mixed slices_Compare_s_int64_int64__M Try.func65 (c := bodyOf Try.f65) (by kernel_rfl) (calls_of Try.func65 (c := bodyOf Try.f65) (by kernel_rfl) (by decide)) ((slices_Compare_s_int64_int64__main_link _ _ x0 x1 h).mpr hm)
  obtain ⟨v, h2, h3, r, rfl, h4⟩ := this; exact ⟨r, h2, h3, h4⟩

/-! ### loop.example/g01354/laws.szInt64SS -/
def laws_szInt64SS_M : Nat → List Nat := fun i => bif i == 0 then [0, 1, 5] else []
def laws_szInt64SS_ks5 (S : SatT) (K : AVal → H → Prop) : Kont := kSeq (cwp S tab laws_szInt64SS_M [] (sub [1, 1, 1, 1] (bodyOf Try.f6)) (kFun tab (Try.f6).results.toList K)) (kFun tab (Try.f6).results.toList K)
def laws_szInt64SS_e0 (s0_ : Sl) (i1_ : Int) (i5_ : Int) : Frame := [.sl s0_, .int .i64 i1_, U, U, U, .int .i64 i5_, U, U, U, U, U, U, U, U, U, U, U, U, U, U, U, U, U, U, U, U, U]
def laws_szInt64SS_w0 (S : SatT) (K : AVal → H → Prop) : (Frame → H → Prop) → Frame → H → Prop := fun X fr h => cwp S tab laws_szInt64SS_M (laws_szInt64SS_M 0) (sub [1, 1, 1, 0, 1, 0, 0] (bodyOf Try.f6)) (kSeq (fun fr h => X (mask (laws_szInt64SS_M 0) fr) h) (kBlk 0 (laws_szInt64SS_ks5 S K))) fr h
def laws_szInt64SS_L0 (S : SatT) (K : AVal → H → Prop) (s0_ : Sl) (i1_ : Int) (i5_ : Int) (h : H) : Prop := loopK (laws_szInt64SS_w0 S K) (laws_szInt64SS_e0 s0_ i1_ i5_) h
def laws_szInt64SS_C0 (S : SatT) (K : AVal → H → Prop) (i1_ : Int) (h : H) : Prop :=
 K (.int .i64 i1_) h
def laws_szInt64SS_b0 (S : SatT) (K : AVal → H → Prop) (X0 : Frame → H → Prop) (s0_ : Sl) (i1_ : Int) (i5_ : Int) (h : H) : Prop :=
 bif (decide (i5_ < (s0_.len : Int))) then
 ixS s0_ 1 i5_ fun p0 =>
 ldS p0 h fun s1 =>
 callI S .i64 i_laws_szInt64S [.sl s1, .int .i64 i1_] h fun n3 h2 =>
 bif (decide (n3 < (0))) then
 K (.int .i64 (-1)) h2
 else
 X0 (laws_szInt64SS_e0 s0_ n3 (w64 (i5_ + (1)))) h2
 else
 laws_szInt64SS_C0 S K i1_ h
theorem laws_szInt64SS_link0 (S : SatT) (K : AVal → H → Prop) (X0 : Frame → H → Prop) (s0_ : Sl) (i1_ : Int) (i5_ : Int) (h : H) : laws_szInt64SS_w0 S K X0 (laws_szInt64SS_e0 s0_ i1_ i5_) h = laws_szInt64SS_b0 S K X0 s0_ i1_ i5_ h := by kernel_rfl
theorem laws_szInt64SS_rule0 (S : SatT) (K : AVal → H → Prop) (s0_ : Sl) (I_ : Int → Int → H → Prop) (m_ : Int → Int → H → Nat)
    (hs : ∀ (X0 : Frame → H → Prop) (i1_ : Int) (i5_ : Int) (h : H), I_ i1_ i5_ h → (∀ (i1_' : Int) (i5_' : Int) (h' : H), I_ i1_' i5_' h' → m_ i1_' i5_' h' < m_ i1_ i5_ h → X0 (laws_szInt64SS_e0 s0_ i1_' i5_') h') → laws_szInt64SS_b0 S K X0 s0_ i1_ i5_ h) (i1_ : Int) (i5_ : Int) {h : H} (h0 : I_ i1_ i5_ h) : laws_szInt64SS_L0 S K s0_ i1_ i5_ h :=
  loop_rule (σ := (Int) × (Int)) (fun s_ => laws_szInt64SS_e0 s0_ (s_.1) (s_.2)) (fun s_ h => I_ (s_.1) (s_.2) h) (fun s_ h => m_ (s_.1) (s_.2) h)
    (fun X s_ h hi hx => (laws_szInt64SS_link0 S K X s0_ (s_.1) (s_.2) h).mpr (hs X (s_.1) (s_.2) h hi fun i1_' i5_' h' hi' hm' => hx (i1_', i5_') h' hi' hm')) (i1_, i5_) h0
theorem laws_szInt64SS_unroll0 (S : SatT) (K : AVal → H → Prop) (s0_ : Sl) (i1_ : Int) (i5_ : Int) (h : H) (hb : laws_szInt64SS_b0 S K (fun fr h => loopK (laws_szInt64SS_w0 S K) fr h) s0_ i1_ i5_ h) : laws_szInt64SS_L0 S K s0_ i1_ i5_ h := loop_unroll ((laws_szInt64SS_link0 S K _ s0_ i1_ i5_ h).mpr hb)
def laws_szInt64SS_main (S : SatT) (K : AVal → H → Prop) (x0 : Sl) (x1 : Int) (h : H) : Prop :=
 bif (decide ((w64 (x1 - (x0.len : Int))) < (0))) then
 K (.int .i64 (-1)) h
 else
 laws_szInt64SS_L0 S K x0 (w64 (x1 - (x0.len : Int))) (0) h
theorem laws_szInt64SS_main_link (S : SatT) (K : AVal → H → Prop) (x0 : Sl) (x1 : Int) (h : H) : cwp S tab laws_szInt64SS_M [] (bodyOf Try.f6) (kFun tab Try.f6.results.toList K) (fr0 Try.f6 [.sl x0, .int .i64 x1]) h = laws_szInt64SS_main S K x0 x1 h := by kernel_rfl
theorem laws_szInt64SS_call (x0 : Sl) (x1 : Int) (h : H) (K : Int → H → Prop) (hm : laws_szInt64SS_main (Sat Try.prog) (fun v h' => ∃ r, v = .int .i64 r ∧ K r h') x0 x1 h) : callI (Sat Try.prog) .i64 i_laws_szInt64SS [.sl x0, .int .i64 x1] h K := by
  have := Sat.ex tok mixed laws_szInt64SS_M Try.func6 (c := bodyOf Try.f6) (by kernel_rfl) (calls_of Try.func6 (c := bodyOf Try.f6) (by kernel_rfl) (by decide)) ((laws_szInt64SS_main_link _ _ x0 x1 h).mpr hm)
  obtain ⟨v, h2, h3, r, rfl, h4⟩ := this; exact ⟨r, h2, h3, h4⟩

/-! ### loop.example/g01354/laws.toTile -/
def laws_toTile_M : Nat → List Nat := fun i => bif i == 0 then [1, 2, 3, 4] else []
def laws_toTile_ks2 (S : SatT) (K : AVal → H → Prop) : Kont := kSeq (cwp S tab laws_toTile_M [] (sub [1, 1, 1] (bodyOf Try.f40)) (kFun tab (Try.f40).results.toList K)) (kFun tab (Try.f40).results.toList K)
def laws_toTile_e0 (p1_ : Pt) (p2_ : Pt) (p3_ : Pt) (i4_ : Int) : Frame := [U, .ptr p1_, .ptr p2_, .ptr p3_, .int .i64 i4_, U, U, U, U, U, U, U, U, U, U]
def laws_toTile_w0 (S : SatT) (K : AVal → H → Prop) : (Frame → H → Prop) → Frame → H → Prop := fun X fr h => cwp S tab laws_toTile_M (laws_toTile_M 0) (sub [1, 1, 0, 1, 0, 0] (bodyOf Try.f40)) (kSeq (fun fr h => X (mask (laws_toTile_M 0) fr) h) (kBlk 0 (laws_toTile_ks2 S K))) fr h
def laws_toTile_L0 (S : SatT) (K : AVal → H → Prop) (p1_ : Pt) (p2_ : Pt) (p3_ : Pt) (i4_ : Int) (h : H) : Prop := loopK (laws_toTile_w0 S K) (laws_toTile_e0 p1_ p2_ p3_ i4_) h
def laws_toTile_C0 (S : SatT) (K : AVal → H → Prop) (p2_ : Pt) (p3_ : Pt) (h : H) : Prop :=
 ldA p3_ 4 h fun cs0 =>
 stN p2_ 4 cs0 h fun h1 =>
 ldA p2_ 4 h1 fun cs2 =>
 K (.agg cs2) h1
def laws_toTile_b0 (S : SatT) (K : AVal → H → Prop) (X0 : Frame → H → Prop) (p1_ : Pt) (p2_ : Pt) (p3_ : Pt) (i4_ : Int) (h : H) : Prop :=
 bif (decide (i4_ < (4))) then
 ixA p1_ 4 1 i4_ fun p0 =>
 ldI .i64 p0 h fun n1 =>
 ixA p3_ 4 1 i4_ fun p2 =>
 st1 p2 (.int .i64 n1) h fun h3 =>
 X0 (laws_toTile_e0 p1_ p2_ p3_ (w64 (i4_ + (1)))) h3
 else
 laws_toTile_C0 S K p2_ p3_ h
theorem laws_toTile_link0 (S : SatT) (K : AVal → H → Prop) (X0 : Frame → H → Prop) (p1_ : Pt) (p2_ : Pt) (p3_ : Pt) (i4_ : Int) (h : H) : laws_toTile_w0 S K X0 (laws_toTile_e0 p1_ p2_ p3_ i4_) h = laws_toTile_b0 S K X0 p1_ p2_ p3_ i4_ h := by kernel_rfl
theorem laws_toTile_rule0 (S : SatT) (K : AVal → H → Prop) (p1_ : Pt) (p2_ : Pt) (p3_ : Pt) (I_ : Int → H → Prop) (m_ : Int → H → Nat)
    (hs : ∀ (X0 : Frame → H → Prop) (i4_ : Int) (h : H), I_ i4_ h → (∀ (i4_' : Int) (h' : H), I_ i4_' h' → m_ i4_' h' < m_ i4_ h → X0 (laws_toTile_e0 p1_ p2_ p3_ i4_') h') → laws_toTile_b0 S K X0 p1_ p2_ p3_ i4_ h) (i4_ : Int) {h : H} (h0 : I_ i4_ h) : laws_toTile_L0 S K p1_ p2_ p3_ i4_ h :=
  loop_rule (σ := (Int)) (fun s_ => laws_toTile_e0 p1_ p2_ p3_ (s_)) (fun s_ h => I_ (s_) h) (fun s_ h => m_ (s_) h)
    (fun X s_ h hi hx => (laws_toTile_link0 S K X p1_ p2_ p3_ (s_) h).mpr (hs X (s_) h hi fun i4_' h' hi' hm' => hx (i4_') h' hi' hm')) (i4_) h0
theorem laws_toTile_unroll0 (S : SatT) (K : AVal → H → Prop) (p1_ : Pt) (p2_ : Pt) (p3_ : Pt) (i4_ : Int) (h : H) (hb : laws_toTile_b0 S K (fun fr h => loopK (laws_toTile_w0 S K) fr h) p1_ p2_ p3_ i4_ h) : laws_toTile_L0 S K p1_ p2_ p3_ i4_ h := loop_unroll ((laws_toTile_link0 S K _ p1_ p2_ p3_ i4_ h).mpr hb)
def laws_toTile_main (S : SatT) (K : AVal → H → Prop) (x0 : List AVal) (h : H) : Prop :=
 newK 4 x0 h fun p0 h1 =>
 newO [.int .i64 (0), .int .i64 (0), .int .i64 (0), .int .i64 (0)] h1 fun p2 h3 =>
 newO [.int .i64 (0), .int .i64 (0), .int .i64 (0), .int .i64 (0)] h3 fun p4 h5 =>
 laws_toTile_L0 S K p0 p2 p4 (0) h5
theorem laws_toTile_main_link (S : SatT) (K : AVal → H → Prop) (x0 : List AVal) (h : H) : cwp S tab laws_toTile_M [] (bodyOf Try.f40) (kFun tab Try.f40.results.toList K) (fr0 Try.f40 [.agg x0]) h = laws_toTile_main S K x0 h := by kernel_rfl
theorem laws_toTile_call (x0 : List AVal) (h : H) (K : List AVal → H → Prop) (hm : laws_toTile_main (Sat Try.prog) (fun v h' => ∃ r, v = .agg r ∧ K r h') x0 h) : callA (Sat Try.prog) i_laws_toTile [.agg x0] h K := by
  have := Sat.ex tok mixed laws_toTile_M Try.func40 (c := bodyOf Try.f40) (by kernel_rfl) (calls_of Try.func40 (c := bodyOf Try.f40) (by kernel_rfl) (by decide)) ((laws_toTile_main_link _ _ x0 h).mpr hm)
  obtain ⟨v, h2, h3, r, rfl, h4⟩ := this; exact ⟨r, h2, h3, h4⟩

/-! ### loop.example/g01354/laws.markInt64S -/
def laws_markInt64S_M : Nat → List Nat := fun i => bif i == 0 then [0, 1, 5] else []
def laws_markInt64S_ks1 (S : SatT) (K : AVal → H → Prop) : Kont := kSeq (cwp S tab laws_markInt64S_M [] (sub [1, 1] (bodyOf Try.f16)) (kFun tab (Try.f16).results.toList K)) (kFun tab (Try.f16).results.toList K)
def laws_markInt64S_e0 (s0_ : Sl) (i1_ : Int) (i5_ : Int) : Frame := [.sl s0_, .int .i64 i1_, U, U, U, .int .i64 i5_, U, U, U, U, U, U, U, U, U, U, U, U, U]
def laws_markInt64S_w0 (S : SatT) (K : AVal → H → Prop) : (Frame → H → Prop) → Frame → H → Prop := fun X fr h => cwp S tab laws_markInt64S_M (laws_markInt64S_M 0) (sub [1, 0, 1, 0, 0] (bodyOf Try.f16)) (kSeq (fun fr h => X (mask (laws_markInt64S_M 0) fr) h) (kBlk 0 (laws_markInt64S_ks1 S K))) fr h
def laws_markInt64S_L0 (S : SatT) (K : AVal → H → Prop) (s0_ : Sl) (i1_ : Int) (i5_ : Int) (h : H) : Prop := loopK (laws_markInt64S_w0 S K) (laws_markInt64S_e0 s0_ i1_ i5_) h
def laws_markInt64S_C0 (S : SatT) (K : AVal → H → Prop) (i1_ : Int) (h : H) : Prop :=
 K (.int .i64 i1_) h
def laws_markInt64S_b0 (S : SatT) (K : AVal → H → Prop) (X0 : Frame → H → Prop) (s0_ : Sl) (i1_ : Int) (i5_ : Int) (h : H) : Prop :=
 bif (decide (i5_ < (s0_.len : Int))) then
 ixS s0_ 1 i5_ fun p0 =>
 st1 p0 (.int .i64 i1_) h fun h1 =>
 X0 (laws_markInt64S_e0 s0_ (w64 (i1_ + (1))) (w64 (i5_ + (1)))) h1
 else
 laws_markInt64S_C0 S K i1_ h
theorem laws_markInt64S_link0 (S : SatT) (K : AVal → H → Prop) (X0 : Frame → H → Prop) (s0_ : Sl) (i1_ : Int) (i5_ : Int) (h : H) : laws_markInt64S_w0 S K X0 (laws_markInt64S_e0 s0_ i1_ i5_) h = laws_markInt64S_b0 S K X0 s0_ i1_ i5_ h := by kernel_rfl
theorem laws_markInt64S_rule0 (S : SatT) (K : AVal → H → Prop) (s0_ : Sl) (I_ : Int → Int → H → Prop) (m_ : Int → Int → H → Nat)
    (hs : ∀ (X0 : Frame → H → Prop) (i1_ : Int) (i5_ : Int) (h : H), I_ i1_ i5_ h → (∀ (i1_' : Int) (i5_' : Int) (h' : H), I_ i1_' i5_' h' → m_ i1_' i5_' h' < m_ i1_ i5_ h → X0 (laws_markInt64S_e0 s0_ i1_' i5_') h') → laws_markInt64S_b0 S K X0 s0_ i1_ i5_ h) (i1_ : Int) (i5_ : Int) {h : H} (h0 : I_ i1_ i5_ h) : laws_markInt64S_L0 S K s0_ i1_ i5_ h :=
  loop_rule (σ := (Int) × (Int)) (fun s_ => laws_markInt64S_e0 s0_ (s_.1) (s_.2)) (fun s_ h => I_ (s_.1) (s_.2) h) (fun s_ h => m_ (s_.1) (s_.2) h)
    (fun X s_ h hi hx => (laws_markInt64S_link0 S K X s0_ (s_.1) (s_.2) h).mpr (hs X (s_.1) (s_.2) h hi fun i1_' i5_' h' hi' hm' => hx (i1_', i5_') h' hi' hm')) (i1_, i5_) h0
theorem laws_markInt64S_unroll0 (S : SatT) (K : AVal → H → Prop) (s0_ : Sl) (i1_ : Int) (i5_ : Int) (h : H) (hb : laws_markInt64S_b0 S K (fun fr h => loopK (laws_markInt64S_w0 S K) fr h) s0_ i1_ i5_ h) : laws_markInt64S_L0 S K s0_ i1_ i5_ h := loop_unroll ((laws_markInt64S_link0 S K _ s0_ i1_ i5_ h).mpr hb)
def laws_markInt64S_main (S : SatT) (K : AVal → H → Prop) (x0 : Sl) (x1 : Int) (h : H) : Prop :=
 laws_markInt64S_L0 S K x0 x1 (0) h
theorem laws_markInt64S_main_link (S : SatT) (K : AVal → H → Prop) (x0 : Sl) (x1 : Int) (h : H) : cwp S tab laws_markInt64S_M [] (bodyOf Try.f16) (kFun tab Try.f16.results.toList K) (fr0 Try.f16 [.sl x0, .int .i64 x1]) h = laws_markInt64S_main S K x0 x1 h := by kernel_rfl
theorem laws_markInt64S_call (x0 : Sl) (x1 : Int) (h : H) (K : Int → H → Prop) (hm : laws_markInt64S_main (Sat Try.prog) (fun v h' => ∃ r, v = .int .i64 r ∧ K r h') x0 x1 h) : callI (Sat Try.prog) .i64 i_laws_markInt64S [.sl x0, .int .i64 x1] h K := by
  have := Sat.ex tok mixed laws_markInt64S_M Try.func16 (c := bodyOf Try.f16) (by kernel_rfl) (calls_of Try.func16 (c := bodyOf Try.f16) (by kernel_rfl) (by decide)) ((laws_markInt64S_main_link _ _ x0 x1 h).mpr hm)
  obtain ⟨v, h2, h3, r, rfl, h4⟩ := this; exact ⟨r, h2, h3, h4⟩

/-! ### loop.example/g01354/laws.eqInt64S -/
def laws_eqInt64S_M : Nat → List Nat := fun i => bif i == 0 then [0, 1, 5] else []
def laws_eqInt64S_ks4 (S : SatT) (K : AVal → H → Prop) : Kont := kSeq (cwp S tab laws_eqInt64S_M [] (sub [1, 1, 1] (bodyOf Try.f11)) (kFun tab (Try.f11).results.toList K)) (kFun tab (Try.f11).results.toList K)
def laws_eqInt64S_e0 (s0_ : Sl) (s1_ : Sl) (i5_ : Int) : Frame := [.sl s0_, .sl s1_, U, U, U, .int .i64 i5_, U, U, U, U, U, U, U, U, U, U, U, U, U, U, U, U, U, U, U, U]
def laws_eqInt64S_w0 (S : SatT) (K : AVal → H → Prop) : (Frame → H → Prop) → Frame → H → Prop := fun X fr h => cwp S tab laws_eqInt64S_M (laws_eqInt64S_M 0) (sub [1, 1, 0, 1, 0, 0] (bodyOf Try.f11)) (kSeq (fun fr h => X (mask (laws_eqInt64S_M 0) fr) h) (kBlk 0 (laws_eqInt64S_ks4 S K))) fr h
def laws_eqInt64S_L0 (S : SatT) (K : AVal → H → Prop) (s0_ : Sl) (s1_ : Sl) (i5_ : Int) (h : H) : Prop := loopK (laws_eqInt64S_w0 S K) (laws_eqInt64S_e0 s0_ s1_ i5_) h
def laws_eqInt64S_C0 (S : SatT) (K : AVal → H → Prop) (h : H) : Prop :=
 K (.bool true) h
def laws_eqInt64S_b0 (S : SatT) (K : AVal → H → Prop) (X0 : Frame → H → Prop) (s0_ : Sl) (s1_ : Sl) (i5_ : Int) (h : H) : Prop :=
 bif (decide (i5_ < (s0_.len : Int))) then
 ixS s0_ 1 i5_ fun p0 =>
 ldI .i64 p0 h fun n1 =>
 ixS s1_ 1 i5_ fun p2 =>
 ldI .i64 p2 h fun n3 =>
 bif (n1 != n3) then
 K (.bool false) h
 else
 X0 (laws_eqInt64S_e0 s0_ s1_ (w64 (i5_ + (1)))) h
 else
 laws_eqInt64S_C0 S K h
theorem laws_eqInt64S_link0 (S : SatT) (K : AVal → H → Prop) (X0 : Frame → H → Prop) (s0_ : Sl) (s1_ : Sl) (i5_ : Int) (h : H) : laws_eqInt64S_w0 S K X0 (laws_eqInt64S_e0 s0_ s1_ i5_) h = laws_eqInt64S_b0 S K X0 s0_ s1_ i5_ h := by kernel_rfl
theorem laws_eqInt64S_rule0 (S : SatT) (K : AVal → H → Prop) (s0_ : Sl) (s1_ : Sl) (I_ : Int → H → Prop) (m_ : Int → H → Nat)
    (hs : ∀ (X0 : Frame → H → Prop) (i5_ : Int) (h : H), I_ i5_ h → (∀ (i5_' : Int) (h' : H), I_ i5_' h' → m_ i5_' h' < m_ i5_ h → X0 (laws_eqInt64S_e0 s0_ s1_ i5_') h') → laws_eqInt64S_b0 S K X0 s0_ s1_ i5_ h) (i5_ : Int) {h : H} (h0 : I_ i5_ h) : laws_eqInt64S_L0 S K s0_ s1_ i5_ h :=
  loop_rule (σ := (Int)) (fun s_ => laws_eqInt64S_e0 s0_ s1_ (s_)) (fun s_ h => I_ (s_) h) (fun s_ h => m_ (s_) h)
    (fun X s_ h hi hx => (laws_eqInt64S_link0 S K X s0_ s1_ (s_) h).mpr (hs X (s_) h hi fun i5_' h' hi' hm' => hx (i5_') h' hi' hm')) (i5_) h0
theorem laws_eqInt64S_unroll0 (S : SatT) (K : AVal → H → Prop) (s0_ : Sl) (s1_ : Sl) (i5_ : Int) (h : H) (hb : laws_eqInt64S_b0 S K (fun fr h => loopK (laws_eqInt64S_w0 S K) fr h) s0_ s1_ i5_ h) : laws_eqInt64S_L0 S K s0_ s1_ i5_ h := loop_unroll ((laws_eqInt64S_link0 S K _ s0_ s1_ i5_ h).mpr hb)
def laws_eqInt64S_main (S : SatT) (K : AVal → H → Prop) (x0 : Sl) (x1 : Sl) (h : H) : Prop :=
 bif ((x0.len : Int) != (x1.len : Int)) then
 K (.bool false) h
 else
 laws_eqInt64S_L0 S K x0 x1 (0) h
theorem laws_eqInt64S_main_link (S : SatT) (K : AVal → H → Prop) (x0 : Sl) (x1 : Sl) (h : H) : cwp S tab laws_eqInt64S_M [] (bodyOf Try.f11) (kFun tab Try.f11.results.toList K) (fr0 Try.f11 [.sl x0, .sl x1]) h = laws_eqInt64S_main S K x0 x1 h := by kernel_rfl
theorem laws_eqInt64S_call (x0 : Sl) (x1 : Sl) (h : H) (K : Bool → H → Prop) (hm : laws_eqInt64S_main (Sat Try.prog) (fun v h' => ∃ r, v = .bool r ∧ K r h') x0 x1 h) : callB (Sat Try.prog) i_laws_eqInt64S [.sl x0, .sl x1] h K := by
  have := Sat.ex tok mixed laws_eqInt64S_M Try.func11 (c := bodyOf Try.f11) (by kernel_rfl) (calls_of Try.func11 (c := bodyOf Try.f11) (by kernel_rfl) (by decide)) ((laws_eqInt64S_main_link _ _ x0 x1 h).mpr hm)
  obtain ⟨v, h2, h3, r, rfl, h4⟩ := this; exact ⟨r, h2, h3, h4⟩

/-! ### loop.example/g01354/laws.toTileS -/
def laws_toTileS_M : Nat → List Nat := fun i => bif i == 0 then [0, 3, 4] else []
def laws_toTileS_ks2 (S : SatT) (K : AVal → H → Prop) : Kont := kSeq (cwp S tab laws_toTileS_M [] (sub [1, 1, 1] (bodyOf Try.f26)) (kFun tab (Try.f26).results.toList K)) (kFun tab (Try.f26).results.toList K)
def laws_toTileS_e0 (s0_ : Sl) (s3_ : Sl) (i4_ : Int) : Frame := [.sl s0_, U, U, .sl s3_, .int .i64 i4_, U, U, U, U, U, U, U, U, U, U, U, U, U, U, U, U, U, U]
def laws_toTileS_w0 (S : SatT) (K : AVal → H → Prop) : (Frame → H → Prop) → Frame → H → Prop := fun X fr h => cwp S tab laws_toTileS_M (laws_toTileS_M 0) (sub [1, 1, 0, 1, 0, 0] (bodyOf Try.f26)) (kSeq (fun fr h => X (mask (laws_toTileS_M 0) fr) h) (kBlk 0 (laws_toTileS_ks2 S K))) fr h
def laws_toTileS_L0 (S : SatT) (K : AVal → H → Prop) (s0_ : Sl) (s3_ : Sl) (i4_ : Int) (h : H) : Prop := loopK (laws_toTileS_w0 S K) (laws_toTileS_e0 s0_ s3_ i4_) h
def laws_toTileS_C0 (S : SatT) (K : AVal → H → Prop) (s3_ : Sl) (h : H) : Prop :=
 K (.sl s3_) h
def laws_toTileS_b0 (S : SatT) (K : AVal → H → Prop) (X0 : Frame → H → Prop) (s0_ : Sl) (s3_ : Sl) (i4_ : Int) (h : H) : Prop :=
 bif (decide (i4_ < (s0_.len : Int))) then
 ixS s0_ 4 i4_ fun p0 =>
 ldA p0 4 h fun cs1 =>
 callA S i_laws_toTile [.agg cs1] h fun cs3 h2 =>
 ixS s3_ 4 i4_ fun p4 =>
 stN p4 4 cs3 h2 fun h5 =>
 X0 (laws_toTileS_e0 s0_ s3_ (w64 (i4_ + (1)))) h5
 else
 laws_toTileS_C0 S K s3_ h
theorem laws_toTileS_link0 (S : SatT) (K : AVal → H → Prop) (X0 : Frame → H → Prop) (s0_ : Sl) (s3_ : Sl) (i4_ : Int) (h : H) : laws_toTileS_w0 S K X0 (laws_toTileS_e0 s0_ s3_ i4_) h = laws_toTileS_b0 S K X0 s0_ s3_ i4_ h := by kernel_rfl
theorem laws_toTileS_rule0 (S : SatT) (K : AVal → H → Prop) (s0_ : Sl) (s3_ : Sl) (I_ : Int → H → Prop) (m_ : Int → H → Nat)
    (hs : ∀ (X0 : Frame → H → Prop) (i4_ : Int) (h : H), I_ i4_ h → (∀ (i4_' : Int) (h' : H), I_ i4_' h' → m_ i4_' h' < m_ i4_ h → X0 (laws_toTileS_e0 s0_ s3_ i4_') h') → laws_toTileS_b0 S K X0 s0_ s3_ i4_ h) (i4_ : Int) {h : H} (h0 : I_ i4_ h) : laws_toTileS_L0 S K s0_ s3_ i4_ h :=
  loop_rule (σ := (Int)) (fun s_ => laws_toTileS_e0 s0_ s3_ (s_)) (fun s_ h => I_ (s_) h) (fun s_ h => m_ (s_) h)
    (fun X s_ h hi hx => (laws_toTileS_link0 S K X s0_ s3_ (s_) h).mpr (hs X (s_) h hi fun i4_' h' hi' hm' => hx (i4_') h' hi' hm')) (i4_) h0
theorem laws_toTileS_unroll0 (S : SatT) (K : AVal → H → Prop) (s0_ : Sl) (s3_ : Sl) (i4_ : Int) (h : H) (hb : laws_toTileS_b0 S K (fun fr h => loopK (laws_toTileS_w0 S K) fr h) s0_ s3_ i4_ h) : laws_toTileS_L0 S K s0_ s3_ i4_ h := loop_unroll ((laws_toTileS_link0 S K _ s0_ s3_ i4_ h).mpr hb)
def laws_toTileS_main (S : SatT) (K : AVal → H → Prop) (x0 : Sl) (h : H) : Prop :=
 mkS (x0.len : Int) [.int .i64 (0), .int .i64 (0), .int .i64 (0), .int .i64 (0)] h fun s0 h1 =>
 laws_toTileS_L0 S K x0 s0 (0) h1
theorem laws_toTileS_main_link (S : SatT) (K : AVal → H → Prop) (x0 : Sl) (h : H) : cwp S tab laws_toTileS_M [] (bodyOf Try.f26) (kFun tab Try.f26.results.toList K) (fr0 Try.f26 [.sl x0]) h = laws_toTileS_main S K x0 h := by kernel_rfl
theorem laws_toTileS_call (x0 : Sl) (h : H) (K : Sl → H → Prop) (hm : laws_toTileS_main (Sat Try.prog) (fun v h' => ∃ r, v = .sl r ∧ K r h') x0 h) : callS (Sat Try.prog) i_laws_toTileS [.sl x0] h K := by
  have := Sat.ex tok mixed laws_toTileS_M Try.func26 (c := bodyOf Try.f26) (by kernel_rfl) (calls_of Try.func26 (c := bodyOf Try.f26) (by kernel_rfl) (by decide)) ((laws_toTileS_main_link _ _ x0 h).mpr hm)
  obtain ⟨v, h2, h3, r, rfl, h4⟩ := this; exact ⟨r, h2, h3, h4⟩

/-! ### loop.example/g01354/spec.l03Step -/
def spec_l03Step_M : Nat → List Nat := fun i => []
def spec_l03Step_main (S : SatT) (K : AVal → H → Prop) (x0 : List AVal) (x1 : Int) (x2 : Int) (x3 : Int) (x4 : Int) (h : H) : Prop :=
 newK 2 x0 h fun p0 h1 =>
 isPt p0 (
 ldI .i64 (Pt.add p0 0) h1 fun n2 =>
 isPt p0 (
 ldS (Pt.add p0 1) h1 fun s3 =>
 ixS s3 4 x4 fun p4 =>
 ldA p4 4 h1 fun cs5 =>
 newO [.int .i64 (0), .int .i64 (0), .int .i64 (0), .int .i64 (0)] h1 fun p6 h7 =>
(range h7 p4.o p4.n p4.off 4 = range h1 p4.o p4.n p4.off 4) ∧ (
(cell h7 (Pt.add p0 1) = cell h1 (Pt.add p0 1)) ∧ (
(cell h7 (Pt.add p0 0) = cell h1 (Pt.add p0 0)) ∧ (
 stN p6 4 cs5 h7 fun h8 =>
 nz x1 (
 callI S .i64 i_spec_l03Power [.int .i64 n2, .int .i64 (Int.tmod x3 x1)] h8 fun n10 h9 =>
 callI S .i64 i_spec_l03Power [.int .i64 n2, .int .i64 x1] h9 fun n12 h11 =>
 ixA p6 4 1 (3) fun p13 =>
 ldI .i64 p13 h11 fun n14 =>
 nz n10 (
 nz n2 (
 ixA p6 4 1 (2) fun p15 =>
 ldI .i64 p15 h11 fun n16 =>
 nz n12 (
 K (.int .i64 (w64 ((w64 (x2 + (w64 ((w64 (n14 - (Int.tmod (w64 (Int.tdiv x2 n10)) n2))) * n10)))) + (w64 ((w64 (n16 - (w64 (Int.tdiv x2 n12)))) * n12))))) h11)))))))))
theorem spec_l03Step_main_link (S : SatT) (K : AVal → H → Prop) (x0 : List AVal) (x1 : Int) (x2 : Int) (x3 : Int) (x4 : Int) (h : H) : cwp S tab spec_l03Step_M [] (bodyOf Try.f39) (kFun tab Try.f39.results.toList K) (fr0 Try.f39 [.agg x0, .int .i64 x1, .int .i64 x2, .int .i64 x3, .int .i64 x4]) h = spec_l03Step_main S K x0 x1 x2 x3 x4 h := by kernel_rfl
theorem spec_l03Step_call (x0 : List AVal) (x1 : Int) (x2 : Int) (x3 : Int) (x4 : Int) (h : H) (K : Int → H → Prop) (hm : spec_l03Step_main (Sat Try.prog) (fun v h' => ∃ r, v = .int .i64 r ∧ K r h') x0 x1 x2 x3 x4 h) : callI (Sat Try.prog) .i64 i_spec_l03Step [.agg x0, .int .i64 x1, .int .i64 x2, .int .i64 x3, .int .i64 x4] h K := by
  have := Sat.ex tok mixed spec_l03Step_M Try.func39 (c := bodyOf Try.f39) (by kernel_rfl) (calls_of Try.func39 (c := bodyOf Try.f39) (by kernel_rfl) (by decide)) ((spec_l03Step_main_link _ _ x0 x1 x2 x3 x4 h).mpr hm)
  obtain ⟨v, h2, h3, r, rfl, h4⟩ := this; exact ⟨r, h2, h3, h4⟩

/-! ### cmp.Compare[int64] -/
def cmp_Compare_int64__M : Nat → List Nat := fun i => []
def cmp_Compare_int64__main (S : SatT) (K : AVal → H → Prop) (x0 : Int) (x1 : Int) (h : H) : Prop :=
 callB S i_cmp_isNaN_int64_ [.int .i64 x0] h fun b1 h0 =>
 callB S i_cmp_isNaN_int64_ [.int .i64 x1] h0 fun b3 h2 =>
 bif b1 then
 bif b3 then
 K (.int .i64 (0)) h2
 else
 K (.int .i64 (-1)) h2
 else
 bif b3 then
 K (.int .i64 (1)) h2
 else
 bif (decide (x0 < x1)) then
 K (.int .i64 (-1)) h2
 else
 bif (decide (x0 > x1)) then
 K (.int .i64 (1)) h2
 else
 K (.int .i64 (0)) h2
theorem cmp_Compare_int64__main_link (S : SatT) (K : AVal → H → Prop) (x0 : Int) (x1 : Int) (h : H) : cwp S tab cmp_Compare_int64__M [] (bodyOf Try.f67) (kFun tab Try.f67.results.toList K) (fr0 Try.f67 [.int .i64 x0, .int .i64 x1]) h = cmp_Compare_int64__main S K x0 x1 h := by kernel_rfl
theorem cmp_Compare_int64__call (x0 : Int) (x1 : Int) (h : H) (K : Int → H → Prop) (hm : cmp_Compare_int64__main (Sat Try.prog) (fun v h' => ∃ r, v = .int .i64 r ∧ K r h') x0 x1 h) : callI (Sat Try.prog) .i64 i_cmp_Compare_int64_ [.int .i64 x0, .int .i64 x1] h K := by
  have := Sat.ex tok mixed cmp_Compare_int64__M Try.func67 (c := bodyOf Try.f67) (by kernel_rfl) (calls_of Try.func67 (c := bodyOf Try.f67) (by kernel_rfl) (by decide)) ((cmp_Compare_int64__main_link _ _ x0 x1 h).mpr hm)
  obtain ⟨v, h2, h3, r, rfl, h4⟩ := this; exact ⟨r, h2, h3, h4⟩

/-! ### (loop.example/g01354/impl.Set).isWord -/
def impl_Set_isWord_M : Nat → List Nat := fun i => []
def impl_Set_isWord_main (S : SatT) (K : AVal → H → Prop) (x0 : List AVal) (x1 : Sl) (h : H) : Prop :=
 newK 2 x0 h fun p0 h1 =>
 callB S i_impl_within [.int .i64 (x1.len : Int), .int .i64 (1), .int .i64 (20)] h1 fun b3 h2 =>
 bif b3 then
 callB S i_slices_ContainsFunc_s_int64_int64_ [.sl x1, .func 63 [.ptr p0]] h2 fun b5 h4 =>
 K (.bool (!b5)) h4
 else
 K (.bool false) h2
theorem impl_Set_isWord_main_link (S : SatT) (K : AVal → H → Prop) (x0 : List AVal) (x1 : Sl) (h : H) : cwp S tab impl_Set_isWord_M [] (bodyOf Try.f57) (kFun tab Try.f57.results.toList K) (fr0 Try.f57 [.agg x0, .sl x1]) h = impl_Set_isWord_main S K x0 x1 h := by kernel_rfl
theorem impl_Set_isWord_call (x0 : List AVal) (x1 : Sl) (h : H) (K : Bool → H → Prop) (hm : impl_Set_isWord_main (Sat Try.prog) (fun v h' => ∃ r, v = .bool r ∧ K r h') x0 x1 h) : callB (Sat Try.prog) i_impl_Set_isWord [.agg x0, .sl x1] h K := by
  have := Sat.ex tok mixed impl_Set_isWord_M Try.func57 (c := bodyOf Try.f57) (by kernel_rfl) (calls_of Try.func57 (c := bodyOf Try.f57) (by kernel_rfl) (by decide)) ((impl_Set_isWord_main_link _ _ x0 x1 h).mpr hm)
  obtain ⟨v, h2, h3, r, rfl, h4⟩ := this; exact ⟨r, h2, h3, h4⟩

/-! ### (loop.example/g01354/impl.Set).isNumber -/
def impl_Set_isNumber_M : Nat → List Nat := fun i => []
def impl_Set_isNumber_main (S : SatT) (K : AVal → H → Prop) (x0 : List AVal) (x1 : Int) (h : H) : Prop :=
 newK 2 x0 h fun p0 h1 =>
 isPt p0 (
 ldS (Pt.add p0 1) h1 fun s2 =>
 callB S i_impl_within [.int .i64 x1, .int .i64 (0), .int .i64 (w64 ((s2.len : Int) - (1)))] h1 fun b4 h3 =>
 K (.bool b4) h3)
theorem impl_Set_isNumber_main_link (S : SatT) (K : AVal → H → Prop) (x0 : List AVal) (x1 : Int) (h : H) : cwp S tab impl_Set_isNumber_M [] (bodyOf Try.f55) (kFun tab Try.f55.results.toList K) (fr0 Try.f55 [.agg x0, .int .i64 x1]) h = impl_Set_isNumber_main S K x0 x1 h := by kernel_rfl
theorem impl_Set_isNumber_call (x0 : List AVal) (x1 : Int) (h : H) (K : Bool → H → Prop) (hm : impl_Set_isNumber_main (Sat Try.prog) (fun v h' => ∃ r, v = .bool r ∧ K r h') x0 x1 h) : callB (Sat Try.prog) i_impl_Set_isNumber [.agg x0, .int .i64 x1] h K := by
  have := Sat.ex tok mixed impl_Set_isNumber_M Try.func55 (c := bodyOf Try.f55) (by kernel_rfl) (calls_of Try.func55 (c := bodyOf Try.f55) (by kernel_rfl) (by decide)) ((impl_Set_isNumber_main_link _ _ x0 x1 h).mpr hm)
  obtain ⟨v, h2, h3, r, rfl, h4⟩ := this; exact ⟨r, h2, h3, h4⟩

/-! ### loop.example/g01354/laws.szSet -/
def laws_szSet_M : Nat → List Nat := fun i => []
def laws_szSet_main (S : SatT) (K : AVal → H → Prop) (x0 : List AVal) (x1 : Int) (h : H) : Prop :=
 newK 2 x0 h fun p0 h1 =>
 isPt p0 (
 ldS (Pt.add p0 1) h1 fun s2 =>
 callI S .i64 i_laws_szTileS [.sl s2, .int .i64 x1] h1 fun n4 h3 =>
 bif (decide (n4 < (0))) then
 K (.int .i64 (-1)) h3
 else
 K (.int .i64 n4) h3)
theorem laws_szSet_main_link (S : SatT) (K : AVal → H → Prop) (x0 : List AVal) (x1 : Int) (h : H) : cwp S tab laws_szSet_M [] (bodyOf Try.f5) (kFun tab Try.f5.results.toList K) (fr0 Try.f5 [.agg x0, .int .i64 x1]) h = laws_szSet_main S K x0 x1 h := by kernel_rfl
theorem laws_szSet_call (x0 : List AVal) (x1 : Int) (h : H) (K : Int → H → Prop) (hm : laws_szSet_main (Sat Try.prog) (fun v h' => ∃ r, v = .int .i64 r ∧ K r h') x0 x1 h) : callI (Sat Try.prog) .i64 i_laws_szSet [.agg x0, .int .i64 x1] h K := by
  have := Sat.ex tok mixed laws_szSet_M Try.func5 (c := bodyOf Try.f5) (by kernel_rfl) (calls_of Try.func5 (c := bodyOf Try.f5) (by kernel_rfl) (by decide)) ((laws_szSet_main_link _ _ x0 x1 h).mpr hm)
  obtain ⟨v, h2, h3, r, rfl, h4⟩ := this; exact ⟨r, h2, h3, h4⟩

/-! ### loop.example/g01354/impl.within -/
def impl_within_M : Nat → List Nat := fun i => []
def impl_within_main (S : SatT) (K : AVal → H → Prop) (x0 : Int) (x1 : Int) (x2 : Int) (h : H) : Prop :=
 bif (decide (x0 ≥ x1)) then
 K (.bool (decide (x0 ≤ x2))) h
 else
 K (.bool false) h
theorem impl_within_main_link (S : SatT) (K : AVal → H → Prop) (x0 : Int) (x1 : Int) (x2 : Int) (h : H) : cwp S tab impl_within_M [] (bodyOf Try.f29) (kFun tab Try.f29.results.toList K) (fr0 Try.f29 [.int .i64 x0, .int .i64 x1, .int .i64 x2]) h = impl_within_main S K x0 x1 x2 h := by kernel_rfl
theorem impl_within_call (x0 : Int) (x1 : Int) (x2 : Int) (h : H) (K : Bool → H → Prop) (hm : impl_within_main (Sat Try.prog) (fun v h' => ∃ r, v = .bool r ∧ K r h') x0 x1 x2 h) : callB (Sat Try.prog) i_impl_within [.int .i64 x0, .int .i64 x1, .int .i64 x2] h K := by
  have := Sat.ex tok mixed impl_within_M Try.func29 (c := bodyOf Try.f29) (by kernel_rfl) (calls_of Try.func29 (c := bodyOf Try.f29) (by kernel_rfl) (by decide)) ((impl_within_main_link _ _ x0 x1 x2 h).mpr hm)
  obtain ⟨v, h2, h3, r, rfl, h4⟩ := this; exact ⟨r, h2, h3, h4⟩

/-! ### loop.example/g01354/laws.szTileS -/
def laws_szTileS_M : Nat → List Nat := fun i => []
def laws_szTileS_main (S : SatT) (K : AVal → H → Prop) (x0 : Sl) (x1 : Int) (h : H) : Prop :=
 bif (decide ((w64 (x1 - (x0.len : Int))) < (0))) then
 K (.int .i64 (-1)) h
 else
 K (.int .i64 (w64 (x1 - (x0.len : Int)))) h
theorem laws_szTileS_main_link (S : SatT) (K : AVal → H → Prop) (x0 : Sl) (x1 : Int) (h : H) : cwp S tab laws_szTileS_M [] (bodyOf Try.f21) (kFun tab Try.f21.results.toList K) (fr0 Try.f21 [.sl x0, .int .i64 x1]) h = laws_szTileS_main S K x0 x1 h := by kernel_rfl
theorem laws_szTileS_call (x0 : Sl) (x1 : Int) (h : H) (K : Int → H → Prop) (hm : laws_szTileS_main (Sat Try.prog) (fun v h' => ∃ r, v = .int .i64 r ∧ K r h') x0 x1 h) : callI (Sat Try.prog) .i64 i_laws_szTileS [.sl x0, .int .i64 x1] h K := by
  have := Sat.ex tok mixed laws_szTileS_M Try.func21 (c := bodyOf Try.f21) (by kernel_rfl) (calls_of Try.func21 (c := bodyOf Try.f21) (by kernel_rfl) (by decide)) ((laws_szTileS_main_link _ _ x0 x1 h).mpr hm)
  obtain ⟨v, h2, h3, r, rfl, h4⟩ := this; exact ⟨r, h2, h3, h4⟩

/-! ### loop.example/g01354/spec.l03Stand -/
def spec_l03Stand_M : Nat → List Nat := fun i => bif i == 4 then [1, 2, 3, 7, 8, 9, 10, 11, 12, 13, 14, 15] else bif i == 2 then [1, 2, 3, 7, 8, 9, 10, 11, 12, 13, 14] else bif i == 0 then [1, 2, 3, 7, 8, 9, 10, 11] else []
def spec_l03Stand_ks4 (S : SatT) (K : AVal → H → Prop) : Kont := kSeq (cwp S tab spec_l03Stand_M [] (sub [1, 1, 1, 1, 1] (bodyOf Try.f25)) (kFun tab (Try.f25).results.toList K)) (kFun tab (Try.f25).results.toList K)
def spec_l03Stand_e0 (s1_ : Sl) (s2_ : Sl) (p3_ : Pt) (s7_ : Sl) (i8_ : Int) (s9_ : Sl) (s10_ : Sl) (i11_ : Int) : Frame := [U, .sl s1_, .sl s2_, .ptr p3_, U, U, U, .sl s7_, .int .i64 i8_, .sl s9_, .sl s10_, .int .i64 i11_, U, U, U, U, U, U, U, U, U, U, U, U, U, U, U, U, U, U, U, U, U, U, U, U, U, U, U, U, U, U, U, U, U, U, U, U, U, U, U, U, U, U, U, U, U, U, U, U, U, U, U, U, U, U, U, U, U, U, U, U, U, U, U, U, U, U, U, U, U, U, U, U, U, U, U, U, U, U, U, U, U, U, U, U, U, U, U]
def spec_l03Stand_w0 (S : SatT) (K : AVal → H → Prop) : (Frame → H → Prop) → Frame → H → Prop := fun X fr h => cwp S tab spec_l03Stand_M (spec_l03Stand_M 0) (sub [1, 1, 1, 1, 0, 1, 0, 0] (bodyOf Try.f25)) (kSeq (fun fr h => X (mask (spec_l03Stand_M 0) fr) h) (kBlk 0 (spec_l03Stand_ks4 S K))) fr h
def spec_l03Stand_L0 (S : SatT) (K : AVal → H → Prop) (s1_ : Sl) (s2_ : Sl) (p3_ : Pt) (s7_ : Sl) (i8_ : Int) (s9_ : Sl) (s10_ : Sl) (i11_ : Int) (h : H) : Prop := loopK (spec_l03Stand_w0 S K) (spec_l03Stand_e0 s1_ s2_ p3_ s7_ i8_ s9_ s10_ i11_) h
def spec_l03Stand_ks8 (S : SatT) (K : AVal → H → Prop) (X0 : Frame → H → Prop) : Kont := kSeq (cwp S tab spec_l03Stand_M (spec_l03Stand_M 0) (sub [1, 1, 1, 1, 0, 1, 0, 0, 1, 1] (bodyOf Try.f25)) (kSeq (fun fr h => X0 (mask (spec_l03Stand_M 0) fr) h) (kBlk 0 (spec_l03Stand_ks4 S K)))) (kSeq (fun fr h => X0 (mask (spec_l03Stand_M 0) fr) h) (kBlk 0 (spec_l03Stand_ks4 S K)))
def spec_l03Stand_ks10 (S : SatT) (K : AVal → H → Prop) (X0 : Frame → H → Prop) : Kont := kSeq (cwp S tab spec_l03Stand_M (spec_l03Stand_M 1) (sub [1, 1, 1, 1, 0, 1, 0, 0, 1, 0, 0, 1, 1] (bodyOf Try.f25)) (kBlk 1 (spec_l03Stand_ks8 S K X0))) (kBlk 1 (spec_l03Stand_ks8 S K X0))
def spec_l03Stand_e2 (s1_ : Sl) (s2_ : Sl) (p3_ : Pt) (s7_ : Sl) (i8_ : Int) (s9_ : Sl) (s10_ : Sl) (i11_ : Int) (s12_ : Sl) (i13_ : Int) (i14_ : Int) : Frame := [U, .sl s1_, .sl s2_, .ptr p3_, U, U, U, .sl s7_, .int .i64 i8_, .sl s9_, .sl s10_, .int .i64 i11_, .sl s12_, .int .i64 i13_, .int .i64 i14_, U, U, U, U, U, U, U, U, U, U, U, U, U, U, U, U, U, U, U, U, U, U, U, U, U, U, U, U, U, U, U, U, U, U, U, U, U, U, U, U, U, U, U, U, U, U, U, U, U, U, U, U, U, U, U, U, U, U, U, U, U, U, U, U, U, U, U, U, U, U, U, U, U, U, U, U, U, U, U, U, U, U, U, U]
def spec_l03Stand_w2 (S : SatT) (K : AVal → H → Prop) (X0 : Frame → H → Prop) : (Frame → H → Prop) → Frame → H → Prop := fun X fr h => cwp S tab spec_l03Stand_M (spec_l03Stand_M 2) (sub [1, 1, 1, 1, 0, 1, 0, 0, 1, 0, 0, 1, 0, 1, 0, 0] (bodyOf Try.f25)) (kSeq (fun fr h => X (mask (spec_l03Stand_M 2) fr) h) (kBlk 2 (spec_l03Stand_ks10 S K X0))) fr h
def spec_l03Stand_L2 (S : SatT) (K : AVal → H → Prop) (X0 : Frame → H → Prop) (s1_ : Sl) (s2_ : Sl) (p3_ : Pt) (s7_ : Sl) (i8_ : Int) (s9_ : Sl) (s10_ : Sl) (i11_ : Int) (s12_ : Sl) (i13_ : Int) (i14_ : Int) (h : H) : Prop := loopK (spec_l03Stand_w2 S K X0) (spec_l03Stand_e2 s1_ s2_ p3_ s7_ i8_ s9_ s10_ i11_ s12_ i13_ i14_) h
def spec_l03Stand_ks14 (S : SatT) (K : AVal → H → Prop) (X0 : Frame → H → Prop) (X2 : Frame → H → Prop) : Kont := kSeq (cwp S tab spec_l03Stand_M (spec_l03Stand_M 2) (sub [1, 1, 1, 1, 0, 1, 0, 0, 1, 0, 0, 1, 0, 1, 0, 0, 1, 1] (bodyOf Try.f25)) (kSeq (fun fr h => X2 (mask (spec_l03Stand_M 2) fr) h) (kBlk 2 (spec_l03Stand_ks10 S K X0)))) (kSeq (fun fr h => X2 (mask (spec_l03Stand_M 2) fr) h) (kBlk 2 (spec_l03Stand_ks10 S K X0)))
def spec_l03Stand_e4 (s1_ : Sl) (s2_ : Sl) (p3_ : Pt) (s7_ : Sl) (i8_ : Int) (s9_ : Sl) (s10_ : Sl) (i11_ : Int) (s12_ : Sl) (i13_ : Int) (i14_ : Int) (i15_ : Int) : Frame := [U, .sl s1_, .sl s2_, .ptr p3_, U, U, U, .sl s7_, .int .i64 i8_, .sl s9_, .sl s10_, .int .i64 i11_, .sl s12_, .int .i64 i13_, .int .i64 i14_, .int .i64 i15_, U, U, U, U, U, U, U, U, U, U, U, U, U, U, U, U, U, U, U, U, U, U, U, U, U, U, U, U, U, U, U, U, U, U, U, U, U, U, U, U, U, U, U, U, U, U, U, U, U, U, U, U, U, U, U, U, U, U, U, U, U, U, U, U, U, U, U, U, U, U, U, U, U, U, U, U, U, U, U, U, U, U, U]
def spec_l03Stand_w4 (S : SatT) (K : AVal → H → Prop) (X0 : Frame → H → Prop) (X2 : Frame → H → Prop) : (Frame → H → Prop) → Frame → H → Prop := fun X fr h => cwp S tab spec_l03Stand_M (spec_l03Stand_M 4) (sub [1, 1, 1, 1, 0, 1, 0, 0, 1, 0, 0, 1, 0, 1, 0, 0, 1, 0, 0, 1, 0, 0] (bodyOf Try.f25)) (kSeq (fun fr h => X (mask (spec_l03Stand_M 4) fr) h) (kBlk 4 (kBlk 3 (spec_l03Stand_ks14 S K X0 X2)))) fr h
def spec_l03Stand_L4 (S : SatT) (K : AVal → H → Prop) (X0 : Frame → H → Prop) (X2 : Frame → H → Prop) (s1_ : Sl) (s2_ : Sl) (p3_ : Pt) (s7_ : Sl) (i8_ : Int) (s9_ : Sl) (s10_ : Sl) (i11_ : Int) (s12_ : Sl) (i13_ : Int) (i14_ : Int) (i15_ : Int) (h : H) : Prop := loopK (spec_l03Stand_w4 S K X0 X2) (spec_l03Stand_e4 s1_ s2_ p3_ s7_ i8_ s9_ s10_ i11_ s12_ i13_ i14_ i15_) h
def spec_l03Stand_C3 (S : SatT) (K : AVal → H → Prop) (X0 : Frame → H → Prop) (X2 : Frame → H → Prop) (s1_ : Sl) (s2_ : Sl) (p3_ : Pt) (s7_ : Sl) (i8_ : Int) (s9_ : Sl) (s10_ : Sl) (i11_ : Int) (s12_ : Sl) (i13_ : Int) (i14_ : Int) (h : H) : Prop :=
 X2 (spec_l03Stand_e2 s1_ s2_ p3_ s7_ i8_ s9_ s10_ i11_ s12_ i13_ (w64 (i14_ + (1)))) h
def spec_l03Stand_C4 (S : SatT) (K : AVal → H → Prop) (X0 : Frame → H → Prop) (X2 : Frame → H → Prop) (s1_ : Sl) (s2_ : Sl) (p3_ : Pt) (s7_ : Sl) (i8_ : Int) (s9_ : Sl) (s10_ : Sl) (i11_ : Int) (s12_ : Sl) (i13_ : Int) (i14_ : Int) (h : H) : Prop :=
 spec_l03Stand_C3 S K X0 X2 s1_ s2_ p3_ s7_ i8_ s9_ s10_ i11_ s12_ i13_ i14_ h
def spec_l03Stand_b4 (S : SatT) (K : AVal → H → Prop) (X0 : Frame → H → Prop) (X2 : Frame → H → Prop) (X4 : Frame → H → Prop) (s1_ : Sl) (s2_ : Sl) (p3_ : Pt) (s7_ : Sl) (i8_ : Int) (s9_ : Sl) (s10_ : Sl) (i11_ : Int) (s12_ : Sl) (i13_ : Int) (i14_ : Int) (i15_ : Int) (h : H) : Prop :=
 isPt p3_ (
 ldS (Pt.add p3_ 1) h fun s0 =>
 bif (decide (i15_ < (s0.len : Int))) then
 ixS s9_ 1 i14_ fun p1 =>
 ldB p1 h fun b2 =>
 bif b2 then
 ldA p3_ 2 h fun cs3 =>
 callB S i_spec_l03Can [.agg cs3, .sl s1_, .sl s2_, .int .i64 i14_, .int .i64 i11_, .int .i64 i15_] h fun b5 h4 =>
 bif (!b5) then
 X4 (spec_l03Stand_e4 s1_ s2_ p3_ s7_ i8_ s9_ s10_ i11_ s12_ i13_ i14_ (w64 (i15_ + (1)))) h4
 else
 ldA p3_ 2 h4 fun cs6 =>
 callI S .i64 i_spec_l03Step [.agg cs6, .int .i64 i8_, .int .i64 i14_, .int .i64 i11_, .int .i64 i15_] h4 fun n8 h7 =>
 ixS s7_ 1 (w64 (i11_ + (1))) fun p9 =>
 ldS p9 h7 fun s10 =>
 ixS s10 1 n8 fun p11 =>
 ldI .i64 p11 h7 fun n12 =>
 bif (decide (n12 > (0))) then
 ixS s12_ 1 n8 fun p13 =>
 st1 p13 (.bool true) h7 fun h14 =>
 nn (IntKind.wrap .u64 (i15_)) (
 X4 (spec_l03Stand_e4 s1_ s2_ p3_ s7_ i8_ s9_ s10_ i11_ s12_ (bitsOp .or .i64 i13_ (shlI .i64 (1) (IntKind.wrap .u64 (i15_)))) i14_ (w64 (i15_ + (1)))) h14)
 else
 X4 (spec_l03Stand_e4 s1_ s2_ p3_ s7_ i8_ s9_ s10_ i11_ s12_ i13_ i14_ (w64 (i15_ + (1)))) h7
 else
 spec_l03Stand_C4 S K X0 X2 s1_ s2_ p3_ s7_ i8_ s9_ s10_ i11_ s12_ i13_ i14_ h
 else
 spec_l03Stand_C4 S K X0 X2 s1_ s2_ p3_ s7_ i8_ s9_ s10_ i11_ s12_ i13_ i14_ h)
theorem spec_l03Stand_link4 (S : SatT) (K : AVal → H → Prop) (X0 : Frame → H → Prop) (X2 : Frame → H → Prop) (X4 : Frame → H → Prop) (s1_ : Sl) (s2_ : Sl) (p3_ : Pt) (s7_ : Sl) (i8_ : Int) (s9_ : Sl) (s10_ : Sl) (i11_ : Int) (s12_ : Sl) (i13_ : Int) (i14_ : Int) (i15_ : Int) (h : H) : spec_l03Stand_w4 S K X0 X2 X4 (spec_l03Stand_e4 s1_ s2_ p3_ s7_ i8_ s9_ s10_ i11_ s12_ i13_ i14_ i15_) h = spec_l03Stand_b4 S K X0 X2 X4 s1_ s2_ p3_ s7_ i8_ s9_ s10_ i11_ s12_ i13_ i14_ i15_ h := by kernel_rfl
theorem spec_l03Stand_rule4 (S : SatT) (K : AVal → H → Prop) (X0 : Frame → H → Prop) (X2 : Frame → H → Prop) (s1_ : Sl) (s2_ : Sl) (p3_ : Pt) (s7_ : Sl) (i8_ : Int) (s9_ : Sl) (s10_ : Sl) (i11_ : Int) (s12_ : Sl) (i14_ : Int) (I_ : Int → Int → H → Prop) (m_ : Int → Int → H → Nat)
    (hs : ∀ (X4 : Frame → H → Prop) (i13_ : Int) (i15_ : Int) (h : H), I_ i13_ i15_ h → (∀ (i13_' : Int) (i15_' : Int) (h' : H), I_ i13_' i15_' h' → m_ i13_' i15_' h' < m_ i13_ i15_ h → X4 (spec_l03Stand_e4 s1_ s2_ p3_ s7_ i8_ s9_ s10_ i11_ s12_ i13_' i14_ i15_') h') → spec_l03Stand_b4 S K X0 X2 X4 s1_ s2_ p3_ s7_ i8_ s9_ s10_ i11_ s12_ i13_ i14_ i15_ h) (i13_ : Int) (i15_ : Int) {h : H} (h0 : I_ i13_ i15_ h) : spec_l03Stand_L4 S K X0 X2 s1_ s2_ p3_ s7_ i8_ s9_ s10_ i11_ s12_ i13_ i14_ i15_ h :=
  loop_rule (σ := (Int) × (Int)) (fun s_ => spec_l03Stand_e4 s1_ s2_ p3_ s7_ i8_ s9_ s10_ i11_ s12_ (s_.1) i14_ (s_.2)) (fun s_ h => I_ (s_.1) (s_.2) h) (fun s_ h => m_ (s_.1) (s_.2) h)
    (fun X s_ h hi hx => (spec_l03Stand_link4 S K X0 X2 X s1_ s2_ p3_ s7_ i8_ s9_ s10_ i11_ s12_ (s_.1) i14_ (s_.2) h).mpr (hs X (s_.1) (s_.2) h hi fun i13_' i15_' h' hi' hm' => hx (i13_', i15_') h' hi' hm')) (i13_, i15_) h0
theorem spec_l03Stand_unroll4 (S : SatT) (K : AVal → H → Prop) (X0 : Frame → H → Prop) (X2 : Frame → H → Prop) (s1_ : Sl) (s2_ : Sl) (p3_ : Pt) (s7_ : Sl) (i8_ : Int) (s9_ : Sl) (s10_ : Sl) (i11_ : Int) (s12_ : Sl) (i13_ : Int) (i14_ : Int) (i15_ : Int) (h : H) (hb : spec_l03Stand_b4 S K X0 X2 (fun fr h => loopK (spec_l03Stand_w4 S K X0 X2) fr h) s1_ s2_ p3_ s7_ i8_ s9_ s10_ i11_ s12_ i13_ i14_ i15_ h) : spec_l03Stand_L4 S K X0 X2 s1_ s2_ p3_ s7_ i8_ s9_ s10_ i11_ s12_ i13_ i14_ i15_ h := loop_unroll ((spec_l03Stand_link4 S K X0 X2 _ s1_ s2_ p3_ s7_ i8_ s9_ s10_ i11_ s12_ i13_ i14_ i15_ h).mpr hb)
def spec_l03Stand_C1 (S : SatT) (K : AVal → H → Prop) (X0 : Frame → H → Prop) (s1_ : Sl) (s2_ : Sl) (p3_ : Pt) (s7_ : Sl) (i8_ : Int) (s9_ : Sl) (s10_ : Sl) (i11_ : Int) (h : H) : Prop :=
 X0 (spec_l03Stand_e0 s1_ s2_ p3_ s7_ i8_ s9_ s10_ (w64 (i11_ + (1)))) h
def spec_l03Stand_C2 (S : SatT) (K : AVal → H → Prop) (X0 : Frame → H → Prop) (s1_ : Sl) (s2_ : Sl) (p3_ : Pt) (s7_ : Sl) (i8_ : Int) (s10_ : Sl) (i11_ : Int) (s12_ : Sl) (i13_ : Int) (h : H) : Prop :=
 newS 1 1 [.int .i64 i13_] h fun s0 h1 =>
 app s10_ s0 1 h1 fun s2 h3 =>
 spec_l03Stand_C1 S K X0 s1_ s2_ p3_ s7_ i8_ s12_ s2 i11_ h3
def spec_l03Stand_b2 (S : SatT) (K : AVal → H → Prop) (X0 : Frame → H → Prop) (X2 : Frame → H → Prop) (s1_ : Sl) (s2_ : Sl) (p3_ : Pt) (s7_ : Sl) (i8_ : Int) (s9_ : Sl) (s10_ : Sl) (i11_ : Int) (s12_ : Sl) (i13_ : Int) (i14_ : Int) (h : H) : Prop :=
 bif (decide (i14_ < (s9_.len : Int))) then
 spec_l03Stand_L4 S K X0 X2 s1_ s2_ p3_ s7_ i8_ s9_ s10_ i11_ s12_ i13_ i14_ (0) h
 else
 spec_l03Stand_C2 S K X0 s1_ s2_ p3_ s7_ i8_ s10_ i11_ s12_ i13_ h
theorem spec_l03Stand_link2 (S : SatT) (K : AVal → H → Prop) (X0 : Frame → H → Prop) (X2 : Frame → H → Prop) (s1_ : Sl) (s2_ : Sl) (p3_ : Pt) (s7_ : Sl) (i8_ : Int) (s9_ : Sl) (s10_ : Sl) (i11_ : Int) (s12_ : Sl) (i13_ : Int) (i14_ : Int) (h : H) : spec_l03Stand_w2 S K X0 X2 (spec_l03Stand_e2 s1_ s2_ p3_ s7_ i8_ s9_ s10_ i11_ s12_ i13_ i14_) h = spec_l03Stand_b2 S K X0 X2 s1_ s2_ p3_ s7_ i8_ s9_ s10_ i11_ s12_ i13_ i14_ h := by kernel_rfl
theorem spec_l03Stand_rule2 (S : SatT) (K : AVal → H → Prop) (X0 : Frame → H → Prop) (s1_ : Sl) (s2_ : Sl) (p3_ : Pt) (s7_ : Sl) (i8_ : Int) (s9_ : Sl) (s10_ : Sl) (i11_ : Int) (s12_ : Sl) (I_ : Int → Int → H → Prop) (m_ : Int → Int → H → Nat)
    (hs : ∀ (X2 : Frame → H → Prop) (i13_ : Int) (i14_ : Int) (h : H), I_ i13_ i14_ h → (∀ (i13_' : Int) (i14_' : Int) (h' : H), I_ i13_' i14_' h' → m_ i13_' i14_' h' < m_ i13_ i14_ h → X2 (spec_l03Stand_e2 s1_ s2_ p3_ s7_ i8_ s9_ s10_ i11_ s12_ i13_' i14_') h') → spec_l03Stand_b2 S K X0 X2 s1_ s2_ p3_ s7_ i8_ s9_ s10_ i11_ s12_ i13_ i14_ h) (i13_ : Int) (i14_ : Int) {h : H} (h0 : I_ i13_ i14_ h) : spec_l03Stand_L2 S K X0 s1_ s2_ p3_ s7_ i8_ s9_ s10_ i11_ s12_ i13_ i14_ h :=
  loop_rule (σ := (Int) × (Int)) (fun s_ => spec_l03Stand_e2 s1_ s2_ p3_ s7_ i8_ s9_ s10_ i11_ s12_ (s_.1) (s_.2)) (fun s_ h => I_ (s_.1) (s_.2) h) (fun s_ h => m_ (s_.1) (s_.2) h)
    (fun X s_ h hi hx => (spec_l03Stand_link2 S K X0 X s1_ s2_ p3_ s7_ i8_ s9_ s10_ i11_ s12_ (s_.1) (s_.2) h).mpr (hs X (s_.1) (s_.2) h hi fun i13_' i14_' h' hi' hm' => hx (i13_', i14_') h' hi' hm')) (i13_, i14_) h0
theorem spec_l03Stand_unroll2 (S : SatT) (K : AVal → H → Prop) (X0 : Frame → H → Prop) (s1_ : Sl) (s2_ : Sl) (p3_ : Pt) (s7_ : Sl) (i8_ : Int) (s9_ : Sl) (s10_ : Sl) (i11_ : Int) (s12_ : Sl) (i13_ : Int) (i14_ : Int) (h : H) (hb : spec_l03Stand_b2 S K X0 (fun fr h => loopK (spec_l03Stand_w2 S K X0) fr h) s1_ s2_ p3_ s7_ i8_ s9_ s10_ i11_ s12_ i13_ i14_ h) : spec_l03Stand_L2 S K X0 s1_ s2_ p3_ s7_ i8_ s9_ s10_ i11_ s12_ i13_ i14_ h := loop_unroll ((spec_l03Stand_link2 S K X0 _ s1_ s2_ p3_ s7_ i8_ s9_ s10_ i11_ s12_ i13_ i14_ h).mpr hb)
def spec_l03Stand_C0 (S : SatT) (K : AVal → H → Prop) (s10_ : Sl) (h : H) : Prop :=
 K (.sl s10_) h
def spec_l03Stand_b0 (S : SatT) (K : AVal → H → Prop) (X0 : Frame → H → Prop) (s1_ : Sl) (s2_ : Sl) (p3_ : Pt) (s7_ : Sl) (i8_ : Int) (s9_ : Sl) (s10_ : Sl) (i11_ : Int) (h : H) : Prop :=
 bif (decide ((w64 (i11_ + (1))) < (s7_.len : Int))) then
 mkS (s9_.len : Int) [.bool false] h fun s0 h1 =>
 spec_l03Stand_L2 S K X0 s1_ s2_ p3_ s7_ i8_ s9_ s10_ i11_ s0 (0) (0) h1
 else
 spec_l03Stand_C0 S K s10_ h
theorem spec_l03Stand_link0 (S : SatT) (K : AVal → H → Prop) (X0 : Frame → H → Prop) (s1_ : Sl) (s2_ : Sl) (p3_ : Pt) (s7_ : Sl) (i8_ : Int) (s9_ : Sl) (s10_ : Sl) (i11_ : Int) (h : H) : spec_l03Stand_w0 S K X0 (spec_l03Stand_e0 s1_ s2_ p3_ s7_ i8_ s9_ s10_ i11_) h = spec_l03Stand_b0 S K X0 s1_ s2_ p3_ s7_ i8_ s9_ s10_ i11_ h := by kernel_rfl
theorem spec_l03Stand_rule0 (S : SatT) (K : AVal → H → Prop) (s1_ : Sl) (s2_ : Sl) (p3_ : Pt) (s7_ : Sl) (i8_ : Int) (I_ : Sl → Sl → Int → H → Prop) (m_ : Sl → Sl → Int → H → Nat)
    (hs : ∀ (X0 : Frame → H → Prop) (s9_ : Sl) (s10_ : Sl) (i11_ : Int) (h : H), I_ s9_ s10_ i11_ h → (∀ (s9_' : Sl) (s10_' : Sl) (i11_' : Int) (h' : H), I_ s9_' s10_' i11_' h' → m_ s9_' s10_' i11_' h' < m_ s9_ s10_ i11_ h → X0 (spec_l03Stand_e0 s1_ s2_ p3_ s7_ i8_ s9_' s10_' i11_') h') → spec_l03Stand_b0 S K X0 s1_ s2_ p3_ s7_ i8_ s9_ s10_ i11_ h) (s9_ : Sl) (s10_ : Sl) (i11_ : Int) {h : H} (h0 : I_ s9_ s10_ i11_ h) : spec_l03Stand_L0 S K s1_ s2_ p3_ s7_ i8_ s9_ s10_ i11_ h :=
  loop_rule (σ := (Sl) × (Sl) × (Int)) (fun s_ => spec_l03Stand_e0 s1_ s2_ p3_ s7_ i8_ (s_.1) (s_.2.1) (s_.2.2)) (fun s_ h => I_ (s_.1) (s_.2.1) (s_.2.2) h) (fun s_ h => m_ (s_.1) (s_.2.1) (s_.2.2) h)
    (fun X s_ h hi hx => (spec_l03Stand_link0 S K X s1_ s2_ p3_ s7_ i8_ (s_.1) (s_.2.1) (s_.2.2) h).mpr (hs X (s_.1) (s_.2.1) (s_.2.2) h hi fun s9_' s10_' i11_' h' hi' hm' => hx (s9_', s10_', i11_') h' hi' hm')) (s9_, s10_, i11_) h0
theorem spec_l03Stand_unroll0 (S : SatT) (K : AVal → H → Prop) (s1_ : Sl) (s2_ : Sl) (p3_ : Pt) (s7_ : Sl) (i8_ : Int) (s9_ : Sl) (s10_ : Sl) (i11_ : Int) (h : H) (hb : spec_l03Stand_b0 S K (fun fr h => loopK (spec_l03Stand_w0 S K) fr h) s1_ s2_ p3_ s7_ i8_ s9_ s10_ i11_ h) : spec_l03Stand_L0 S K s1_ s2_ p3_ s7_ i8_ s9_ s10_ i11_ h := loop_unroll ((spec_l03Stand_link0 S K _ s1_ s2_ p3_ s7_ i8_ s9_ s10_ i11_ h).mpr hb)
def spec_l03Stand_main (S : SatT) (K : AVal → H → Prop) (x0 : List AVal) (x1 : Sl) (x2 : Sl) (h : H) : Prop :=
 newK 2 x0 h fun p0 h1 =>
 ldA p0 2 h1 fun cs2 =>
 callS S i_spec_l03Layers [.agg cs2, .sl x1, .sl x2] h1 fun s4 h3 =>
 ixS x1 1 (0) fun p5 =>
 ldS p5 h3 fun s6 =>
(cell h1 p5 = cell h3 p5) ∧ (
 ixS s4 1 (0) fun p7 =>
 ldS p7 h3 fun s8 =>
 mkS (s8.len : Int) [.bool false] h3 fun s9 h10 =>
 newS 0 1 [] h10 fun s11 h12 =>
 ixS s9 1 (0) fun p13 =>
 st1 p13 (.bool true) h12 fun h14 =>
 spec_l03Stand_L0 S K x1 x2 p0 s4 (s6.len : Int) s9 s11 (0) h14)
theorem spec_l03Stand_main_link (S : SatT) (K : AVal → H → Prop) (x0 : List AVal) (x1 : Sl) (x2 : Sl) (h : H) : cwp S tab spec_l03Stand_M [] (bodyOf Try.f25) (kFun tab Try.f25.results.toList K) (fr0 Try.f25 [.agg x0, .sl x1, .sl x2]) h = spec_l03Stand_main S K x0 x1 x2 h := by kernel_rfl
theorem spec_l03Stand_call (x0 : List AVal) (x1 : Sl) (x2 : Sl) (h : H) (K : Sl → H → Prop) (hm : spec_l03Stand_main (Sat Try.prog) (fun v h' => ∃ r, v = .sl r ∧ K r h') x0 x1 x2 h) : callS (Sat Try.prog) i_spec_l03Stand [.agg x0, .sl x1, .sl x2] h K := by
  have := Sat.ex tok mixed spec_l03Stand_M Try.func25 (c := bodyOf Try.f25) (by kernel_rfl) (calls_of Try.func25 (c := bodyOf Try.f25) (by kernel_rfl) (by decide)) ((spec_l03Stand_main_link _ _ x0 x1 x2 h).mpr hm)
  obtain ⟨v, h2, h3, r, rfl, h4⟩ := this; exact ⟨r, h2, h3, h4⟩

/-! ### loop.example/g01354/spec.TilesAt -/
def spec_TilesAt_M : Nat → List Nat := fun i => bif i == 0 then [5, 13, 14, 15] else []
def spec_TilesAt_ks8 (S : SatT) (K : AVal → H → Prop) : Kont := kSeq (cwp S tab spec_TilesAt_M [] (sub [1, 1, 1, 1, 1, 1] (bodyOf Try.f7)) (kFun tab (Try.f7).results.toList K)) (kFun tab (Try.f7).results.toList K)
def spec_TilesAt_e0 (p5_ : Pt) (i13_ : Int) (s14_ : Sl) (i15_ : Int) : Frame := [U, U, U, U, U, .ptr p5_, U, U, U, U, U, U, U, .int .i64 i13_, .sl s14_, .int .i64 i15_, U, U, U, U, U, U, U, U, U, U, U, U, U, U, U, U, U, U, U, U, U, U, U, U, U, U, U, U, U, U, U, U, U, U, U, U, U, U, U, U, U, U, U, U, U, U, U, U, U, U, U, U, U, U, U, U, U, U, U, U]
def spec_TilesAt_w0 (S : SatT) (K : AVal → H → Prop) : (Frame → H → Prop) → Frame → H → Prop := fun X fr h => cwp S tab spec_TilesAt_M (spec_TilesAt_M 0) (sub [1, 1, 1, 1, 1, 0, 1, 0, 0] (bodyOf Try.f7)) (kSeq (fun fr h => X (mask (spec_TilesAt_M 0) fr) h) (kBlk 0 (spec_TilesAt_ks8 S K))) fr h
def spec_TilesAt_L0 (S : SatT) (K : AVal → H → Prop) (p5_ : Pt) (i13_ : Int) (s14_ : Sl) (i15_ : Int) (h : H) : Prop := loopK (spec_TilesAt_w0 S K) (spec_TilesAt_e0 p5_ i13_ s14_ i15_) h
def spec_TilesAt_C0 (S : SatT) (K : AVal → H → Prop) (s14_ : Sl) (h : H) : Prop :=
 K (.tuple [.sl s14_, .int .i64 (0)]) h
def spec_TilesAt_b0 (S : SatT) (K : AVal → H → Prop) (X0 : Frame → H → Prop) (p5_ : Pt) (i13_ : Int) (s14_ : Sl) (i15_ : Int) (h : H) : Prop :=
 isPt p5_ (
 ldS (Pt.add p5_ 1) h fun s0 =>
 bif (decide (i15_ < (s0.len : Int))) then
 nn (IntKind.wrap .u64 (i15_)) (
 bif ((bitsOp .and .i64 (shrI .i64 i13_ (IntKind.wrap .u64 (i15_))) (1)) == (1)) then
 newS 1 1 [.int .i64 i15_] h fun s1 h2 =>
 app s14_ s1 1 h2 fun s3 h4 =>
 X0 (spec_TilesAt_e0 p5_ i13_ s3 (w64 (i15_ + (1)))) h4
 else
 X0 (spec_TilesAt_e0 p5_ i13_ s14_ (w64 (i15_ + (1)))) h)
 else
 spec_TilesAt_C0 S K s14_ h)
theorem spec_TilesAt_link0 (S : SatT) (K : AVal → H → Prop) (X0 : Frame → H → Prop) (p5_ : Pt) (i13_ : Int) (s14_ : Sl) (i15_ : Int) (h : H) : spec_TilesAt_w0 S K X0 (spec_TilesAt_e0 p5_ i13_ s14_ i15_) h = spec_TilesAt_b0 S K X0 p5_ i13_ s14_ i15_ h := by kernel_rfl
theorem spec_TilesAt_rule0 (S : SatT) (K : AVal → H → Prop) (p5_ : Pt) (i13_ : Int) (I_ : Sl → Int → H → Prop) (m_ : Sl → Int → H → Nat)
    (hs : ∀ (X0 : Frame → H → Prop) (s14_ : Sl) (i15_ : Int) (h : H), I_ s14_ i15_ h → (∀ (s14_' : Sl) (i15_' : Int) (h' : H), I_ s14_' i15_' h' → m_ s14_' i15_' h' < m_ s14_ i15_ h → X0 (spec_TilesAt_e0 p5_ i13_ s14_' i15_') h') → spec_TilesAt_b0 S K X0 p5_ i13_ s14_ i15_ h) (s14_ : Sl) (i15_ : Int) {h : H} (h0 : I_ s14_ i15_ h) : spec_TilesAt_L0 S K p5_ i13_ s14_ i15_ h :=
  loop_rule (σ := (Sl) × (Int)) (fun s_ => spec_TilesAt_e0 p5_ i13_ (s_.1) (s_.2)) (fun s_ h => I_ (s_.1) (s_.2) h) (fun s_ h => m_ (s_.1) (s_.2) h)
    (fun X s_ h hi hx => (spec_TilesAt_link0 S K X p5_ i13_ (s_.1) (s_.2) h).mpr (hs X (s_.1) (s_.2) h hi fun s14_' i15_' h' hi' hm' => hx (s14_', i15_') h' hi' hm')) (s14_, i15_) h0
theorem spec_TilesAt_unroll0 (S : SatT) (K : AVal → H → Prop) (p5_ : Pt) (i13_ : Int) (s14_ : Sl) (i15_ : Int) (h : H) (hb : spec_TilesAt_b0 S K (fun fr h => loopK (spec_TilesAt_w0 S K) fr h) p5_ i13_ s14_ i15_ h) : spec_TilesAt_L0 S K p5_ i13_ s14_ i15_ h := loop_unroll ((spec_TilesAt_link0 S K _ p5_ i13_ s14_ i15_ h).mpr hb)
def spec_TilesAt_main (S : SatT) (K : AVal → H → Prop) (x0 : List AVal) (x1 : Sl) (x2 : Sl) (x3 : Int) (x4 : Int) (h : H) : Prop :=
 newK 2 x0 h fun p0 h1 =>
 ldA p0 2 h1 fun cs2 =>
 callI S .i64 i_spec_l03Plan [.agg cs2, .sl x1, .sl x2] h1 fun n4 h3 =>
 bif (n4 == (0)) then
 callB S i_spec_l01In [.int .i64 x3, .int .i64 (0), .int .i64 (w64 ((x1.len : Int) - (1)))] h3 fun b6 h5 =>
 bif (!b6) then
 bif ((2) != (0)) then
 K (.tuple [.sl Sl.nil, .int .i64 (2)]) h5
 else
 slotK 17 h5 fun h7 =>
 ldA p0 2 h7 fun cs8 =>
 callS S i_spec_l03Stand [.agg cs8, .sl x1, .sl x2] h7 fun s10 h9 =>
 ixS x1 1 (0) fun p11 =>
 ldS p11 h9 fun s12 =>
(cell h7 p11 = cell h9 p11) ∧ (
 ixS s10 1 (w64 ((w64 (x3 * (s12.len : Int))) + x4)) fun p13 =>
 ldI .i64 p13 h9 fun n14 =>
 newSat 0 1 [] h9 (h5.length + 14) fun s15 h16 =>
(range h9 p0.o p0.n p0.off 2 = range h7 p0.o p0.n p0.off 2) ∧ (
(cell h16 p13 = cell h9 p13) ∧ (
(cell h16 p11 = cell h9 p11) ∧ (
(range h16 p0.o p0.n p0.off 2 = range h7 p0.o p0.n p0.off 2) ∧ (
 spec_TilesAt_L0 S K p0 n14 s15 (0) h16)))))
 else
 ixS x1 1 (0) fun p17 =>
 ldS p17 h5 fun s18 =>
 callB S i_spec_l01In [.int .i64 x4, .int .i64 (0), .int .i64 (w64 ((s18.len : Int) - (1)))] h5 fun b20 h19 =>
 bif (!b20) then
 bif ((2) != (0)) then
 K (.tuple [.sl Sl.nil, .int .i64 (2)]) h19
 else
 slotK 17 h19 fun h21 =>
 ldA p0 2 h21 fun cs22 =>
 callS S i_spec_l03Stand [.agg cs22, .sl x1, .sl x2] h21 fun s24 h23 =>
 ixS x1 1 (0) fun p25 =>
 ldS p25 h23 fun s26 =>
(cell h21 p25 = cell h23 p25) ∧ (
 ixS s24 1 (w64 ((w64 (x3 * (s26.len : Int))) + x4)) fun p27 =>
 ldI .i64 p27 h23 fun n28 =>
 newSat 0 1 [] h23 (h19.length + 14) fun s29 h30 =>
(range h23 p0.o p0.n p0.off 2 = range h21 p0.o p0.n p0.off 2) ∧ (
(cell h30 p27 = cell h23 p27) ∧ (
(cell h30 p25 = cell h23 p25) ∧ (
(range h30 p0.o p0.n p0.off 2 = range h21 p0.o p0.n p0.off 2) ∧ (
 spec_TilesAt_L0 S K p0 n28 s29 (0) h30)))))
 else
 bif (n4 != (0)) then
 K (.tuple [.sl Sl.nil, .int .i64 n4]) h19
 else
 slotK 17 h19 fun h31 =>
 ldA p0 2 h31 fun cs32 =>
 callS S i_spec_l03Stand [.agg cs32, .sl x1, .sl x2] h31 fun s34 h33 =>
 ixS x1 1 (0) fun p35 =>
 ldS p35 h33 fun s36 =>
(cell h31 p35 = cell h33 p35) ∧ (
 ixS s34 1 (w64 ((w64 (x3 * (s36.len : Int))) + x4)) fun p37 =>
 ldI .i64 p37 h33 fun n38 =>
 newSat 0 1 [] h33 (h19.length + 14) fun s39 h40 =>
(range h33 p0.o p0.n p0.off 2 = range h31 p0.o p0.n p0.off 2) ∧ (
(cell h40 p37 = cell h33 p37) ∧ (
(cell h40 p35 = cell h33 p35) ∧ (
(range h40 p0.o p0.n p0.off 2 = range h31 p0.o p0.n p0.off 2) ∧ (
 spec_TilesAt_L0 S K p0 n38 s39 (0) h40)))))
 else
 bif (n4 != (0)) then
 K (.tuple [.sl Sl.nil, .int .i64 n4]) h3
 else
 slotK 17 h3 fun h41 =>
 ldA p0 2 h41 fun cs42 =>
 callS S i_spec_l03Stand [.agg cs42, .sl x1, .sl x2] h41 fun s44 h43 =>
 ixS x1 1 (0) fun p45 =>
 ldS p45 h43 fun s46 =>
(cell h41 p45 = cell h43 p45) ∧ (
 ixS s44 1 (w64 ((w64 (x3 * (s46.len : Int))) + x4)) fun p47 =>
 ldI .i64 p47 h43 fun n48 =>
 newSat 0 1 [] h43 (h3.length + 14) fun s49 h50 =>
(range h43 p0.o p0.n p0.off 2 = range h41 p0.o p0.n p0.off 2) ∧ (
(cell h50 p47 = cell h43 p47) ∧ (
(cell h50 p45 = cell h43 p45) ∧ (
(range h50 p0.o p0.n p0.off 2 = range h41 p0.o p0.n p0.off 2) ∧ (
 spec_TilesAt_L0 S K p0 n48 s49 (0) h50)))))
theorem spec_TilesAt_main_link (S : SatT) (K : AVal → H → Prop) (x0 : List AVal) (x1 : Sl) (x2 : Sl) (x3 : Int) (x4 : Int) (h : H) : cwp S tab spec_TilesAt_M [] (bodyOf Try.f7) (kFun tab Try.f7.results.toList K) (fr0 Try.f7 [.agg x0, .sl x1, .sl x2, .int .i64 x3, .int .i64 x4]) h = spec_TilesAt_main S K x0 x1 x2 x3 x4 h := by kernel_rfl
theorem spec_TilesAt_call (x0 : List AVal) (x1 : Sl) (x2 : Sl) (x3 : Int) (x4 : Int) (h : H) (K : AVal → H → Prop) (hm : spec_TilesAt_main (Sat Try.prog) (fun v h' => K v h') x0 x1 x2 x3 x4 h) : callV (Sat Try.prog) i_spec_TilesAt [.agg x0, .sl x1, .sl x2, .int .i64 x3, .int .i64 x4] h K := by
  have := Sat.ex tok mixed spec_TilesAt_M Try.func7 (c := bodyOf Try.f7) (by kernel_rfl) (calls_of Try.func7 (c := bodyOf Try.f7) (by kernel_rfl) (by decide)) ((spec_TilesAt_main_link _ _ x0 x1 x2 x3 x4 h).mpr hm)
  exact this

/-! ### (loop.example/g01354/impl.Set).areBorders -/
def impl_Set_areBorders_M : Nat → List Nat := fun i => bif i == 0 then [1, 3, 13, 14, 15] else []
def impl_Set_areBorders_ks4 (S : SatT) (K : AVal → H → Prop) : Kont := kSeq (cwp S tab impl_Set_areBorders_M [] (sub [1, 1, 1] (bodyOf Try.f44)) (kFun tab (Try.f44).results.toList K)) (kFun tab (Try.f44).results.toList K)
def impl_Set_areBorders_e0 (s1_ : Sl) (p3_ : Pt) (s13_ : Sl) (i14_ : Int) (i15_ : Int) : Frame := [U, .sl s1_, U, .ptr p3_, U, U, U, U, U, U, U, U, U, .sl s13_, .int .i64 i14_, .int .i64 i15_, U, U, U, U, U, U, U, U, U, U, U, U, U, U, U, U, U, U, U, U, U, U, U, U, U, U, U, U, U, U, U, U]
def impl_Set_areBorders_w0 (S : SatT) (K : AVal → H → Prop) : (Frame → H → Prop) → Frame → H → Prop := fun X fr h => cwp S tab impl_Set_areBorders_M (impl_Set_areBorders_M 0) (sub [1, 1, 0, 1, 0, 0] (bodyOf Try.f44)) (kSeq (fun fr h => X (mask (impl_Set_areBorders_M 0) fr) h) (kBlk 0 (impl_Set_areBorders_ks4 S K))) fr h
def impl_Set_areBorders_L0 (S : SatT) (K : AVal → H → Prop) (s1_ : Sl) (p3_ : Pt) (s13_ : Sl) (i14_ : Int) (i15_ : Int) (h : H) : Prop := loopK (impl_Set_areBorders_w0 S K) (impl_Set_areBorders_e0 s1_ p3_ s13_ i14_ i15_) h
def impl_Set_areBorders_C0 (S : SatT) (K : AVal → H → Prop) (h : H) : Prop :=
 K (.bool true) h
def impl_Set_areBorders_b0 (S : SatT) (K : AVal → H → Prop) (X0 : Frame → H → Prop) (s1_ : Sl) (p3_ : Pt) (s13_ : Sl) (i14_ : Int) (i15_ : Int) (h : H) : Prop :=
 bif (decide (i15_ < i14_)) then
 ixS s13_ 1 i15_ fun p0 =>
 ldS p0 h fun s1 =>
 bif (i15_ == (1)) then
 ixS s1_ 1 (0) fun p2 =>
 ldS p2 h fun s3 =>
 bif (decide ((s1.len : Int) > (0))) then
 bif ((s1.len : Int) != (s3.len : Int)) then
 K (.bool false) h
 else
 ldA p3_ 2 h fun cs4 =>
 callB S i_impl_Set_isWord [.agg cs4, .sl s1] h fun b6 h5 =>
 bif (!b6) then
 K (.bool false) h5
 else
 X0 (impl_Set_areBorders_e0 s1_ p3_ s13_ i14_ (w64 (i15_ + (1)))) h5
 else
 X0 (impl_Set_areBorders_e0 s1_ p3_ s13_ i14_ (w64 (i15_ + (1)))) h
 else
 bif (i15_ == (3)) then
 ixS s1_ 1 (0) fun p7 =>
 ldS p7 h fun s8 =>
 bif (decide ((s1.len : Int) > (0))) then
 bif ((s1.len : Int) != (s8.len : Int)) then
 K (.bool false) h
 else
 ldA p3_ 2 h fun cs9 =>
 callB S i_impl_Set_isWord [.agg cs9, .sl s1] h fun b11 h10 =>
 bif (!b11) then
 K (.bool false) h10
 else
 X0 (impl_Set_areBorders_e0 s1_ p3_ s13_ i14_ (w64 (i15_ + (1)))) h10
 else
 X0 (impl_Set_areBorders_e0 s1_ p3_ s13_ i14_ (w64 (i15_ + (1)))) h
 else
 bif (decide ((s1.len : Int) > (0))) then
 bif ((s1.len : Int) != (s1_.len : Int)) then
 K (.bool false) h
 else
 ldA p3_ 2 h fun cs12 =>
 callB S i_impl_Set_isWord [.agg cs12, .sl s1] h fun b14 h13 =>
 bif (!b14) then
 K (.bool false) h13
 else
 X0 (impl_Set_areBorders_e0 s1_ p3_ s13_ i14_ (w64 (i15_ + (1)))) h13
 else
 X0 (impl_Set_areBorders_e0 s1_ p3_ s13_ i14_ (w64 (i15_ + (1)))) h
 else
 impl_Set_areBorders_C0 S K h
theorem impl_Set_areBorders_link0 (S : SatT) (K : AVal → H → Prop) (X0 : Frame → H → Prop) (s1_ : Sl) (p3_ : Pt) (s13_ : Sl) (i14_ : Int) (i15_ : Int) (h : H) : impl_Set_areBorders_w0 S K X0 (impl_Set_areBorders_e0 s1_ p3_ s13_ i14_ i15_) h = impl_Set_areBorders_b0 S K X0 s1_ p3_ s13_ i14_ i15_ h := by kernel_rfl
theorem impl_Set_areBorders_rule0 (S : SatT) (K : AVal → H → Prop) (s1_ : Sl) (p3_ : Pt) (s13_ : Sl) (i14_ : Int) (I_ : Int → H → Prop) (m_ : Int → H → Nat)
    (hs : ∀ (X0 : Frame → H → Prop) (i15_ : Int) (h : H), I_ i15_ h → (∀ (i15_' : Int) (h' : H), I_ i15_' h' → m_ i15_' h' < m_ i15_ h → X0 (impl_Set_areBorders_e0 s1_ p3_ s13_ i14_ i15_') h') → impl_Set_areBorders_b0 S K X0 s1_ p3_ s13_ i14_ i15_ h) (i15_ : Int) {h : H} (h0 : I_ i15_ h) : impl_Set_areBorders_L0 S K s1_ p3_ s13_ i14_ i15_ h :=
  loop_rule (σ := (Int)) (fun s_ => impl_Set_areBorders_e0 s1_ p3_ s13_ i14_ (s_)) (fun s_ h => I_ (s_) h) (fun s_ h => m_ (s_) h)
    (fun X s_ h hi hx => (impl_Set_areBorders_link0 S K X s1_ p3_ s13_ i14_ (s_) h).mpr (hs X (s_) h hi fun i15_' h' hi' hm' => hx (i15_') h' hi' hm')) (i15_) h0
theorem impl_Set_areBorders_unroll0 (S : SatT) (K : AVal → H → Prop) (s1_ : Sl) (p3_ : Pt) (s13_ : Sl) (i14_ : Int) (i15_ : Int) (h : H) (hb : impl_Set_areBorders_b0 S K (fun fr h => loopK (impl_Set_areBorders_w0 S K) fr h) s1_ p3_ s13_ i14_ i15_ h) : impl_Set_areBorders_L0 S K s1_ p3_ s13_ i14_ i15_ h := loop_unroll ((impl_Set_areBorders_link0 S K _ s1_ p3_ s13_ i14_ i15_ h).mpr hb)
def impl_Set_areBorders_main (S : SatT) (K : AVal → H → Prop) (x0 : List AVal) (x1 : Sl) (x2 : Sl) (h : H) : Prop :=
 newK 2 x0 h fun p0 h1 =>
 bif ((x2.len : Int) != (4)) then
 K (.bool false) h1
 else
 impl_Set_areBorders_L0 S K x1 p0 x2 (x2.len : Int) (0) h1
theorem impl_Set_areBorders_main_link (S : SatT) (K : AVal → H → Prop) (x0 : List AVal) (x1 : Sl) (x2 : Sl) (h : H) : cwp S tab impl_Set_areBorders_M [] (bodyOf Try.f44) (kFun tab Try.f44.results.toList K) (fr0 Try.f44 [.agg x0, .sl x1, .sl x2]) h = impl_Set_areBorders_main S K x0 x1 x2 h := by kernel_rfl
theorem impl_Set_areBorders_call (x0 : List AVal) (x1 : Sl) (x2 : Sl) (h : H) (K : Bool → H → Prop) (hm : impl_Set_areBorders_main (Sat Try.prog) (fun v h' => ∃ r, v = .bool r ∧ K r h') x0 x1 x2 h) : callB (Sat Try.prog) i_impl_Set_areBorders [.agg x0, .sl x1, .sl x2] h K := by
  have := Sat.ex tok mixed impl_Set_areBorders_M Try.func44 (c := bodyOf Try.f44) (by kernel_rfl) (calls_of Try.func44 (c := bodyOf Try.f44) (by kernel_rfl) (by decide)) ((impl_Set_areBorders_main_link _ _ x0 x1 x2 h).mpr hm)
  obtain ⟨v, h2, h3, r, rfl, h4⟩ := this; exact ⟨r, h2, h3, h4⟩

/-! ### slices.IndexFunc[[]int64,int64] -/
def slices_IndexFunc_s_int64_int64__M : Nat → List Nat := fun i => bif i == 0 then [0, 1, 7, 8] else []
def slices_IndexFunc_s_int64_int64__ks1 (S : SatT) (K : AVal → H → Prop) : Kont := kSeq (cwp S tab slices_IndexFunc_s_int64_int64__M [] (sub [1, 1] (bodyOf Try.f66)) (kFun tab (Try.f66).results.toList K)) (kFun tab (Try.f66).results.toList K)
def slices_IndexFunc_s_int64_int64__e0 (s0_ : Sl) (f1_ : AVal) (i7_ : Int) (i8_ : Int) : Frame := [.sl s0_, f1_, U, U, U, U, U, .int .i64 i7_, .int .i64 i8_, U, U, U, U, U, U, U, U, U, U]
def slices_IndexFunc_s_int64_int64__w0 (S : SatT) (K : AVal → H → Prop) : (Frame → H → Prop) → Frame → H → Prop := fun X fr h => cwp S tab slices_IndexFunc_s_int64_int64__M (slices_IndexFunc_s_int64_int64__M 0) (sub [1, 0, 1, 0, 0] (bodyOf Try.f66)) (kSeq (fun fr h => X (mask (slices_IndexFunc_s_int64_int64__M 0) fr) h) (kBlk 0 (slices_IndexFunc_s_int64_int64__ks1 S K))) fr h
def slices_IndexFunc_s_int64_int64__L0 (S : SatT) (K : AVal → H → Prop) (s0_ : Sl) (f1_ : AVal) (i7_ : Int) (i8_ : Int) (h : H) : Prop := loopK (slices_IndexFunc_s_int64_int64__w0 S K) (slices_IndexFunc_s_int64_int64__e0 s0_ f1_ i7_ i8_) h
def slices_IndexFunc_s_int64_int64__C0 (S : SatT) (K : AVal → H → Prop) (h : H) : Prop :=
 K (.int .i64 (-1)) h
def slices_IndexFunc_s_int64_int64__b0 (S : SatT) (K : AVal → H → Prop) (X0 : Frame → H → Prop) (s0_ : Sl) (f1_ : AVal) (i7_ : Int) (i8_ : Int) (h : H) : Prop :=
 bif (decide (i8_ < i7_)) then
 ixS s0_ 1 i8_ fun p0 =>
 ldI .i64 p0 h fun n1 =>
 viaF f1_ [.int .i64 n1] fun g2 ys3 =>
 callB S g2 ys3 h fun b5 h4 =>
 bif b5 then
 K (.int .i64 i8_) h4
 else
 X0 (slices_IndexFunc_s_int64_int64__e0 s0_ f1_ i7_ (w64 (i8_ + (1)))) h4
 else
 slices_IndexFunc_s_int64_int64__C0 S K h
theorem slices_IndexFunc_s_int64_int64__link0 (S : SatT) (K : AVal → H → Prop) (X0 : Frame → H → Prop) (s0_ : Sl) (f1_ : AVal) (i7_ : Int) (i8_ : Int) (h : H) : slices_IndexFunc_s_int64_int64__w0 S K X0 (slices_IndexFunc_s_int64_int64__e0 s0_ f1_ i7_ i8_) h = slices_IndexFunc_s_int64_int64__b0 S K X0 s0_ f1_ i7_ i8_ h := by kernel_rfl
theorem slices_IndexFunc_s_int64_int64__rule0 (S : SatT) (K : AVal → H → Prop) (s0_ : Sl) (f1_ : AVal) (i7_ : Int) (I_ : Int → H → Prop) (m_ : Int → H → Nat)
    (hs : ∀ (X0 : Frame → H → Prop) (i8_ : Int) (h : H), I_ i8_ h → (∀ (i8_' : Int) (h' : H), I_ i8_' h' → m_ i8_' h' < m_ i8_ h → X0 (slices_IndexFunc_s_int64_int64__e0 s0_ f1_ i7_ i8_') h') → slices_IndexFunc_s_int64_int64__b0 S K X0 s0_ f1_ i7_ i8_ h) (i8_ : Int) {h : H} (h0 : I_ i8_ h) : slices_IndexFunc_s_int64_int64__L0 S K s0_ f1_ i7_ i8_ h :=
  loop_rule (σ := (Int)) (fun s_ => slices_IndexFunc_s_int64_int64__e0 s0_ f1_ i7_ (s_)) (fun s_ h => I_ (s_) h) (fun s_ h => m_ (s_) h)
    (fun X s_ h hi hx => (slices_IndexFunc_s_int64_int64__link0 S K X s0_ f1_ i7_ (s_) h).mpr (hs X (s_) h hi fun i8_' h' hi' hm' => hx (i8_') h' hi' hm')) (i8_) h0
theorem slices_IndexFunc_s_int64_int64__unroll0 (S : SatT) (K : AVal → H → Prop) (s0_ : Sl) (f1_ : AVal) (i7_ : Int) (i8_ : Int) (h : H) (hb : slices_IndexFunc_s_int64_int64__b0 S K (fun fr h => loopK (slices_IndexFunc_s_int64_int64__w0 S K) fr h) s0_ f1_ i7_ i8_ h) : slices_IndexFunc_s_int64_int64__L0 S K s0_ f1_ i7_ i8_ h := loop_unroll ((slices_IndexFunc_s_int64_int64__link0 S K _ s0_ f1_ i7_ i8_ h).mpr hb)
def slices_IndexFunc_s_int64_int64__main (S : SatT) (K : AVal → H → Prop) (x0 : Sl) (x1 : AVal) (h : H) : Prop :=
 slices_IndexFunc_s_int64_int64__L0 S K x0 x1 (x0.len : Int) (0) h
theorem slices_IndexFunc_s_int64_int64__main_link (S : SatT) (K : AVal → H → Prop) (x0 : Sl) (x1 : AVal) (h : H) : cwp S tab slices_IndexFunc_s_int64_int64__M [] (bodyOf Try.f66) (kFun tab Try.f66.results.toList K) (fr0 Try.f66 [.sl x0, x1]) h = slices_IndexFunc_s_int64_int64__main S K x0 x1 h := by kernel_rfl
theorem slices_IndexFunc_s_int64_int64__call (x0 : Sl) (x1 : AVal) (h : H) (K : Int → H → Prop) (hm : slices_IndexFunc_s_int64_int64__main (Sat Try.prog) (fun v h' => ∃ r, v = .int .i64 r ∧ K r h') x0 x1 h) : callI (Sat Try.prog) .i64 i_slices_IndexFunc_s_int64_int64_ [.sl x0, x1] h K := by
  have := Sat.ex tok mixed slices_IndexFunc_s_int64_int64__M Try.func66 (c := bodyOf Try.f66) (by kernel_rfl) (calls_of Try.func66 (c := bodyOf Try.f66) (by kernel_rfl) (by decide)) ((slices_IndexFunc_s_int64_int64__main_link _ _ x0 x1 h).mpr hm)
  obtain ⟨v, h2, h3, r, rfl, h4⟩ := this; exact ⟨r, h2, h3, h4⟩

/-! ### loop.example/g01354/spec.l01Is -/
def spec_l01Is_M : Nat → List Nat := fun i => bif i == 0 then [1, 3] else []
def spec_l01Is_ks5 (S : SatT) (K : AVal → H → Prop) : Kont := kSeq (cwp S tab spec_l01Is_M [] (sub [1, 1, 1] (bodyOf Try.f35)) (kFun tab (Try.f35).results.toList K)) (kFun tab (Try.f35).results.toList K)
def spec_l01Is_e0 (p1_ : Pt) (i3_ : Int) : Frame := [U, .ptr p1_, U, .int .i64 i3_, U, U, U, U, U, U, U, U, U, U, U, U, U, U, U, U, U, U, U, U, U, U, U, U, U, U, U, U, U, U, U, U, U, U, U, U, U, U, U, U, U, U, U, U, U]
def spec_l01Is_w0 (S : SatT) (K : AVal → H → Prop) : (Frame → H → Prop) → Frame → H → Prop := fun X fr h => cwp S tab spec_l01Is_M (spec_l01Is_M 0) (sub [1, 1, 0, 1, 0, 0] (bodyOf Try.f35)) (kSeq (fun fr h => X (mask (spec_l01Is_M 0) fr) h) (kBlk 0 (spec_l01Is_ks5 S K))) fr h
def spec_l01Is_L0 (S : SatT) (K : AVal → H → Prop) (p1_ : Pt) (i3_ : Int) (h : H) : Prop := loopK (spec_l01Is_w0 S K) (spec_l01Is_e0 p1_ i3_) h
def spec_l01Is_C0 (S : SatT) (K : AVal → H → Prop) (h : H) : Prop :=
 K (.bool true) h
def spec_l01Is_b0 (S : SatT) (K : AVal → H → Prop) (X0 : Frame → H → Prop) (p1_ : Pt) (i3_ : Int) (h : H) : Prop :=
 isPt p1_ (
 ldS (Pt.add p1_ 1) h fun s0 =>
 bif (decide (i3_ < (s0.len : Int))) then
 isPt p1_ (
 ldI .i64 (Pt.add p1_ 0) h fun n1 =>
 isPt p1_ (
 ldS (Pt.add p1_ 1) h fun s2 =>
 ixS s2 4 i3_ fun p3 =>
 ldA p3 4 h fun cs4 =>
 callB S i_spec_l01Tile [.int .i64 n1, .agg cs4] h fun b6 h5 =>
 bif (!b6) then
 K (.bool false) h5
 else
 bif (decide (i3_ > (0))) then
 isPt p1_ (
 ldS (Pt.add p1_ 1) h5 fun s7 =>
 ixS s7 4 (w64 (i3_ - (1))) fun p8 =>
 ldA p8 4 h5 fun cs9 =>
 isPt p1_ (
 ldS (Pt.add p1_ 1) h5 fun s10 =>
 ixS s10 4 i3_ fun p11 =>
 ldA p11 4 h5 fun cs12 =>
 callB S i_spec_l01Before [.agg cs9, .agg cs12] h5 fun b14 h13 =>
 bif (!b14) then
 K (.bool false) h13
 else
 X0 (spec_l01Is_e0 p1_ (w64 (i3_ + (1)))) h13))
 else
 X0 (spec_l01Is_e0 p1_ (w64 (i3_ + (1)))) h5))
 else
 spec_l01Is_C0 S K h)
theorem spec_l01Is_link0 (S : SatT) (K : AVal → H → Prop) (X0 : Frame → H → Prop) (p1_ : Pt) (i3_ : Int) (h : H) : spec_l01Is_w0 S K X0 (spec_l01Is_e0 p1_ i3_) h = spec_l01Is_b0 S K X0 p1_ i3_ h := by kernel_rfl
theorem spec_l01Is_rule0 (S : SatT) (K : AVal → H → Prop) (p1_ : Pt) (I_ : Int → H → Prop) (m_ : Int → H → Nat)
    (hs : ∀ (X0 : Frame → H → Prop) (i3_ : Int) (h : H), I_ i3_ h → (∀ (i3_' : Int) (h' : H), I_ i3_' h' → m_ i3_' h' < m_ i3_ h → X0 (spec_l01Is_e0 p1_ i3_') h') → spec_l01Is_b0 S K X0 p1_ i3_ h) (i3_ : Int) {h : H} (h0 : I_ i3_ h) : spec_l01Is_L0 S K p1_ i3_ h :=
  loop_rule (σ := (Int)) (fun s_ => spec_l01Is_e0 p1_ (s_)) (fun s_ h => I_ (s_) h) (fun s_ h => m_ (s_) h)
    (fun X s_ h hi hx => (spec_l01Is_link0 S K X p1_ (s_) h).mpr (hs X (s_) h hi fun i3_' h' hi' hm' => hx (i3_') h' hi' hm')) (i3_) h0
theorem spec_l01Is_unroll0 (S : SatT) (K : AVal → H → Prop) (p1_ : Pt) (i3_ : Int) (h : H) (hb : spec_l01Is_b0 S K (fun fr h => loopK (spec_l01Is_w0 S K) fr h) p1_ i3_ h) : spec_l01Is_L0 S K p1_ i3_ h := loop_unroll ((spec_l01Is_link0 S K _ p1_ i3_ h).mpr hb)
def spec_l01Is_main (S : SatT) (K : AVal → H → Prop) (x0 : List AVal) (h : H) : Prop :=
 newK 2 x0 h fun p0 h1 =>
 isPt p0 (
 ldI .i64 (Pt.add p0 0) h1 fun n2 =>
 callB S i_spec_l01In [.int .i64 n2, .int .i64 (1), .int .i64 (6)] h1 fun b4 h3 =>
 bif (!b4) then
 K (.bool false) h3
 else
 isPt p0 (
 ldS (Pt.add p0 1) h3 fun s5 =>
 bif (decide ((s5.len : Int) > (16))) then
 K (.bool false) h3
 else
 spec_l01Is_L0 S K p0 (0) h3))
theorem spec_l01Is_main_link (S : SatT) (K : AVal → H → Prop) (x0 : List AVal) (h : H) : cwp S tab spec_l01Is_M [] (bodyOf Try.f35) (kFun tab Try.f35.results.toList K) (fr0 Try.f35 [.agg x0]) h = spec_l01Is_main S K x0 h := by kernel_rfl
theorem spec_l01Is_call (x0 : List AVal) (h : H) (K : Bool → H → Prop) (hm : spec_l01Is_main (Sat Try.prog) (fun v h' => ∃ r, v = .bool r ∧ K r h') x0 h) : callB (Sat Try.prog) i_spec_l01Is [.agg x0] h K := by
  have := Sat.ex tok mixed spec_l01Is_M Try.func35 (c := bodyOf Try.f35) (by kernel_rfl) (calls_of Try.func35 (c := bodyOf Try.f35) (by kernel_rfl) (by decide)) ((spec_l01Is_main_link _ _ x0 h).mpr hm)
  obtain ⟨v, h2, h3, r, rfl, h4⟩ := this; exact ⟨r, h2, h3, h4⟩

/-! ### loop.example/g01354/spec.l01Before -/
def spec_l01Before_M : Nat → List Nat := fun i => bif i == 0 then [2, 3, 5] else []
def spec_l01Before_ks1 (S : SatT) (K : AVal → H → Prop) : Kont := kSeq (cwp S tab spec_l01Before_M [] (sub [1, 1] (bodyOf Try.f50)) (kFun tab (Try.f50).results.toList K)) (kFun tab (Try.f50).results.toList K)
def spec_l01Before_e0 (p2_ : Pt) (p3_ : Pt) (i5_ : Int) : Frame := [U, U, .ptr p2_, .ptr p3_, U, .int .i64 i5_, U, U, U, U, U, U, U, U, U, U, U, U, U, U, U, U, U, U]
def spec_l01Before_w0 (S : SatT) (K : AVal → H → Prop) : (Frame → H → Prop) → Frame → H → Prop := fun X fr h => cwp S tab spec_l01Before_M (spec_l01Before_M 0) (sub [1, 0, 1, 0, 0] (bodyOf Try.f50)) (kSeq (fun fr h => X (mask (spec_l01Before_M 0) fr) h) (kBlk 0 (spec_l01Before_ks1 S K))) fr h
def spec_l01Before_L0 (S : SatT) (K : AVal → H → Prop) (p2_ : Pt) (p3_ : Pt) (i5_ : Int) (h : H) : Prop := loopK (spec_l01Before_w0 S K) (spec_l01Before_e0 p2_ p3_ i5_) h
def spec_l01Before_C0 (S : SatT) (K : AVal → H → Prop) (h : H) : Prop :=
 K (.bool false) h
def spec_l01Before_b0 (S : SatT) (K : AVal → H → Prop) (X0 : Frame → H → Prop) (p2_ : Pt) (p3_ : Pt) (i5_ : Int) (h : H) : Prop :=
 bif (decide (i5_ < (4))) then
 ixA p2_ 4 1 i5_ fun p0 =>
 ldI .i64 p0 h fun n1 =>
 ixA p3_ 4 1 i5_ fun p2 =>
 ldI .i64 p2 h fun n3 =>
 bif (n1 != n3) then
 ixA p2_ 4 1 i5_ fun p4 =>
 ldI .i64 p4 h fun n5 =>
 ixA p3_ 4 1 i5_ fun p6 =>
 ldI .i64 p6 h fun n7 =>
 K (.bool (decide (n5 < n7))) h
 else
 X0 (spec_l01Before_e0 p2_ p3_ (w64 (i5_ + (1)))) h
 else
 spec_l01Before_C0 S K h
theorem spec_l01Before_link0 (S : SatT) (K : AVal → H → Prop) (X0 : Frame → H → Prop) (p2_ : Pt) (p3_ : Pt) (i5_ : Int) (h : H) : spec_l01Before_w0 S K X0 (spec_l01Before_e0 p2_ p3_ i5_) h = spec_l01Before_b0 S K X0 p2_ p3_ i5_ h := by kernel_rfl
theorem spec_l01Before_rule0 (S : SatT) (K : AVal → H → Prop) (p2_ : Pt) (p3_ : Pt) (I_ : Int → H → Prop) (m_ : Int → H → Nat)
    (hs : ∀ (X0 : Frame → H → Prop) (i5_ : Int) (h : H), I_ i5_ h → (∀ (i5_' : Int) (h' : H), I_ i5_' h' → m_ i5_' h' < m_ i5_ h → X0 (spec_l01Before_e0 p2_ p3_ i5_') h') → spec_l01Before_b0 S K X0 p2_ p3_ i5_ h) (i5_ : Int) {h : H} (h0 : I_ i5_ h) : spec_l01Before_L0 S K p2_ p3_ i5_ h :=
  loop_rule (σ := (Int)) (fun s_ => spec_l01Before_e0 p2_ p3_ (s_)) (fun s_ h => I_ (s_) h) (fun s_ h => m_ (s_) h)
    (fun X s_ h hi hx => (spec_l01Before_link0 S K X p2_ p3_ (s_) h).mpr (hs X (s_) h hi fun i5_' h' hi' hm' => hx (i5_') h' hi' hm')) (i5_) h0
theorem spec_l01Before_unroll0 (S : SatT) (K : AVal → H → Prop) (p2_ : Pt) (p3_ : Pt) (i5_ : Int) (h : H) (hb : spec_l01Before_b0 S K (fun fr h => loopK (spec_l01Before_w0 S K) fr h) p2_ p3_ i5_ h) : spec_l01Before_L0 S K p2_ p3_ i5_ h := loop_unroll ((spec_l01Before_link0 S K _ p2_ p3_ i5_ h).mpr hb)
def spec_l01Before_main (S : SatT) (K : AVal → H → Prop) (x0 : List AVal) (x1 : List AVal) (h : H) : Prop :=
 newK 4 x0 h fun p0 h1 =>
 newK 4 x1 h1 fun p2 h3 =>
 spec_l01Before_L0 S K p0 p2 (0) h3
theorem spec_l01Before_main_link (S : SatT) (K : AVal → H → Prop) (x0 : List AVal) (x1 : List AVal) (h : H) : cwp S tab spec_l01Before_M [] (bodyOf Try.f50) (kFun tab Try.f50.results.toList K) (fr0 Try.f50 [.agg x0, .agg x1]) h = spec_l01Before_main S K x0 x1 h := by kernel_rfl
theorem spec_l01Before_call (x0 : List AVal) (x1 : List AVal) (h : H) (K : Bool → H → Prop) (hm : spec_l01Before_main (Sat Try.prog) (fun v h' => ∃ r, v = .bool r ∧ K r h') x0 x1 h) : callB (Sat Try.prog) i_spec_l01Before [.agg x0, .agg x1] h K := by
  have := Sat.ex tok mixed spec_l01Before_M Try.func50 (c := bodyOf Try.f50) (by kernel_rfl) (calls_of Try.func50 (c := bodyOf Try.f50) (by kernel_rfl) (by decide)) ((spec_l01Before_main_link _ _ x0 x1 h).mpr hm)
  obtain ⟨v, h2, h3, r, rfl, h4⟩ := this; exact ⟨r, h2, h3, h4⟩

/-! ### loop.example/g01354/laws.eqInt64SS -/
def laws_eqInt64SS_M : Nat → List Nat := fun i => bif i == 0 then [0, 1, 5] else []
def laws_eqInt64SS_ks4 (S : SatT) (K : AVal → H → Prop) : Kont := kSeq (cwp S tab laws_eqInt64SS_M [] (sub [1, 1, 1] (bodyOf Try.f13)) (kFun tab (Try.f13).results.toList K)) (kFun tab (Try.f13).results.toList K)
def laws_eqInt64SS_e0 (s0_ : Sl) (s1_ : Sl) (i5_ : Int) : Frame := [.sl s0_, .sl s1_, U, U, U, .int .i64 i5_, U, U, U, U, U, U, U, U, U, U, U, U, U, U, U, U, U, U, U, U, U]
def laws_eqInt64SS_w0 (S : SatT) (K : AVal → H → Prop) : (Frame → H → Prop) → Frame → H → Prop := fun X fr h => cwp S tab laws_eqInt64SS_M (laws_eqInt64SS_M 0) (sub [1, 1, 0, 1, 0, 0] (bodyOf Try.f13)) (kSeq (fun fr h => X (mask (laws_eqInt64SS_M 0) fr) h) (kBlk 0 (laws_eqInt64SS_ks4 S K))) fr h
def laws_eqInt64SS_L0 (S : SatT) (K : AVal → H → Prop) (s0_ : Sl) (s1_ : Sl) (i5_ : Int) (h : H) : Prop := loopK (laws_eqInt64SS_w0 S K) (laws_eqInt64SS_e0 s0_ s1_ i5_) h
def laws_eqInt64SS_C0 (S : SatT) (K : AVal → H → Prop) (h : H) : Prop :=
 K (.bool true) h
def laws_eqInt64SS_b0 (S : SatT) (K : AVal → H → Prop) (X0 : Frame → H → Prop) (s0_ : Sl) (s1_ : Sl) (i5_ : Int) (h : H) : Prop :=
 bif (decide (i5_ < (s0_.len : Int))) then
 ixS s0_ 1 i5_ fun p0 =>
 ldS p0 h fun s1 =>
 ixS s1_ 1 i5_ fun p2 =>
 ldS p2 h fun s3 =>
 callB S i_laws_eqInt64S [.sl s1, .sl s3] h fun b5 h4 =>
 bif (!b5) then
 K (.bool false) h4
 else
 X0 (laws_eqInt64SS_e0 s0_ s1_ (w64 (i5_ + (1)))) h4
 else
 laws_eqInt64SS_C0 S K h
theorem laws_eqInt64SS_link0 (S : SatT) (K : AVal → H → Prop) (X0 : Frame → H → Prop) (s0_ : Sl) (s1_ : Sl) (i5_ : Int) (h : H) : laws_eqInt64SS_w0 S K X0 (laws_eqInt64SS_e0 s0_ s1_ i5_) h = laws_eqInt64SS_b0 S K X0 s0_ s1_ i5_ h := by kernel_rfl
theorem laws_eqInt64SS_rule0 (S : SatT) (K : AVal → H → Prop) (s0_ : Sl) (s1_ : Sl) (I_ : Int → H → Prop) (m_ : Int → H → Nat)
    (hs : ∀ (X0 : Frame → H → Prop) (i5_ : Int) (h : H), I_ i5_ h → (∀ (i5_' : Int) (h' : H), I_ i5_' h' → m_ i5_' h' < m_ i5_ h → X0 (laws_eqInt64SS_e0 s0_ s1_ i5_') h') → laws_eqInt64SS_b0 S K X0 s0_ s1_ i5_ h) (i5_ : Int) {h : H} (h0 : I_ i5_ h) : laws_eqInt64SS_L0 S K s0_ s1_ i5_ h :=
  loop_rule (σ := (Int)) (fun s_ => laws_eqInt64SS_e0 s0_ s1_ (s_)) (fun s_ h => I_ (s_) h) (fun s_ h => m_ (s_) h)
    (fun X s_ h hi hx => (laws_eqInt64SS_link0 S K X s0_ s1_ (s_) h).mpr (hs X (s_) h hi fun i5_' h' hi' hm' => hx (i5_') h' hi' hm')) (i5_) h0
theorem laws_eqInt64SS_unroll0 (S : SatT) (K : AVal → H → Prop) (s0_ : Sl) (s1_ : Sl) (i5_ : Int) (h : H) (hb : laws_eqInt64SS_b0 S K (fun fr h => loopK (laws_eqInt64SS_w0 S K) fr h) s0_ s1_ i5_ h) : laws_eqInt64SS_L0 S K s0_ s1_ i5_ h := loop_unroll ((laws_eqInt64SS_link0 S K _ s0_ s1_ i5_ h).mpr hb)
def laws_eqInt64SS_main (S : SatT) (K : AVal → H → Prop) (x0 : Sl) (x1 : Sl) (h : H) : Prop :=
 bif ((x0.len : Int) != (x1.len : Int)) then
 K (.bool false) h
 else
 laws_eqInt64SS_L0 S K x0 x1 (0) h
theorem laws_eqInt64SS_main_link (S : SatT) (K : AVal → H → Prop) (x0 : Sl) (x1 : Sl) (h : H) : cwp S tab laws_eqInt64SS_M [] (bodyOf Try.f13) (kFun tab Try.f13.results.toList K) (fr0 Try.f13 [.sl x0, .sl x1]) h = laws_eqInt64SS_main S K x0 x1 h := by kernel_rfl
theorem laws_eqInt64SS_call (x0 : Sl) (x1 : Sl) (h : H) (K : Bool → H → Prop) (hm : laws_eqInt64SS_main (Sat Try.prog) (fun v h' => ∃ r, v = .bool r ∧ K r h') x0 x1 h) : callB (Sat Try.prog) i_laws_eqInt64SS [.sl x0, .sl x1] h K := by
  have := Sat.ex tok mixed laws_eqInt64SS_M Try.func13 (c := bodyOf Try.f13) (by kernel_rfl) (calls_of Try.func13 (c := bodyOf Try.f13) (by kernel_rfl) (by decide)) ((laws_eqInt64SS_main_link _ _ x0 x1 h).mpr hm)
  obtain ⟨v, h2, h3, r, rfl, h4⟩ := this; exact ⟨r, h2, h3, h4⟩

/-! ### loop.example/g01354/spec.l01Tile -/
def spec_l01Tile_M : Nat → List Nat := fun i => bif i == 0 then [0, 3, 5] else []
def spec_l01Tile_ks1 (S : SatT) (K : AVal → H → Prop) : Kont := kSeq (cwp S tab spec_l01Tile_M [] (sub [1, 1] (bodyOf Try.f49)) (kFun tab (Try.f49).results.toList K)) (kFun tab (Try.f49).results.toList K)
def spec_l01Tile_e0 (i0_ : Int) (p3_ : Pt) (i5_ : Int) : Frame := [.int .i64 i0_, U, U, .ptr p3_, U, .int .i64 i5_, U, U, U, U, U, U, U, U, U, U, U]
def spec_l01Tile_w0 (S : SatT) (K : AVal → H → Prop) : (Frame → H → Prop) → Frame → H → Prop := fun X fr h => cwp S tab spec_l01Tile_M (spec_l01Tile_M 0) (sub [1, 0, 1, 0, 0] (bodyOf Try.f49)) (kSeq (fun fr h => X (mask (spec_l01Tile_M 0) fr) h) (kBlk 0 (spec_l01Tile_ks1 S K))) fr h
def spec_l01Tile_L0 (S : SatT) (K : AVal → H → Prop) (i0_ : Int) (p3_ : Pt) (i5_ : Int) (h : H) : Prop := loopK (spec_l01Tile_w0 S K) (spec_l01Tile_e0 i0_ p3_ i5_) h
def spec_l01Tile_C0 (S : SatT) (K : AVal → H → Prop) (h : H) : Prop :=
 K (.bool true) h
def spec_l01Tile_b0 (S : SatT) (K : AVal → H → Prop) (X0 : Frame → H → Prop) (i0_ : Int) (p3_ : Pt) (i5_ : Int) (h : H) : Prop :=
 bif (decide (i5_ < (4))) then
 ixA p3_ 4 1 i5_ fun p0 =>
 ldI .i64 p0 h fun n1 =>
 callB S i_spec_l01In [.int .i64 n1, .int .i64 (0), .int .i64 (w64 (i0_ - (1)))] h fun b3 h2 =>
 bif (!b3) then
 K (.bool false) h2
 else
 X0 (spec_l01Tile_e0 i0_ p3_ (w64 (i5_ + (1)))) h2
 else
 spec_l01Tile_C0 S K h
theorem spec_l01Tile_link0 (S : SatT) (K : AVal → H → Prop) (X0 : Frame → H → Prop) (i0_ : Int) (p3_ : Pt) (i5_ : Int) (h : H) : spec_l01Tile_w0 S K X0 (spec_l01Tile_e0 i0_ p3_ i5_) h = spec_l01Tile_b0 S K X0 i0_ p3_ i5_ h := by kernel_rfl
theorem spec_l01Tile_rule0 (S : SatT) (K : AVal → H → Prop) (i0_ : Int) (p3_ : Pt) (I_ : Int → H → Prop) (m_ : Int → H → Nat)
    (hs : ∀ (X0 : Frame → H → Prop) (i5_ : Int) (h : H), I_ i5_ h → (∀ (i5_' : Int) (h' : H), I_ i5_' h' → m_ i5_' h' < m_ i5_ h → X0 (spec_l01Tile_e0 i0_ p3_ i5_') h') → spec_l01Tile_b0 S K X0 i0_ p3_ i5_ h) (i5_ : Int) {h : H} (h0 : I_ i5_ h) : spec_l01Tile_L0 S K i0_ p3_ i5_ h :=
  loop_rule (σ := (Int)) (fun s_ => spec_l01Tile_e0 i0_ p3_ (s_)) (fun s_ h => I_ (s_) h) (fun s_ h => m_ (s_) h)
    (fun X s_ h hi hx => (spec_l01Tile_link0 S K X i0_ p3_ (s_) h).mpr (hs X (s_) h hi fun i5_' h' hi' hm' => hx (i5_') h' hi' hm')) (i5_) h0
theorem spec_l01Tile_unroll0 (S : SatT) (K : AVal → H → Prop) (i0_ : Int) (p3_ : Pt) (i5_ : Int) (h : H) (hb : spec_l01Tile_b0 S K (fun fr h => loopK (spec_l01Tile_w0 S K) fr h) i0_ p3_ i5_ h) : spec_l01Tile_L0 S K i0_ p3_ i5_ h := loop_unroll ((spec_l01Tile_link0 S K _ i0_ p3_ i5_ h).mpr hb)
def spec_l01Tile_main (S : SatT) (K : AVal → H → Prop) (x0 : Int) (x1 : List AVal) (h : H) : Prop :=
 newK 4 x1 h fun p0 h1 =>
 spec_l01Tile_L0 S K x0 p0 (0) h1
theorem spec_l01Tile_main_link (S : SatT) (K : AVal → H → Prop) (x0 : Int) (x1 : List AVal) (h : H) : cwp S tab spec_l01Tile_M [] (bodyOf Try.f49) (kFun tab Try.f49.results.toList K) (fr0 Try.f49 [.int .i64 x0, .agg x1]) h = spec_l01Tile_main S K x0 x1 h := by kernel_rfl
theorem spec_l01Tile_call (x0 : Int) (x1 : List AVal) (h : H) (K : Bool → H → Prop) (hm : spec_l01Tile_main (Sat Try.prog) (fun v h' => ∃ r, v = .bool r ∧ K r h') x0 x1 h) : callB (Sat Try.prog) i_spec_l01Tile [.int .i64 x0, .agg x1] h K := by
  have := Sat.ex tok mixed spec_l01Tile_M Try.func49 (c := bodyOf Try.f49) (by kernel_rfl) (calls_of Try.func49 (c := bodyOf Try.f49) (by kernel_rfl) (by decide)) ((spec_l01Tile_main_link _ _ x0 x1 h).mpr hm)
  obtain ⟨v, h2, h3, r, rfl, h4⟩ := this; exact ⟨r, h2, h3, h4⟩

/-! ### loop.example/g01354/laws.eqTile -/
def laws_eqTile_M : Nat → List Nat := fun i => bif i == 0 then [2, 3, 5] else []
def laws_eqTile_ks1 (S : SatT) (K : AVal → H → Prop) : Kont := kSeq (cwp S tab laws_eqTile_M [] (sub [1, 1] (bodyOf Try.f47)) (kFun tab (Try.f47).results.toList K)) (kFun tab (Try.f47).results.toList K)
def laws_eqTile_e0 (p2_ : Pt) (p3_ : Pt) (i5_ : Int) : Frame := [U, U, .ptr p2_, .ptr p3_, U, .int .i64 i5_, U, U, U, U, U, U, U, U, U, U, U]
def laws_eqTile_w0 (S : SatT) (K : AVal → H → Prop) : (Frame → H → Prop) → Frame → H → Prop := fun X fr h => cwp S tab laws_eqTile_M (laws_eqTile_M 0) (sub [1, 0, 1, 0, 0] (bodyOf Try.f47)) (kSeq (fun fr h => X (mask (laws_eqTile_M 0) fr) h) (kBlk 0 (laws_eqTile_ks1 S K))) fr h
def laws_eqTile_L0 (S : SatT) (K : AVal → H → Prop) (p2_ : Pt) (p3_ : Pt) (i5_ : Int) (h : H) : Prop := loopK (laws_eqTile_w0 S K) (laws_eqTile_e0 p2_ p3_ i5_) h
def laws_eqTile_C0 (S : SatT) (K : AVal → H → Prop) (h : H) : Prop :=
 K (.bool true) h
def laws_eqTile_b0 (S : SatT) (K : AVal → H → Prop) (X0 : Frame → H → Prop) (p2_ : Pt) (p3_ : Pt) (i5_ : Int) (h : H) : Prop :=
 bif (decide (i5_ < (4))) then
 ixA p2_ 4 1 i5_ fun p0 =>
 ldI .i64 p0 h fun n1 =>
 ixA p3_ 4 1 i5_ fun p2 =>
 ldI .i64 p2 h fun n3 =>
 bif (n1 != n3) then
 K (.bool false) h
 else
 X0 (laws_eqTile_e0 p2_ p3_ (w64 (i5_ + (1)))) h
 else
 laws_eqTile_C0 S K h
theorem laws_eqTile_link0 (S : SatT) (K : AVal → H → Prop) (X0 : Frame → H → Prop) (p2_ : Pt) (p3_ : Pt) (i5_ : Int) (h : H) : laws_eqTile_w0 S K X0 (laws_eqTile_e0 p2_ p3_ i5_) h = laws_eqTile_b0 S K X0 p2_ p3_ i5_ h := by kernel_rfl
theorem laws_eqTile_rule0 (S : SatT) (K : AVal → H → Prop) (p2_ : Pt) (p3_ : Pt) (I_ : Int → H → Prop) (m_ : Int → H → Nat)
    (hs : ∀ (X0 : Frame → H → Prop) (i5_ : Int) (h : H), I_ i5_ h → (∀ (i5_' : Int) (h' : H), I_ i5_' h' → m_ i5_' h' < m_ i5_ h → X0 (laws_eqTile_e0 p2_ p3_ i5_') h') → laws_eqTile_b0 S K X0 p2_ p3_ i5_ h) (i5_ : Int) {h : H} (h0 : I_ i5_ h) : laws_eqTile_L0 S K p2_ p3_ i5_ h :=
  loop_rule (σ := (Int)) (fun s_ => laws_eqTile_e0 p2_ p3_ (s_)) (fun s_ h => I_ (s_) h) (fun s_ h => m_ (s_) h)
    (fun X s_ h hi hx => (laws_eqTile_link0 S K X p2_ p3_ (s_) h).mpr (hs X (s_) h hi fun i5_' h' hi' hm' => hx (i5_') h' hi' hm')) (i5_) h0
theorem laws_eqTile_unroll0 (S : SatT) (K : AVal → H → Prop) (p2_ : Pt) (p3_ : Pt) (i5_ : Int) (h : H) (hb : laws_eqTile_b0 S K (fun fr h => loopK (laws_eqTile_w0 S K) fr h) p2_ p3_ i5_ h) : laws_eqTile_L0 S K p2_ p3_ i5_ h := loop_unroll ((laws_eqTile_link0 S K _ p2_ p3_ i5_ h).mpr hb)
def laws_eqTile_main (S : SatT) (K : AVal → H → Prop) (x0 : List AVal) (x1 : List AVal) (h : H) : Prop :=
 newK 4 x0 h fun p0 h1 =>
 newK 4 x1 h1 fun p2 h3 =>
 laws_eqTile_L0 S K p0 p2 (0) h3
theorem laws_eqTile_main_link (S : SatT) (K : AVal → H → Prop) (x0 : List AVal) (x1 : List AVal) (h : H) : cwp S tab laws_eqTile_M [] (bodyOf Try.f47) (kFun tab Try.f47.results.toList K) (fr0 Try.f47 [.agg x0, .agg x1]) h = laws_eqTile_main S K x0 x1 h := by kernel_rfl
theorem laws_eqTile_call (x0 : List AVal) (x1 : List AVal) (h : H) (K : Bool → H → Prop) (hm : laws_eqTile_main (Sat Try.prog) (fun v h' => ∃ r, v = .bool r ∧ K r h') x0 x1 h) : callB (Sat Try.prog) i_laws_eqTile [.agg x0, .agg x1] h K := by
  have := Sat.ex tok mixed laws_eqTile_M Try.func47 (c := bodyOf Try.f47) (by kernel_rfl) (calls_of Try.func47 (c := bodyOf Try.f47) (by kernel_rfl) (by decide)) ((laws_eqTile_main_link _ _ x0 x1 h).mpr hm)
  obtain ⟨v, h2, h3, r, rfl, h4⟩ := this; exact ⟨r, h2, h3, h4⟩

/-! ### loop.example/g01354/impl.TilesAt -/
def impl_TilesAt_M : Nat → List Nat := fun i => []
def impl_TilesAt_main (S : SatT) (K : AVal → H → Prop) (x0 : List AVal) (x1 : Sl) (x2 : Sl) (x3 : Int) (x4 : Int) (h : H) : Prop :=
 newK 2 x0 h fun p0 h1 =>
 ldA p0 2 h1 fun cs2 =>
 callI S .i64 i_impl_planCode [.agg cs2, .sl x1, .sl x2] h1 fun n4 h3 =>
 bif (n4 != (0)) then
 K (.tuple [.sl Sl.nil, .int .i64 n4]) h3
 else
 callB S i_impl_within [.int .i64 x3, .int .i64 (0), .int .i64 (w64 ((x1.len : Int) - (1)))] h3 fun b6 h5 =>
 bif (!b6) then
 K (.tuple [.sl Sl.nil, .int .i64 (2)]) h5
 else
 ixS x1 1 (0) fun p7 =>
 ldS p7 h5 fun s8 =>
 callB S i_impl_within [.int .i64 x4, .int .i64 (0), .int .i64 (w64 ((s8.len : Int) - (1)))] h5 fun b10 h9 =>
 bif (!b10) then
 K (.tuple [.sl Sl.nil, .int .i64 (2)]) h9
 else
 ldA p0 2 h9 fun cs11 =>
 callP S i_impl_newFiller [.agg cs11, .sl x1, .sl x2] h9 fun p13 h12 =>
 ixS x1 1 (0) fun p14 =>
 ldS p14 h12 fun s15 =>
(cell h9 p14 = cell h12 p14) ∧ (
 callS S i_impl_filler_at [.ptr p13, .int .i64 (w64 ((w64 (x3 * (s15.len : Int))) + x4))] h12 fun s17 h16 =>
 K (.tuple [.sl s17, .int .i64 (0)]) h16)
theorem impl_TilesAt_main_link (S : SatT) (K : AVal → H → Prop) (x0 : List AVal) (x1 : Sl) (x2 : Sl) (x3 : Int) (x4 : Int) (h : H) : cwp S tab impl_TilesAt_M [] (bodyOf Try.f10) (kFun tab Try.f10.results.toList K) (fr0 Try.f10 [.agg x0, .sl x1, .sl x2, .int .i64 x3, .int .i64 x4]) h = impl_TilesAt_main S K x0 x1 x2 x3 x4 h := by kernel_rfl
theorem impl_TilesAt_call (x0 : List AVal) (x1 : Sl) (x2 : Sl) (x3 : Int) (x4 : Int) (h : H) (K : AVal → H → Prop) (hm : impl_TilesAt_main (Sat Try.prog) (fun v h' => K v h') x0 x1 x2 x3 x4 h) : callV (Sat Try.prog) i_impl_TilesAt [.agg x0, .sl x1, .sl x2, .int .i64 x3, .int .i64 x4] h K := by
  have := Sat.ex tok mixed impl_TilesAt_M Try.func10 (c := bodyOf Try.f10) (by kernel_rfl) (calls_of Try.func10 (c := bodyOf Try.f10) (by kernel_rfl) (by decide)) ((impl_TilesAt_main_link _ _ x0 x1 x2 x3 x4 h).mpr hm)
  exact this

/-! ### loop.example/g01354/laws.toSet -/
def laws_toSet_M : Nat → List Nat := fun i => []
def laws_toSet_main (S : SatT) (K : AVal → H → Prop) (x0 : List AVal) (h : H) : Prop :=
 newK 2 x0 h fun p0 h1 =>
 newO [.int .i64 (0), .sl Sl.nil] h1 fun p2 h3 =>
 newO [.int .i64 (0), .sl Sl.nil] h3 fun p4 h5 =>
 isPt p0 (
 ldI .i64 (Pt.add p0 0) h5 fun n6 =>
 isPt p4 (
 st1 (Pt.add p4 0) (.int .i64 n6) h5 fun h7 =>
 isPt p0 (
 ldS (Pt.add p0 1) h7 fun s8 =>
 callS S i_laws_toTileS [.sl s8] h7 fun s10 h9 =>
 isPt p4 (
 st1 (Pt.add p4 1) (.sl s10) h9 fun h11 =>
 ldA p4 2 h11 fun cs12 =>
 stN p2 2 cs12 h11 fun h13 =>
 ldA p2 2 h13 fun cs14 =>
 K (.agg cs14) h13))))
theorem laws_toSet_main_link (S : SatT) (K : AVal → H → Prop) (x0 : List AVal) (h : H) : cwp S tab laws_toSet_M [] (bodyOf Try.f8) (kFun tab Try.f8.results.toList K) (fr0 Try.f8 [.agg x0]) h = laws_toSet_main S K x0 h := by kernel_rfl
theorem laws_toSet_call (x0 : List AVal) (h : H) (K : List AVal → H → Prop) (hm : laws_toSet_main (Sat Try.prog) (fun v h' => ∃ r, v = .agg r ∧ K r h') x0 h) : callA (Sat Try.prog) i_laws_toSet [.agg x0] h K := by
  have := Sat.ex tok mixed laws_toSet_M Try.func8 (c := bodyOf Try.f8) (by kernel_rfl) (calls_of Try.func8 (c := bodyOf Try.f8) (by kernel_rfl) (by decide)) ((laws_toSet_main_link _ _ x0 h).mpr hm)
  obtain ⟨v, h2, h3, r, rfl, h4⟩ := this; exact ⟨r, h2, h3, h4⟩

/-! ### slices.ContainsFunc[[]int64,int64] -/
def slices_ContainsFunc_s_int64_int64__M : Nat → List Nat := fun i => []
def slices_ContainsFunc_s_int64_int64__main (S : SatT) (K : AVal → H → Prop) (x0 : Sl) (x1 : AVal) (h : H) : Prop :=
 callI S .i64 i_slices_IndexFunc_s_int64_int64_ [.sl x0, x1] h fun n1 h0 =>
 K (.bool (decide (n1 ≥ (0)))) h0
theorem slices_ContainsFunc_s_int64_int64__main_link (S : SatT) (K : AVal → H → Prop) (x0 : Sl) (x1 : AVal) (h : H) : cwp S tab slices_ContainsFunc_s_int64_int64__M [] (bodyOf Try.f62) (kFun tab Try.f62.results.toList K) (fr0 Try.f62 [.sl x0, x1]) h = slices_ContainsFunc_s_int64_int64__main S K x0 x1 h := by kernel_rfl
theorem slices_ContainsFunc_s_int64_int64__call (x0 : Sl) (x1 : AVal) (h : H) (K : Bool → H → Prop) (hm : slices_ContainsFunc_s_int64_int64__main (Sat Try.prog) (fun v h' => ∃ r, v = .bool r ∧ K r h') x0 x1 h) : callB (Sat Try.prog) i_slices_ContainsFunc_s_int64_int64_ [.sl x0, x1] h K := by
  have := Sat.ex tok mixed slices_ContainsFunc_s_int64_int64__M Try.func62 (c := bodyOf Try.f62) (by kernel_rfl) (calls_of Try.func62 (c := bodyOf Try.f62) (by kernel_rfl) (by decide)) ((slices_ContainsFunc_s_int64_int64__main_link _ _ x0 x1 h).mpr hm)
  obtain ⟨v, h2, h3, r, rfl, h4⟩ := this; exact ⟨r, h2, h3, h4⟩

/-! ### loop.example/g01354/impl.setCode -/
def impl_setCode_M : Nat → List Nat := fun i => []
def impl_setCode_main (S : SatT) (K : AVal → H → Prop) (x0 : List AVal) (x1 : AVal) (h : H) : Prop :=
 newK 2 x0 h fun p0 h1 =>
 ldA p0 2 h1 fun cs2 =>
 callB S i_impl_IsSet [.agg cs2] h1 fun b4 h3 =>
 bif (!b4) then
 K (.int .i64 (1)) h3
 else
 viaF x1 [] fun g5 ys6 =>
 callB S g5 ys6 h3 fun b8 h7 =>
 bif (!b8) then
 K (.int .i64 (2)) h7
 else
 K (.int .i64 (0)) h7
theorem impl_setCode_main_link (S : SatT) (K : AVal → H → Prop) (x0 : List AVal) (x1 : AVal) (h : H) : cwp S tab impl_setCode_M [] (bodyOf Try.f41) (kFun tab Try.f41.results.toList K) (fr0 Try.f41 [.agg x0, x1]) h = impl_setCode_main S K x0 x1 h := by kernel_rfl
theorem impl_setCode_call (x0 : List AVal) (x1 : AVal) (h : H) (K : Int → H → Prop) (hm : impl_setCode_main (Sat Try.prog) (fun v h' => ∃ r, v = .int .i64 r ∧ K r h') x0 x1 h) : callI (Sat Try.prog) .i64 i_impl_setCode [.agg x0, x1] h K := by
  have := Sat.ex tok mixed impl_setCode_M Try.func41 (c := bodyOf Try.f41) (by kernel_rfl) (calls_of Try.func41 (c := bodyOf Try.f41) (by kernel_rfl) (by decide)) ((impl_setCode_main_link _ _ x0 x1 h).mpr hm)
  obtain ⟨v, h2, h3, r, rfl, h4⟩ := this; exact ⟨r, h2, h3, h4⟩

/-! ### (loop.example/g01354/impl.Set).isWord$1 -/
def impl_Set_isWord_1_M : Nat → List Nat := fun i => []
def impl_Set_isWord_1_main (S : SatT) (K : AVal → H → Prop) (x0 : Int) (x1 : Pt) (h : H) : Prop :=
 isPt x1 (
 ldI .i64 (Pt.add x1 0) h fun n0 =>
 callB S i_impl_within [.int .i64 x0, .int .i64 (0), .int .i64 (w64 (n0 - (1)))] h fun b2 h1 =>
 K (.bool (!b2)) h1)
theorem impl_Set_isWord_1_main_link (S : SatT) (K : AVal → H → Prop) (x0 : Int) (x1 : Pt) (h : H) : cwp S tab impl_Set_isWord_1_M [] (bodyOf Try.f63) (kFun tab Try.f63.results.toList K) (fr0 Try.f63 [.int .i64 x0, .ptr x1]) h = impl_Set_isWord_1_main S K x0 x1 h := by kernel_rfl
theorem impl_Set_isWord_1_call (x0 : Int) (x1 : Pt) (h : H) (K : Bool → H → Prop) (hm : impl_Set_isWord_1_main (Sat Try.prog) (fun v h' => ∃ r, v = .bool r ∧ K r h') x0 x1 h) : callB (Sat Try.prog) i_impl_Set_isWord_1 [.int .i64 x0, .ptr x1] h K := by
  have := Sat.ex tok mixed impl_Set_isWord_1_M Try.func63 (c := bodyOf Try.f63) (by kernel_rfl) (calls_of Try.func63 (c := bodyOf Try.f63) (by kernel_rfl) (by decide)) ((impl_Set_isWord_1_main_link _ _ x0 x1 h).mpr hm)
  obtain ⟨v, h2, h3, r, rfl, h4⟩ := this; exact ⟨r, h2, h3, h4⟩

/-! ### loop.example/g01354/impl.isTile$1 -/
def impl_isTile_1_M : Nat → List Nat := fun i => []
def impl_isTile_1_main (S : SatT) (K : AVal → H → Prop) (x0 : Int) (x1 : Pt) (h : H) : Prop :=
 ldI .i64 x1 h fun n0 =>
 callB S i_impl_within [.int .i64 x0, .int .i64 (0), .int .i64 (w64 (n0 - (1)))] h fun b2 h1 =>
 K (.bool (!b2)) h1
theorem impl_isTile_1_main_link (S : SatT) (K : AVal → H → Prop) (x0 : Int) (x1 : Pt) (h : H) : cwp S tab impl_isTile_1_M [] (bodyOf Try.f64) (kFun tab Try.f64.results.toList K) (fr0 Try.f64 [.int .i64 x0, .ptr x1]) h = impl_isTile_1_main S K x0 x1 h := by kernel_rfl
theorem impl_isTile_1_call (x0 : Int) (x1 : Pt) (h : H) (K : Bool → H → Prop) (hm : impl_isTile_1_main (Sat Try.prog) (fun v h' => ∃ r, v = .bool r ∧ K r h') x0 x1 h) : callB (Sat Try.prog) i_impl_isTile_1 [.int .i64 x0, .ptr x1] h K := by
  have := Sat.ex tok mixed impl_isTile_1_M Try.func64 (c := bodyOf Try.f64) (by kernel_rfl) (calls_of Try.func64 (c := bodyOf Try.f64) (by kernel_rfl) (by decide)) ((impl_isTile_1_main_link _ _ x0 x1 h).mpr hm)
  obtain ⟨v, h2, h3, r, rfl, h4⟩ := this; exact ⟨r, h2, h3, h4⟩

/-! ### cmp.isNaN[int64] -/
def cmp_isNaN_int64__M : Nat → List Nat := fun i => []
def cmp_isNaN_int64__main (S : SatT) (K : AVal → H → Prop) (x0 : Int) (h : H) : Prop :=
 K (.bool (x0 != x0)) h
theorem cmp_isNaN_int64__main_link (S : SatT) (K : AVal → H → Prop) (x0 : Int) (h : H) : cwp S tab cmp_isNaN_int64__M [] (bodyOf Try.f68) (kFun tab Try.f68.results.toList K) (fr0 Try.f68 [.int .i64 x0]) h = cmp_isNaN_int64__main S K x0 h := by kernel_rfl
theorem cmp_isNaN_int64__call (x0 : Int) (h : H) (K : Bool → H → Prop) (hm : cmp_isNaN_int64__main (Sat Try.prog) (fun v h' => ∃ r, v = .bool r ∧ K r h') x0 h) : callB (Sat Try.prog) i_cmp_isNaN_int64_ [.int .i64 x0] h K := by
  have := Sat.ex tok mixed cmp_isNaN_int64__M Try.func68 (c := bodyOf Try.f68) (by kernel_rfl) (calls_of Try.func68 (c := bodyOf Try.f68) (by kernel_rfl) (by decide)) ((cmp_isNaN_int64__main_link _ _ x0 h).mpr hm)
  obtain ⟨v, h2, h3, r, rfl, h4⟩ := this; exact ⟨r, h2, h3, h4⟩

/-! ### loop.example/g01354/spec.l03Plan -/
def spec_l03Plan_M : Nat → List Nat := fun i => bif i == 4 then [1, 2, 3, 9] else bif i == 2 then [1, 2, 3, 7, 8] else bif i == 0 then [1, 2, 3, 7] else []
def spec_l03Plan_ks11 (S : SatT) (K : AVal → H → Prop) : Kont := kSeq (cwp S tab spec_l03Plan_M [] (sub [1, 1, 1, 1] (bodyOf Try.f23)) (kFun tab (Try.f23).results.toList K)) (kFun tab (Try.f23).results.toList K)
def spec_l03Plan_e0 (s1_ : Sl) (s2_ : Sl) (p3_ : Pt) (i7_ : Int) : Frame := [U, .sl s1_, .sl s2_, .ptr p3_, U, U, U, .int .i64 i7_, U, U, U, U, U, U, U, U, U, U, U, U, U, U, U, U, U, U, U, U, U, U, U, U, U, U, U, U, U, U, U, U, U, U, U, U, U, U, U, U, U, U, U, U, U, U, U, U, U, U, U, U, U, U, U, U, U, U, U, U, U, U, U, U, U, U, U, U, U, U, U, U, U, U, U, U, U, U, U, U, U, U, U, U, U, U, U, U, U, U, U, U, U, U, U, U, U, U, U, U, U, U, U, U, U, U, U, U]
def spec_l03Plan_w0 (S : SatT) (K : AVal → H → Prop) : (Frame → H → Prop) → Frame → H → Prop := fun X fr h => cwp S tab spec_l03Plan_M (spec_l03Plan_M 0) (sub [1, 1, 1, 0, 1, 0, 0] (bodyOf Try.f23)) (kSeq (fun fr h => X (mask (spec_l03Plan_M 0) fr) h) (kBlk 0 (spec_l03Plan_ks11 S K))) fr h
def spec_l03Plan_L0 (S : SatT) (K : AVal → H → Prop) (s1_ : Sl) (s2_ : Sl) (p3_ : Pt) (i7_ : Int) (h : H) : Prop := loopK (spec_l03Plan_w0 S K) (spec_l03Plan_e0 s1_ s2_ p3_ i7_) h
def spec_l03Plan_ks15 (S : SatT) (K : AVal → H → Prop) (X0 : Frame → H → Prop) : Kont := kSeq (cwp S tab spec_l03Plan_M (spec_l03Plan_M 0) (sub [1, 1, 1, 0, 1, 0, 0, 1, 1] (bodyOf Try.f23)) (kSeq (fun fr h => X0 (mask (spec_l03Plan_M 0) fr) h) (kBlk 0 (spec_l03Plan_ks11 S K)))) (kSeq (fun fr h => X0 (mask (spec_l03Plan_M 0) fr) h) (kBlk 0 (spec_l03Plan_ks11 S K)))
def spec_l03Plan_e2 (s1_ : Sl) (s2_ : Sl) (p3_ : Pt) (i7_ : Int) (i8_ : Int) : Frame := [U, .sl s1_, .sl s2_, .ptr p3_, U, U, U, .int .i64 i7_, .int .i64 i8_, U, U, U, U, U, U, U, U, U, U, U, U, U, U, U, U, U, U, U, U, U, U, U, U, U, U, U, U, U, U, U, U, U, U, U, U, U, U, U, U, U, U, U, U, U, U, U, U, U, U, U, U, U, U, U, U, U, U, U, U, U, U, U, U, U, U, U, U, U, U, U, U, U, U, U, U, U, U, U, U, U, U, U, U, U, U, U, U, U, U, U, U, U, U, U, U, U, U, U, U, U, U, U, U, U, U, U]
def spec_l03Plan_w2 (S : SatT) (K : AVal → H → Prop) (X0 : Frame → H → Prop) : (Frame → H → Prop) → Frame → H → Prop := fun X fr h => cwp S tab spec_l03Plan_M (spec_l03Plan_M 2) (sub [1, 1, 1, 0, 1, 0, 0, 1, 0, 0, 1, 1, 0, 0] (bodyOf Try.f23)) (kSeq (fun fr h => X (mask (spec_l03Plan_M 2) fr) h) (kBlk 2 (kBlk 1 (spec_l03Plan_ks15 S K X0)))) fr h
def spec_l03Plan_L2 (S : SatT) (K : AVal → H → Prop) (X0 : Frame → H → Prop) (s1_ : Sl) (s2_ : Sl) (p3_ : Pt) (i7_ : Int) (i8_ : Int) (h : H) : Prop := loopK (spec_l03Plan_w2 S K X0) (spec_l03Plan_e2 s1_ s2_ p3_ i7_ i8_) h
def spec_l03Plan_C1 (S : SatT) (K : AVal → H → Prop) (X0 : Frame → H → Prop) (s1_ : Sl) (s2_ : Sl) (p3_ : Pt) (i7_ : Int) (h : H) : Prop :=
 X0 (spec_l03Plan_e0 s1_ s2_ p3_ (w64 (i7_ + (1)))) h
def spec_l03Plan_C2 (S : SatT) (K : AVal → H → Prop) (X0 : Frame → H → Prop) (s1_ : Sl) (s2_ : Sl) (p3_ : Pt) (i7_ : Int) (h : H) : Prop :=
 spec_l03Plan_C1 S K X0 s1_ s2_ p3_ i7_ h
def spec_l03Plan_b2 (S : SatT) (K : AVal → H → Prop) (X0 : Frame → H → Prop) (X2 : Frame → H → Prop) (s1_ : Sl) (s2_ : Sl) (p3_ : Pt) (i7_ : Int) (i8_ : Int) (h : H) : Prop :=
 ixS s1_ 1 i7_ fun p0 =>
 ldS p0 h fun s1 =>
 bif (decide (i8_ < (s1.len : Int))) then
 ixS s1_ 1 i7_ fun p2 =>
 ldS p2 h fun s3 =>
 ixS s3 1 i8_ fun p4 =>
 ldI .i64 p4 h fun n5 =>
 isPt p3_ (
 ldS (Pt.add p3_ 1) h fun s6 =>
 callB S i_spec_l01In [.int .i64 n5, .int .i64 (-1), .int .i64 (w64 ((s6.len : Int) - (1)))] h fun b8 h7 =>
 bif (!b8) then
 K (.int .i64 (2)) h7
 else
 X2 (spec_l03Plan_e2 s1_ s2_ p3_ i7_ (w64 (i8_ + (1)))) h7)
 else
 spec_l03Plan_C2 S K X0 s1_ s2_ p3_ i7_ h
theorem spec_l03Plan_link2 (S : SatT) (K : AVal → H → Prop) (X0 : Frame → H → Prop) (X2 : Frame → H → Prop) (s1_ : Sl) (s2_ : Sl) (p3_ : Pt) (i7_ : Int) (i8_ : Int) (h : H) : spec_l03Plan_w2 S K X0 X2 (spec_l03Plan_e2 s1_ s2_ p3_ i7_ i8_) h = spec_l03Plan_b2 S K X0 X2 s1_ s2_ p3_ i7_ i8_ h := by kernel_rfl
theorem spec_l03Plan_rule2 (S : SatT) (K : AVal → H → Prop) (X0 : Frame → H → Prop) (s1_ : Sl) (s2_ : Sl) (p3_ : Pt) (i7_ : Int) (I_ : Int → H → Prop) (m_ : Int → H → Nat)
    (hs : ∀ (X2 : Frame → H → Prop) (i8_ : Int) (h : H), I_ i8_ h → (∀ (i8_' : Int) (h' : H), I_ i8_' h' → m_ i8_' h' < m_ i8_ h → X2 (spec_l03Plan_e2 s1_ s2_ p3_ i7_ i8_') h') → spec_l03Plan_b2 S K X0 X2 s1_ s2_ p3_ i7_ i8_ h) (i8_ : Int) {h : H} (h0 : I_ i8_ h) : spec_l03Plan_L2 S K X0 s1_ s2_ p3_ i7_ i8_ h :=
  loop_rule (σ := (Int)) (fun s_ => spec_l03Plan_e2 s1_ s2_ p3_ i7_ (s_)) (fun s_ h => I_ (s_) h) (fun s_ h => m_ (s_) h)
    (fun X s_ h hi hx => (spec_l03Plan_link2 S K X0 X s1_ s2_ p3_ i7_ (s_) h).mpr (hs X (s_) h hi fun i8_' h' hi' hm' => hx (i8_') h' hi' hm')) (i8_) h0
theorem spec_l03Plan_unroll2 (S : SatT) (K : AVal → H → Prop) (X0 : Frame → H → Prop) (s1_ : Sl) (s2_ : Sl) (p3_ : Pt) (i7_ : Int) (i8_ : Int) (h : H) (hb : spec_l03Plan_b2 S K X0 (fun fr h => loopK (spec_l03Plan_w2 S K X0) fr h) s1_ s2_ p3_ i7_ i8_ h) : spec_l03Plan_L2 S K X0 s1_ s2_ p3_ i7_ i8_ h := loop_unroll ((spec_l03Plan_link2 S K X0 _ s1_ s2_ p3_ i7_ i8_ h).mpr hb)
def spec_l03Plan_ks25 (S : SatT) (K : AVal → H → Prop) : Kont := kSeq (cwp S tab spec_l03Plan_M [] (sub [1, 1, 1, 1, 1] (bodyOf Try.f23)) (kFun tab (Try.f23).results.toList K)) (kFun tab (Try.f23).results.toList K)
def spec_l03Plan_e4 (s1_ : Sl) (s2_ : Sl) (p3_ : Pt) (i9_ : Int) : Frame := [U, .sl s1_, .sl s2_, .ptr p3_, U, U, U, U, U, .int .i64 i9_, U, U, U, U, U, U, U, U, U, U, U, U, U, U, U, U, U, U, U, U, U, U, U, U, U, U, U, U, U, U, U, U, U, U, U, U, U, U, U, U, U, U, U, U, U, U, U, U, U, U, U, U, U, U, U, U, U, U, U, U, U, U, U, U, U, U, U, U, U, U, U, U, U, U, U, U, U, U, U, U, U, U, U, U, U, U, U, U, U, U, U, U, U, U, U, U, U, U, U, U, U, U, U, U, U, U]
def spec_l03Plan_w4 (S : SatT) (K : AVal → H → Prop) : (Frame → H → Prop) → Frame → H → Prop := fun X fr h => cwp S tab spec_l03Plan_M (spec_l03Plan_M 4) (sub [1, 1, 1, 1, 0, 1, 0, 0] (bodyOf Try.f23)) (kSeq (fun fr h => X (mask (spec_l03Plan_M 4) fr) h) (kBlk 4 (spec_l03Plan_ks25 S K))) fr h
def spec_l03Plan_L4 (S : SatT) (K : AVal → H → Prop) (s1_ : Sl) (s2_ : Sl) (p3_ : Pt) (i9_ : Int) (h : H) : Prop := loopK (spec_l03Plan_w4 S K) (spec_l03Plan_e4 s1_ s2_ p3_ i9_) h
def spec_l03Plan_C4 (S : SatT) (K : AVal → H → Prop) (h : H) : Prop :=
 K (.int .i64 (0)) h
def spec_l03Plan_b4 (S : SatT) (K : AVal → H → Prop) (X4 : Frame → H → Prop) (s1_ : Sl) (s2_ : Sl) (p3_ : Pt) (i9_ : Int) (h : H) : Prop :=
 bif (decide (i9_ < (4))) then
 nz (2) (
 bif ((Int.tmod i9_ (2)) == (1)) then
 ixS s1_ 1 (0) fun p0 =>
 ldS p0 h fun s1 =>
 ixS s2_ 1 i9_ fun p2 =>
 ldS p2 h fun s3 =>
 bif ((s3.len : Int) != (0)) then
 ixS s2_ 1 i9_ fun p4 =>
 ldS p4 h fun s5 =>
 bif ((s5.len : Int) != (s1.len : Int)) then
 K (.int .i64 (2)) h
 else
 ldA p3_ 2 h fun cs6 =>
 ixS s2_ 1 i9_ fun p7 =>
 ldS p7 h fun s8 =>
 callB S i_spec_l01Word [.agg cs6, .sl s8] h fun b10 h9 =>
 bif (!b10) then
 K (.int .i64 (2)) h9
 else
 X4 (spec_l03Plan_e4 s1_ s2_ p3_ (w64 (i9_ + (1)))) h9
 else
 ldA p3_ 2 h fun cs11 =>
 ixS s2_ 1 i9_ fun p12 =>
 ldS p12 h fun s13 =>
 callB S i_spec_l01Word [.agg cs11, .sl s13] h fun b15 h14 =>
 bif (!b15) then
 K (.int .i64 (2)) h14
 else
 X4 (spec_l03Plan_e4 s1_ s2_ p3_ (w64 (i9_ + (1)))) h14
 else
 ixS s2_ 1 i9_ fun p16 =>
 ldS p16 h fun s17 =>
 bif ((s17.len : Int) != (0)) then
 ixS s2_ 1 i9_ fun p18 =>
 ldS p18 h fun s19 =>
 bif ((s19.len : Int) != (s1_.len : Int)) then
 K (.int .i64 (2)) h
 else
 ldA p3_ 2 h fun cs20 =>
 ixS s2_ 1 i9_ fun p21 =>
 ldS p21 h fun s22 =>
 callB S i_spec_l01Word [.agg cs20, .sl s22] h fun b24 h23 =>
 bif (!b24) then
 K (.int .i64 (2)) h23
 else
 X4 (spec_l03Plan_e4 s1_ s2_ p3_ (w64 (i9_ + (1)))) h23
 else
 ldA p3_ 2 h fun cs25 =>
 ixS s2_ 1 i9_ fun p26 =>
 ldS p26 h fun s27 =>
 callB S i_spec_l01Word [.agg cs25, .sl s27] h fun b29 h28 =>
 bif (!b29) then
 K (.int .i64 (2)) h28
 else
 X4 (spec_l03Plan_e4 s1_ s2_ p3_ (w64 (i9_ + (1)))) h28)
 else
 spec_l03Plan_C4 S K h
theorem spec_l03Plan_link4 (S : SatT) (K : AVal → H → Prop) (X4 : Frame → H → Prop) (s1_ : Sl) (s2_ : Sl) (p3_ : Pt) (i9_ : Int) (h : H) : spec_l03Plan_w4 S K X4 (spec_l03Plan_e4 s1_ s2_ p3_ i9_) h = spec_l03Plan_b4 S K X4 s1_ s2_ p3_ i9_ h := by kernel_rfl
theorem spec_l03Plan_rule4 (S : SatT) (K : AVal → H → Prop) (s1_ : Sl) (s2_ : Sl) (p3_ : Pt) (I_ : Int → H → Prop) (m_ : Int → H → Nat)
    (hs : ∀ (X4 : Frame → H → Prop) (i9_ : Int) (h : H), I_ i9_ h → (∀ (i9_' : Int) (h' : H), I_ i9_' h' → m_ i9_' h' < m_ i9_ h → X4 (spec_l03Plan_e4 s1_ s2_ p3_ i9_') h') → spec_l03Plan_b4 S K X4 s1_ s2_ p3_ i9_ h) (i9_ : Int) {h : H} (h0 : I_ i9_ h) : spec_l03Plan_L4 S K s1_ s2_ p3_ i9_ h :=
  loop_rule (σ := (Int)) (fun s_ => spec_l03Plan_e4 s1_ s2_ p3_ (s_)) (fun s_ h => I_ (s_) h) (fun s_ h => m_ (s_) h)
    (fun X s_ h hi hx => (spec_l03Plan_link4 S K X s1_ s2_ p3_ (s_) h).mpr (hs X (s_) h hi fun i9_' h' hi' hm' => hx (i9_') h' hi' hm')) (i9_) h0
theorem spec_l03Plan_unroll4 (S : SatT) (K : AVal → H → Prop) (s1_ : Sl) (s2_ : Sl) (p3_ : Pt) (i9_ : Int) (h : H) (hb : spec_l03Plan_b4 S K (fun fr h => loopK (spec_l03Plan_w4 S K) fr h) s1_ s2_ p3_ i9_ h) : spec_l03Plan_L4 S K s1_ s2_ p3_ i9_ h := loop_unroll ((spec_l03Plan_link4 S K _ s1_ s2_ p3_ i9_ h).mpr hb)
def spec_l03Plan_C0 (S : SatT) (K : AVal → H → Prop) (s1_ : Sl) (s2_ : Sl) (p3_ : Pt) (h : H) : Prop :=
 spec_l03Plan_L4 S K s1_ s2_ p3_ (0) h
def spec_l03Plan_b0 (S : SatT) (K : AVal → H → Prop) (X0 : Frame → H → Prop) (s1_ : Sl) (s2_ : Sl) (p3_ : Pt) (i7_ : Int) (h : H) : Prop :=
 bif (decide (i7_ < (s1_.len : Int))) then
 ixS s1_ 1 i7_ fun p0 =>
 ldS p0 h fun s1 =>
 ixS s1_ 1 (0) fun p2 =>
 ldS p2 h fun s3 =>
 bif ((s1.len : Int) != (s3.len : Int)) then
 K (.int .i64 (2)) h
 else
 spec_l03Plan_L2 S K X0 s1_ s2_ p3_ i7_ (0) h
 else
 spec_l03Plan_C0 S K s1_ s2_ p3_ h
theorem spec_l03Plan_link0 (S : SatT) (K : AVal → H → Prop) (X0 : Frame → H → Prop) (s1_ : Sl) (s2_ : Sl) (p3_ : Pt) (i7_ : Int) (h : H) : spec_l03Plan_w0 S K X0 (spec_l03Plan_e0 s1_ s2_ p3_ i7_) h = spec_l03Plan_b0 S K X0 s1_ s2_ p3_ i7_ h := by kernel_rfl
theorem spec_l03Plan_rule0 (S : SatT) (K : AVal → H → Prop) (s1_ : Sl) (s2_ : Sl) (p3_ : Pt) (I_ : Int → H → Prop) (m_ : Int → H → Nat)
    (hs : ∀ (X0 : Frame → H → Prop) (i7_ : Int) (h : H), I_ i7_ h → (∀ (i7_' : Int) (h' : H), I_ i7_' h' → m_ i7_' h' < m_ i7_ h → X0 (spec_l03Plan_e0 s1_ s2_ p3_ i7_') h') → spec_l03Plan_b0 S K X0 s1_ s2_ p3_ i7_ h) (i7_ : Int) {h : H} (h0 : I_ i7_ h) : spec_l03Plan_L0 S K s1_ s2_ p3_ i7_ h :=
  loop_rule (σ := (Int)) (fun s_ => spec_l03Plan_e0 s1_ s2_ p3_ (s_)) (fun s_ h => I_ (s_) h) (fun s_ h => m_ (s_) h)
    (fun X s_ h hi hx => (spec_l03Plan_link0 S K X s1_ s2_ p3_ (s_) h).mpr (hs X (s_) h hi fun i7_' h' hi' hm' => hx (i7_') h' hi' hm')) (i7_) h0
theorem spec_l03Plan_unroll0 (S : SatT) (K : AVal → H → Prop) (s1_ : Sl) (s2_ : Sl) (p3_ : Pt) (i7_ : Int) (h : H) (hb : spec_l03Plan_b0 S K (fun fr h => loopK (spec_l03Plan_w0 S K) fr h) s1_ s2_ p3_ i7_ h) : spec_l03Plan_L0 S K s1_ s2_ p3_ i7_ h := loop_unroll ((spec_l03Plan_link0 S K _ s1_ s2_ p3_ i7_ h).mpr hb)
def spec_l03Plan_main (S : SatT) (K : AVal → H → Prop) (x0 : List AVal) (x1 : Sl) (x2 : Sl) (h : H) : Prop :=
 newK 2 x0 h fun p0 h1 =>
 ldA p0 2 h1 fun cs2 =>
 callB S i_spec_l01Is [.agg cs2] h1 fun b4 h3 =>
 bif (!b4) then
 K (.int .i64 (1)) h3
 else
 bif (decide ((x1.len : Int) < (1))) then
 K (.int .i64 (2)) h3
 else
 bif (decide ((x1.len : Int) > (5))) then
 K (.int .i64 (2)) h3
 else
 ixS x1 1 (0) fun p5 =>
 ldS p5 h3 fun s6 =>
 bif (decide ((s6.len : Int) < (1))) then
 K (.int .i64 (2)) h3
 else
 ixS x1 1 (0) fun p7 =>
 ldS p7 h3 fun s8 =>
 bif (decide ((s8.len : Int) > (5))) then
 K (.int .i64 (2)) h3
 else
 bif ((x2.len : Int) != (4)) then
 K (.int .i64 (2)) h3
 else
 spec_l03Plan_L0 S K x1 x2 p0 (0) h3
theorem spec_l03Plan_main_link (S : SatT) (K : AVal → H → Prop) (x0 : List AVal) (x1 : Sl) (x2 : Sl) (h : H) : cwp S tab spec_l03Plan_M [] (bodyOf Try.f23) (kFun tab Try.f23.results.toList K) (fr0 Try.f23 [.agg x0, .sl x1, .sl x2]) h = spec_l03Plan_main S K x0 x1 x2 h := by kernel_rfl
theorem spec_l03Plan_call (x0 : List AVal) (x1 : Sl) (x2 : Sl) (h : H) (K : Int → H → Prop) (hm : spec_l03Plan_main (Sat Try.prog) (fun v h' => ∃ r, v = .int .i64 r ∧ K r h') x0 x1 x2 h) : callI (Sat Try.prog) .i64 i_spec_l03Plan [.agg x0, .sl x1, .sl x2] h K := by
  have := Sat.ex tok mixed spec_l03Plan_M Try.func23 (c := bodyOf Try.f23) (by kernel_rfl) (calls_of Try.func23 (c := bodyOf Try.f23) (by kernel_rfl) (by decide)) ((spec_l03Plan_main_link _ _ x0 x1 x2 h).mpr hm)
  obtain ⟨v, h2, h3, r, rfl, h4⟩ := this; exact ⟨r, h2, h3, h4⟩

/-! ### (*loop.example/g01354/impl.filler).at -/
def impl_filler_at_M : Nat → List Nat := fun i => bif i == 2 then [0, 1, 5, 6, 16, 17, 27, 28] else bif i == 0 then [0, 1, 5, 16, 17] else []
def impl_filler_at_ks2 (S : SatT) (K : AVal → H → Prop) : Kont := kSeq (cwp S tab impl_filler_at_M [] (sub [1, 1, 1] (bodyOf Try.f31)) (kFun tab (Try.f31).results.toList K)) (kFun tab (Try.f31).results.toList K)
def impl_filler_at_e0 (p0_ : Pt) (i1_ : Int) (s5_ : Sl) (i16_ : Int) (i17_ : Int) : Frame := [.ptr p0_, .int .i64 i1_, U, U, U, .sl s5_, U, U, U, U, U, U, U, U, U, U, .int .i64 i16_, .int .i64 i17_, U, U, U, U, U, U, U, U, U, U, U, U, U, U, U, U, U, U, U, U, U, U, U, U, U, U, U, U, U, U, U, U, U, U, U, U, U, U, U, U, U, U, U, U, U, U, U, U, U, U, U, U, U]
def impl_filler_at_w0 (S : SatT) (K : AVal → H → Prop) : (Frame → H → Prop) → Frame → H → Prop := fun X fr h => cwp S tab impl_filler_at_M (impl_filler_at_M 0) (sub [1, 1, 0, 1, 0, 0] (bodyOf Try.f31)) (kSeq (fun fr h => X (mask (impl_filler_at_M 0) fr) h) (kBlk 0 (impl_filler_at_ks2 S K))) fr h
def impl_filler_at_L0 (S : SatT) (K : AVal → H → Prop) (p0_ : Pt) (i1_ : Int) (s5_ : Sl) (i16_ : Int) (i17_ : Int) (h : H) : Prop := loopK (impl_filler_at_w0 S K) (impl_filler_at_e0 p0_ i1_ s5_ i16_ i17_) h
def impl_filler_at_ks6 (S : SatT) (K : AVal → H → Prop) (X0 : Frame → H → Prop) : Kont := kSeq (cwp S tab impl_filler_at_M (impl_filler_at_M 0) (sub [1, 1, 0, 1, 0, 0, 1, 1, 1] (bodyOf Try.f31)) (kSeq (fun fr h => X0 (mask (impl_filler_at_M 0) fr) h) (kBlk 0 (impl_filler_at_ks2 S K)))) (kSeq (fun fr h => X0 (mask (impl_filler_at_M 0) fr) h) (kBlk 0 (impl_filler_at_ks2 S K)))
def impl_filler_at_e2 (p0_ : Pt) (i1_ : Int) (s5_ : Sl) (i6_ : Int) (i16_ : Int) (i17_ : Int) (i27_ : Int) (i28_ : Int) : Frame := [.ptr p0_, .int .i64 i1_, U, U, U, .sl s5_, .int .i64 i6_, U, U, U, U, U, U, U, U, U, .int .i64 i16_, .int .i64 i17_, U, U, U, U, U, U, U, U, U, .int .i64 i27_, .int .i64 i28_, U, U, U, U, U, U, U, U, U, U, U, U, U, U, U, U, U, U, U, U, U, U, U, U, U, U, U, U, U, U, U, U, U, U, U, U, U, U, U, U, U, U]
def impl_filler_at_w2 (S : SatT) (K : AVal → H → Prop) (X0 : Frame → H → Prop) : (Frame → H → Prop) → Frame → H → Prop := fun X fr h => cwp S tab impl_filler_at_M (impl_filler_at_M 2) (sub [1, 1, 0, 1, 0, 0, 1, 1, 0, 0, 1, 1, 0, 0] (bodyOf Try.f31)) (kSeq (fun fr h => X (mask (impl_filler_at_M 2) fr) h) (kBlk 2 (kBlk 1 (impl_filler_at_ks6 S K X0)))) fr h
def impl_filler_at_L2 (S : SatT) (K : AVal → H → Prop) (X0 : Frame → H → Prop) (p0_ : Pt) (i1_ : Int) (s5_ : Sl) (i6_ : Int) (i16_ : Int) (i17_ : Int) (i27_ : Int) (i28_ : Int) (h : H) : Prop := loopK (impl_filler_at_w2 S K X0) (impl_filler_at_e2 p0_ i1_ s5_ i6_ i16_ i17_ i27_ i28_) h
def impl_filler_at_C1 (S : SatT) (K : AVal → H → Prop) (X0 : Frame → H → Prop) (p0_ : Pt) (i1_ : Int) (s5_ : Sl) (i16_ : Int) (i17_ : Int) (h : H) : Prop :=
 X0 (impl_filler_at_e0 p0_ i1_ s5_ i16_ (w64 (i17_ + (1)))) h
def impl_filler_at_C2 (S : SatT) (K : AVal → H → Prop) (X0 : Frame → H → Prop) (p0_ : Pt) (i1_ : Int) (s5_ : Sl) (i16_ : Int) (i17_ : Int) (h : H) : Prop :=
 impl_filler_at_C1 S K X0 p0_ i1_ s5_ i16_ i17_ h
def impl_filler_at_b2 (S : SatT) (K : AVal → H → Prop) (X0 : Frame → H → Prop) (X2 : Frame → H → Prop) (p0_ : Pt) (i1_ : Int) (s5_ : Sl) (i6_ : Int) (i16_ : Int) (i17_ : Int) (i27_ : Int) (i28_ : Int) (h : H) : Prop :=
 bif (decide (i28_ < i27_)) then
 nilC (.ptr p0_) (
 isPt p0_ (
 ldS (Pt.add p0_ 6) h fun s0 =>
 ixS s0 1 i1_ fun p1 =>
 ldS p1 h fun s2 =>
 ixS s2 1 i28_ fun p3 =>
 ldB p3 h fun b4 =>
 bif (!b4) then
 X2 (impl_filler_at_e2 p0_ i1_ s5_ i6_ i16_ i17_ i27_ (w64 (i28_ + (1)))) h
 else
 callV S i_impl_filler_fits [.ptr p0_, .int .i64 i1_, .int .i64 i28_, .int .i64 i6_] h fun v6 h5 =>
 viaT v6 fun vs7 =>
 exI .i64 vs7 0 fun n8 =>
 viaT v6 fun vs9 =>
 exB vs9 1 fun b10 =>
 bif b10 then
 nilC (.ptr p0_) (
 isPt p0_ (
 ldS (Pt.add p0_ 6) h5 fun s11 =>
 ixS s11 1 (w64 (i1_ + (1))) fun p12 =>
 ldS p12 h5 fun s13 =>
 ixS s13 1 n8 fun p14 =>
 ldB p14 h5 fun b15 =>
 bif b15 then
 newS 1 1 [.int .i64 i6_] h5 fun s16 h17 =>
 app s5_ s16 1 h17 fun s18 h19 =>
 impl_filler_at_C2 S K X0 p0_ i1_ s18 i16_ i17_ h19
 else
 X2 (impl_filler_at_e2 p0_ i1_ s5_ i6_ i16_ i17_ i27_ (w64 (i28_ + (1)))) h5))
 else
 X2 (impl_filler_at_e2 p0_ i1_ s5_ i6_ i16_ i17_ i27_ (w64 (i28_ + (1)))) h5))
 else
 impl_filler_at_C2 S K X0 p0_ i1_ s5_ i16_ i17_ h
theorem impl_filler_at_link2 (S : SatT) (K : AVal → H → Prop) (X0 : Frame → H → Prop) (X2 : Frame → H → Prop) (p0_ : Pt) (i1_ : Int) (s5_ : Sl) (i6_ : Int) (i16_ : Int) (i17_ : Int) (i27_ : Int) (i28_ : Int) (h : H) : impl_filler_at_w2 S K X0 X2 (impl_filler_at_e2 p0_ i1_ s5_ i6_ i16_ i17_ i27_ i28_) h = impl_filler_at_b2 S K X0 X2 p0_ i1_ s5_ i6_ i16_ i17_ i27_ i28_ h := by kernel_rfl
theorem impl_filler_at_rule2 (S : SatT) (K : AVal → H → Prop) (X0 : Frame → H → Prop) (p0_ : Pt) (i1_ : Int) (i6_ : Int) (i16_ : Int) (i17_ : Int) (i27_ : Int) (I_ : Sl → Int → H → Prop) (m_ : Sl → Int → H → Nat)
    (hs : ∀ (X2 : Frame → H → Prop) (s5_ : Sl) (i28_ : Int) (h : H), I_ s5_ i28_ h → (∀ (s5_' : Sl) (i28_' : Int) (h' : H), I_ s5_' i28_' h' → m_ s5_' i28_' h' < m_ s5_ i28_ h → X2 (impl_filler_at_e2 p0_ i1_ s5_' i6_ i16_ i17_ i27_ i28_') h') → impl_filler_at_b2 S K X0 X2 p0_ i1_ s5_ i6_ i16_ i17_ i27_ i28_ h) (s5_ : Sl) (i28_ : Int) {h : H} (h0 : I_ s5_ i28_ h) : impl_filler_at_L2 S K X0 p0_ i1_ s5_ i6_ i16_ i17_ i27_ i28_ h :=
  loop_rule (σ := (Sl) × (Int)) (fun s_ => impl_filler_at_e2 p0_ i1_ (s_.1) i6_ i16_ i17_ i27_ (s_.2)) (fun s_ h => I_ (s_.1) (s_.2) h) (fun s_ h => m_ (s_.1) (s_.2) h)
    (fun X s_ h hi hx => (impl_filler_at_link2 S K X0 X p0_ i1_ (s_.1) i6_ i16_ i17_ i27_ (s_.2) h).mpr (hs X (s_.1) (s_.2) h hi fun s5_' i28_' h' hi' hm' => hx (s5_', i28_') h' hi' hm')) (s5_, i28_) h0
theorem impl_filler_at_unroll2 (S : SatT) (K : AVal → H → Prop) (X0 : Frame → H → Prop) (p0_ : Pt) (i1_ : Int) (s5_ : Sl) (i6_ : Int) (i16_ : Int) (i17_ : Int) (i27_ : Int) (i28_ : Int) (h : H) (hb : impl_filler_at_b2 S K X0 (fun fr h => loopK (impl_filler_at_w2 S K X0) fr h) p0_ i1_ s5_ i6_ i16_ i17_ i27_ i28_ h) : impl_filler_at_L2 S K X0 p0_ i1_ s5_ i6_ i16_ i17_ i27_ i28_ h := loop_unroll ((impl_filler_at_link2 S K X0 _ p0_ i1_ s5_ i6_ i16_ i17_ i27_ i28_ h).mpr hb)
def impl_filler_at_C0 (S : SatT) (K : AVal → H → Prop) (s5_ : Sl) (h : H) : Prop :=
 K (.sl s5_) h
def impl_filler_at_b0 (S : SatT) (K : AVal → H → Prop) (X0 : Frame → H → Prop) (p0_ : Pt) (i1_ : Int) (s5_ : Sl) (i16_ : Int) (i17_ : Int) (h : H) : Prop :=
 bif (decide (i17_ < i16_)) then
 nilC (.ptr p0_) (
 isPt p0_ (
 ldS (Pt.add p0_ 6) h fun s0 =>
 ixS s0 1 i1_ fun p1 =>
 ldS p1 h fun s2 =>
 impl_filler_at_L2 S K X0 p0_ i1_ s5_ i17_ i16_ i17_ (s2.len : Int) (0) h))
 else
 impl_filler_at_C0 S K s5_ h
theorem impl_filler_at_link0 (S : SatT) (K : AVal → H → Prop) (X0 : Frame → H → Prop) (p0_ : Pt) (i1_ : Int) (s5_ : Sl) (i16_ : Int) (i17_ : Int) (h : H) : impl_filler_at_w0 S K X0 (impl_filler_at_e0 p0_ i1_ s5_ i16_ i17_) h = impl_filler_at_b0 S K X0 p0_ i1_ s5_ i16_ i17_ h := by kernel_rfl
theorem impl_filler_at_rule0 (S : SatT) (K : AVal → H → Prop) (p0_ : Pt) (i1_ : Int) (i16_ : Int) (I_ : Sl → Int → H → Prop) (m_ : Sl → Int → H → Nat)
    (hs : ∀ (X0 : Frame → H → Prop) (s5_ : Sl) (i17_ : Int) (h : H), I_ s5_ i17_ h → (∀ (s5_' : Sl) (i17_' : Int) (h' : H), I_ s5_' i17_' h' → m_ s5_' i17_' h' < m_ s5_ i17_ h → X0 (impl_filler_at_e0 p0_ i1_ s5_' i16_ i17_') h') → impl_filler_at_b0 S K X0 p0_ i1_ s5_ i16_ i17_ h) (s5_ : Sl) (i17_ : Int) {h : H} (h0 : I_ s5_ i17_ h) : impl_filler_at_L0 S K p0_ i1_ s5_ i16_ i17_ h :=
  loop_rule (σ := (Sl) × (Int)) (fun s_ => impl_filler_at_e0 p0_ i1_ (s_.1) i16_ (s_.2)) (fun s_ h => I_ (s_.1) (s_.2) h) (fun s_ h => m_ (s_.1) (s_.2) h)
    (fun X s_ h hi hx => (impl_filler_at_link0 S K X p0_ i1_ (s_.1) i16_ (s_.2) h).mpr (hs X (s_.1) (s_.2) h hi fun s5_' i17_' h' hi' hm' => hx (s5_', i17_') h' hi' hm')) (s5_, i17_) h0
theorem impl_filler_at_unroll0 (S : SatT) (K : AVal → H → Prop) (p0_ : Pt) (i1_ : Int) (s5_ : Sl) (i16_ : Int) (i17_ : Int) (h : H) (hb : impl_filler_at_b0 S K (fun fr h => loopK (impl_filler_at_w0 S K) fr h) p0_ i1_ s5_ i16_ i17_ h) : impl_filler_at_L0 S K p0_ i1_ s5_ i16_ i17_ h := loop_unroll ((impl_filler_at_link0 S K _ p0_ i1_ s5_ i16_ i17_ h).mpr hb)
def impl_filler_at_main (S : SatT) (K : AVal → H → Prop) (x0 : Pt) (x1 : Int) (h : H) : Prop :=
 newS 0 1 [] h fun s0 h1 =>
 nilC (.ptr x0) (
 isPt x0 (
 isPt (Pt.add x0 0) (
 ldS (Pt.add (Pt.add x0 0) 1) h1 fun s2 =>
 impl_filler_at_L0 S K x0 x1 s0 (s2.len : Int) (0) h1)))
theorem impl_filler_at_main_link (S : SatT) (K : AVal → H → Prop) (x0 : Pt) (x1 : Int) (h : H) : cwp S tab impl_filler_at_M [] (bodyOf Try.f31) (kFun tab Try.f31.results.toList K) (fr0 Try.f31 [.ptr x0, .int .i64 x1]) h = impl_filler_at_main S K x0 x1 h := by kernel_rfl
theorem impl_filler_at_call (x0 : Pt) (x1 : Int) (h : H) (K : Sl → H → Prop) (hm : impl_filler_at_main (Sat Try.prog) (fun v h' => ∃ r, v = .sl r ∧ K r h') x0 x1 h) : callS (Sat Try.prog) i_impl_filler_at [.ptr x0, .int .i64 x1] h K := by
  have := Sat.ex tok mixed impl_filler_at_M Try.func31 (c := bodyOf Try.f31) (by kernel_rfl) (calls_of Try.func31 (c := bodyOf Try.f31) (by kernel_rfl) (by decide)) ((impl_filler_at_main_link _ _ x0 x1 h).mpr hm)
  obtain ⟨v, h2, h3, r, rfl, h4⟩ := this; exact ⟨r, h2, h3, h4⟩

/-! ### loop.example/g01354/laws.markTileS -/
def laws_markTileS_M : Nat → List Nat := fun i => bif i == 2 then [0, 1, 5, 6] else bif i == 0 then [0, 1, 5] else []
def laws_markTileS_ks1 (S : SatT) (K : AVal → H → Prop) : Kont := kSeq (cwp S tab laws_markTileS_M [] (sub [1, 1] (bodyOf Try.f33)) (kFun tab (Try.f33).results.toList K)) (kFun tab (Try.f33).results.toList K)
def laws_markTileS_e0 (s0_ : Sl) (i1_ : Int) (i5_ : Int) : Frame := [.sl s0_, .int .i64 i1_, U, U, U, .int .i64 i5_, U, U, U, U, U, U, U, U, U, U, U, U, U, U, U, U, U, U, U, U]
def laws_markTileS_w0 (S : SatT) (K : AVal → H → Prop) : (Frame → H → Prop) → Frame → H → Prop := fun X fr h => cwp S tab laws_markTileS_M (laws_markTileS_M 0) (sub [1, 0, 1, 0, 0] (bodyOf Try.f33)) (kSeq (fun fr h => X (mask (laws_markTileS_M 0) fr) h) (kBlk 0 (laws_markTileS_ks1 S K))) fr h
def laws_markTileS_L0 (S : SatT) (K : AVal → H → Prop) (s0_ : Sl) (i1_ : Int) (i5_ : Int) (h : H) : Prop := loopK (laws_markTileS_w0 S K) (laws_markTileS_e0 s0_ i1_ i5_) h
def laws_markTileS_ks5 (S : SatT) (K : AVal → H → Prop) (X0 : Frame → H → Prop) : Kont := kSeq (cwp S tab laws_markTileS_M (laws_markTileS_M 0) (sub [1, 0, 1, 0, 0, 1, 1] (bodyOf Try.f33)) (kSeq (fun fr h => X0 (mask (laws_markTileS_M 0) fr) h) (kBlk 0 (laws_markTileS_ks1 S K)))) (kSeq (fun fr h => X0 (mask (laws_markTileS_M 0) fr) h) (kBlk 0 (laws_markTileS_ks1 S K)))
def laws_markTileS_e2 (s0_ : Sl) (i1_ : Int) (i5_ : Int) (i6_ : Int) : Frame := [.sl s0_, .int .i64 i1_, U, U, U, .int .i64 i5_, .int .i64 i6_, U, U, U, U, U, U, U, U, U, U, U, U, U, U, U, U, U, U, U]
def laws_markTileS_w2 (S : SatT) (K : AVal → H → Prop) (X0 : Frame → H → Prop) : (Frame → H → Prop) → Frame → H → Prop := fun X fr h => cwp S tab laws_markTileS_M (laws_markTileS_M 2) (sub [1, 0, 1, 0, 0, 1, 0, 0, 1, 0, 0] (bodyOf Try.f33)) (kSeq (fun fr h => X (mask (laws_markTileS_M 2) fr) h) (kBlk 2 (kBlk 1 (laws_markTileS_ks5 S K X0)))) fr h
def laws_markTileS_L2 (S : SatT) (K : AVal → H → Prop) (X0 : Frame → H → Prop) (s0_ : Sl) (i1_ : Int) (i5_ : Int) (i6_ : Int) (h : H) : Prop := loopK (laws_markTileS_w2 S K X0) (laws_markTileS_e2 s0_ i1_ i5_ i6_) h
def laws_markTileS_C1 (S : SatT) (K : AVal → H → Prop) (X0 : Frame → H → Prop) (s0_ : Sl) (i1_ : Int) (i5_ : Int) (h : H) : Prop :=
 X0 (laws_markTileS_e0 s0_ i1_ (w64 (i5_ + (1)))) h
def laws_markTileS_C2 (S : SatT) (K : AVal → H → Prop) (X0 : Frame → H → Prop) (s0_ : Sl) (i1_ : Int) (i5_ : Int) (h : H) : Prop :=
 laws_markTileS_C1 S K X0 s0_ i1_ i5_ h
def laws_markTileS_b2 (S : SatT) (K : AVal → H → Prop) (X0 : Frame → H → Prop) (X2 : Frame → H → Prop) (s0_ : Sl) (i1_ : Int) (i5_ : Int) (i6_ : Int) (h : H) : Prop :=
 bif (decide (i6_ < (4))) then
 ixS s0_ 4 i5_ fun p0 =>
 ixA p0 4 1 i6_ fun p1 =>
 st1 p1 (.int .i64 i1_) h fun h2 =>
 X2 (laws_markTileS_e2 s0_ (w64 (i1_ + (1))) i5_ (w64 (i6_ + (1)))) h2
 else
 laws_markTileS_C2 S K X0 s0_ i1_ i5_ h
theorem laws_markTileS_link2 (S : SatT) (K : AVal → H → Prop) (X0 : Frame → H → Prop) (X2 : Frame → H → Prop) (s0_ : Sl) (i1_ : Int) (i5_ : Int) (i6_ : Int) (h : H) : laws_markTileS_w2 S K X0 X2 (laws_markTileS_e2 s0_ i1_ i5_ i6_) h = laws_markTileS_b2 S K X0 X2 s0_ i1_ i5_ i6_ h := by kernel_rfl
theorem laws_markTileS_rule2 (S : SatT) (K : AVal → H → Prop) (X0 : Frame → H → Prop) (s0_ : Sl) (i5_ : Int) (I_ : Int → Int → H → Prop) (m_ : Int → Int → H → Nat)
    (hs : ∀ (X2 : Frame → H → Prop) (i1_ : Int) (i6_ : Int) (h : H), I_ i1_ i6_ h → (∀ (i1_' : Int) (i6_' : Int) (h' : H), I_ i1_' i6_' h' → m_ i1_' i6_' h' < m_ i1_ i6_ h → X2 (laws_markTileS_e2 s0_ i1_' i5_ i6_') h') → laws_markTileS_b2 S K X0 X2 s0_ i1_ i5_ i6_ h) (i1_ : Int) (i6_ : Int) {h : H} (h0 : I_ i1_ i6_ h) : laws_markTileS_L2 S K X0 s0_ i1_ i5_ i6_ h :=
  loop_rule (σ := (Int) × (Int)) (fun s_ => laws_markTileS_e2 s0_ (s_.1) i5_ (s_.2)) (fun s_ h => I_ (s_.1) (s_.2) h) (fun s_ h => m_ (s_.1) (s_.2) h)
    (fun X s_ h hi hx => (laws_markTileS_link2 S K X0 X s0_ (s_.1) i5_ (s_.2) h).mpr (hs X (s_.1) (s_.2) h hi fun i1_' i6_' h' hi' hm' => hx (i1_', i6_') h' hi' hm')) (i1_, i6_) h0
theorem laws_markTileS_unroll2 (S : SatT) (K : AVal → H → Prop) (X0 : Frame → H → Prop) (s0_ : Sl) (i1_ : Int) (i5_ : Int) (i6_ : Int) (h : H) (hb : laws_markTileS_b2 S K X0 (fun fr h => loopK (laws_markTileS_w2 S K X0) fr h) s0_ i1_ i5_ i6_ h) : laws_markTileS_L2 S K X0 s0_ i1_ i5_ i6_ h := loop_unroll ((laws_markTileS_link2 S K X0 _ s0_ i1_ i5_ i6_ h).mpr hb)
def laws_markTileS_C0 (S : SatT) (K : AVal → H → Prop) (i1_ : Int) (h : H) : Prop :=
 K (.int .i64 i1_) h
def laws_markTileS_b0 (S : SatT) (K : AVal → H → Prop) (X0 : Frame → H → Prop) (s0_ : Sl) (i1_ : Int) (i5_ : Int) (h : H) : Prop :=
 bif (decide (i5_ < (s0_.len : Int))) then
 laws_markTileS_L2 S K X0 s0_ i1_ i5_ (0) h
 else
 laws_markTileS_C0 S K i1_ h
theorem laws_markTileS_link0 (S : SatT) (K : AVal → H → Prop) (X0 : Frame → H → Prop) (s0_ : Sl) (i1_ : Int) (i5_ : Int) (h : H) : laws_markTileS_w0 S K X0 (laws_markTileS_e0 s0_ i1_ i5_) h = laws_markTileS_b0 S K X0 s0_ i1_ i5_ h := by kernel_rfl
theorem laws_markTileS_rule0 (S : SatT) (K : AVal → H → Prop) (s0_ : Sl) (I_ : Int → Int → H → Prop) (m_ : Int → Int → H → Nat)
    (hs : ∀ (X0 : Frame → H → Prop) (i1_ : Int) (i5_ : Int) (h : H), I_ i1_ i5_ h → (∀ (i1_' : Int) (i5_' : Int) (h' : H), I_ i1_' i5_' h' → m_ i1_' i5_' h' < m_ i1_ i5_ h → X0 (laws_markTileS_e0 s0_ i1_' i5_') h') → laws_markTileS_b0 S K X0 s0_ i1_ i5_ h) (i1_ : Int) (i5_ : Int) {h : H} (h0 : I_ i1_ i5_ h) : laws_markTileS_L0 S K s0_ i1_ i5_ h :=
  loop_rule (σ := (Int) × (Int)) (fun s_ => laws_markTileS_e0 s0_ (s_.1) (s_.2)) (fun s_ h => I_ (s_.1) (s_.2) h) (fun s_ h => m_ (s_.1) (s_.2) h)
    (fun X s_ h hi hx => (laws_markTileS_link0 S K X s0_ (s_.1) (s_.2) h).mpr (hs X (s_.1) (s_.2) h hi fun i1_' i5_' h' hi' hm' => hx (i1_', i5_') h' hi' hm')) (i1_, i5_) h0
theorem laws_markTileS_unroll0 (S : SatT) (K : AVal → H → Prop) (s0_ : Sl) (i1_ : Int) (i5_ : Int) (h : H) (hb : laws_markTileS_b0 S K (fun fr h => loopK (laws_markTileS_w0 S K) fr h) s0_ i1_ i5_ h) : laws_markTileS_L0 S K s0_ i1_ i5_ h := loop_unroll ((laws_markTileS_link0 S K _ s0_ i1_ i5_ h).mpr hb)
def laws_markTileS_main (S : SatT) (K : AVal → H → Prop) (x0 : Sl) (x1 : Int) (h : H) : Prop :=
 laws_markTileS_L0 S K x0 x1 (0) h
theorem laws_markTileS_main_link (S : SatT) (K : AVal → H → Prop) (x0 : Sl) (x1 : Int) (h : H) : cwp S tab laws_markTileS_M [] (bodyOf Try.f33) (kFun tab Try.f33.results.toList K) (fr0 Try.f33 [.sl x0, .int .i64 x1]) h = laws_markTileS_main S K x0 x1 h := by kernel_rfl
theorem laws_markTileS_call (x0 : Sl) (x1 : Int) (h : H) (K : Int → H → Prop) (hm : laws_markTileS_main (Sat Try.prog) (fun v h' => ∃ r, v = .int .i64 r ∧ K r h') x0 x1 h) : callI (Sat Try.prog) .i64 i_laws_markTileS [.sl x0, .int .i64 x1] h K := by
  have := Sat.ex tok mixed laws_markTileS_M Try.func33 (c := bodyOf Try.f33) (by kernel_rfl) (calls_of Try.func33 (c := bodyOf Try.f33) (by kernel_rfl) (by decide)) ((laws_markTileS_main_link _ _ x0 x1 h).mpr hm)
  obtain ⟨v, h2, h3, r, rfl, h4⟩ := this; exact ⟨r, h2, h3, h4⟩

/-! ### loop.example/g01354/impl.IsSet -/
def impl_IsSet_M : Nat → List Nat := fun i => bif i == 0 then [1, 6, 7, 8] else []
def impl_IsSet_ks1 (S : SatT) (K : AVal → H → Prop) : Kont := kSeq (cwp S tab impl_IsSet_M [] (sub [1, 1] (bodyOf Try.f54)) (kFun tab (Try.f54).results.toList K)) (kFun tab (Try.f54).results.toList K)
def impl_IsSet_e0 (p1_ : Pt) (s6_ : Sl) (i7_ : Int) (i8_ : Int) : Frame := [U, .ptr p1_, U, U, U, U, .sl s6_, .int .i64 i7_, .int .i64 i8_, U, U, U, U, U, U, U, U, U, U, U, U, U, U, U, U, U, U, U, U, U, U, U, U, U, U, U, U, U, U, U, U, U, U]
def impl_IsSet_w0 (S : SatT) (K : AVal → H → Prop) : (Frame → H → Prop) → Frame → H → Prop := fun X fr h => cwp S tab impl_IsSet_M (impl_IsSet_M 0) (sub [1, 0, 1, 0, 0] (bodyOf Try.f54)) (kSeq (fun fr h => X (mask (impl_IsSet_M 0) fr) h) (kBlk 0 (impl_IsSet_ks1 S K))) fr h
def impl_IsSet_L0 (S : SatT) (K : AVal → H → Prop) (p1_ : Pt) (s6_ : Sl) (i7_ : Int) (i8_ : Int) (h : H) : Prop := loopK (impl_IsSet_w0 S K) (impl_IsSet_e0 p1_ s6_ i7_ i8_) h
def impl_IsSet_C0 (S : SatT) (K : AVal → H → Prop) (p1_ : Pt) (h : H) : Prop :=
 isPt p1_ (
 ldI .i64 (Pt.add p1_ 0) h fun n0 =>
 callB S i_impl_within [.int .i64 n0, .int .i64 (1), .int .i64 (6)] h fun b2 h1 =>
 bif b2 then
 isPt p1_ (
 ldS (Pt.add p1_ 1) h1 fun s3 =>
 K (.bool (decide ((s3.len : Int) ≤ (16)))) h1)
 else
 K (.bool false) h1)
def impl_IsSet_b0 (S : SatT) (K : AVal → H → Prop) (X0 : Frame → H → Prop) (p1_ : Pt) (s6_ : Sl) (i7_ : Int) (i8_ : Int) (h : H) : Prop :=
 bif (decide (i8_ < i7_)) then
 ixS s6_ 4 i8_ fun p0 =>
 ldA p0 4 h fun cs1 =>
 newO [.int .i64 (0), .int .i64 (0), .int .i64 (0), .int .i64 (0)] h fun p2 h3 =>
 stN p2 4 cs1 h3 fun h4 =>
 ldA p2 4 h4 fun cs5 =>
 isPt p1_ (
 ldI .i64 (Pt.add p1_ 0) h4 fun n6 =>
 callB S i_impl_isTile [.agg cs5, .int .i64 n6] h4 fun b8 h7 =>
 bif (!b8) then
 K (.bool false) h7
 else
 bif (decide (i8_ > (0))) then
 isPt p1_ (
 ldS (Pt.add p1_ 1) h7 fun s9 =>
 ixS s9 4 (w64 (i8_ - (1))) fun p10 =>
 ldA p10 4 h7 fun cs11 =>
 ldA p2 4 h7 fun cs12 =>
 callI S .i64 i_impl_compare [.agg cs11, .agg cs12] h7 fun n14 h13 =>
 bif (decide (n14 ≥ (0))) then
 K (.bool false) h13
 else
 X0 (impl_IsSet_e0 p1_ s6_ i7_ (w64 (i8_ + (1)))) h13)
 else
 X0 (impl_IsSet_e0 p1_ s6_ i7_ (w64 (i8_ + (1)))) h7)
 else
 impl_IsSet_C0 S K p1_ h
theorem impl_IsSet_link0 (S : SatT) (K : AVal → H → Prop) (X0 : Frame → H → Prop) (p1_ : Pt) (s6_ : Sl) (i7_ : Int) (i8_ : Int) (h : H) : impl_IsSet_w0 S K X0 (impl_IsSet_e0 p1_ s6_ i7_ i8_) h = impl_IsSet_b0 S K X0 p1_ s6_ i7_ i8_ h := by kernel_rfl
theorem impl_IsSet_rule0 (S : SatT) (K : AVal → H → Prop) (p1_ : Pt) (s6_ : Sl) (i7_ : Int) (I_ : Int → H → Prop) (m_ : Int → H → Nat)
    (hs : ∀ (X0 : Frame → H → Prop) (i8_ : Int) (h : H), I_ i8_ h → (∀ (i8_' : Int) (h' : H), I_ i8_' h' → m_ i8_' h' < m_ i8_ h → X0 (impl_IsSet_e0 p1_ s6_ i7_ i8_') h') → impl_IsSet_b0 S K X0 p1_ s6_ i7_ i8_ h) (i8_ : Int) {h : H} (h0 : I_ i8_ h) : impl_IsSet_L0 S K p1_ s6_ i7_ i8_ h :=
  loop_rule (σ := (Int)) (fun s_ => impl_IsSet_e0 p1_ s6_ i7_ (s_)) (fun s_ h => I_ (s_) h) (fun s_ h => m_ (s_) h)
    (fun X s_ h hi hx => (impl_IsSet_link0 S K X p1_ s6_ i7_ (s_) h).mpr (hs X (s_) h hi fun i8_' h' hi' hm' => hx (i8_') h' hi' hm')) (i8_) h0
theorem impl_IsSet_unroll0 (S : SatT) (K : AVal → H → Prop) (p1_ : Pt) (s6_ : Sl) (i7_ : Int) (i8_ : Int) (h : H) (hb : impl_IsSet_b0 S K (fun fr h => loopK (impl_IsSet_w0 S K) fr h) p1_ s6_ i7_ i8_ h) : impl_IsSet_L0 S K p1_ s6_ i7_ i8_ h := loop_unroll ((impl_IsSet_link0 S K _ p1_ s6_ i7_ i8_ h).mpr hb)
def impl_IsSet_main (S : SatT) (K : AVal → H → Prop) (x0 : List AVal) (h : H) : Prop :=
 newK 2 x0 h fun p0 h1 =>
 isPt p0 (
 ldS (Pt.add p0 1) h1 fun s2 =>
 impl_IsSet_L0 S K p0 s2 (s2.len : Int) (0) h1)
theorem impl_IsSet_main_link (S : SatT) (K : AVal → H → Prop) (x0 : List AVal) (h : H) : cwp S tab impl_IsSet_M [] (bodyOf Try.f54) (kFun tab Try.f54.results.toList K) (fr0 Try.f54 [.agg x0]) h = impl_IsSet_main S K x0 h := by kernel_rfl
theorem impl_IsSet_call (x0 : List AVal) (h : H) (K : Bool → H → Prop) (hm : impl_IsSet_main (Sat Try.prog) (fun v h' => ∃ r, v = .bool r ∧ K r h') x0 h) : callB (Sat Try.prog) i_impl_IsSet [.agg x0] h K := by
  have := Sat.ex tok mixed impl_IsSet_M Try.func54 (c := bodyOf Try.f54) (by kernel_rfl) (calls_of Try.func54 (c := bodyOf Try.f54) (by kernel_rfl) (by decide)) ((impl_IsSet_main_link _ _ x0 h).mpr hm)
  obtain ⟨v, h2, h3, r, rfl, h4⟩ := this; exact ⟨r, h2, h3, h4⟩

/-! ### loop.example/g01354/laws.heldInt64SS -/
def laws_heldInt64SS_M : Nat → List Nat := fun i => bif i == 0 then [0, 1, 5] else []
def laws_heldInt64SS_ks1 (S : SatT) (K : AVal → H → Prop) : Kont := kSeq (cwp S tab laws_heldInt64SS_M [] (sub [1, 1] (bodyOf Try.f20)) (kFun tab (Try.f20).results.toList K)) (kFun tab (Try.f20).results.toList K)
def laws_heldInt64SS_e0 (s0_ : Sl) (i1_ : Int) (i5_ : Int) : Frame := [.sl s0_, .int .i64 i1_, U, U, U, .int .i64 i5_, U, U, U, U, U, U, U, U, U, U, U, U, U, U, U]
def laws_heldInt64SS_w0 (S : SatT) (K : AVal → H → Prop) : (Frame → H → Prop) → Frame → H → Prop := fun X fr h => cwp S tab laws_heldInt64SS_M (laws_heldInt64SS_M 0) (sub [1, 0, 1, 0, 0] (bodyOf Try.f20)) (kSeq (fun fr h => X (mask (laws_heldInt64SS_M 0) fr) h) (kBlk 0 (laws_heldInt64SS_ks1 S K))) fr h
def laws_heldInt64SS_L0 (S : SatT) (K : AVal → H → Prop) (s0_ : Sl) (i1_ : Int) (i5_ : Int) (h : H) : Prop := loopK (laws_heldInt64SS_w0 S K) (laws_heldInt64SS_e0 s0_ i1_ i5_) h
def laws_heldInt64SS_C0 (S : SatT) (K : AVal → H → Prop) (i1_ : Int) (h : H) : Prop :=
 K (.int .i64 i1_) h
def laws_heldInt64SS_b0 (S : SatT) (K : AVal → H → Prop) (X0 : Frame → H → Prop) (s0_ : Sl) (i1_ : Int) (i5_ : Int) (h : H) : Prop :=
 bif (decide (i5_ < (s0_.len : Int))) then
 ixS s0_ 1 i5_ fun p0 =>
 ldS p0 h fun s1 =>
 callI S .i64 i_laws_heldInt64S [.sl s1, .int .i64 i1_] h fun n3 h2 =>
 bif (decide (n3 < (0))) then
 K (.int .i64 (-1)) h2
 else
 X0 (laws_heldInt64SS_e0 s0_ n3 (w64 (i5_ + (1)))) h2
 else
 laws_heldInt64SS_C0 S K i1_ h
theorem laws_heldInt64SS_link0 (S : SatT) (K : AVal → H → Prop) (X0 : Frame → H → Prop) (s0_ : Sl) (i1_ : Int) (i5_ : Int) (h : H) : laws_heldInt64SS_w0 S K X0 (laws_heldInt64SS_e0 s0_ i1_ i5_) h = laws_heldInt64SS_b0 S K X0 s0_ i1_ i5_ h := by kernel_rfl
theorem laws_heldInt64SS_rule0 (S : SatT) (K : AVal → H → Prop) (s0_ : Sl) (I_ : Int → Int → H → Prop) (m_ : Int → Int → H → Nat)
    (hs : ∀ (X0 : Frame → H → Prop) (i1_ : Int) (i5_ : Int) (h : H), I_ i1_ i5_ h → (∀ (i1_' : Int) (i5_' : Int) (h' : H), I_ i1_' i5_' h' → m_ i1_' i5_' h' < m_ i1_ i5_ h → X0 (laws_heldInt64SS_e0 s0_ i1_' i5_') h') → laws_heldInt64SS_b0 S K X0 s0_ i1_ i5_ h) (i1_ : Int) (i5_ : Int) {h : H} (h0 : I_ i1_ i5_ h) : laws_heldInt64SS_L0 S K s0_ i1_ i5_ h :=
  loop_rule (σ := (Int) × (Int)) (fun s_ => laws_heldInt64SS_e0 s0_ (s_.1) (s_.2)) (fun s_ h => I_ (s_.1) (s_.2) h) (fun s_ h => m_ (s_.1) (s_.2) h)
    (fun X s_ h hi hx => (laws_heldInt64SS_link0 S K X s0_ (s_.1) (s_.2) h).mpr (hs X (s_.1) (s_.2) h hi fun i1_' i5_' h' hi' hm' => hx (i1_', i5_') h' hi' hm')) (i1_, i5_) h0
theorem laws_heldInt64SS_unroll0 (S : SatT) (K : AVal → H → Prop) (s0_ : Sl) (i1_ : Int) (i5_ : Int) (h : H) (hb : laws_heldInt64SS_b0 S K (fun fr h => loopK (laws_heldInt64SS_w0 S K) fr h) s0_ i1_ i5_ h) : laws_heldInt64SS_L0 S K s0_ i1_ i5_ h := loop_unroll ((laws_heldInt64SS_link0 S K _ s0_ i1_ i5_ h).mpr hb)
def laws_heldInt64SS_main (S : SatT) (K : AVal → H → Prop) (x0 : Sl) (x1 : Int) (h : H) : Prop :=
 laws_heldInt64SS_L0 S K x0 x1 (0) h
theorem laws_heldInt64SS_main_link (S : SatT) (K : AVal → H → Prop) (x0 : Sl) (x1 : Int) (h : H) : cwp S tab laws_heldInt64SS_M [] (bodyOf Try.f20) (kFun tab Try.f20.results.toList K) (fr0 Try.f20 [.sl x0, .int .i64 x1]) h = laws_heldInt64SS_main S K x0 x1 h := by kernel_rfl
theorem laws_heldInt64SS_call (x0 : Sl) (x1 : Int) (h : H) (K : Int → H → Prop) (hm : laws_heldInt64SS_main (Sat Try.prog) (fun v h' => ∃ r, v = .int .i64 r ∧ K r h') x0 x1 h) : callI (Sat Try.prog) .i64 i_laws_heldInt64SS [.sl x0, .int .i64 x1] h K := by
  have := Sat.ex tok mixed laws_heldInt64SS_M Try.func20 (c := bodyOf Try.f20) (by kernel_rfl) (calls_of Try.func20 (c := bodyOf Try.f20) (by kernel_rfl) (by decide)) ((laws_heldInt64SS_main_link _ _ x0 x1 h).mpr hm)
  obtain ⟨v, h2, h3, r, rfl, h4⟩ := this; exact ⟨r, h2, h3, h4⟩

/-! ### loop.example/g01354/laws.eqTileS -/
def laws_eqTileS_M : Nat → List Nat := fun i => bif i == 0 then [0, 1, 5] else []
def laws_eqTileS_ks4 (S : SatT) (K : AVal → H → Prop) : Kont := kSeq (cwp S tab laws_eqTileS_M [] (sub [1, 1, 1] (bodyOf Try.f32)) (kFun tab (Try.f32).results.toList K)) (kFun tab (Try.f32).results.toList K)
def laws_eqTileS_e0 (s0_ : Sl) (s1_ : Sl) (i5_ : Int) : Frame := [.sl s0_, .sl s1_, U, U, U, .int .i64 i5_, U, U, U, U, U, U, U, U, U, U, U, U, U, U, U, U, U, U, U, U, U]
def laws_eqTileS_w0 (S : SatT) (K : AVal → H → Prop) : (Frame → H → Prop) → Frame → H → Prop := fun X fr h => cwp S tab laws_eqTileS_M (laws_eqTileS_M 0) (sub [1, 1, 0, 1, 0, 0] (bodyOf Try.f32)) (kSeq (fun fr h => X (mask (laws_eqTileS_M 0) fr) h) (kBlk 0 (laws_eqTileS_ks4 S K))) fr h
def laws_eqTileS_L0 (S : SatT) (K : AVal → H → Prop) (s0_ : Sl) (s1_ : Sl) (i5_ : Int) (h : H) : Prop := loopK (laws_eqTileS_w0 S K) (laws_eqTileS_e0 s0_ s1_ i5_) h
def laws_eqTileS_C0 (S : SatT) (K : AVal → H → Prop) (h : H) : Prop :=
 K (.bool true) h
def laws_eqTileS_b0 (S : SatT) (K : AVal → H → Prop) (X0 : Frame → H → Prop) (s0_ : Sl) (s1_ : Sl) (i5_ : Int) (h : H) : Prop :=
 bif (decide (i5_ < (s0_.len : Int))) then
 ixS s0_ 4 i5_ fun p0 =>
 ldA p0 4 h fun cs1 =>
 ixS s1_ 4 i5_ fun p2 =>
 ldA p2 4 h fun cs3 =>
 callB S i_laws_eqTile [.agg cs1, .agg cs3] h fun b5 h4 =>
 bif (!b5) then
 K (.bool false) h4
 else
 X0 (laws_eqTileS_e0 s0_ s1_ (w64 (i5_ + (1)))) h4
 else
 laws_eqTileS_C0 S K h
theorem laws_eqTileS_link0 (S : SatT) (K : AVal → H → Prop) (X0 : Frame → H → Prop) (s0_ : Sl) (s1_ : Sl) (i5_ : Int) (h : H) : laws_eqTileS_w0 S K X0 (laws_eqTileS_e0 s0_ s1_ i5_) h = laws_eqTileS_b0 S K X0 s0_ s1_ i5_ h := by kernel_rfl
theorem laws_eqTileS_rule0 (S : SatT) (K : AVal → H → Prop) (s0_ : Sl) (s1_ : Sl) (I_ : Int → H → Prop) (m_ : Int → H → Nat)
    (hs : ∀ (X0 : Frame → H → Prop) (i5_ : Int) (h : H), I_ i5_ h → (∀ (i5_' : Int) (h' : H), I_ i5_' h' → m_ i5_' h' < m_ i5_ h → X0 (laws_eqTileS_e0 s0_ s1_ i5_') h') → laws_eqTileS_b0 S K X0 s0_ s1_ i5_ h) (i5_ : Int) {h : H} (h0 : I_ i5_ h) : laws_eqTileS_L0 S K s0_ s1_ i5_ h :=
  loop_rule (σ := (Int)) (fun s_ => laws_eqTileS_e0 s0_ s1_ (s_)) (fun s_ h => I_ (s_) h) (fun s_ h => m_ (s_) h)
    (fun X s_ h hi hx => (laws_eqTileS_link0 S K X s0_ s1_ (s_) h).mpr (hs X (s_) h hi fun i5_' h' hi' hm' => hx (i5_') h' hi' hm')) (i5_) h0
theorem laws_eqTileS_unroll0 (S : SatT) (K : AVal → H → Prop) (s0_ : Sl) (s1_ : Sl) (i5_ : Int) (h : H) (hb : laws_eqTileS_b0 S K (fun fr h => loopK (laws_eqTileS_w0 S K) fr h) s0_ s1_ i5_ h) : laws_eqTileS_L0 S K s0_ s1_ i5_ h := loop_unroll ((laws_eqTileS_link0 S K _ s0_ s1_ i5_ h).mpr hb)
def laws_eqTileS_main (S : SatT) (K : AVal → H → Prop) (x0 : Sl) (x1 : Sl) (h : H) : Prop :=
 bif ((x0.len : Int) != (x1.len : Int)) then
 K (.bool false) h
 else
 laws_eqTileS_L0 S K x0 x1 (0) h
theorem laws_eqTileS_main_link (S : SatT) (K : AVal → H → Prop) (x0 : Sl) (x1 : Sl) (h : H) : cwp S tab laws_eqTileS_M [] (bodyOf Try.f32) (kFun tab Try.f32.results.toList K) (fr0 Try.f32 [.sl x0, .sl x1]) h = laws_eqTileS_main S K x0 x1 h := by kernel_rfl
theorem laws_eqTileS_call (x0 : Sl) (x1 : Sl) (h : H) (K : Bool → H → Prop) (hm : laws_eqTileS_main (Sat Try.prog) (fun v h' => ∃ r, v = .bool r ∧ K r h') x0 x1 h) : callB (Sat Try.prog) i_laws_eqTileS [.sl x0, .sl x1] h K := by
  have := Sat.ex tok mixed laws_eqTileS_M Try.func32 (c := bodyOf Try.f32) (by kernel_rfl) (calls_of Try.func32 (c := bodyOf Try.f32) (by kernel_rfl) (by decide)) ((laws_eqTileS_main_link _ _ x0 x1 h).mpr hm)
  obtain ⟨v, h2, h3, r, rfl, h4⟩ := this; exact ⟨r, h2, h3, h4⟩

/-! ### loop.example/g01354/laws.toInt64SS -/
def laws_toInt64SS_M : Nat → List Nat := fun i => bif i == 0 then [0, 3, 4] else []
def laws_toInt64SS_ks2 (S : SatT) (K : AVal → H → Prop) : Kont := kSeq (cwp S tab laws_toInt64SS_M [] (sub [1, 1, 1] (bodyOf Try.f9)) (kFun tab (Try.f9).results.toList K)) (kFun tab (Try.f9).results.toList K)
def laws_toInt64SS_e0 (s0_ : Sl) (s3_ : Sl) (i4_ : Int) : Frame := [.sl s0_, U, U, .sl s3_, .int .i64 i4_, U, U, U, U, U, U, U, U, U, U, U, U, U, U, U, U, U, U]
def laws_toInt64SS_w0 (S : SatT) (K : AVal → H → Prop) : (Frame → H → Prop) → Frame → H → Prop := fun X fr h => cwp S tab laws_toInt64SS_M (laws_toInt64SS_M 0) (sub [1, 1, 0, 1, 0, 0] (bodyOf Try.f9)) (kSeq (fun fr h => X (mask (laws_toInt64SS_M 0) fr) h) (kBlk 0 (laws_toInt64SS_ks2 S K))) fr h
def laws_toInt64SS_L0 (S : SatT) (K : AVal → H → Prop) (s0_ : Sl) (s3_ : Sl) (i4_ : Int) (h : H) : Prop := loopK (laws_toInt64SS_w0 S K) (laws_toInt64SS_e0 s0_ s3_ i4_) h
def laws_toInt64SS_C0 (S : SatT) (K : AVal → H → Prop) (s3_ : Sl) (h : H) : Prop :=
 K (.sl s3_) h
def laws_toInt64SS_b0 (S : SatT) (K : AVal → H → Prop) (X0 : Frame → H → Prop) (s0_ : Sl) (s3_ : Sl) (i4_ : Int) (h : H) : Prop :=
 bif (decide (i4_ < (s0_.len : Int))) then
 ixS s0_ 1 i4_ fun p0 =>
 ldS p0 h fun s1 =>
 callS S i_laws_toInt64S [.sl s1] h fun s3 h2 =>
 ixS s3_ 1 i4_ fun p4 =>
 st1 p4 (.sl s3) h2 fun h5 =>
 X0 (laws_toInt64SS_e0 s0_ s3_ (w64 (i4_ + (1)))) h5
 else
 laws_toInt64SS_C0 S K s3_ h
theorem laws_toInt64SS_link0 (S : SatT) (K : AVal → H → Prop) (X0 : Frame → H → Prop) (s0_ : Sl) (s3_ : Sl) (i4_ : Int) (h : H) : laws_toInt64SS_w0 S K X0 (laws_toInt64SS_e0 s0_ s3_ i4_) h = laws_toInt64SS_b0 S K X0 s0_ s3_ i4_ h := by kernel_rfl
theorem laws_toInt64SS_rule0 (S : SatT) (K : AVal → H → Prop) (s0_ : Sl) (s3_ : Sl) (I_ : Int → H → Prop) (m_ : Int → H → Nat)
    (hs : ∀ (X0 : Frame → H → Prop) (i4_ : Int) (h : H), I_ i4_ h → (∀ (i4_' : Int) (h' : H), I_ i4_' h' → m_ i4_' h' < m_ i4_ h → X0 (laws_toInt64SS_e0 s0_ s3_ i4_') h') → laws_toInt64SS_b0 S K X0 s0_ s3_ i4_ h) (i4_ : Int) {h : H} (h0 : I_ i4_ h) : laws_toInt64SS_L0 S K s0_ s3_ i4_ h :=
  loop_rule (σ := (Int)) (fun s_ => laws_toInt64SS_e0 s0_ s3_ (s_)) (fun s_ h => I_ (s_) h) (fun s_ h => m_ (s_) h)
    (fun X s_ h hi hx => (laws_toInt64SS_link0 S K X s0_ s3_ (s_) h).mpr (hs X (s_) h hi fun i4_' h' hi' hm' => hx (i4_') h' hi' hm')) (i4_) h0
theorem laws_toInt64SS_unroll0 (S : SatT) (K : AVal → H → Prop) (s0_ : Sl) (s3_ : Sl) (i4_ : Int) (h : H) (hb : laws_toInt64SS_b0 S K (fun fr h => loopK (laws_toInt64SS_w0 S K) fr h) s0_ s3_ i4_ h) : laws_toInt64SS_L0 S K s0_ s3_ i4_ h := loop_unroll ((laws_toInt64SS_link0 S K _ s0_ s3_ i4_ h).mpr hb)
def laws_toInt64SS_main (S : SatT) (K : AVal → H → Prop) (x0 : Sl) (h : H) : Prop :=
 mkS (x0.len : Int) [.sl Sl.nil] h fun s0 h1 =>
 laws_toInt64SS_L0 S K x0 s0 (0) h1
theorem laws_toInt64SS_main_link (S : SatT) (K : AVal → H → Prop) (x0 : Sl) (h : H) : cwp S tab laws_toInt64SS_M [] (bodyOf Try.f9) (kFun tab Try.f9.results.toList K) (fr0 Try.f9 [.sl x0]) h = laws_toInt64SS_main S K x0 h := by kernel_rfl
theorem laws_toInt64SS_call (x0 : Sl) (h : H) (K : Sl → H → Prop) (hm : laws_toInt64SS_main (Sat Try.prog) (fun v h' => ∃ r, v = .sl r ∧ K r h') x0 h) : callS (Sat Try.prog) i_laws_toInt64SS [.sl x0] h K := by
  have := Sat.ex tok mixed laws_toInt64SS_M Try.func9 (c := bodyOf Try.f9) (by kernel_rfl) (calls_of Try.func9 (c := bodyOf Try.f9) (by kernel_rfl) (by decide)) ((laws_toInt64SS_main_link _ _ x0 h).mpr hm)
  obtain ⟨v, h2, h3, r, rfl, h4⟩ := this; exact ⟨r, h2, h3, h4⟩

end Go.Proofs.Ytgeakkmpohjohaa.Cl
