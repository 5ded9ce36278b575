/- Typed forms of functions of the program, and their links. Printed by program. No claim is stated here. -/
import Derived.Test.YtfmjjpophipfbaaGTab
set_option linter.unusedVariables false
namespace Go.Proofs.Ytfmjjpophipfbaa.Cl
open Go
/-! ### (loop.example/g01354/impl.Set).tori$1 -/
def impl_Set_tori_1_M : Nat → List Nat := fun i => bif i == 2 then [0, 1, 2, 3, 5, 6, 11, 12, 48, 49, 50] else bif i == 0 then [1, 3, 4, 9, 20, 21] else []
def impl_Set_tori_1_ks1 (S : SatT) (K : AVal → H → Prop) : Kont := kSeq (cwp S tab impl_Set_tori_1_M [] (sub [1, 1] (bodyOf Try.f115)) (kFun tab (Try.f115).results.toList K)) (kFun tab (Try.f115).results.toList K)
def impl_Set_tori_1_ks4 (S : SatT) (K : AVal → H → Prop) : Kont := kSeq (cwp S tab impl_Set_tori_1_M [] (sub [1, 0, 1, 0, 1, 1] (bodyOf Try.f115)) (impl_Set_tori_1_ks1 S K)) (impl_Set_tori_1_ks1 S K)
def impl_Set_tori_1_e0 (p1_ : Pt) (p3_ : Pt) (p4_ : Pt) (s9_ : Sl) (i20_ : Int) (i21_ : Int) : Frame := [U, .ptr p1_, U, .ptr p3_, .ptr p4_, U, U, U, U, .sl s9_, U, U, U, U, U, U, U, U, U, U, .int .i64 i20_, .int .i64 i21_, U, U, U, U, U, U, U, U, U, U, U, U, U, U, U, U, U, U, U, U, U, U, U, U, U, U, U, U, U, U, U, U, U, U, U, U, U, U, U, U, U, U, U, U, U, U, U, U, U, U, U, U, U, U, U, U, U, U, U, U, U, U, U, U, U, U, U, U, U, U, U, U, U, U, U, U, U, U, U, U, U, U, U, U, U, U, U, U, U, U, U, U, U, U, U, U, U, U, U, U, U, U, U, U, U, U, U, U, U, U, U, U, U, U, U, U, U, U, U, U]
def impl_Set_tori_1_w0 (S : SatT) (K : AVal → H → Prop) : (Frame → H → Prop) → Frame → H → Prop := fun X fr h => cwp S tab impl_Set_tori_1_M (impl_Set_tori_1_M 0) (sub [1, 0, 1, 0, 1, 0, 1, 0, 0] (bodyOf Try.f115)) (kSeq (fun fr h => X (mask (impl_Set_tori_1_M 0) fr) h) (kBlk 0 (impl_Set_tori_1_ks4 S K))) fr h
def impl_Set_tori_1_L0 (S : SatT) (K : AVal → H → Prop) (p1_ : Pt) (p3_ : Pt) (p4_ : Pt) (s9_ : Sl) (i20_ : Int) (i21_ : Int) (h : H) : Prop := loopK (impl_Set_tori_1_w0 S K) (impl_Set_tori_1_e0 p1_ p3_ p4_ s9_ i20_ i21_) h
def impl_Set_tori_1_C1004 (S : SatT) (K : AVal → H → Prop) (p4_ : Pt) (s9_ : Sl) (h : H) : Prop :=
 ldV p4_ h fun v0 =>
 viaF v0 [.sl s9_] fun g1 ys2 =>
 callB S g1 ys2 h fun b4 h3 =>
 K (.bool b4) h3
def impl_Set_tori_1_b0 (S : SatT) (K : AVal → H → Prop) (X0 : Frame → H → Prop) (p1_ : Pt) (p3_ : Pt) (p4_ : Pt) (s9_ : Sl) (i20_ : Int) (i21_ : Int) (h : H) : Prop :=
 bif (decide (i21_ < i20_)) then
 ldS p1_ h fun s0 =>
 ldI .i64 p3_ h fun n1 =>
 ldI .i64 p3_ h fun n2 =>
 cut s0 1 (w64 (i21_ * n1)) (w64 ((w64 (i21_ + (1))) * n2)) h fun s3 =>
 callS S i_slices_Clone_s_int64_int64_ [.sl s3] h fun s5 h4 =>
 newS 1 1 [.sl s5] h4 fun s6 h7 =>
 app s9_ s6 1 h7 fun s8 h9 =>
 X0 (impl_Set_tori_1_e0 p1_ p3_ p4_ s8 i20_ (w64 (i21_ + (1)))) h9
 else
 impl_Set_tori_1_C1004 S K p4_ s9_ h
theorem impl_Set_tori_1_link0 (S : SatT) (K : AVal → H → Prop) (X0 : Frame → H → Prop) (p1_ : Pt) (p3_ : Pt) (p4_ : Pt) (s9_ : Sl) (i20_ : Int) (i21_ : Int) (h : H) : impl_Set_tori_1_w0 S K X0 (impl_Set_tori_1_e0 p1_ p3_ p4_ s9_ i20_ i21_) h = impl_Set_tori_1_b0 S K X0 p1_ p3_ p4_ s9_ i20_ i21_ h := by kernel_rfl
theorem impl_Set_tori_1_rule0 (S : SatT) (K : AVal → H → Prop) (p1_ : Pt) (p3_ : Pt) (p4_ : Pt) (i20_ : Int) (I_ : Sl → Int → H → Prop) (m_ : Sl → Int → H → Nat)
    (hs : ∀ (X0 : Frame → H → Prop) (s9_ : Sl) (i21_ : Int) (h : H), I_ s9_ i21_ h → (∀ (s9_' : Sl) (i21_' : Int) (h' : H), I_ s9_' i21_' h' → m_ s9_' i21_' h' < m_ s9_ i21_ h → X0 (impl_Set_tori_1_e0 p1_ p3_ p4_ s9_' i20_ i21_') h') → impl_Set_tori_1_b0 S K X0 p1_ p3_ p4_ s9_ i20_ i21_ h) (s9_ : Sl) (i21_ : Int) {h : H} (h0 : I_ s9_ i21_ h) : impl_Set_tori_1_L0 S K p1_ p3_ p4_ s9_ i20_ i21_ h :=
  loop_rule (σ := (Sl) × (Int)) (fun s_ => impl_Set_tori_1_e0 p1_ p3_ p4_ (s_.1) i20_ (s_.2)) (fun s_ h => I_ (s_.1) (s_.2) h) (fun s_ h => m_ (s_.1) (s_.2) h)
    (fun X s_ h hi hx => (impl_Set_tori_1_link0 S K X p1_ p3_ p4_ (s_.1) i20_ (s_.2) h).mpr (hs X (s_.1) (s_.2) h hi fun s9_' i21_' h' hi' hm' => hx (s9_', i21_') h' hi' hm')) (s9_, i21_) h0
theorem impl_Set_tori_1_unroll0 (S : SatT) (K : AVal → H → Prop) (p1_ : Pt) (p3_ : Pt) (p4_ : Pt) (s9_ : Sl) (i20_ : Int) (i21_ : Int) (h : H) (hb : impl_Set_tori_1_b0 S K (fun fr h => loopK (impl_Set_tori_1_w0 S K) fr h) p1_ p3_ p4_ s9_ i20_ i21_ h) : impl_Set_tori_1_L0 S K p1_ p3_ p4_ s9_ i20_ i21_ h := loop_unroll ((impl_Set_tori_1_link0 S K _ p1_ p3_ p4_ s9_ i20_ i21_ h).mpr hb)
def impl_Set_tori_1_ks12 (S : SatT) (K : AVal → H → Prop) : Kont := kSeq (cwp S tab impl_Set_tori_1_M [] (sub [1, 1, 1, 1] (bodyOf Try.f115)) (kFun tab (Try.f115).results.toList K)) (kFun tab (Try.f115).results.toList K)
def impl_Set_tori_1_e2 (i0_ : Int) (p1_ : Pt) (p2_ : Pt) (p3_ : Pt) (p5_ : Pt) (p6_ : Pt) (i11_ : Int) (i12_ : Int) (s48_ : Sl) (i49_ : Int) (i50_ : Int) : Frame := [.int .i64 i0_, .ptr p1_, .ptr p2_, .ptr p3_, U, .ptr p5_, .ptr p6_, U, U, U, U, .int .i64 i11_, .int .i64 i12_, U, U, U, U, U, U, U, U, U, U, U, U, U, U, U, U, U, U, U, U, U, U, U, U, U, U, U, U, U, U, U, U, U, U, U, .sl s48_, .int .i64 i49_, .int .i64 i50_, U, U, U, U, U, U, U, U, U, U, U, U, U, U, U, U, U, U, U, U, U, U, U, U, U, U, U, U, U, U, U, U, U, U, U, U, U, U, U, U, U, U, U, U, U, U, U, U, U, U, U, U, U, U, U, U, U, U, U, U, U, U, U, U, U, U, U, U, U, U, U, U, U, U, U, U, U, U, U, U, U, U, U, U, U, U, U, U, U, U, U]
def impl_Set_tori_1_w2 (S : SatT) (K : AVal → H → Prop) : (Frame → H → Prop) → Frame → H → Prop := fun X fr h => cwp S tab impl_Set_tori_1_M (impl_Set_tori_1_M 2) (sub [1, 1, 1, 0, 1, 0, 0] (bodyOf Try.f115)) (kSeq (fun fr h => X (mask (impl_Set_tori_1_M 2) fr) h) (kBlk 2 (impl_Set_tori_1_ks12 S K))) fr h
def impl_Set_tori_1_L2 (S : SatT) (K : AVal → H → Prop) (i0_ : Int) (p1_ : Pt) (p2_ : Pt) (p3_ : Pt) (p5_ : Pt) (p6_ : Pt) (i11_ : Int) (i12_ : Int) (s48_ : Sl) (i49_ : Int) (i50_ : Int) (h : H) : Prop := loopK (impl_Set_tori_1_w2 S K) (impl_Set_tori_1_e2 i0_ p1_ p2_ p3_ p5_ p6_ i11_ i12_ s48_ i49_ i50_) h
def impl_Set_tori_1_C1016 (S : SatT) (K : AVal → H → Prop) (X2 : Frame → H → Prop) (i0_ : Int) (p1_ : Pt) (p2_ : Pt) (p3_ : Pt) (p5_ : Pt) (p6_ : Pt) (i11_ : Int) (i12_ : Int) (s48_ : Sl) (i49_ : Int) (i50_ : Int) (h : H) : Prop :=
 X2 (impl_Set_tori_1_e2 i0_ p1_ p2_ p3_ p5_ p6_ i11_ i12_ s48_ i49_ (w64 (i50_ + (1)))) h
def impl_Set_tori_1_C4 (S : SatT) (K : AVal → H → Prop) (X2 : Frame → H → Prop) (i0_ : Int) (p1_ : Pt) (p2_ : Pt) (p3_ : Pt) (p5_ : Pt) (p6_ : Pt) (i11_ : Int) (i12_ : Int) (s48_ : Sl) (i49_ : Int) (i50_ : Int) (h : H) : Prop :=
 impl_Set_tori_1_C1016 S K X2 i0_ p1_ p2_ p3_ p5_ p6_ i11_ i12_ s48_ i49_ i50_ h
def impl_Set_tori_1_C1022 (S : SatT) (K : AVal → H → Prop) (X2 : Frame → H → Prop) (i0_ : Int) (p1_ : Pt) (p2_ : Pt) (p3_ : Pt) (p5_ : Pt) (p6_ : Pt) (i11_ : Int) (i12_ : Int) (s48_ : Sl) (i49_ : Int) (i50_ : Int) (b122_ : Bool) (h : H) : Prop :=
 bif b122_ then
 impl_Set_tori_1_C4 S K X2 i0_ p1_ p2_ p3_ p5_ p6_ i11_ i12_ s48_ i49_ i50_ h
 else
 ldV p6_ h fun v0 =>
 viaF v0 [.int .i64 (w64 (i0_ + (1)))] fun g1 ys2 =>
 callB S g1 ys2 h fun b4 h3 =>
 bif (!b4) then
 K (.bool false) h3
 else
 impl_Set_tori_1_C4 S K X2 i0_ p1_ p2_ p3_ p5_ p6_ i11_ i12_ s48_ i49_ i50_ h3
def impl_Set_tori_1_C1021 (S : SatT) (K : AVal → H → Prop) (X2 : Frame → H → Prop) (i0_ : Int) (p1_ : Pt) (p2_ : Pt) (p3_ : Pt) (p5_ : Pt) (p6_ : Pt) (i11_ : Int) (i12_ : Int) (p14_ : Pt) (s48_ : Sl) (i49_ : Int) (i50_ : Int) (b103_ : Bool) (h : H) : Prop :=
 bif b103_ then
 impl_Set_tori_1_C4 S K X2 i0_ p1_ p2_ p3_ p5_ p6_ i11_ i12_ s48_ i49_ i50_ h
 else
 ldI .i64 p2_ h fun n0 =>
 bif (i11_ == (w64 (n0 - (1)))) then
 isPt p5_ (
 ldS (Pt.add p5_ 1) h fun s1 =>
 ldS p1_ h fun s2 =>
 ixS s2 1 i12_ fun p3 =>
 ldI .i64 p3 h fun n4 =>
 ixS s1 4 n4 fun p5 =>
 ixA p5 4 1 (1) fun p6 =>
 ldI .i64 p6 h fun n7 =>
 ixA p14_ 4 1 (3) fun p8 =>
 ldI .i64 p8 h fun n9 =>
 impl_Set_tori_1_C1022 S K X2 i0_ p1_ p2_ p3_ p5_ p6_ i11_ i12_ s48_ i49_ i50_ (n7 != n9) h)
 else
 impl_Set_tori_1_C1022 S K X2 i0_ p1_ p2_ p3_ p5_ p6_ i11_ i12_ s48_ i49_ i50_ false h
def impl_Set_tori_1_C1020 (S : SatT) (K : AVal → H → Prop) (X2 : Frame → H → Prop) (i0_ : Int) (p1_ : Pt) (p2_ : Pt) (p3_ : Pt) (p5_ : Pt) (p6_ : Pt) (i11_ : Int) (i12_ : Int) (p14_ : Pt) (s48_ : Sl) (i49_ : Int) (i50_ : Int) (b82_ : Bool) (h : H) : Prop :=
 bif b82_ then
 impl_Set_tori_1_C4 S K X2 i0_ p1_ p2_ p3_ p5_ p6_ i11_ i12_ s48_ i49_ i50_ h
 else
 bif (decide (i11_ > (0))) then
 isPt p5_ (
 ldS (Pt.add p5_ 1) h fun s0 =>
 ldS p1_ h fun s1 =>
 ldI .i64 p3_ h fun n2 =>
 ixS s1 1 (w64 (i0_ - n2)) fun p3 =>
 ldI .i64 p3 h fun n4 =>
 ixS s0 4 n4 fun p5 =>
 ixA p5 4 1 (3) fun p6 =>
 ldI .i64 p6 h fun n7 =>
 ixA p14_ 4 1 (1) fun p8 =>
 ldI .i64 p8 h fun n9 =>
 impl_Set_tori_1_C1021 S K X2 i0_ p1_ p2_ p3_ p5_ p6_ i11_ i12_ p14_ s48_ i49_ i50_ (n7 != n9) h)
 else
 impl_Set_tori_1_C1021 S K X2 i0_ p1_ p2_ p3_ p5_ p6_ i11_ i12_ p14_ s48_ i49_ i50_ false h
def impl_Set_tori_1_C1019 (S : SatT) (K : AVal → H → Prop) (X2 : Frame → H → Prop) (i0_ : Int) (p1_ : Pt) (p2_ : Pt) (p3_ : Pt) (p5_ : Pt) (p6_ : Pt) (i11_ : Int) (i12_ : Int) (p14_ : Pt) (s48_ : Sl) (i49_ : Int) (i50_ : Int) (b64_ : Bool) (h : H) : Prop :=
 bif b64_ then
 impl_Set_tori_1_C4 S K X2 i0_ p1_ p2_ p3_ p5_ p6_ i11_ i12_ s48_ i49_ i50_ h
 else
 ldI .i64 p3_ h fun n0 =>
 bif (i12_ == (w64 (n0 - (1)))) then
 isPt p5_ (
 ldS (Pt.add p5_ 1) h fun s1 =>
 ldS p1_ h fun s2 =>
 ldI .i64 p3_ h fun n3 =>
 ixS s2 1 (w64 (i11_ * n3)) fun p4 =>
 ldI .i64 p4 h fun n5 =>
 ixS s1 4 n5 fun p6 =>
 ixA p6 4 1 (0) fun p7 =>
 ldI .i64 p7 h fun n8 =>
 ixA p14_ 4 1 (2) fun p9 =>
 ldI .i64 p9 h fun n10 =>
 impl_Set_tori_1_C1020 S K X2 i0_ p1_ p2_ p3_ p5_ p6_ i11_ i12_ p14_ s48_ i49_ i50_ (n8 != n10) h)
 else
 impl_Set_tori_1_C1020 S K X2 i0_ p1_ p2_ p3_ p5_ p6_ i11_ i12_ p14_ s48_ i49_ i50_ false h
def impl_Set_tori_1_C1012 (S : SatT) (K : AVal → H → Prop) (h : H) : Prop :=
 K (.bool true) h
def impl_Set_tori_1_b2 (S : SatT) (K : AVal → H → Prop) (X2 : Frame → H → Prop) (i0_ : Int) (p1_ : Pt) (p2_ : Pt) (p3_ : Pt) (p5_ : Pt) (p6_ : Pt) (i11_ : Int) (i12_ : Int) (s48_ : Sl) (i49_ : Int) (i50_ : Int) (h : H) : Prop :=
 bif (decide (i50_ < i49_)) then
 ixS s48_ 4 i50_ fun p0 =>
 ldA p0 4 h fun cs1 =>
 newO [.int .i64 (0), .int .i64 (0), .int .i64 (0), .int .i64 (0)] h fun p2 h3 =>
 stN p2 4 cs1 h3 fun h4 =>
 ldS p1_ h4 fun s5 =>
 ixS s5 1 i0_ fun p6 =>
 st1 p6 (.int .i64 i50_) h4 fun h7 =>
 bif (decide (i12_ > (0))) then
 isPt p5_ (
 ldS (Pt.add p5_ 1) h7 fun s8 =>
 ldS p1_ h7 fun s9 =>
 ixS s9 1 (w64 (i0_ - (1))) fun p10 =>
 ldI .i64 p10 h7 fun n11 =>
 ixS s8 4 n11 fun p12 =>
 ixA p12 4 1 (2) fun p13 =>
 ldI .i64 p13 h7 fun n14 =>
 ixA p2 4 1 (0) fun p15 =>
 ldI .i64 p15 h7 fun n16 =>
 impl_Set_tori_1_C1019 S K X2 i0_ p1_ p2_ p3_ p5_ p6_ i11_ i12_ p2 s48_ i49_ i50_ (n14 != n16) h7)
 else
 impl_Set_tori_1_C1019 S K X2 i0_ p1_ p2_ p3_ p5_ p6_ i11_ i12_ p2 s48_ i49_ i50_ false h7
 else
 impl_Set_tori_1_C1012 S K h
theorem impl_Set_tori_1_link2 (S : SatT) (K : AVal → H → Prop) (X2 : Frame → H → Prop) (i0_ : Int) (p1_ : Pt) (p2_ : Pt) (p3_ : Pt) (p5_ : Pt) (p6_ : Pt) (i11_ : Int) (i12_ : Int) (s48_ : Sl) (i49_ : Int) (i50_ : Int) (h : H) : impl_Set_tori_1_w2 S K X2 (impl_Set_tori_1_e2 i0_ p1_ p2_ p3_ p5_ p6_ i11_ i12_ s48_ i49_ i50_) h = impl_Set_tori_1_b2 S K X2 i0_ p1_ p2_ p3_ p5_ p6_ i11_ i12_ s48_ i49_ i50_ h := by kernel_rfl
theorem impl_Set_tori_1_rule2 (S : SatT) (K : AVal → H → Prop) (i0_ : Int) (p1_ : Pt) (p2_ : Pt) (p3_ : Pt) (p5_ : Pt) (p6_ : Pt) (i11_ : Int) (i12_ : Int) (s48_ : Sl) (i49_ : Int) (I_ : Int → H → Prop) (m_ : Int → H → Nat)
    (hs : ∀ (X2 : Frame → H → Prop) (i50_ : Int) (h : H), I_ i50_ h → (∀ (i50_' : Int) (h' : H), I_ i50_' h' → m_ i50_' h' < m_ i50_ h → X2 (impl_Set_tori_1_e2 i0_ p1_ p2_ p3_ p5_ p6_ i11_ i12_ s48_ i49_ i50_') h') → impl_Set_tori_1_b2 S K X2 i0_ p1_ p2_ p3_ p5_ p6_ i11_ i12_ s48_ i49_ i50_ h) (i50_ : Int) {h : H} (h0 : I_ i50_ h) : impl_Set_tori_1_L2 S K i0_ p1_ p2_ p3_ p5_ p6_ i11_ i12_ s48_ i49_ i50_ h :=
  loop_rule (σ := (Int)) (fun s_ => impl_Set_tori_1_e2 i0_ p1_ p2_ p3_ p5_ p6_ i11_ i12_ s48_ i49_ (s_)) (fun s_ h => I_ (s_) h) (fun s_ h => m_ (s_) h)
    (fun X s_ h hi hx => (impl_Set_tori_1_link2 S K X i0_ p1_ p2_ p3_ p5_ p6_ i11_ i12_ s48_ i49_ (s_) h).mpr (hs X (s_) h hi fun i50_' h' hi' hm' => hx (i50_') h' hi' hm')) (i50_) h0
theorem impl_Set_tori_1_unroll2 (S : SatT) (K : AVal → H → Prop) (i0_ : Int) (p1_ : Pt) (p2_ : Pt) (p3_ : Pt) (p5_ : Pt) (p6_ : Pt) (i11_ : Int) (i12_ : Int) (s48_ : Sl) (i49_ : Int) (i50_ : Int) (h : H) (hb : impl_Set_tori_1_b2 S K (fun fr h => loopK (impl_Set_tori_1_w2 S K) fr h) i0_ p1_ p2_ p3_ p5_ p6_ i11_ i12_ s48_ i49_ i50_ h) : impl_Set_tori_1_L2 S K i0_ p1_ p2_ p3_ p5_ p6_ i11_ i12_ s48_ i49_ i50_ h := loop_unroll ((impl_Set_tori_1_link2 S K _ i0_ p1_ p2_ p3_ p5_ p6_ i11_ i12_ s48_ i49_ i50_ h).mpr hb)
def impl_Set_tori_1_main (S : SatT) (K : AVal → H → Prop) (x0 : Int) (x1 : Pt) (x2 : Pt) (x3 : Pt) (x4 : Pt) (x5 : Pt) (x6 : Pt) (h : H) : Prop :=
 ldS x1 h fun s0 =>
 bif (x0 == (s0.len : Int)) then
 newS 0 1 [] h fun s1 h2 =>
 ldI .i64 x2 h2 fun n3 =>
 impl_Set_tori_1_L0 S K x1 x3 x4 s1 n3 (0) h2
 else
 ldI .i64 x3 h fun n4 =>
 nz n4 (
 ldI .i64 x3 h fun n5 =>
 nz n5 (
 isPt x5 (
 ldS (Pt.add x5 1) h fun s6 =>
 impl_Set_tori_1_L2 S K x0 x1 x2 x3 x5 x6 (w64 (Int.tdiv x0 n4)) (Int.tmod x0 n5) s6 (s6.len : Int) (0) h)))
theorem impl_Set_tori_1_main_link (S : SatT) (K : AVal → H → Prop) (x0 : Int) (x1 : Pt) (x2 : Pt) (x3 : Pt) (x4 : Pt) (x5 : Pt) (x6 : Pt) (h : H) : cwp S tab impl_Set_tori_1_M [] (bodyOf Try.f115) (kFun tab Try.f115.results.toList K) (fr0 Try.f115 [.int .i64 x0, .ptr x1, .ptr x2, .ptr x3, .ptr x4, .ptr x5, .ptr x6]) h = impl_Set_tori_1_main S K x0 x1 x2 x3 x4 x5 x6 h := by kernel_rfl
theorem impl_Set_tori_1_call (x0 : Int) (x1 : Pt) (x2 : Pt) (x3 : Pt) (x4 : Pt) (x5 : Pt) (x6 : Pt) (h : H) (K : Bool → H → Prop) (hm : impl_Set_tori_1_main (Sat Try.prog) (fun v h' => ∃ r, v = .bool r ∧ K r h') x0 x1 x2 x3 x4 x5 x6 h) : callB (Sat Try.prog) i_impl_Set_tori_1 [.int .i64 x0, .ptr x1, .ptr x2, .ptr x3, .ptr x4, .ptr x5, .ptr x6] h K := by
  have := Sat.ex tok mixed impl_Set_tori_1_M Try.func115 (c := bodyOf Try.f115) (by kernel_rfl) (calls_of Try.func115 (c := bodyOf Try.f115) (by kernel_rfl) (by decide)) ((impl_Set_tori_1_main_link _ _ x0 x1 x2 x3 x4 x5 x6 h).mpr hm)
  obtain ⟨v, h2, h3, r, rfl, h4⟩ := this; exact ⟨r, h2, h3, h4⟩

/-! ### loop.example/g01354/spec.l05Shift -/
def spec_l05Shift_M : Nat → List Nat := fun i => bif i == 2 then [0, 1, 2, 7, 8, 9, 10, 11, 12] else bif i == 0 then [0, 1, 2, 7, 8, 9, 10] else []
def spec_l05Shift_ks2 (S : SatT) (K : AVal → H → Prop) : Kont := kSeq (cwp S tab spec_l05Shift_M [] (sub [1, 1, 1] (bodyOf Try.f94)) (kFun tab (Try.f94).results.toList K)) (kFun tab (Try.f94).results.toList K)
def spec_l05Shift_e0 (s0_ : Sl) (i1_ : Int) (i2_ : Int) (i7_ : Int) (i8_ : Int) (s9_ : Sl) (i10_ : Int) : Frame := [.sl s0_, .int .i64 i1_, .int .i64 i2_, U, U, U, U, .int .i64 i7_, .int .i64 i8_, .sl s9_, .int .i64 i10_, U, U, U, U, U, U, U, U, U, U, U, U, U, U, U, U, U, U, U, U, U, U, U, U, U, U, U, U, U, U, U, U, U, U, U, U, U, U, U, U, U, U, U]
def spec_l05Shift_w0 (S : SatT) (K : AVal → H → Prop) : (Frame → H → Prop) → Frame → H → Prop := fun X fr h => cwp S tab spec_l05Shift_M (spec_l05Shift_M 0) (sub [1, 1, 0, 1, 0, 0] (bodyOf Try.f94)) (kSeq (fun fr h => X (mask (spec_l05Shift_M 0) fr) h) (kBlk 0 (spec_l05Shift_ks2 S K))) fr h
def spec_l05Shift_L0 (S : SatT) (K : AVal → H → Prop) (s0_ : Sl) (i1_ : Int) (i2_ : Int) (i7_ : Int) (i8_ : Int) (s9_ : Sl) (i10_ : Int) (h : H) : Prop := loopK (spec_l05Shift_w0 S K) (spec_l05Shift_e0 s0_ i1_ i2_ i7_ i8_ s9_ i10_) h
def spec_l05Shift_ks6 (S : SatT) (K : AVal → H → Prop) (X0 : Frame → H → Prop) : Kont := kSeq (cwp S tab spec_l05Shift_M (spec_l05Shift_M 0) (sub [1, 1, 0, 1, 0, 0, 1, 1] (bodyOf Try.f94)) (kSeq (fun fr h => X0 (mask (spec_l05Shift_M 0) fr) h) (kBlk 0 (spec_l05Shift_ks2 S K)))) (kSeq (fun fr h => X0 (mask (spec_l05Shift_M 0) fr) h) (kBlk 0 (spec_l05Shift_ks2 S K)))
def spec_l05Shift_ks8 (S : SatT) (K : AVal → H → Prop) (X0 : Frame → H → Prop) : Kont := kSeq (cwp S tab spec_l05Shift_M (spec_l05Shift_M 1) (sub [1, 1, 0, 1, 0, 0, 1, 0, 0, 1, 1] (bodyOf Try.f94)) (kBlk 1 (spec_l05Shift_ks6 S K X0))) (kBlk 1 (spec_l05Shift_ks6 S K X0))
def spec_l05Shift_e2 (s0_ : Sl) (i1_ : Int) (i2_ : Int) (i7_ : Int) (i8_ : Int) (s9_ : Sl) (i10_ : Int) (s11_ : Sl) (i12_ : Int) : Frame := [.sl s0_, .int .i64 i1_, .int .i64 i2_, U, U, U, U, .int .i64 i7_, .int .i64 i8_, .sl s9_, .int .i64 i10_, .sl s11_, .int .i64 i12_, U, U, U, U, U, U, U, U, U, U, U, U, U, U, U, U, U, U, U, U, U, U, U, U, U, U, U, U, U, U, U, U, U, U, U, U, U, U, U, U, U]
def spec_l05Shift_w2 (S : SatT) (K : AVal → H → Prop) (X0 : Frame → H → Prop) : (Frame → H → Prop) → Frame → H → Prop := fun X fr h => cwp S tab spec_l05Shift_M (spec_l05Shift_M 2) (sub [1, 1, 0, 1, 0, 0, 1, 0, 0, 1, 0, 1, 0, 0] (bodyOf Try.f94)) (kSeq (fun fr h => X (mask (spec_l05Shift_M 2) fr) h) (kBlk 2 (spec_l05Shift_ks8 S K X0))) fr h
def spec_l05Shift_L2 (S : SatT) (K : AVal → H → Prop) (X0 : Frame → H → Prop) (s0_ : Sl) (i1_ : Int) (i2_ : Int) (i7_ : Int) (i8_ : Int) (s9_ : Sl) (i10_ : Int) (s11_ : Sl) (i12_ : Int) (h : H) : Prop := loopK (spec_l05Shift_w2 S K X0) (spec_l05Shift_e2 s0_ i1_ i2_ i7_ i8_ s9_ i10_ s11_ i12_) h
def spec_l05Shift_C1 (S : SatT) (K : AVal → H → Prop) (X0 : Frame → H → Prop) (s0_ : Sl) (i1_ : Int) (i2_ : Int) (i7_ : Int) (i8_ : Int) (s9_ : Sl) (i10_ : Int) (h : H) : Prop :=
 X0 (spec_l05Shift_e0 s0_ i1_ i2_ i7_ i8_ s9_ (w64 (i10_ + (1)))) h
def spec_l05Shift_C2 (S : SatT) (K : AVal → H → Prop) (X0 : Frame → H → Prop) (s0_ : Sl) (i1_ : Int) (i2_ : Int) (i7_ : Int) (i8_ : Int) (s9_ : Sl) (i10_ : Int) (s11_ : Sl) (h : H) : Prop :=
 newS 1 1 [.sl s11_] h fun s0 h1 =>
 app s9_ s0 1 h1 fun s2 h3 =>
 spec_l05Shift_C1 S K X0 s0_ i1_ i2_ i7_ i8_ s2 i10_ h3
def spec_l05Shift_b2 (S : SatT) (K : AVal → H → Prop) (X0 : Frame → H → Prop) (X2 : Frame → H → Prop) (s0_ : Sl) (i1_ : Int) (i2_ : Int) (i7_ : Int) (i8_ : Int) (s9_ : Sl) (i10_ : Int) (s11_ : Sl) (i12_ : Int) (h : H) : Prop :=
 bif (decide (i12_ < i8_)) then
 nz i7_ (
 ixS s0_ 1 (Int.tmod (w64 (i10_ + i1_)) i7_) fun p0 =>
 ldS p0 h fun s1 =>
 nz i8_ (
 ixS s1 1 (Int.tmod (w64 (i12_ + i2_)) i8_) fun p2 =>
 ldI .i64 p2 h fun n3 =>
 newS 1 1 [.int .i64 n3] h fun s4 h5 =>
 app s11_ s4 1 h5 fun s6 h7 =>
 X2 (spec_l05Shift_e2 s0_ i1_ i2_ i7_ i8_ s9_ i10_ s6 (w64 (i12_ + (1)))) h7))
 else
 spec_l05Shift_C2 S K X0 s0_ i1_ i2_ i7_ i8_ s9_ i10_ s11_ h
theorem spec_l05Shift_link2 (S : SatT) (K : AVal → H → Prop) (X0 : Frame → H → Prop) (X2 : Frame → H → Prop) (s0_ : Sl) (i1_ : Int) (i2_ : Int) (i7_ : Int) (i8_ : Int) (s9_ : Sl) (i10_ : Int) (s11_ : Sl) (i12_ : Int) (h : H) : spec_l05Shift_w2 S K X0 X2 (spec_l05Shift_e2 s0_ i1_ i2_ i7_ i8_ s9_ i10_ s11_ i12_) h = spec_l05Shift_b2 S K X0 X2 s0_ i1_ i2_ i7_ i8_ s9_ i10_ s11_ i12_ h := by kernel_rfl
theorem spec_l05Shift_rule2 (S : SatT) (K : AVal → H → Prop) (X0 : Frame → H → Prop) (s0_ : Sl) (i1_ : Int) (i2_ : Int) (i7_ : Int) (i8_ : Int) (s9_ : Sl) (i10_ : Int) (I_ : Sl → Int → H → Prop) (m_ : Sl → Int → H → Nat)
    (hs : ∀ (X2 : Frame → H → Prop) (s11_ : Sl) (i12_ : Int) (h : H), I_ s11_ i12_ h → (∀ (s11_' : Sl) (i12_' : Int) (h' : H), I_ s11_' i12_' h' → m_ s11_' i12_' h' < m_ s11_ i12_ h → X2 (spec_l05Shift_e2 s0_ i1_ i2_ i7_ i8_ s9_ i10_ s11_' i12_') h') → spec_l05Shift_b2 S K X0 X2 s0_ i1_ i2_ i7_ i8_ s9_ i10_ s11_ i12_ h) (s11_ : Sl) (i12_ : Int) {h : H} (h0 : I_ s11_ i12_ h) : spec_l05Shift_L2 S K X0 s0_ i1_ i2_ i7_ i8_ s9_ i10_ s11_ i12_ h :=
  loop_rule (σ := (Sl) × (Int)) (fun s_ => spec_l05Shift_e2 s0_ i1_ i2_ i7_ i8_ s9_ i10_ (s_.1) (s_.2)) (fun s_ h => I_ (s_.1) (s_.2) h) (fun s_ h => m_ (s_.1) (s_.2) h)
    (fun X s_ h hi hx => (spec_l05Shift_link2 S K X0 X s0_ i1_ i2_ i7_ i8_ s9_ i10_ (s_.1) (s_.2) h).mpr (hs X (s_.1) (s_.2) h hi fun s11_' i12_' h' hi' hm' => hx (s11_', i12_') h' hi' hm')) (s11_, i12_) h0
theorem spec_l05Shift_unroll2 (S : SatT) (K : AVal → H → Prop) (X0 : Frame → H → Prop) (s0_ : Sl) (i1_ : Int) (i2_ : Int) (i7_ : Int) (i8_ : Int) (s9_ : Sl) (i10_ : Int) (s11_ : Sl) (i12_ : Int) (h : H) (hb : spec_l05Shift_b2 S K X0 (fun fr h => loopK (spec_l05Shift_w2 S K X0) fr h) s0_ i1_ i2_ i7_ i8_ s9_ i10_ s11_ i12_ h) : spec_l05Shift_L2 S K X0 s0_ i1_ i2_ i7_ i8_ s9_ i10_ s11_ i12_ h := loop_unroll ((spec_l05Shift_link2 S K X0 _ s0_ i1_ i2_ i7_ i8_ s9_ i10_ s11_ i12_ h).mpr hb)
def spec_l05Shift_C0 (S : SatT) (K : AVal → H → Prop) (s9_ : Sl) (h : H) : Prop :=
 K (.sl s9_) h
def spec_l05Shift_b0 (S : SatT) (K : AVal → H → Prop) (X0 : Frame → H → Prop) (s0_ : Sl) (i1_ : Int) (i2_ : Int) (i7_ : Int) (i8_ : Int) (s9_ : Sl) (i10_ : Int) (h : H) : Prop :=
 bif (decide (i10_ < i7_)) then
 newS 0 1 [] h fun s0 h1 =>
 spec_l05Shift_L2 S K X0 s0_ i1_ i2_ i7_ i8_ s9_ i10_ s0 (0) h1
 else
 spec_l05Shift_C0 S K s9_ h
theorem spec_l05Shift_link0 (S : SatT) (K : AVal → H → Prop) (X0 : Frame → H → Prop) (s0_ : Sl) (i1_ : Int) (i2_ : Int) (i7_ : Int) (i8_ : Int) (s9_ : Sl) (i10_ : Int) (h : H) : spec_l05Shift_w0 S K X0 (spec_l05Shift_e0 s0_ i1_ i2_ i7_ i8_ s9_ i10_) h = spec_l05Shift_b0 S K X0 s0_ i1_ i2_ i7_ i8_ s9_ i10_ h := by kernel_rfl
theorem spec_l05Shift_rule0 (S : SatT) (K : AVal → H → Prop) (s0_ : Sl) (i1_ : Int) (i2_ : Int) (i7_ : Int) (i8_ : Int) (I_ : Sl → Int → H → Prop) (m_ : Sl → Int → H → Nat)
    (hs : ∀ (X0 : Frame → H → Prop) (s9_ : Sl) (i10_ : Int) (h : H), I_ s9_ i10_ h → (∀ (s9_' : Sl) (i10_' : Int) (h' : H), I_ s9_' i10_' h' → m_ s9_' i10_' h' < m_ s9_ i10_ h → X0 (spec_l05Shift_e0 s0_ i1_ i2_ i7_ i8_ s9_' i10_') h') → spec_l05Shift_b0 S K X0 s0_ i1_ i2_ i7_ i8_ s9_ i10_ h) (s9_ : Sl) (i10_ : Int) {h : H} (h0 : I_ s9_ i10_ h) : spec_l05Shift_L0 S K s0_ i1_ i2_ i7_ i8_ s9_ i10_ h :=
  loop_rule (σ := (Sl) × (Int)) (fun s_ => spec_l05Shift_e0 s0_ i1_ i2_ i7_ i8_ (s_.1) (s_.2)) (fun s_ h => I_ (s_.1) (s_.2) h) (fun s_ h => m_ (s_.1) (s_.2) h)
    (fun X s_ h hi hx => (spec_l05Shift_link0 S K X s0_ i1_ i2_ i7_ i8_ (s_.1) (s_.2) h).mpr (hs X (s_.1) (s_.2) h hi fun s9_' i10_' h' hi' hm' => hx (s9_', i10_') h' hi' hm')) (s9_, i10_) h0
theorem spec_l05Shift_unroll0 (S : SatT) (K : AVal → H → Prop) (s0_ : Sl) (i1_ : Int) (i2_ : Int) (i7_ : Int) (i8_ : Int) (s9_ : Sl) (i10_ : Int) (h : H) (hb : spec_l05Shift_b0 S K (fun fr h => loopK (spec_l05Shift_w0 S K) fr h) s0_ i1_ i2_ i7_ i8_ s9_ i10_ h) : spec_l05Shift_L0 S K s0_ i1_ i2_ i7_ i8_ s9_ i10_ h := loop_unroll ((spec_l05Shift_link0 S K _ s0_ i1_ i2_ i7_ i8_ s9_ i10_ h).mpr hb)
def spec_l05Shift_main (S : SatT) (K : AVal → H → Prop) (x0 : Sl) (x1 : Int) (x2 : Int) (h : H) : Prop :=
 ixS x0 1 (0) fun p0 =>
 ldS p0 h fun s1 =>
 newS 0 1 [] h fun s2 h3 =>
(cell h3 p0 = cell h p0) ∧ (
 spec_l05Shift_L0 S K x0 x1 x2 (x0.len : Int) (s1.len : Int) s2 (0) h3)
theorem spec_l05Shift_main_link (S : SatT) (K : AVal → H → Prop) (x0 : Sl) (x1 : Int) (x2 : Int) (h : H) : cwp S tab spec_l05Shift_M [] (bodyOf Try.f94) (kFun tab Try.f94.results.toList K) (fr0 Try.f94 [.sl x0, .int .i64 x1, .int .i64 x2]) h = spec_l05Shift_main S K x0 x1 x2 h := by kernel_rfl
theorem spec_l05Shift_call (x0 : Sl) (x1 : Int) (x2 : Int) (h : H) (K : Sl → H → Prop) (hm : spec_l05Shift_main (Sat Try.prog) (fun v h' => ∃ r, v = .sl r ∧ K r h') x0 x1 x2 h) : callS (Sat Try.prog) i_spec_l05Shift [.sl x0, .int .i64 x1, .int .i64 x2] h K := by
  have := Sat.ex tok mixed spec_l05Shift_M Try.func94 (c := bodyOf Try.f94) (by kernel_rfl) (calls_of Try.func94 (c := bodyOf Try.f94) (by kernel_rfl) (by decide)) ((spec_l05Shift_main_link _ _ x0 x1 x2 h).mpr hm)
  obtain ⟨v, h2, h3, r, rfl, h4⟩ := this; exact ⟨r, h2, h3, h4⟩

/-! ### loop.example/g01354/spec.TorusTable -/
def spec_TorusTable_M : Nat → List Nat := fun i => bif i == 2 then [1, 4, 5, 6, 7] else bif i == 0 then [1, 4, 5] else []
def spec_TorusTable_ks5 (S : SatT) (K : AVal → H → Prop) : Kont := kSeq (cwp S tab spec_TorusTable_M [] (sub [1, 1, 1, 1] (bodyOf Try.f29)) (kFun tab (Try.f29).results.toList K)) (kFun tab (Try.f29).results.toList K)
def spec_TorusTable_e0 (p1_ : Pt) (s4_ : Sl) (i5_ : Int) : Frame := [U, .ptr p1_, U, U, .sl s4_, .int .i64 i5_, U, U, U, U, U, U, U, U, U, U, U, U, U, U, U, U, U, U, U, U, U, U, U, U, U, U, U]
def spec_TorusTable_w0 (S : SatT) (K : AVal → H → Prop) : (Frame → H → Prop) → Frame → H → Prop := fun X fr h => cwp S tab spec_TorusTable_M (spec_TorusTable_M 0) (sub [1, 1, 1, 0, 1, 0, 0] (bodyOf Try.f29)) (kSeq (fun fr h => X (mask (spec_TorusTable_M 0) fr) h) (kBlk 0 (spec_TorusTable_ks5 S K))) fr h
def spec_TorusTable_L0 (S : SatT) (K : AVal → H → Prop) (p1_ : Pt) (s4_ : Sl) (i5_ : Int) (h : H) : Prop := loopK (spec_TorusTable_w0 S K) (spec_TorusTable_e0 p1_ s4_ i5_) h
def spec_TorusTable_ks9 (S : SatT) (K : AVal → H → Prop) (X0 : Frame → H → Prop) : Kont := kSeq (cwp S tab spec_TorusTable_M (spec_TorusTable_M 0) (sub [1, 1, 1, 0, 1, 0, 0, 1, 1] (bodyOf Try.f29)) (kSeq (fun fr h => X0 (mask (spec_TorusTable_M 0) fr) h) (kBlk 0 (spec_TorusTable_ks5 S K)))) (kSeq (fun fr h => X0 (mask (spec_TorusTable_M 0) fr) h) (kBlk 0 (spec_TorusTable_ks5 S K)))
def spec_TorusTable_ks11 (S : SatT) (K : AVal → H → Prop) (X0 : Frame → H → Prop) : Kont := kSeq (cwp S tab spec_TorusTable_M (spec_TorusTable_M 1) (sub [1, 1, 1, 0, 1, 0, 0, 1, 0, 0, 1, 1] (bodyOf Try.f29)) (kBlk 1 (spec_TorusTable_ks9 S K X0))) (kBlk 1 (spec_TorusTable_ks9 S K X0))
def spec_TorusTable_e2 (p1_ : Pt) (s4_ : Sl) (i5_ : Int) (s6_ : Sl) (i7_ : Int) : Frame := [U, .ptr p1_, U, U, .sl s4_, .int .i64 i5_, .sl s6_, .int .i64 i7_, U, U, U, U, U, U, U, U, U, U, U, U, U, U, U, U, U, U, U, U, U, U, U, U, U]
def spec_TorusTable_w2 (S : SatT) (K : AVal → H → Prop) (X0 : Frame → H → Prop) : (Frame → H → Prop) → Frame → H → Prop := fun X fr h => cwp S tab spec_TorusTable_M (spec_TorusTable_M 2) (sub [1, 1, 1, 0, 1, 0, 0, 1, 0, 0, 1, 0, 1, 0, 0] (bodyOf Try.f29)) (kSeq (fun fr h => X (mask (spec_TorusTable_M 2) fr) h) (kBlk 2 (spec_TorusTable_ks11 S K X0))) fr h
def spec_TorusTable_L2 (S : SatT) (K : AVal → H → Prop) (X0 : Frame → H → Prop) (p1_ : Pt) (s4_ : Sl) (i5_ : Int) (s6_ : Sl) (i7_ : Int) (h : H) : Prop := loopK (spec_TorusTable_w2 S K X0) (spec_TorusTable_e2 p1_ s4_ i5_ s6_ i7_) h
def spec_TorusTable_C1 (S : SatT) (K : AVal → H → Prop) (X0 : Frame → H → Prop) (p1_ : Pt) (s4_ : Sl) (i5_ : Int) (h : H) : Prop :=
 X0 (spec_TorusTable_e0 p1_ s4_ (w64 (i5_ + (1)))) h
def spec_TorusTable_C2 (S : SatT) (K : AVal → H → Prop) (X0 : Frame → H → Prop) (p1_ : Pt) (s4_ : Sl) (i5_ : Int) (s6_ : Sl) (h : H) : Prop :=
 newS 1 1 [.sl s6_] h fun s0 h1 =>
 app s4_ s0 1 h1 fun s2 h3 =>
 spec_TorusTable_C1 S K X0 p1_ s2 i5_ h3
def spec_TorusTable_b2 (S : SatT) (K : AVal → H → Prop) (X0 : Frame → H → Prop) (X2 : Frame → H → Prop) (p1_ : Pt) (s4_ : Sl) (i5_ : Int) (s6_ : Sl) (i7_ : Int) (h : H) : Prop :=
 bif (decide (i7_ ≤ (3))) then
 ldA p1_ 2 h fun cs0 =>
 callI S .i64 i_spec_l05Count [.agg cs0, .int .i64 i5_, .int .i64 i7_] h fun n2 h1 =>
 newS 1 1 [.int .i64 n2] h1 fun s3 h4 =>
 app s6_ s3 1 h4 fun s5 h6 =>
 X2 (spec_TorusTable_e2 p1_ s4_ i5_ s5 (w64 (i7_ + (1)))) h6
 else
 spec_TorusTable_C2 S K X0 p1_ s4_ i5_ s6_ h
theorem spec_TorusTable_link2 (S : SatT) (K : AVal → H → Prop) (X0 : Frame → H → Prop) (X2 : Frame → H → Prop) (p1_ : Pt) (s4_ : Sl) (i5_ : Int) (s6_ : Sl) (i7_ : Int) (h : H) : spec_TorusTable_w2 S K X0 X2 (spec_TorusTable_e2 p1_ s4_ i5_ s6_ i7_) h = spec_TorusTable_b2 S K X0 X2 p1_ s4_ i5_ s6_ i7_ h := by kernel_rfl
theorem spec_TorusTable_rule2 (S : SatT) (K : AVal → H → Prop) (X0 : Frame → H → Prop) (p1_ : Pt) (s4_ : Sl) (i5_ : Int) (I_ : Sl → Int → H → Prop) (m_ : Sl → Int → H → Nat)
    (hs : ∀ (X2 : Frame → H → Prop) (s6_ : Sl) (i7_ : Int) (h : H), I_ s6_ i7_ h → (∀ (s6_' : Sl) (i7_' : Int) (h' : H), I_ s6_' i7_' h' → m_ s6_' i7_' h' < m_ s6_ i7_ h → X2 (spec_TorusTable_e2 p1_ s4_ i5_ s6_' i7_') h') → spec_TorusTable_b2 S K X0 X2 p1_ s4_ i5_ s6_ i7_ h) (s6_ : Sl) (i7_ : Int) {h : H} (h0 : I_ s6_ i7_ h) : spec_TorusTable_L2 S K X0 p1_ s4_ i5_ s6_ i7_ h :=
  loop_rule (σ := (Sl) × (Int)) (fun s_ => spec_TorusTable_e2 p1_ s4_ i5_ (s_.1) (s_.2)) (fun s_ h => I_ (s_.1) (s_.2) h) (fun s_ h => m_ (s_.1) (s_.2) h)
    (fun X s_ h hi hx => (spec_TorusTable_link2 S K X0 X p1_ s4_ i5_ (s_.1) (s_.2) h).mpr (hs X (s_.1) (s_.2) h hi fun s6_' i7_' h' hi' hm' => hx (s6_', i7_') h' hi' hm')) (s6_, i7_) h0
theorem spec_TorusTable_unroll2 (S : SatT) (K : AVal → H → Prop) (X0 : Frame → H → Prop) (p1_ : Pt) (s4_ : Sl) (i5_ : Int) (s6_ : Sl) (i7_ : Int) (h : H) (hb : spec_TorusTable_b2 S K X0 (fun fr h => loopK (spec_TorusTable_w2 S K X0) fr h) p1_ s4_ i5_ s6_ i7_ h) : spec_TorusTable_L2 S K X0 p1_ s4_ i5_ s6_ i7_ h := loop_unroll ((spec_TorusTable_link2 S K X0 _ p1_ s4_ i5_ s6_ i7_ h).mpr hb)
def spec_TorusTable_C0 (S : SatT) (K : AVal → H → Prop) (s4_ : Sl) (h : H) : Prop :=
 K (.tuple [.sl s4_, .int .i64 (0)]) h
def spec_TorusTable_b0 (S : SatT) (K : AVal → H → Prop) (X0 : Frame → H → Prop) (p1_ : Pt) (s4_ : Sl) (i5_ : Int) (h : H) : Prop :=
 bif (decide (i5_ ≤ (3))) then
 newS 0 1 [] h fun s0 h1 =>
 spec_TorusTable_L2 S K X0 p1_ s4_ i5_ s0 (1) h1
 else
 spec_TorusTable_C0 S K s4_ h
theorem spec_TorusTable_link0 (S : SatT) (K : AVal → H → Prop) (X0 : Frame → H → Prop) (p1_ : Pt) (s4_ : Sl) (i5_ : Int) (h : H) : spec_TorusTable_w0 S K X0 (spec_TorusTable_e0 p1_ s4_ i5_) h = spec_TorusTable_b0 S K X0 p1_ s4_ i5_ h := by kernel_rfl
theorem spec_TorusTable_rule0 (S : SatT) (K : AVal → H → Prop) (p1_ : Pt) (I_ : Sl → Int → H → Prop) (m_ : Sl → Int → H → Nat)
    (hs : ∀ (X0 : Frame → H → Prop) (s4_ : Sl) (i5_ : Int) (h : H), I_ s4_ i5_ h → (∀ (s4_' : Sl) (i5_' : Int) (h' : H), I_ s4_' i5_' h' → m_ s4_' i5_' h' < m_ s4_ i5_ h → X0 (spec_TorusTable_e0 p1_ s4_' i5_') h') → spec_TorusTable_b0 S K X0 p1_ s4_ i5_ h) (s4_ : Sl) (i5_ : Int) {h : H} (h0 : I_ s4_ i5_ h) : spec_TorusTable_L0 S K p1_ s4_ i5_ h :=
  loop_rule (σ := (Sl) × (Int)) (fun s_ => spec_TorusTable_e0 p1_ (s_.1) (s_.2)) (fun s_ h => I_ (s_.1) (s_.2) h) (fun s_ h => m_ (s_.1) (s_.2) h)
    (fun X s_ h hi hx => (spec_TorusTable_link0 S K X p1_ (s_.1) (s_.2) h).mpr (hs X (s_.1) (s_.2) h hi fun s4_' i5_' h' hi' hm' => hx (s4_', i5_') h' hi' hm')) (s4_, i5_) h0
theorem spec_TorusTable_unroll0 (S : SatT) (K : AVal → H → Prop) (p1_ : Pt) (s4_ : Sl) (i5_ : Int) (h : H) (hb : spec_TorusTable_b0 S K (fun fr h => loopK (spec_TorusTable_w0 S K) fr h) p1_ s4_ i5_ h) : spec_TorusTable_L0 S K p1_ s4_ i5_ h := loop_unroll ((spec_TorusTable_link0 S K _ p1_ s4_ i5_ h).mpr hb)
def spec_TorusTable_main (S : SatT) (K : AVal → H → Prop) (x0 : List AVal) (h : H) : Prop :=
 newK 2 x0 h fun p0 h1 =>
 ldA p0 2 h1 fun cs2 =>
 callB S i_spec_l01Is [.agg cs2] h1 fun b4 h3 =>
 bif (!b4) then
 K (.tuple [.sl Sl.nil, .int .i64 (1)]) h3
 else
 newS 0 1 [] h3 fun s5 h6 =>
 spec_TorusTable_L0 S K p0 s5 (1) h6
theorem spec_TorusTable_main_link (S : SatT) (K : AVal → H → Prop) (x0 : List AVal) (h : H) : cwp S tab spec_TorusTable_M [] (bodyOf Try.f29) (kFun tab Try.f29.results.toList K) (fr0 Try.f29 [.agg x0]) h = spec_TorusTable_main S K x0 h := by kernel_rfl
theorem spec_TorusTable_call (x0 : List AVal) (h : H) (K : AVal → H → Prop) (hm : spec_TorusTable_main (Sat Try.prog) (fun v h' => K v h') x0 h) : callV (Sat Try.prog) i_spec_TorusTable [.agg x0] h K := by
  have := Sat.ex tok mixed spec_TorusTable_M Try.func29 (c := bodyOf Try.f29) (by kernel_rfl) (calls_of Try.func29 (c := bodyOf Try.f29) (by kernel_rfl) (by decide)) ((spec_TorusTable_main_link _ _ x0 h).mpr hm)
  exact this

/-! ### loop.example/g01354/spec.l05Less -/
def spec_l05Less_M : Nat → List Nat := fun i => bif i == 2 then [0, 1, 5, 6] else bif i == 0 then [0, 1, 5] else []
def spec_l05Less_ks1 (S : SatT) (K : AVal → H → Prop) : Kont := kSeq (cwp S tab spec_l05Less_M [] (sub [1, 1] (bodyOf Try.f86)) (kFun tab (Try.f86).results.toList K)) (kFun tab (Try.f86).results.toList K)
def spec_l05Less_e0 (s0_ : Sl) (s1_ : Sl) (i5_ : Int) : Frame := [.sl s0_, .sl s1_, U, U, U, .int .i64 i5_, U, U, U, U, U, U, U, U, U, U, U, U, U, U, U, U, U, U, U, U, U, U, U, U, U, U, U, U, U, U, U, U, U, U, U, U, U, U, U, U, U, U, U, U, U, U]
def spec_l05Less_w0 (S : SatT) (K : AVal → H → Prop) : (Frame → H → Prop) → Frame → H → Prop := fun X fr h => cwp S tab spec_l05Less_M (spec_l05Less_M 0) (sub [1, 0, 1, 0, 0] (bodyOf Try.f86)) (kSeq (fun fr h => X (mask (spec_l05Less_M 0) fr) h) (kBlk 0 (spec_l05Less_ks1 S K))) fr h
def spec_l05Less_L0 (S : SatT) (K : AVal → H → Prop) (s0_ : Sl) (s1_ : Sl) (i5_ : Int) (h : H) : Prop := loopK (spec_l05Less_w0 S K) (spec_l05Less_e0 s0_ s1_ i5_) h
def spec_l05Less_ks5 (S : SatT) (K : AVal → H → Prop) (X0 : Frame → H → Prop) : Kont := kSeq (cwp S tab spec_l05Less_M (spec_l05Less_M 0) (sub [1, 0, 1, 0, 0, 1, 1] (bodyOf Try.f86)) (kSeq (fun fr h => X0 (mask (spec_l05Less_M 0) fr) h) (kBlk 0 (spec_l05Less_ks1 S K)))) (kSeq (fun fr h => X0 (mask (spec_l05Less_M 0) fr) h) (kBlk 0 (spec_l05Less_ks1 S K)))
def spec_l05Less_e2 (s0_ : Sl) (s1_ : Sl) (i5_ : Int) (i6_ : Int) : Frame := [.sl s0_, .sl s1_, U, U, U, .int .i64 i5_, .int .i64 i6_, U, U, U, U, U, U, U, U, U, U, U, U, U, U, U, U, U, U, U, U, U, U, U, U, U, U, U, U, U, U, U, U, U, U, U, U, U, U, U, U, U, U, U, U, U]
def spec_l05Less_w2 (S : SatT) (K : AVal → H → Prop) (X0 : Frame → H → Prop) : (Frame → H → Prop) → Frame → H → Prop := fun X fr h => cwp S tab spec_l05Less_M (spec_l05Less_M 2) (sub [1, 0, 1, 0, 0, 1, 0, 0, 1, 0, 0] (bodyOf Try.f86)) (kSeq (fun fr h => X (mask (spec_l05Less_M 2) fr) h) (kBlk 2 (kBlk 1 (spec_l05Less_ks5 S K X0)))) fr h
def spec_l05Less_L2 (S : SatT) (K : AVal → H → Prop) (X0 : Frame → H → Prop) (s0_ : Sl) (s1_ : Sl) (i5_ : Int) (i6_ : Int) (h : H) : Prop := loopK (spec_l05Less_w2 S K X0) (spec_l05Less_e2 s0_ s1_ i5_ i6_) h
def spec_l05Less_C1 (S : SatT) (K : AVal → H → Prop) (X0 : Frame → H → Prop) (s0_ : Sl) (s1_ : Sl) (i5_ : Int) (h : H) : Prop :=
 X0 (spec_l05Less_e0 s0_ s1_ (w64 (i5_ + (1)))) h
def spec_l05Less_C2 (S : SatT) (K : AVal → H → Prop) (X0 : Frame → H → Prop) (s0_ : Sl) (s1_ : Sl) (i5_ : Int) (h : H) : Prop :=
 spec_l05Less_C1 S K X0 s0_ s1_ i5_ h
def spec_l05Less_b2 (S : SatT) (K : AVal → H → Prop) (X0 : Frame → H → Prop) (X2 : Frame → H → Prop) (s0_ : Sl) (s1_ : Sl) (i5_ : Int) (i6_ : Int) (h : H) : Prop :=
 ixS s0_ 1 i5_ fun p0 =>
 ldS p0 h fun s1 =>
 bif (decide (i6_ < (s1.len : Int))) then
 ixS s0_ 1 i5_ fun p2 =>
 ldS p2 h fun s3 =>
 ixS s3 1 i6_ fun p4 =>
 ldI .i64 p4 h fun n5 =>
 ixS s1_ 1 i5_ fun p6 =>
 ldS p6 h fun s7 =>
 ixS s7 1 i6_ fun p8 =>
 ldI .i64 p8 h fun n9 =>
 bif (n5 != n9) then
 ixS s0_ 1 i5_ fun p10 =>
 ldS p10 h fun s11 =>
 ixS s11 1 i6_ fun p12 =>
 ldI .i64 p12 h fun n13 =>
 ixS s1_ 1 i5_ fun p14 =>
 ldS p14 h fun s15 =>
 ixS s15 1 i6_ fun p16 =>
 ldI .i64 p16 h fun n17 =>
 K (.bool (decide (n13 < n17))) h
 else
 X2 (spec_l05Less_e2 s0_ s1_ i5_ (w64 (i6_ + (1)))) h
 else
 spec_l05Less_C2 S K X0 s0_ s1_ i5_ h
theorem spec_l05Less_link2 (S : SatT) (K : AVal → H → Prop) (X0 : Frame → H → Prop) (X2 : Frame → H → Prop) (s0_ : Sl) (s1_ : Sl) (i5_ : Int) (i6_ : Int) (h : H) : spec_l05Less_w2 S K X0 X2 (spec_l05Less_e2 s0_ s1_ i5_ i6_) h = spec_l05Less_b2 S K X0 X2 s0_ s1_ i5_ i6_ h := by kernel_rfl
theorem spec_l05Less_rule2 (S : SatT) (K : AVal → H → Prop) (X0 : Frame → H → Prop) (s0_ : Sl) (s1_ : Sl) (i5_ : Int) (I_ : Int → H → Prop) (m_ : Int → H → Nat)
    (hs : ∀ (X2 : Frame → H → Prop) (i6_ : Int) (h : H), I_ i6_ h → (∀ (i6_' : Int) (h' : H), I_ i6_' h' → m_ i6_' h' < m_ i6_ h → X2 (spec_l05Less_e2 s0_ s1_ i5_ i6_') h') → spec_l05Less_b2 S K X0 X2 s0_ s1_ i5_ i6_ h) (i6_ : Int) {h : H} (h0 : I_ i6_ h) : spec_l05Less_L2 S K X0 s0_ s1_ i5_ i6_ h :=
  loop_rule (σ := (Int)) (fun s_ => spec_l05Less_e2 s0_ s1_ i5_ (s_)) (fun s_ h => I_ (s_) h) (fun s_ h => m_ (s_) h)
    (fun X s_ h hi hx => (spec_l05Less_link2 S K X0 X s0_ s1_ i5_ (s_) h).mpr (hs X (s_) h hi fun i6_' h' hi' hm' => hx (i6_') h' hi' hm')) (i6_) h0
theorem spec_l05Less_unroll2 (S : SatT) (K : AVal → H → Prop) (X0 : Frame → H → Prop) (s0_ : Sl) (s1_ : Sl) (i5_ : Int) (i6_ : Int) (h : H) (hb : spec_l05Less_b2 S K X0 (fun fr h => loopK (spec_l05Less_w2 S K X0) fr h) s0_ s1_ i5_ i6_ h) : spec_l05Less_L2 S K X0 s0_ s1_ i5_ i6_ h := loop_unroll ((spec_l05Less_link2 S K X0 _ s0_ s1_ i5_ i6_ h).mpr hb)
def spec_l05Less_C0 (S : SatT) (K : AVal → H → Prop) (h : H) : Prop :=
 K (.bool false) h
def spec_l05Less_b0 (S : SatT) (K : AVal → H → Prop) (X0 : Frame → H → Prop) (s0_ : Sl) (s1_ : Sl) (i5_ : Int) (h : H) : Prop :=
 bif (decide (i5_ < (s0_.len : Int))) then
 spec_l05Less_L2 S K X0 s0_ s1_ i5_ (0) h
 else
 spec_l05Less_C0 S K h
theorem spec_l05Less_link0 (S : SatT) (K : AVal → H → Prop) (X0 : Frame → H → Prop) (s0_ : Sl) (s1_ : Sl) (i5_ : Int) (h : H) : spec_l05Less_w0 S K X0 (spec_l05Less_e0 s0_ s1_ i5_) h = spec_l05Less_b0 S K X0 s0_ s1_ i5_ h := by kernel_rfl
theorem spec_l05Less_rule0 (S : SatT) (K : AVal → H → Prop) (s0_ : Sl) (s1_ : Sl) (I_ : Int → H → Prop) (m_ : Int → H → Nat)
    (hs : ∀ (X0 : Frame → H → Prop) (i5_ : Int) (h : H), I_ i5_ h → (∀ (i5_' : Int) (h' : H), I_ i5_' h' → m_ i5_' h' < m_ i5_ h → X0 (spec_l05Less_e0 s0_ s1_ i5_') h') → spec_l05Less_b0 S K X0 s0_ s1_ i5_ h) (i5_ : Int) {h : H} (h0 : I_ i5_ h) : spec_l05Less_L0 S K s0_ s1_ i5_ h :=
  loop_rule (σ := (Int)) (fun s_ => spec_l05Less_e0 s0_ s1_ (s_)) (fun s_ h => I_ (s_) h) (fun s_ h => m_ (s_) h)
    (fun X s_ h hi hx => (spec_l05Less_link0 S K X s0_ s1_ (s_) h).mpr (hs X (s_) h hi fun i5_' h' hi' hm' => hx (i5_') h' hi' hm')) (i5_) h0
theorem spec_l05Less_unroll0 (S : SatT) (K : AVal → H → Prop) (s0_ : Sl) (s1_ : Sl) (i5_ : Int) (h : H) (hb : spec_l05Less_b0 S K (fun fr h => loopK (spec_l05Less_w0 S K) fr h) s0_ s1_ i5_ h) : spec_l05Less_L0 S K s0_ s1_ i5_ h := loop_unroll ((spec_l05Less_link0 S K _ s0_ s1_ i5_ h).mpr hb)
def spec_l05Less_main (S : SatT) (K : AVal → H → Prop) (x0 : Sl) (x1 : Sl) (h : H) : Prop :=
 spec_l05Less_L0 S K x0 x1 (0) h
theorem spec_l05Less_main_link (S : SatT) (K : AVal → H → Prop) (x0 : Sl) (x1 : Sl) (h : H) : cwp S tab spec_l05Less_M [] (bodyOf Try.f86) (kFun tab Try.f86.results.toList K) (fr0 Try.f86 [.sl x0, .sl x1]) h = spec_l05Less_main S K x0 x1 h := by kernel_rfl
theorem spec_l05Less_call (x0 : Sl) (x1 : Sl) (h : H) (K : Bool → H → Prop) (hm : spec_l05Less_main (Sat Try.prog) (fun v h' => ∃ r, v = .bool r ∧ K r h') x0 x1 h) : callB (Sat Try.prog) i_spec_l05Less [.sl x0, .sl x1] h K := by
  have := Sat.ex tok mixed spec_l05Less_M Try.func86 (c := bodyOf Try.f86) (by kernel_rfl) (calls_of Try.func86 (c := bodyOf Try.f86) (by kernel_rfl) (by decide)) ((spec_l05Less_main_link _ _ x0 x1 h).mpr hm)
  obtain ⟨v, h2, h3, r, rfl, h4⟩ := this; exact ⟨r, h2, h3, h4⟩

/-! ### loop.example/g01354/spec.l05All -/
def spec_l05All_M : Nat → List Nat := fun i => bif i == 0 then [1, 2, 3, 4, 5, 6, 7, 8, 17, 18] else []
def spec_l05All_ks8 (S : SatT) (K : AVal → H → Prop) : Kont := kSeq (cwp S tab spec_l05All_M [] (sub [1, 1, 1, 1] (bodyOf Try.f84)) (kFun tab (Try.f84).results.toList K)) (kFun tab (Try.f84).results.toList K)
def spec_l05All_e0 (s1_ : Sl) (s2_ : Sl) (s3_ : Sl) (s4_ : Sl) (i5_ : Int) (i6_ : Int) (i7_ : Int) (p8_ : Pt) (s17_ : Sl) (i18_ : Int) : Frame := [U, .sl s1_, .sl s2_, .sl s3_, .sl s4_, .int .i64 i5_, .int .i64 i6_, .int .i64 i7_, .ptr p8_, U, U, U, U, U, U, U, U, .sl s17_, .int .i64 i18_, U, U, U, U, U, U, U, U, U, U, U, U, U, U, U, U, U, U, U, U, U, U, U, U, U, U, U, U, U, U, U, U, U, U, U, U, U, U, U, U, U, U, U, U, U, U, U, U, U, U, U, U, U, U, U, U, U, U, U, U, U, U, U, U, U, U, U, U, U, U, U, U]
def spec_l05All_w0 (S : SatT) (K : AVal → H → Prop) : (Frame → H → Prop) → Frame → H → Prop := fun X fr h => cwp S tab spec_l05All_M (spec_l05All_M 0) (sub [1, 1, 1, 0, 1, 0, 0] (bodyOf Try.f84)) (kSeq (fun fr h => X (mask (spec_l05All_M 0) fr) h) (kBlk 0 (spec_l05All_ks8 S K))) fr h
def spec_l05All_L0 (S : SatT) (K : AVal → H → Prop) (s1_ : Sl) (s2_ : Sl) (s3_ : Sl) (s4_ : Sl) (i5_ : Int) (i6_ : Int) (i7_ : Int) (p8_ : Pt) (s17_ : Sl) (i18_ : Int) (h : H) : Prop := loopK (spec_l05All_w0 S K) (spec_l05All_e0 s1_ s2_ s3_ s4_ i5_ i6_ i7_ p8_ s17_ i18_) h
def spec_l05All_C0 (S : SatT) (K : AVal → H → Prop) (s17_ : Sl) (h : H) : Prop :=
 K (.sl s17_) h
def spec_l05All_b0 (S : SatT) (K : AVal → H → Prop) (X0 : Frame → H → Prop) (s1_ : Sl) (s2_ : Sl) (s3_ : Sl) (s4_ : Sl) (i5_ : Int) (i6_ : Int) (i7_ : Int) (p8_ : Pt) (s17_ : Sl) (i18_ : Int) (h : H) : Prop :=
 bif (decide (i18_ < (s1_.len : Int))) then
 bif ((s4_.len : Int) == (0)) then
 ldA p8_ 2 h fun cs0 =>
 ixS s1_ 1 i18_ fun p1 =>
 ldS p1 h fun s2 =>
 newS 1 1 [.sl s2] h fun s3 h4 =>
(range h4 p8_.o p8_.n p8_.off 2 = range h p8_.o p8_.n p8_.off 2) ∧ (
 ixS s2_ 1 i18_ fun p5 =>
 ldI .i64 p5 h4 fun n6 =>
(cell h p5 = cell h4 p5) ∧ (
 ixS s3_ 1 i18_ fun p7 =>
 ldI .i64 p7 h4 fun n8 =>
(cell h p7 = cell h4 p7) ∧ (
 callS S i_spec_l05All [.agg cs0, .sl s1_, .sl s2_, .sl s3_, .sl s3, .int .i64 n6, .int .i64 n8, .int .i64 (w64 (i7_ - (1)))] h4 fun s10 h9 =>
 app s17_ s10 1 h9 fun s11 h12 =>
 X0 (spec_l05All_e0 s1_ s2_ s3_ s4_ i5_ i6_ i7_ p8_ s11 (w64 (i18_ + (1)))) h12)))
 else
 ixS s2_ 1 i18_ fun p13 =>
 ldI .i64 p13 h fun n14 =>
 bif (n14 == i6_) then
 slotK 24 h fun h15 =>
 ldA p8_ 2 h15 fun cs16 =>
 ixS s1_ 1 i18_ fun p17 =>
 ldS p17 h15 fun s18 =>
 ixS s3_ 1 i18_ fun p19 =>
 ldI .i64 p19 h15 fun n20 =>
 newSat 0 1 [] h15 (h.length + 5) fun s21 h22 =>
(cell h22 p19 = cell h15 p19) ∧ (
(cell h22 p17 = cell h15 p17) ∧ (
(range h22 p8_.o p8_.n p8_.off 2 = range h15 p8_.o p8_.n p8_.off 2) ∧ (
 app s21 s4_ 1 h22 fun s23 h24 =>
(cell h24 p19 = cell h15 p19) ∧ (
(cell h24 p17 = cell h15 p17) ∧ (
(range h24 p8_.o p8_.n p8_.off 2 = range h15 p8_.o p8_.n p8_.off 2) ∧ (
 newSat 1 1 [.sl s18] h24 (h.length + 12) fun s25 h26 =>
(cell h26 p19 = cell h15 p19) ∧ (
(range h26 p8_.o p8_.n p8_.off 2 = range h15 p8_.o p8_.n p8_.off 2) ∧ (
 app s23 s25 1 h26 fun s27 h28 =>
(cell h28 p19 = cell h15 p19) ∧ (
(range h28 p8_.o p8_.n p8_.off 2 = range h15 p8_.o p8_.n p8_.off 2) ∧ (
 callS S i_spec_l05All [.agg cs16, .sl s1_, .sl s2_, .sl s3_, .sl s27, .int .i64 i5_, .int .i64 n20, .int .i64 (w64 (i7_ - (1)))] h28 fun s30 h29 =>
 app s17_ s30 1 h29 fun s31 h32 =>
 X0 (spec_l05All_e0 s1_ s2_ s3_ s4_ i5_ i6_ i7_ p8_ s31 (w64 (i18_ + (1)))) h32))))))))))
 else
 X0 (spec_l05All_e0 s1_ s2_ s3_ s4_ i5_ i6_ i7_ p8_ s17_ (w64 (i18_ + (1)))) h
 else
 spec_l05All_C0 S K s17_ h
theorem spec_l05All_link0 (S : SatT) (K : AVal → H → Prop) (X0 : Frame → H → Prop) (s1_ : Sl) (s2_ : Sl) (s3_ : Sl) (s4_ : Sl) (i5_ : Int) (i6_ : Int) (i7_ : Int) (p8_ : Pt) (s17_ : Sl) (i18_ : Int) (h : H) : spec_l05All_w0 S K X0 (spec_l05All_e0 s1_ s2_ s3_ s4_ i5_ i6_ i7_ p8_ s17_ i18_) h = spec_l05All_b0 S K X0 s1_ s2_ s3_ s4_ i5_ i6_ i7_ p8_ s17_ i18_ h := by kernel_rfl
theorem spec_l05All_rule0 (S : SatT) (K : AVal → H → Prop) (s1_ : Sl) (s2_ : Sl) (s3_ : Sl) (s4_ : Sl) (i5_ : Int) (i6_ : Int) (i7_ : Int) (p8_ : Pt) (I_ : Sl → Int → H → Prop) (m_ : Sl → Int → H → Nat)
    (hs : ∀ (X0 : Frame → H → Prop) (s17_ : Sl) (i18_ : Int) (h : H), I_ s17_ i18_ h → (∀ (s17_' : Sl) (i18_' : Int) (h' : H), I_ s17_' i18_' h' → m_ s17_' i18_' h' < m_ s17_ i18_ h → X0 (spec_l05All_e0 s1_ s2_ s3_ s4_ i5_ i6_ i7_ p8_ s17_' i18_') h') → spec_l05All_b0 S K X0 s1_ s2_ s3_ s4_ i5_ i6_ i7_ p8_ s17_ i18_ h) (s17_ : Sl) (i18_ : Int) {h : H} (h0 : I_ s17_ i18_ h) : spec_l05All_L0 S K s1_ s2_ s3_ s4_ i5_ i6_ i7_ p8_ s17_ i18_ h :=
  loop_rule (σ := (Sl) × (Int)) (fun s_ => spec_l05All_e0 s1_ s2_ s3_ s4_ i5_ i6_ i7_ p8_ (s_.1) (s_.2)) (fun s_ h => I_ (s_.1) (s_.2) h) (fun s_ h => m_ (s_.1) (s_.2) h)
    (fun X s_ h hi hx => (spec_l05All_link0 S K X s1_ s2_ s3_ s4_ i5_ i6_ i7_ p8_ (s_.1) (s_.2) h).mpr (hs X (s_.1) (s_.2) h hi fun s17_' i18_' h' hi' hm' => hx (s17_', i18_') h' hi' hm')) (s17_, i18_) h0
theorem spec_l05All_unroll0 (S : SatT) (K : AVal → H → Prop) (s1_ : Sl) (s2_ : Sl) (s3_ : Sl) (s4_ : Sl) (i5_ : Int) (i6_ : Int) (i7_ : Int) (p8_ : Pt) (s17_ : Sl) (i18_ : Int) (h : H) (hb : spec_l05All_b0 S K (fun fr h => loopK (spec_l05All_w0 S K) fr h) s1_ s2_ s3_ s4_ i5_ i6_ i7_ p8_ s17_ i18_ h) : spec_l05All_L0 S K s1_ s2_ s3_ s4_ i5_ i6_ i7_ p8_ s17_ i18_ h := loop_unroll ((spec_l05All_link0 S K _ s1_ s2_ s3_ s4_ i5_ i6_ i7_ p8_ s17_ i18_ h).mpr hb)
def spec_l05All_main (S : SatT) (K : AVal → H → Prop) (x0 : List AVal) (x1 : Sl) (x2 : Sl) (x3 : Sl) (x4 : Sl) (x5 : Int) (x6 : Int) (x7 : Int) (h : H) : Prop :=
 newK 2 x0 h fun p0 h1 =>
 bif (x7 == (0)) then
 bif (x6 == x5) then
 newS 1 1 [.sl x4] h1 fun s2 h3 =>
 K (.sl s2) h3
 else
 newS 0 1 [] h1 fun s4 h5 =>
 K (.sl s4) h5
 else
 newS 0 1 [] h1 fun s6 h7 =>
 spec_l05All_L0 S K x1 x2 x3 x4 x5 x6 x7 p0 s6 (0) h7
theorem spec_l05All_main_link (S : SatT) (K : AVal → H → Prop) (x0 : List AVal) (x1 : Sl) (x2 : Sl) (x3 : Sl) (x4 : Sl) (x5 : Int) (x6 : Int) (x7 : Int) (h : H) : cwp S tab spec_l05All_M [] (bodyOf Try.f84) (kFun tab Try.f84.results.toList K) (fr0 Try.f84 [.agg x0, .sl x1, .sl x2, .sl x3, .sl x4, .int .i64 x5, .int .i64 x6, .int .i64 x7]) h = spec_l05All_main S K x0 x1 x2 x3 x4 x5 x6 x7 h := by kernel_rfl
theorem spec_l05All_call (x0 : List AVal) (x1 : Sl) (x2 : Sl) (x3 : Sl) (x4 : Sl) (x5 : Int) (x6 : Int) (x7 : Int) (h : H) (K : Sl → H → Prop) (hm : spec_l05All_main (Sat Try.prog) (fun v h' => ∃ r, v = .sl r ∧ K r h') x0 x1 x2 x3 x4 x5 x6 x7 h) : callS (Sat Try.prog) i_spec_l05All [.agg x0, .sl x1, .sl x2, .sl x3, .sl x4, .int .i64 x5, .int .i64 x6, .int .i64 x7] h K := by
  have := Sat.ex tok mixed spec_l05All_M Try.func84 (c := bodyOf Try.f84) (by kernel_rfl) (calls_of Try.func84 (c := bodyOf Try.f84) (by kernel_rfl) (by decide)) ((spec_l05All_main_link _ _ x0 x1 x2 x3 x4 x5 x6 x7 h).mpr hm)
  obtain ⟨v, h2, h3, r, rfl, h4⟩ := this; exact ⟨r, h2, h3, h4⟩

/-! ### (loop.example/g01354/impl.Set).rounds$1 -/
def impl_Set_rounds_1_M : Nat → List Nat := fun i => bif i == 0 then [0, 1, 2, 3, 4, 6, 7, 27, 28, 29] else []
def impl_Set_rounds_1_e0 (i0_ : Int) (i1_ : Int) (i2_ : Int) (i3_ : Int) (i4_ : Int) (p6_ : Pt) (p7_ : Pt) (s27_ : Sl) (i28_ : Int) (i29_ : Int) : Frame := [.int .i64 i0_, .int .i64 i1_, .int .i64 i2_, .int .i64 i3_, .int .i64 i4_, U, .ptr p6_, .ptr p7_, U, U, U, U, U, U, U, U, U, U, U, U, U, U, U, U, U, U, U, .sl s27_, .int .i64 i28_, .int .i64 i29_, U, U, U, U, U, U, U, U, U, U, U, U, U, U, U, U, U, U, U, U, U, U, U, U, U, U, U, U, U]
def impl_Set_rounds_1_w0 (S : SatT) (K : AVal → H → Prop) : (Frame → H → Prop) → Frame → H → Prop := fun X fr h => cwp S tab impl_Set_rounds_1_M (impl_Set_rounds_1_M 0) (sub [1, 1, 0, 0] (bodyOf Try.f103)) (kSeq (fun fr h => X (mask (impl_Set_rounds_1_M 0) fr) h) (kBlk 0 (kFun tab (Try.f103).results.toList K))) fr h
def impl_Set_rounds_1_L0 (S : SatT) (K : AVal → H → Prop) (i0_ : Int) (i1_ : Int) (i2_ : Int) (i3_ : Int) (i4_ : Int) (p6_ : Pt) (p7_ : Pt) (s27_ : Sl) (i28_ : Int) (i29_ : Int) (h : H) : Prop := loopK (impl_Set_rounds_1_w0 S K) (impl_Set_rounds_1_e0 i0_ i1_ i2_ i3_ i4_ p6_ p7_ s27_ i28_ i29_) h
def impl_Set_rounds_1_b0 (S : SatT) (K : AVal → H → Prop) (X0 : Frame → H → Prop) (i0_ : Int) (i1_ : Int) (i2_ : Int) (i3_ : Int) (i4_ : Int) (p6_ : Pt) (p7_ : Pt) (s27_ : Sl) (i28_ : Int) (i29_ : Int) (h : H) : Prop :=
 bif (decide (i29_ < i28_)) then
 ixS s27_ 4 i29_ fun p0 =>
 ldA p0 4 h fun cs1 =>
 newO [.int .i64 (0), .int .i64 (0), .int .i64 (0), .int .i64 (0)] h fun p2 h3 =>
 stN p2 4 cs1 h3 fun h4 =>
 ixA p2 4 1 (0) fun p5 =>
 ldI .i64 p5 h4 fun n6 =>
 bif (n6 == i1_) then
 ldV p7_ h4 fun v7 =>
 ixA p2 4 1 (2) fun p8 =>
 ldI .i64 p8 h4 fun n9 =>
 isPt p6_ (
 ldI .i64 (Pt.add p6_ 0) h4 fun n10 =>
 ixA p2 4 1 (1) fun p11 =>
 ldI .i64 p11 h4 fun n12 =>
 isPt p6_ (
 ldI .i64 (Pt.add p6_ 0) h4 fun n13 =>
 ixA p2 4 1 (3) fun p14 =>
 ldI .i64 p14 h4 fun n15 =>
 viaF v7 [.int .i64 i0_, .int .i64 n9, .int .i64 (w64 ((w64 (i2_ * n10)) + n12)), .int .i64 (w64 ((w64 (i3_ * n13)) + n15)), .int .i64 (w64 (i4_ - (1)))] fun g16 ys17 =>
 callV S g16 ys17 h4 fun v19 h18 =>
 X0 (impl_Set_rounds_1_e0 i0_ i1_ i2_ i3_ i4_ p6_ p7_ s27_ i28_ (w64 (i29_ + (1)))) h18))
 else
 X0 (impl_Set_rounds_1_e0 i0_ i1_ i2_ i3_ i4_ p6_ p7_ s27_ i28_ (w64 (i29_ + (1)))) h4
 else
 K (.tuple []) h
theorem impl_Set_rounds_1_link0 (S : SatT) (K : AVal → H → Prop) (X0 : Frame → H → Prop) (i0_ : Int) (i1_ : Int) (i2_ : Int) (i3_ : Int) (i4_ : Int) (p6_ : Pt) (p7_ : Pt) (s27_ : Sl) (i28_ : Int) (i29_ : Int) (h : H) : impl_Set_rounds_1_w0 S K X0 (impl_Set_rounds_1_e0 i0_ i1_ i2_ i3_ i4_ p6_ p7_ s27_ i28_ i29_) h = impl_Set_rounds_1_b0 S K X0 i0_ i1_ i2_ i3_ i4_ p6_ p7_ s27_ i28_ i29_ h := by kernel_rfl
theorem impl_Set_rounds_1_rule0 (S : SatT) (K : AVal → H → Prop) (i0_ : Int) (i1_ : Int) (i2_ : Int) (i3_ : Int) (i4_ : Int) (p6_ : Pt) (p7_ : Pt) (s27_ : Sl) (i28_ : Int) (I_ : Int → H → Prop) (m_ : Int → H → Nat)
    (hs : ∀ (X0 : Frame → H → Prop) (i29_ : Int) (h : H), I_ i29_ h → (∀ (i29_' : Int) (h' : H), I_ i29_' h' → m_ i29_' h' < m_ i29_ h → X0 (impl_Set_rounds_1_e0 i0_ i1_ i2_ i3_ i4_ p6_ p7_ s27_ i28_ i29_') h') → impl_Set_rounds_1_b0 S K X0 i0_ i1_ i2_ i3_ i4_ p6_ p7_ s27_ i28_ i29_ h) (i29_ : Int) {h : H} (h0 : I_ i29_ h) : impl_Set_rounds_1_L0 S K i0_ i1_ i2_ i3_ i4_ p6_ p7_ s27_ i28_ i29_ h :=
  loop_rule (σ := (Int)) (fun s_ => impl_Set_rounds_1_e0 i0_ i1_ i2_ i3_ i4_ p6_ p7_ s27_ i28_ (s_)) (fun s_ h => I_ (s_) h) (fun s_ h => m_ (s_) h)
    (fun X s_ h hi hx => (impl_Set_rounds_1_link0 S K X i0_ i1_ i2_ i3_ i4_ p6_ p7_ s27_ i28_ (s_) h).mpr (hs X (s_) h hi fun i29_' h' hi' hm' => hx (i29_') h' hi' hm')) (i29_) h0
theorem impl_Set_rounds_1_unroll0 (S : SatT) (K : AVal → H → Prop) (i0_ : Int) (i1_ : Int) (i2_ : Int) (i3_ : Int) (i4_ : Int) (p6_ : Pt) (p7_ : Pt) (s27_ : Sl) (i28_ : Int) (i29_ : Int) (h : H) (hb : impl_Set_rounds_1_b0 S K (fun fr h => loopK (impl_Set_rounds_1_w0 S K) fr h) i0_ i1_ i2_ i3_ i4_ p6_ p7_ s27_ i28_ i29_ h) : impl_Set_rounds_1_L0 S K i0_ i1_ i2_ i3_ i4_ p6_ p7_ s27_ i28_ i29_ h := loop_unroll ((impl_Set_rounds_1_link0 S K _ i0_ i1_ i2_ i3_ i4_ p6_ p7_ s27_ i28_ i29_ h).mpr hb)
def impl_Set_rounds_1_main (S : SatT) (K : AVal → H → Prop) (x0 : Int) (x1 : Int) (x2 : Int) (x3 : Int) (x4 : Int) (x5 : Pt) (x6 : Pt) (x7 : Pt) (h : H) : Prop :=
 bif (x4 == (0)) then
 bif (x0 == x1) then
 ldS x5 h fun s0 =>
 lenA [.int .i64 x2, .int .i64 x3] 2 (
 newS 1 2 (spl [.int .i64 (0), .int .i64 (0)] 0 2 [.int .i64 x2, .int .i64 x3]) h fun s1 h2 =>
 app s0 s1 2 h2 fun s3 h4 =>
 st1 x5 (.sl s3) h4 fun h5 =>
 K (.tuple []) h5)
 else
 K (.tuple []) h
 else
 isPt x6 (
 ldS (Pt.add x6 1) h fun s6 =>
 impl_Set_rounds_1_L0 S K x0 x1 x2 x3 x4 x6 x7 s6 (s6.len : Int) (0) h)
theorem impl_Set_rounds_1_main_link (S : SatT) (K : AVal → H → Prop) (x0 : Int) (x1 : Int) (x2 : Int) (x3 : Int) (x4 : Int) (x5 : Pt) (x6 : Pt) (x7 : Pt) (h : H) : cwp S tab impl_Set_rounds_1_M [] (bodyOf Try.f103) (kFun tab Try.f103.results.toList K) (fr0 Try.f103 [.int .i64 x0, .int .i64 x1, .int .i64 x2, .int .i64 x3, .int .i64 x4, .ptr x5, .ptr x6, .ptr x7]) h = impl_Set_rounds_1_main S K x0 x1 x2 x3 x4 x5 x6 x7 h := by kernel_rfl
theorem impl_Set_rounds_1_call (x0 : Int) (x1 : Int) (x2 : Int) (x3 : Int) (x4 : Int) (x5 : Pt) (x6 : Pt) (x7 : Pt) (h : H) (K : AVal → H → Prop) (hm : impl_Set_rounds_1_main (Sat Try.prog) (fun v h' => K v h') x0 x1 x2 x3 x4 x5 x6 x7 h) : callV (Sat Try.prog) i_impl_Set_rounds_1 [.int .i64 x0, .int .i64 x1, .int .i64 x2, .int .i64 x3, .int .i64 x4, .ptr x5, .ptr x6, .ptr x7] h K := by
  have := Sat.ex tok mixed impl_Set_rounds_1_M Try.func103 (c := bodyOf Try.f103) (by kernel_rfl) (calls_of Try.func103 (c := bodyOf Try.f103) (by kernel_rfl) (by decide)) ((impl_Set_rounds_1_main_link _ _ x0 x1 x2 x3 x4 x5 x6 x7 h).mpr hm)
  exact this

/-! ### loop.example/g01354/spec.l05Words -/
def spec_l05Words_M : Nat → List Nat := fun i => bif i == 0 then [2, 7, 8, 9, 10] else []
def spec_l05Words_ks2 (S : SatT) (K : AVal → H → Prop) : Kont := kSeq (cwp S tab spec_l05Words_M [] (sub [1, 1, 1] (bodyOf Try.f50)) (kFun tab (Try.f50).results.toList K)) (kFun tab (Try.f50).results.toList K)
def spec_l05Words_e0 (p2_ : Pt) (s7_ : Sl) (s8_ : Sl) (s9_ : Sl) (i10_ : Int) : Frame := [U, U, .ptr p2_, U, U, U, U, .sl s7_, .sl s8_, .sl s9_, .int .i64 i10_, U, U, U, U, U, U, U, U, U, U, U, U, U, U, U, U, U, U, U, U, U, U, U, U, U, U, U, U, U, U, U, U, U]
def spec_l05Words_w0 (S : SatT) (K : AVal → H → Prop) : (Frame → H → Prop) → Frame → H → Prop := fun X fr h => cwp S tab spec_l05Words_M (spec_l05Words_M 0) (sub [1, 1, 0, 1, 0, 0] (bodyOf Try.f50)) (kSeq (fun fr h => X (mask (spec_l05Words_M 0) fr) h) (kBlk 0 (spec_l05Words_ks2 S K))) fr h
def spec_l05Words_L0 (S : SatT) (K : AVal → H → Prop) (p2_ : Pt) (s7_ : Sl) (s8_ : Sl) (s9_ : Sl) (i10_ : Int) (h : H) : Prop := loopK (spec_l05Words_w0 S K) (spec_l05Words_e0 p2_ s7_ s8_ s9_ i10_) h
def spec_l05Words_C0 (S : SatT) (K : AVal → H → Prop) (s7_ : Sl) (s8_ : Sl) (s9_ : Sl) (h : H) : Prop :=
 K (.tuple [.sl s7_, .sl s8_, .sl s9_]) h
def spec_l05Words_b0 (S : SatT) (K : AVal → H → Prop) (X0 : Frame → H → Prop) (p2_ : Pt) (s7_ : Sl) (s8_ : Sl) (s9_ : Sl) (i10_ : Int) (h : H) : Prop :=
 bif (decide (i10_ < (s7_.len : Int))) then
 ldA p2_ 2 h fun cs0 =>
 ixS s7_ 1 i10_ fun p1 =>
 ldS p1 h fun s2 =>
 callI S .i64 i_spec_l05Side [.agg cs0, .sl s2, .int .i64 (1)] h fun n4 h3 =>
 newS 1 1 [.int .i64 n4] h3 fun s5 h6 =>
 app s8_ s5 1 h6 fun s7 h8 =>
 ldA p2_ 2 h8 fun cs9 =>
 ixS s7_ 1 i10_ fun p10 =>
 ldS p10 h8 fun s11 =>
 callI S .i64 i_spec_l05Side [.agg cs9, .sl s11, .int .i64 (3)] h8 fun n13 h12 =>
 newS 1 1 [.int .i64 n13] h12 fun s14 h15 =>
 app s9_ s14 1 h15 fun s16 h17 =>
 X0 (spec_l05Words_e0 p2_ s7_ s7 s16 (w64 (i10_ + (1)))) h17
 else
 spec_l05Words_C0 S K s7_ s8_ s9_ h
theorem spec_l05Words_link0 (S : SatT) (K : AVal → H → Prop) (X0 : Frame → H → Prop) (p2_ : Pt) (s7_ : Sl) (s8_ : Sl) (s9_ : Sl) (i10_ : Int) (h : H) : spec_l05Words_w0 S K X0 (spec_l05Words_e0 p2_ s7_ s8_ s9_ i10_) h = spec_l05Words_b0 S K X0 p2_ s7_ s8_ s9_ i10_ h := by kernel_rfl
theorem spec_l05Words_rule0 (S : SatT) (K : AVal → H → Prop) (p2_ : Pt) (s7_ : Sl) (I_ : Sl → Sl → Int → H → Prop) (m_ : Sl → Sl → Int → H → Nat)
    (hs : ∀ (X0 : Frame → H → Prop) (s8_ : Sl) (s9_ : Sl) (i10_ : Int) (h : H), I_ s8_ s9_ i10_ h → (∀ (s8_' : Sl) (s9_' : Sl) (i10_' : Int) (h' : H), I_ s8_' s9_' i10_' h' → m_ s8_' s9_' i10_' h' < m_ s8_ s9_ i10_ h → X0 (spec_l05Words_e0 p2_ s7_ s8_' s9_' i10_') h') → spec_l05Words_b0 S K X0 p2_ s7_ s8_ s9_ i10_ h) (s8_ : Sl) (s9_ : Sl) (i10_ : Int) {h : H} (h0 : I_ s8_ s9_ i10_ h) : spec_l05Words_L0 S K p2_ s7_ s8_ s9_ i10_ h :=
  loop_rule (σ := (Sl) × (Sl) × (Int)) (fun s_ => spec_l05Words_e0 p2_ s7_ (s_.1) (s_.2.1) (s_.2.2)) (fun s_ h => I_ (s_.1) (s_.2.1) (s_.2.2) h) (fun s_ h => m_ (s_.1) (s_.2.1) (s_.2.2) h)
    (fun X s_ h hi hx => (spec_l05Words_link0 S K X p2_ s7_ (s_.1) (s_.2.1) (s_.2.2) h).mpr (hs X (s_.1) (s_.2.1) (s_.2.2) h hi fun s8_' s9_' i10_' h' hi' hm' => hx (s8_', s9_', i10_') h' hi' hm')) (s8_, s9_, i10_) h0
theorem spec_l05Words_unroll0 (S : SatT) (K : AVal → H → Prop) (p2_ : Pt) (s7_ : Sl) (s8_ : Sl) (s9_ : Sl) (i10_ : Int) (h : H) (hb : spec_l05Words_b0 S K (fun fr h => loopK (spec_l05Words_w0 S K) fr h) p2_ s7_ s8_ s9_ i10_ h) : spec_l05Words_L0 S K p2_ s7_ s8_ s9_ i10_ h := loop_unroll ((spec_l05Words_link0 S K _ p2_ s7_ s8_ s9_ i10_ h).mpr hb)
def spec_l05Words_main (S : SatT) (K : AVal → H → Prop) (x0 : List AVal) (x1 : Int) (h : H) : Prop :=
 newK 2 x0 h fun p0 h1 =>
 ldA p0 2 h1 fun cs2 =>
 newS 0 1 [] h1 fun s3 h4 =>
 callS S i_spec_l05Rounds [.agg cs2, .sl s3, .int .i64 x1] h4 fun s6 h5 =>
 newS 0 1 [] h5 fun s7 h8 =>
 newS 0 1 [] h8 fun s9 h10 =>
 spec_l05Words_L0 S K p0 s6 s7 s9 (0) h10
theorem spec_l05Words_main_link (S : SatT) (K : AVal → H → Prop) (x0 : List AVal) (x1 : Int) (h : H) : cwp S tab spec_l05Words_M [] (bodyOf Try.f50) (kFun tab Try.f50.results.toList K) (fr0 Try.f50 [.agg x0, .int .i64 x1]) h = spec_l05Words_main S K x0 x1 h := by kernel_rfl
theorem spec_l05Words_call (x0 : List AVal) (x1 : Int) (h : H) (K : AVal → H → Prop) (hm : spec_l05Words_main (Sat Try.prog) (fun v h' => K v h') x0 x1 h) : callV (Sat Try.prog) i_spec_l05Words [.agg x0, .int .i64 x1] h K := by
  have := Sat.ex tok mixed spec_l05Words_M Try.func50 (c := bodyOf Try.f50) (by kernel_rfl) (calls_of Try.func50 (c := bodyOf Try.f50) (by kernel_rfl) (by decide)) ((spec_l05Words_main_link _ _ x0 x1 h).mpr hm)
  exact this

/-! ### loop.example/g01354/impl.IsSet -/
def impl_IsSet_M : Nat → List Nat := fun i => bif i == 0 then [1, 6, 7, 8] else []
def impl_IsSet_ks1 (S : SatT) (K : AVal → H → Prop) : Kont := kSeq (cwp S tab impl_IsSet_M [] (sub [1, 1] (bodyOf Try.f77)) (kFun tab (Try.f77).results.toList K)) (kFun tab (Try.f77).results.toList K)
def impl_IsSet_e0 (p1_ : Pt) (s6_ : Sl) (i7_ : Int) (i8_ : Int) : Frame := [U, .ptr p1_, U, U, U, U, .sl s6_, .int .i64 i7_, .int .i64 i8_, U, U, U, U, U, U, U, U, U, U, U, U, U, U, U, U, U, U, U, U, U, U, U, U, U, U, U, U, U, U, U, U, U, U]
def impl_IsSet_w0 (S : SatT) (K : AVal → H → Prop) : (Frame → H → Prop) → Frame → H → Prop := fun X fr h => cwp S tab impl_IsSet_M (impl_IsSet_M 0) (sub [1, 0, 1, 0, 0] (bodyOf Try.f77)) (kSeq (fun fr h => X (mask (impl_IsSet_M 0) fr) h) (kBlk 0 (impl_IsSet_ks1 S K))) fr h
def impl_IsSet_L0 (S : SatT) (K : AVal → H → Prop) (p1_ : Pt) (s6_ : Sl) (i7_ : Int) (i8_ : Int) (h : H) : Prop := loopK (impl_IsSet_w0 S K) (impl_IsSet_e0 p1_ s6_ i7_ i8_) h
def impl_IsSet_C0 (S : SatT) (K : AVal → H → Prop) (p1_ : Pt) (h : H) : Prop :=
 isPt p1_ (
 ldI .i64 (Pt.add p1_ 0) h fun n0 =>
 callB S i_impl_within [.int .i64 n0, .int .i64 (1), .int .i64 (6)] h fun b2 h1 =>
 bif b2 then
 isPt p1_ (
 ldS (Pt.add p1_ 1) h1 fun s3 =>
 K (.bool (decide ((s3.len : Int) ≤ (16)))) h1)
 else
 K (.bool false) h1)
def impl_IsSet_b0 (S : SatT) (K : AVal → H → Prop) (X0 : Frame → H → Prop) (p1_ : Pt) (s6_ : Sl) (i7_ : Int) (i8_ : Int) (h : H) : Prop :=
 bif (decide (i8_ < i7_)) then
 ixS s6_ 4 i8_ fun p0 =>
 ldA p0 4 h fun cs1 =>
 newO [.int .i64 (0), .int .i64 (0), .int .i64 (0), .int .i64 (0)] h fun p2 h3 =>
 stN p2 4 cs1 h3 fun h4 =>
 ldA p2 4 h4 fun cs5 =>
 isPt p1_ (
 ldI .i64 (Pt.add p1_ 0) h4 fun n6 =>
 callB S i_impl_isTile [.agg cs5, .int .i64 n6] h4 fun b8 h7 =>
 bif (!b8) then
 K (.bool false) h7
 else
 bif (decide (i8_ > (0))) then
 isPt p1_ (
 ldS (Pt.add p1_ 1) h7 fun s9 =>
 ixS s9 4 (w64 (i8_ - (1))) fun p10 =>
 ldA p10 4 h7 fun cs11 =>
 ldA p2 4 h7 fun cs12 =>
 callI S .i64 i_impl_compare [.agg cs11, .agg cs12] h7 fun n14 h13 =>
 bif (decide (n14 ≥ (0))) then
 K (.bool false) h13
 else
 X0 (impl_IsSet_e0 p1_ s6_ i7_ (w64 (i8_ + (1)))) h13)
 else
 X0 (impl_IsSet_e0 p1_ s6_ i7_ (w64 (i8_ + (1)))) h7)
 else
 impl_IsSet_C0 S K p1_ h
theorem impl_IsSet_link0 (S : SatT) (K : AVal → H → Prop) (X0 : Frame → H → Prop) (p1_ : Pt) (s6_ : Sl) (i7_ : Int) (i8_ : Int) (h : H) : impl_IsSet_w0 S K X0 (impl_IsSet_e0 p1_ s6_ i7_ i8_) h = impl_IsSet_b0 S K X0 p1_ s6_ i7_ i8_ h := by kernel_rfl
theorem impl_IsSet_rule0 (S : SatT) (K : AVal → H → Prop) (p1_ : Pt) (s6_ : Sl) (i7_ : Int) (I_ : Int → H → Prop) (m_ : Int → H → Nat)
    (hs : ∀ (X0 : Frame → H → Prop) (i8_ : Int) (h : H), I_ i8_ h → (∀ (i8_' : Int) (h' : H), I_ i8_' h' → m_ i8_' h' < m_ i8_ h → X0 (impl_IsSet_e0 p1_ s6_ i7_ i8_') h') → impl_IsSet_b0 S K X0 p1_ s6_ i7_ i8_ h) (i8_ : Int) {h : H} (h0 : I_ i8_ h) : impl_IsSet_L0 S K p1_ s6_ i7_ i8_ h :=
  loop_rule (σ := (Int)) (fun s_ => impl_IsSet_e0 p1_ s6_ i7_ (s_)) (fun s_ h => I_ (s_) h) (fun s_ h => m_ (s_) h)
    (fun X s_ h hi hx => (impl_IsSet_link0 S K X p1_ s6_ i7_ (s_) h).mpr (hs X (s_) h hi fun i8_' h' hi' hm' => hx (i8_') h' hi' hm')) (i8_) h0
theorem impl_IsSet_unroll0 (S : SatT) (K : AVal → H → Prop) (p1_ : Pt) (s6_ : Sl) (i7_ : Int) (i8_ : Int) (h : H) (hb : impl_IsSet_b0 S K (fun fr h => loopK (impl_IsSet_w0 S K) fr h) p1_ s6_ i7_ i8_ h) : impl_IsSet_L0 S K p1_ s6_ i7_ i8_ h := loop_unroll ((impl_IsSet_link0 S K _ p1_ s6_ i7_ i8_ h).mpr hb)
def impl_IsSet_main (S : SatT) (K : AVal → H → Prop) (x0 : List AVal) (h : H) : Prop :=
 newK 2 x0 h fun p0 h1 =>
 isPt p0 (
 ldS (Pt.add p0 1) h1 fun s2 =>
 impl_IsSet_L0 S K p0 s2 (s2.len : Int) (0) h1)
theorem impl_IsSet_main_link (S : SatT) (K : AVal → H → Prop) (x0 : List AVal) (h : H) : cwp S tab impl_IsSet_M [] (bodyOf Try.f77) (kFun tab Try.f77.results.toList K) (fr0 Try.f77 [.agg x0]) h = impl_IsSet_main S K x0 h := by kernel_rfl
theorem impl_IsSet_call (x0 : List AVal) (h : H) (K : Bool → H → Prop) (hm : impl_IsSet_main (Sat Try.prog) (fun v h' => ∃ r, v = .bool r ∧ K r h') x0 h) : callB (Sat Try.prog) i_impl_IsSet [.agg x0] h K := by
  have := Sat.ex tok mixed impl_IsSet_M Try.func77 (c := bodyOf Try.f77) (by kernel_rfl) (calls_of Try.func77 (c := bodyOf Try.f77) (by kernel_rfl) (by decide)) ((impl_IsSet_main_link _ _ x0 h).mpr hm)
  obtain ⟨v, h2, h3, r, rfl, h4⟩ := this; exact ⟨r, h2, h3, h4⟩

/-! ### loop.example/g01354/spec.l05Side -/
def spec_l05Side_M : Nat → List Nat := fun i => bif i == 0 then [1, 2, 3, 7, 8] else []
def spec_l05Side_ks2 (S : SatT) (K : AVal → H → Prop) : Kont := kSeq (cwp S tab spec_l05Side_M [] (sub [1, 1, 1] (bodyOf Try.f101)) (kFun tab (Try.f101).results.toList K)) (kFun tab (Try.f101).results.toList K)
def spec_l05Side_e0 (s1_ : Sl) (i2_ : Int) (p3_ : Pt) (i7_ : Int) (i8_ : Int) : Frame := [U, .sl s1_, .int .i64 i2_, .ptr p3_, U, U, U, .int .i64 i7_, .int .i64 i8_, U, U, U, U, U, U, U, U, U, U, U, U, U, U, U, U, U, U, U, U, U, U]
def spec_l05Side_w0 (S : SatT) (K : AVal → H → Prop) : (Frame → H → Prop) → Frame → H → Prop := fun X fr h => cwp S tab spec_l05Side_M (spec_l05Side_M 0) (sub [1, 1, 0, 1, 0, 0] (bodyOf Try.f101)) (kSeq (fun fr h => X (mask (spec_l05Side_M 0) fr) h) (kBlk 0 (spec_l05Side_ks2 S K))) fr h
def spec_l05Side_L0 (S : SatT) (K : AVal → H → Prop) (s1_ : Sl) (i2_ : Int) (p3_ : Pt) (i7_ : Int) (i8_ : Int) (h : H) : Prop := loopK (spec_l05Side_w0 S K) (spec_l05Side_e0 s1_ i2_ p3_ i7_ i8_) h
def spec_l05Side_C0 (S : SatT) (K : AVal → H → Prop) (i7_ : Int) (h : H) : Prop :=
 K (.int .i64 i7_) h
def spec_l05Side_b0 (S : SatT) (K : AVal → H → Prop) (X0 : Frame → H → Prop) (s1_ : Sl) (i2_ : Int) (p3_ : Pt) (i7_ : Int) (i8_ : Int) (h : H) : Prop :=
 bif (decide (i8_ < (s1_.len : Int))) then
 isPt p3_ (
 ldI .i64 (Pt.add p3_ 0) h fun n0 =>
 isPt p3_ (
 ldS (Pt.add p3_ 1) h fun s1 =>
 ixS s1_ 1 i8_ fun p2 =>
 ldI .i64 p2 h fun n3 =>
 ixS s1 4 n3 fun p4 =>
 ixA p4 4 1 i2_ fun p5 =>
 ldI .i64 p5 h fun n6 =>
 X0 (spec_l05Side_e0 s1_ i2_ p3_ (w64 ((w64 (i7_ * n0)) + n6)) (w64 (i8_ + (1)))) h))
 else
 spec_l05Side_C0 S K i7_ h
theorem spec_l05Side_link0 (S : SatT) (K : AVal → H → Prop) (X0 : Frame → H → Prop) (s1_ : Sl) (i2_ : Int) (p3_ : Pt) (i7_ : Int) (i8_ : Int) (h : H) : spec_l05Side_w0 S K X0 (spec_l05Side_e0 s1_ i2_ p3_ i7_ i8_) h = spec_l05Side_b0 S K X0 s1_ i2_ p3_ i7_ i8_ h := by kernel_rfl
theorem spec_l05Side_rule0 (S : SatT) (K : AVal → H → Prop) (s1_ : Sl) (i2_ : Int) (p3_ : Pt) (I_ : Int → Int → H → Prop) (m_ : Int → Int → H → Nat)
    (hs : ∀ (X0 : Frame → H → Prop) (i7_ : Int) (i8_ : Int) (h : H), I_ i7_ i8_ h → (∀ (i7_' : Int) (i8_' : Int) (h' : H), I_ i7_' i8_' h' → m_ i7_' i8_' h' < m_ i7_ i8_ h → X0 (spec_l05Side_e0 s1_ i2_ p3_ i7_' i8_') h') → spec_l05Side_b0 S K X0 s1_ i2_ p3_ i7_ i8_ h) (i7_ : Int) (i8_ : Int) {h : H} (h0 : I_ i7_ i8_ h) : spec_l05Side_L0 S K s1_ i2_ p3_ i7_ i8_ h :=
  loop_rule (σ := (Int) × (Int)) (fun s_ => spec_l05Side_e0 s1_ i2_ p3_ (s_.1) (s_.2)) (fun s_ h => I_ (s_.1) (s_.2) h) (fun s_ h => m_ (s_.1) (s_.2) h)
    (fun X s_ h hi hx => (spec_l05Side_link0 S K X s1_ i2_ p3_ (s_.1) (s_.2) h).mpr (hs X (s_.1) (s_.2) h hi fun i7_' i8_' h' hi' hm' => hx (i7_', i8_') h' hi' hm')) (i7_, i8_) h0
theorem spec_l05Side_unroll0 (S : SatT) (K : AVal → H → Prop) (s1_ : Sl) (i2_ : Int) (p3_ : Pt) (i7_ : Int) (i8_ : Int) (h : H) (hb : spec_l05Side_b0 S K (fun fr h => loopK (spec_l05Side_w0 S K) fr h) s1_ i2_ p3_ i7_ i8_ h) : spec_l05Side_L0 S K s1_ i2_ p3_ i7_ i8_ h := loop_unroll ((spec_l05Side_link0 S K _ s1_ i2_ p3_ i7_ i8_ h).mpr hb)
def spec_l05Side_main (S : SatT) (K : AVal → H → Prop) (x0 : List AVal) (x1 : Sl) (x2 : Int) (h : H) : Prop :=
 newK 2 x0 h fun p0 h1 =>
 spec_l05Side_L0 S K x1 x2 p0 (0) (0) h1
theorem spec_l05Side_main_link (S : SatT) (K : AVal → H → Prop) (x0 : List AVal) (x1 : Sl) (x2 : Int) (h : H) : cwp S tab spec_l05Side_M [] (bodyOf Try.f101) (kFun tab Try.f101.results.toList K) (fr0 Try.f101 [.agg x0, .sl x1, .int .i64 x2]) h = spec_l05Side_main S K x0 x1 x2 h := by kernel_rfl
theorem spec_l05Side_call (x0 : List AVal) (x1 : Sl) (x2 : Int) (h : H) (K : Int → H → Prop) (hm : spec_l05Side_main (Sat Try.prog) (fun v h' => ∃ r, v = .int .i64 r ∧ K r h') x0 x1 x2 h) : callI (Sat Try.prog) .i64 i_spec_l05Side [.agg x0, .sl x1, .int .i64 x2] h K := by
  have := Sat.ex tok mixed spec_l05Side_M Try.func101 (c := bodyOf Try.f101) (by kernel_rfl) (calls_of Try.func101 (c := bodyOf Try.f101) (by kernel_rfl) (by decide)) ((spec_l05Side_main_link _ _ x0 x1 x2 h).mpr hm)
  obtain ⟨v, h2, h3, r, rfl, h4⟩ := this; exact ⟨r, h2, h3, h4⟩

/-! ### loop.example/g01354/laws.FnExactShiftsKept -/
def laws_FnExactShiftsKept_M : Nat → List Nat := fun i => []
def laws_FnExactShiftsKept_main (S : SatT) (K : AVal → H → Prop) (x0 : List AVal) (x1 : Sl) (h : H) : Prop :=
 newK 2 x0 h fun p0 h1 =>
 ldA p0 2 h1 fun cs2 =>
 callI S .i64 i_laws_szSet [.agg cs2, .int .i64 (1048576)] h1 fun n4 h3 =>
 bif (decide (n4 < (0))) then
 K (.bool true) h3
 else
 callI S .i64 i_laws_szInt64SS [.sl x1, .int .i64 n4] h3 fun n6 h5 =>
 bif (decide (n6 < (0))) then
 K (.bool true) h5
 else
 ldA p0 2 h5 fun cs7 =>
 callA S i_laws_toSet [.agg cs7] h5 fun cs9 h8 =>
 callS S i_laws_toInt64SS [.sl x1] h8 fun s11 h10 =>
 callV S i_spec_ShiftsKept [.agg cs9, .sl s11] h10 fun v13 h12 =>
 viaT v13 fun vs14 =>
 exS vs14 0 fun s15 =>
 viaT v13 fun vs16 =>
 exI .i64 vs16 1 fun n17 =>
 ldA p0 2 h12 fun cs18 =>
 callA S i_laws_toSet [.agg cs18] h12 fun cs20 h19 =>
 newO [.int .i64 (0), .sl Sl.nil] h19 fun p21 h22 =>
 stN p21 2 cs20 h22 fun h23 =>
 callS S i_laws_toInt64SS [.sl x1] h23 fun s25 h24 =>
 ldA p21 2 h24 fun cs26 =>
 callV S i_impl_ShiftsKept [.agg cs26, .sl s25] h24 fun v28 h27 =>
 viaT v28 fun vs29 =>
 exS vs29 0 fun s30 =>
 viaT v28 fun vs31 =>
 exI .i64 vs31 1 fun n32 =>
 callB S i_laws_eqInt64SS [.sl s30, .sl s15] h27 fun b34 h33 =>
 bif (!b34) then
 K (.bool false) h33
 else
 bif (n32 != n17) then
 K (.bool false) h33
 else
 ldA p21 2 h33 fun cs35 =>
 ldA p0 2 h33 fun cs36 =>
 callA S i_laws_toSet [.agg cs36] h33 fun cs38 h37 =>
(range h37 p21.o p21.n p21.off 2 = range h33 p21.o p21.n p21.off 2) ∧ (
 callB S i_laws_eqSet [.agg cs35, .agg cs38] h37 fun b40 h39 =>
 bif (!b40) then
 K (.bool false) h39
 else
 callS S i_laws_toInt64SS [.sl x1] h39 fun s42 h41 =>
 callB S i_laws_eqInt64SS [.sl s25, .sl s42] h41 fun b44 h43 =>
 bif (!b44) then
 K (.bool false) h43
 else
 ldA p21 2 h43 fun cs45 =>
 callI S .i64 i_laws_markSet [.agg cs45, .int .i64 (1)] h43 fun n47 h46 =>
 callI S .i64 i_laws_markInt64SS [.sl s25, .int .i64 n47] h46 fun n49 h48 =>
 bif (decide (n49 < (0))) then
 K (.bool false) h48
 else
 callB S i_laws_eqInt64SS [.sl s30, .sl s15] h48 fun b51 h50 =>
 bif (!b51) then
 K (.bool false) h50
 else
 bif (n32 != n17) then
 K (.bool false) h50
 else
 callI S .i64 i_laws_markInt64SS [.sl s30, .int .i64 (1)] h50 fun n53 h52 =>
 callI S .i64 i_laws_heldInt64SS [.sl s30, .int .i64 (1)] h52 fun n55 h54 =>
 bif (decide (n55 < (0))) then
 K (.bool false) h54
 else
 bif (n55 != n53) then
 K (.bool false) h54
 else
 ldA p0 2 h54 fun cs56 =>
 callA S i_laws_toSet [.agg cs56] h54 fun cs58 h57 =>
 callS S i_laws_toInt64SS [.sl x1] h57 fun s60 h59 =>
 callV S i_impl_ShiftsKept [.agg cs58, .sl s60] h59 fun v62 h61 =>
 viaT v62 fun vs63 =>
 exS vs63 0 fun s64 =>
 viaT v62 fun vs65 =>
 exI .i64 vs65 1 fun n66 =>
 callB S i_laws_eqInt64SS [.sl s64, .sl s15] h61 fun b68 h67 =>
 bif (!b68) then
 K (.bool false) h67
 else
 bif (n66 != n17) then
 K (.bool false) h67
 else
 callI S .i64 i_laws_heldInt64SS [.sl s30, .int .i64 (1)] h67 fun n70 h69 =>
 bif (decide (n70 < (0))) then
 K (.bool false) h69
 else
 bif (n70 != n53) then
 K (.bool false) h69
 else
 K (.bool true) h69)
theorem laws_FnExactShiftsKept_main_link (S : SatT) (K : AVal → H → Prop) (x0 : List AVal) (x1 : Sl) (h : H) : cwp S tab laws_FnExactShiftsKept_M [] (bodyOf Try.f14) (kFun tab Try.f14.results.toList K) (fr0 Try.f14 [.agg x0, .sl x1]) h = laws_FnExactShiftsKept_main S K x0 x1 h := by kernel_rfl
theorem laws_FnExactShiftsKept_call (x0 : List AVal) (x1 : Sl) (h : H) (K : Bool → H → Prop) (hm : laws_FnExactShiftsKept_main (Sat Try.prog) (fun v h' => ∃ r, v = .bool r ∧ K r h') x0 x1 h) : callB (Sat Try.prog) i_laws_FnExactShiftsKept [.agg x0, .sl x1] h K := by
  have := Sat.ex tok mixed laws_FnExactShiftsKept_M Try.func14 (c := bodyOf Try.f14) (by kernel_rfl) (calls_of Try.func14 (c := bodyOf Try.f14) (by kernel_rfl) (by decide)) ((laws_FnExactShiftsKept_main_link _ _ x0 x1 h).mpr hm)
  obtain ⟨v, h2, h3, r, rfl, h4⟩ := this; exact ⟨r, h2, h3, h4⟩

/-! ### loop.example/g01354/laws.markInt64SS -/
def laws_markInt64SS_M : Nat → List Nat := fun i => bif i == 0 then [0, 1, 5] else []
def laws_markInt64SS_ks1 (S : SatT) (K : AVal → H → Prop) : Kont := kSeq (cwp S tab laws_markInt64SS_M [] (sub [1, 1] (bodyOf Try.f32)) (kFun tab (Try.f32).results.toList K)) (kFun tab (Try.f32).results.toList K)
def laws_markInt64SS_e0 (s0_ : Sl) (i1_ : Int) (i5_ : Int) : Frame := [.sl s0_, .int .i64 i1_, U, U, U, .int .i64 i5_, U, U, U, U, U, U, U, U, U, U, U, U, U]
def laws_markInt64SS_w0 (S : SatT) (K : AVal → H → Prop) : (Frame → H → Prop) → Frame → H → Prop := fun X fr h => cwp S tab laws_markInt64SS_M (laws_markInt64SS_M 0) (sub [1, 0, 1, 0, 0] (bodyOf Try.f32)) (kSeq (fun fr h => X (mask (laws_markInt64SS_M 0) fr) h) (kBlk 0 (laws_markInt64SS_ks1 S K))) fr h
def laws_markInt64SS_L0 (S : SatT) (K : AVal → H → Prop) (s0_ : Sl) (i1_ : Int) (i5_ : Int) (h : H) : Prop := loopK (laws_markInt64SS_w0 S K) (laws_markInt64SS_e0 s0_ i1_ i5_) h
def laws_markInt64SS_C0 (S : SatT) (K : AVal → H → Prop) (i1_ : Int) (h : H) : Prop :=
 K (.int .i64 i1_) h
def laws_markInt64SS_b0 (S : SatT) (K : AVal → H → Prop) (X0 : Frame → H → Prop) (s0_ : Sl) (i1_ : Int) (i5_ : Int) (h : H) : Prop :=
 bif (decide (i5_ < (s0_.len : Int))) then
 ixS s0_ 1 i5_ fun p0 =>
 ldS p0 h fun s1 =>
 callI S .i64 i_laws_markInt64S [.sl s1, .int .i64 i1_] h fun n3 h2 =>
 X0 (laws_markInt64SS_e0 s0_ n3 (w64 (i5_ + (1)))) h2
 else
 laws_markInt64SS_C0 S K i1_ h
theorem laws_markInt64SS_link0 (S : SatT) (K : AVal → H → Prop) (X0 : Frame → H → Prop) (s0_ : Sl) (i1_ : Int) (i5_ : Int) (h : H) : laws_markInt64SS_w0 S K X0 (laws_markInt64SS_e0 s0_ i1_ i5_) h = laws_markInt64SS_b0 S K X0 s0_ i1_ i5_ h := by kernel_rfl
theorem laws_markInt64SS_rule0 (S : SatT) (K : AVal → H → Prop) (s0_ : Sl) (I_ : Int → Int → H → Prop) (m_ : Int → Int → H → Nat)
    (hs : ∀ (X0 : Frame → H → Prop) (i1_ : Int) (i5_ : Int) (h : H), I_ i1_ i5_ h → (∀ (i1_' : Int) (i5_' : Int) (h' : H), I_ i1_' i5_' h' → m_ i1_' i5_' h' < m_ i1_ i5_ h → X0 (laws_markInt64SS_e0 s0_ i1_' i5_') h') → laws_markInt64SS_b0 S K X0 s0_ i1_ i5_ h) (i1_ : Int) (i5_ : Int) {h : H} (h0 : I_ i1_ i5_ h) : laws_markInt64SS_L0 S K s0_ i1_ i5_ h :=
  loop_rule (σ := (Int) × (Int)) (fun s_ => laws_markInt64SS_e0 s0_ (s_.1) (s_.2)) (fun s_ h => I_ (s_.1) (s_.2) h) (fun s_ h => m_ (s_.1) (s_.2) h)
    (fun X s_ h hi hx => (laws_markInt64SS_link0 S K X s0_ (s_.1) (s_.2) h).mpr (hs X (s_.1) (s_.2) h hi fun i1_' i5_' h' hi' hm' => hx (i1_', i5_') h' hi' hm')) (i1_, i5_) h0
theorem laws_markInt64SS_unroll0 (S : SatT) (K : AVal → H → Prop) (s0_ : Sl) (i1_ : Int) (i5_ : Int) (h : H) (hb : laws_markInt64SS_b0 S K (fun fr h => loopK (laws_markInt64SS_w0 S K) fr h) s0_ i1_ i5_ h) : laws_markInt64SS_L0 S K s0_ i1_ i5_ h := loop_unroll ((laws_markInt64SS_link0 S K _ s0_ i1_ i5_ h).mpr hb)
def laws_markInt64SS_main (S : SatT) (K : AVal → H → Prop) (x0 : Sl) (x1 : Int) (h : H) : Prop :=
 laws_markInt64SS_L0 S K x0 x1 (0) h
theorem laws_markInt64SS_main_link (S : SatT) (K : AVal → H → Prop) (x0 : Sl) (x1 : Int) (h : H) : cwp S tab laws_markInt64SS_M [] (bodyOf Try.f32) (kFun tab Try.f32.results.toList K) (fr0 Try.f32 [.sl x0, .int .i64 x1]) h = laws_markInt64SS_main S K x0 x1 h := by kernel_rfl
theorem laws_markInt64SS_call (x0 : Sl) (x1 : Int) (h : H) (K : Int → H → Prop) (hm : laws_markInt64SS_main (Sat Try.prog) (fun v h' => ∃ r, v = .int .i64 r ∧ K r h') x0 x1 h) : callI (Sat Try.prog) .i64 i_laws_markInt64SS [.sl x0, .int .i64 x1] h K := by
  have := Sat.ex tok mixed laws_markInt64SS_M Try.func32 (c := bodyOf Try.f32) (by kernel_rfl) (calls_of Try.func32 (c := bodyOf Try.f32) (by kernel_rfl) (by decide)) ((laws_markInt64SS_main_link _ _ x0 x1 h).mpr hm)
  obtain ⟨v, h2, h3, r, rfl, h4⟩ := this; exact ⟨r, h2, h3, h4⟩

/-! ### loop.example/g01354/laws.markInt64S -/
def laws_markInt64S_M : Nat → List Nat := fun i => bif i == 0 then [0, 1, 5] else []
def laws_markInt64S_ks1 (S : SatT) (K : AVal → H → Prop) : Kont := kSeq (cwp S tab laws_markInt64S_M [] (sub [1, 1] (bodyOf Try.f79)) (kFun tab (Try.f79).results.toList K)) (kFun tab (Try.f79).results.toList K)
def laws_markInt64S_e0 (s0_ : Sl) (i1_ : Int) (i5_ : Int) : Frame := [.sl s0_, .int .i64 i1_, U, U, U, .int .i64 i5_, U, U, U, U, U, U, U, U, U, U, U, U, U]
def laws_markInt64S_w0 (S : SatT) (K : AVal → H → Prop) : (Frame → H → Prop) → Frame → H → Prop := fun X fr h => cwp S tab laws_markInt64S_M (laws_markInt64S_M 0) (sub [1, 0, 1, 0, 0] (bodyOf Try.f79)) (kSeq (fun fr h => X (mask (laws_markInt64S_M 0) fr) h) (kBlk 0 (laws_markInt64S_ks1 S K))) fr h
def laws_markInt64S_L0 (S : SatT) (K : AVal → H → Prop) (s0_ : Sl) (i1_ : Int) (i5_ : Int) (h : H) : Prop := loopK (laws_markInt64S_w0 S K) (laws_markInt64S_e0 s0_ i1_ i5_) h
def laws_markInt64S_C0 (S : SatT) (K : AVal → H → Prop) (i1_ : Int) (h : H) : Prop :=
 K (.int .i64 i1_) h
def laws_markInt64S_b0 (S : SatT) (K : AVal → H → Prop) (X0 : Frame → H → Prop) (s0_ : Sl) (i1_ : Int) (i5_ : Int) (h : H) : Prop :=
 bif (decide (i5_ < (s0_.len : Int))) then
 ixS s0_ 1 i5_ fun p0 =>
 st1 p0 (.int .i64 i1_) h fun h1 =>
 X0 (laws_markInt64S_e0 s0_ (w64 (i1_ + (1))) (w64 (i5_ + (1)))) h1
 else
 laws_markInt64S_C0 S K i1_ h
theorem laws_markInt64S_link0 (S : SatT) (K : AVal → H → Prop) (X0 : Frame → H → Prop) (s0_ : Sl) (i1_ : Int) (i5_ : Int) (h : H) : laws_markInt64S_w0 S K X0 (laws_markInt64S_e0 s0_ i1_ i5_) h = laws_markInt64S_b0 S K X0 s0_ i1_ i5_ h := by kernel_rfl
theorem laws_markInt64S_rule0 (S : SatT) (K : AVal → H → Prop) (s0_ : Sl) (I_ : Int → Int → H → Prop) (m_ : Int → Int → H → Nat)
    (hs : ∀ (X0 : Frame → H → Prop) (i1_ : Int) (i5_ : Int) (h : H), I_ i1_ i5_ h → (∀ (i1_' : Int) (i5_' : Int) (h' : H), I_ i1_' i5_' h' → m_ i1_' i5_' h' < m_ i1_ i5_ h → X0 (laws_markInt64S_e0 s0_ i1_' i5_') h') → laws_markInt64S_b0 S K X0 s0_ i1_ i5_ h) (i1_ : Int) (i5_ : Int) {h : H} (h0 : I_ i1_ i5_ h) : laws_markInt64S_L0 S K s0_ i1_ i5_ h :=
  loop_rule (σ := (Int) × (Int)) (fun s_ => laws_markInt64S_e0 s0_ (s_.1) (s_.2)) (fun s_ h => I_ (s_.1) (s_.2) h) (fun s_ h => m_ (s_.1) (s_.2) h)
    (fun X s_ h hi hx => (laws_markInt64S_link0 S K X s0_ (s_.1) (s_.2) h).mpr (hs X (s_.1) (s_.2) h hi fun i1_' i5_' h' hi' hm' => hx (i1_', i5_') h' hi' hm')) (i1_, i5_) h0
theorem laws_markInt64S_unroll0 (S : SatT) (K : AVal → H → Prop) (s0_ : Sl) (i1_ : Int) (i5_ : Int) (h : H) (hb : laws_markInt64S_b0 S K (fun fr h => loopK (laws_markInt64S_w0 S K) fr h) s0_ i1_ i5_ h) : laws_markInt64S_L0 S K s0_ i1_ i5_ h := loop_unroll ((laws_markInt64S_link0 S K _ s0_ i1_ i5_ h).mpr hb)
def laws_markInt64S_main (S : SatT) (K : AVal → H → Prop) (x0 : Sl) (x1 : Int) (h : H) : Prop :=
 laws_markInt64S_L0 S K x0 x1 (0) h
theorem laws_markInt64S_main_link (S : SatT) (K : AVal → H → Prop) (x0 : Sl) (x1 : Int) (h : H) : cwp S tab laws_markInt64S_M [] (bodyOf Try.f79) (kFun tab Try.f79.results.toList K) (fr0 Try.f79 [.sl x0, .int .i64 x1]) h = laws_markInt64S_main S K x0 x1 h := by kernel_rfl
theorem laws_markInt64S_call (x0 : Sl) (x1 : Int) (h : H) (K : Int → H → Prop) (hm : laws_markInt64S_main (Sat Try.prog) (fun v h' => ∃ r, v = .int .i64 r ∧ K r h') x0 x1 h) : callI (Sat Try.prog) .i64 i_laws_markInt64S [.sl x0, .int .i64 x1] h K := by
  have := Sat.ex tok mixed laws_markInt64S_M Try.func79 (c := bodyOf Try.f79) (by kernel_rfl) (calls_of Try.func79 (c := bodyOf Try.f79) (by kernel_rfl) (by decide)) ((laws_markInt64S_main_link _ _ x0 x1 h).mpr hm)
  obtain ⟨v, h2, h3, r, rfl, h4⟩ := this; exact ⟨r, h2, h3, h4⟩

/-! ### loop.example/g01354/spec.l01Tile -/
def spec_l01Tile_M : Nat → List Nat := fun i => bif i == 0 then [0, 3, 5] else []
def spec_l01Tile_ks1 (S : SatT) (K : AVal → H → Prop) : Kont := kSeq (cwp S tab spec_l01Tile_M [] (sub [1, 1] (bodyOf Try.f109)) (kFun tab (Try.f109).results.toList K)) (kFun tab (Try.f109).results.toList K)
def spec_l01Tile_e0 (i0_ : Int) (p3_ : Pt) (i5_ : Int) : Frame := [.int .i64 i0_, U, U, .ptr p3_, U, .int .i64 i5_, U, U, U, U, U, U, U, U, U, U, U]
def spec_l01Tile_w0 (S : SatT) (K : AVal → H → Prop) : (Frame → H → Prop) → Frame → H → Prop := fun X fr h => cwp S tab spec_l01Tile_M (spec_l01Tile_M 0) (sub [1, 0, 1, 0, 0] (bodyOf Try.f109)) (kSeq (fun fr h => X (mask (spec_l01Tile_M 0) fr) h) (kBlk 0 (spec_l01Tile_ks1 S K))) fr h
def spec_l01Tile_L0 (S : SatT) (K : AVal → H → Prop) (i0_ : Int) (p3_ : Pt) (i5_ : Int) (h : H) : Prop := loopK (spec_l01Tile_w0 S K) (spec_l01Tile_e0 i0_ p3_ i5_) h
def spec_l01Tile_C0 (S : SatT) (K : AVal → H → Prop) (h : H) : Prop :=
 K (.bool true) h
def spec_l01Tile_b0 (S : SatT) (K : AVal → H → Prop) (X0 : Frame → H → Prop) (i0_ : Int) (p3_ : Pt) (i5_ : Int) (h : H) : Prop :=
 bif (decide (i5_ < (4))) then
 ixA p3_ 4 1 i5_ fun p0 =>
 ldI .i64 p0 h fun n1 =>
 callB S i_spec_l01In [.int .i64 n1, .int .i64 (0), .int .i64 (w64 (i0_ - (1)))] h fun b3 h2 =>
 bif (!b3) then
 K (.bool false) h2
 else
 X0 (spec_l01Tile_e0 i0_ p3_ (w64 (i5_ + (1)))) h2
 else
 spec_l01Tile_C0 S K h
theorem spec_l01Tile_link0 (S : SatT) (K : AVal → H → Prop) (X0 : Frame → H → Prop) (i0_ : Int) (p3_ : Pt) (i5_ : Int) (h : H) : spec_l01Tile_w0 S K X0 (spec_l01Tile_e0 i0_ p3_ i5_) h = spec_l01Tile_b0 S K X0 i0_ p3_ i5_ h := by kernel_rfl
theorem spec_l01Tile_rule0 (S : SatT) (K : AVal → H → Prop) (i0_ : Int) (p3_ : Pt) (I_ : Int → H → Prop) (m_ : Int → H → Nat)
    (hs : ∀ (X0 : Frame → H → Prop) (i5_ : Int) (h : H), I_ i5_ h → (∀ (i5_' : Int) (h' : H), I_ i5_' h' → m_ i5_' h' < m_ i5_ h → X0 (spec_l01Tile_e0 i0_ p3_ i5_') h') → spec_l01Tile_b0 S K X0 i0_ p3_ i5_ h) (i5_ : Int) {h : H} (h0 : I_ i5_ h) : spec_l01Tile_L0 S K i0_ p3_ i5_ h :=
  loop_rule (σ := (Int)) (fun s_ => spec_l01Tile_e0 i0_ p3_ (s_)) (fun s_ h => I_ (s_) h) (fun s_ h => m_ (s_) h)
    (fun X s_ h hi hx => (spec_l01Tile_link0 S K X i0_ p3_ (s_) h).mpr (hs X (s_) h hi fun i5_' h' hi' hm' => hx (i5_') h' hi' hm')) (i5_) h0
theorem spec_l01Tile_unroll0 (S : SatT) (K : AVal → H → Prop) (i0_ : Int) (p3_ : Pt) (i5_ : Int) (h : H) (hb : spec_l01Tile_b0 S K (fun fr h => loopK (spec_l01Tile_w0 S K) fr h) i0_ p3_ i5_ h) : spec_l01Tile_L0 S K i0_ p3_ i5_ h := loop_unroll ((spec_l01Tile_link0 S K _ i0_ p3_ i5_ h).mpr hb)
def spec_l01Tile_main (S : SatT) (K : AVal → H → Prop) (x0 : Int) (x1 : List AVal) (h : H) : Prop :=
 newK 4 x1 h fun p0 h1 =>
 spec_l01Tile_L0 S K x0 p0 (0) h1
theorem spec_l01Tile_main_link (S : SatT) (K : AVal → H → Prop) (x0 : Int) (x1 : List AVal) (h : H) : cwp S tab spec_l01Tile_M [] (bodyOf Try.f109) (kFun tab Try.f109.results.toList K) (fr0 Try.f109 [.int .i64 x0, .agg x1]) h = spec_l01Tile_main S K x0 x1 h := by kernel_rfl
theorem spec_l01Tile_call (x0 : Int) (x1 : List AVal) (h : H) (K : Bool → H → Prop) (hm : spec_l01Tile_main (Sat Try.prog) (fun v h' => ∃ r, v = .bool r ∧ K r h') x0 x1 h) : callB (Sat Try.prog) i_spec_l01Tile [.int .i64 x0, .agg x1] h K := by
  have := Sat.ex tok mixed spec_l01Tile_M Try.func109 (c := bodyOf Try.f109) (by kernel_rfl) (calls_of Try.func109 (c := bodyOf Try.f109) (by kernel_rfl) (by decide)) ((spec_l01Tile_main_link _ _ x0 x1 h).mpr hm)
  obtain ⟨v, h2, h3, r, rfl, h4⟩ := this; exact ⟨r, h2, h3, h4⟩

/-! ### loop.example/g01354/laws.eqTile -/
def laws_eqTile_M : Nat → List Nat := fun i => bif i == 0 then [2, 3, 5] else []
def laws_eqTile_ks1 (S : SatT) (K : AVal → H → Prop) : Kont := kSeq (cwp S tab laws_eqTile_M [] (sub [1, 1] (bodyOf Try.f104)) (kFun tab (Try.f104).results.toList K)) (kFun tab (Try.f104).results.toList K)
def laws_eqTile_e0 (p2_ : Pt) (p3_ : Pt) (i5_ : Int) : Frame := [U, U, .ptr p2_, .ptr p3_, U, .int .i64 i5_, U, U, U, U, U, U, U, U, U, U, U]
def laws_eqTile_w0 (S : SatT) (K : AVal → H → Prop) : (Frame → H → Prop) → Frame → H → Prop := fun X fr h => cwp S tab laws_eqTile_M (laws_eqTile_M 0) (sub [1, 0, 1, 0, 0] (bodyOf Try.f104)) (kSeq (fun fr h => X (mask (laws_eqTile_M 0) fr) h) (kBlk 0 (laws_eqTile_ks1 S K))) fr h
def laws_eqTile_L0 (S : SatT) (K : AVal → H → Prop) (p2_ : Pt) (p3_ : Pt) (i5_ : Int) (h : H) : Prop := loopK (laws_eqTile_w0 S K) (laws_eqTile_e0 p2_ p3_ i5_) h
def laws_eqTile_C0 (S : SatT) (K : AVal → H → Prop) (h : H) : Prop :=
 K (.bool true) h
def laws_eqTile_b0 (S : SatT) (K : AVal → H → Prop) (X0 : Frame → H → Prop) (p2_ : Pt) (p3_ : Pt) (i5_ : Int) (h : H) : Prop :=
 bif (decide (i5_ < (4))) then
 ixA p2_ 4 1 i5_ fun p0 =>
 ldI .i64 p0 h fun n1 =>
 ixA p3_ 4 1 i5_ fun p2 =>
 ldI .i64 p2 h fun n3 =>
 bif (n1 != n3) then
 K (.bool false) h
 else
 X0 (laws_eqTile_e0 p2_ p3_ (w64 (i5_ + (1)))) h
 else
 laws_eqTile_C0 S K h
theorem laws_eqTile_link0 (S : SatT) (K : AVal → H → Prop) (X0 : Frame → H → Prop) (p2_ : Pt) (p3_ : Pt) (i5_ : Int) (h : H) : laws_eqTile_w0 S K X0 (laws_eqTile_e0 p2_ p3_ i5_) h = laws_eqTile_b0 S K X0 p2_ p3_ i5_ h := by kernel_rfl
theorem laws_eqTile_rule0 (S : SatT) (K : AVal → H → Prop) (p2_ : Pt) (p3_ : Pt) (I_ : Int → H → Prop) (m_ : Int → H → Nat)
    (hs : ∀ (X0 : Frame → H → Prop) (i5_ : Int) (h : H), I_ i5_ h → (∀ (i5_' : Int) (h' : H), I_ i5_' h' → m_ i5_' h' < m_ i5_ h → X0 (laws_eqTile_e0 p2_ p3_ i5_') h') → laws_eqTile_b0 S K X0 p2_ p3_ i5_ h) (i5_ : Int) {h : H} (h0 : I_ i5_ h) : laws_eqTile_L0 S K p2_ p3_ i5_ h :=
  loop_rule (σ := (Int)) (fun s_ => laws_eqTile_e0 p2_ p3_ (s_)) (fun s_ h => I_ (s_) h) (fun s_ h => m_ (s_) h)
    (fun X s_ h hi hx => (laws_eqTile_link0 S K X p2_ p3_ (s_) h).mpr (hs X (s_) h hi fun i5_' h' hi' hm' => hx (i5_') h' hi' hm')) (i5_) h0
theorem laws_eqTile_unroll0 (S : SatT) (K : AVal → H → Prop) (p2_ : Pt) (p3_ : Pt) (i5_ : Int) (h : H) (hb : laws_eqTile_b0 S K (fun fr h => loopK (laws_eqTile_w0 S K) fr h) p2_ p3_ i5_ h) : laws_eqTile_L0 S K p2_ p3_ i5_ h := loop_unroll ((laws_eqTile_link0 S K _ p2_ p3_ i5_ h).mpr hb)
def laws_eqTile_main (S : SatT) (K : AVal → H → Prop) (x0 : List AVal) (x1 : List AVal) (h : H) : Prop :=
 newK 4 x0 h fun p0 h1 =>
 newK 4 x1 h1 fun p2 h3 =>
 laws_eqTile_L0 S K p0 p2 (0) h3
theorem laws_eqTile_main_link (S : SatT) (K : AVal → H → Prop) (x0 : List AVal) (x1 : List AVal) (h : H) : cwp S tab laws_eqTile_M [] (bodyOf Try.f104) (kFun tab Try.f104.results.toList K) (fr0 Try.f104 [.agg x0, .agg x1]) h = laws_eqTile_main S K x0 x1 h := by kernel_rfl
theorem laws_eqTile_call (x0 : List AVal) (x1 : List AVal) (h : H) (K : Bool → H → Prop) (hm : laws_eqTile_main (Sat Try.prog) (fun v h' => ∃ r, v = .bool r ∧ K r h') x0 x1 h) : callB (Sat Try.prog) i_laws_eqTile [.agg x0, .agg x1] h K := by
  have := Sat.ex tok mixed laws_eqTile_M Try.func104 (c := bodyOf Try.f104) (by kernel_rfl) (calls_of Try.func104 (c := bodyOf Try.f104) (by kernel_rfl) (by decide)) ((laws_eqTile_main_link _ _ x0 x1 h).mpr hm)
  obtain ⟨v, h2, h3, r, rfl, h4⟩ := this; exact ⟨r, h2, h3, h4⟩

/-! ### loop.example/g01354/laws.FnExactTorusTable -/
def laws_FnExactTorusTable_M : Nat → List Nat := fun i => []
def laws_FnExactTorusTable_main (S : SatT) (K : AVal → H → Prop) (x0 : List AVal) (h : H) : Prop :=
 newK 2 x0 h fun p0 h1 =>
 ldA p0 2 h1 fun cs2 =>
 callI S .i64 i_laws_szSet [.agg cs2, .int .i64 (1048576)] h1 fun n4 h3 =>
 bif (decide (n4 < (0))) then
 K (.bool true) h3
 else
 ldA p0 2 h3 fun cs5 =>
 callA S i_laws_toSet [.agg cs5] h3 fun cs7 h6 =>
 callV S i_spec_TorusTable [.agg cs7] h6 fun v9 h8 =>
 viaT v9 fun vs10 =>
 exS vs10 0 fun s11 =>
 viaT v9 fun vs12 =>
 exI .i64 vs12 1 fun n13 =>
 ldA p0 2 h8 fun cs14 =>
 callA S i_laws_toSet [.agg cs14] h8 fun cs16 h15 =>
 newO [.int .i64 (0), .sl Sl.nil] h15 fun p17 h18 =>
 stN p17 2 cs16 h18 fun h19 =>
 ldA p17 2 h19 fun cs20 =>
 callV S i_impl_TorusTable [.agg cs20] h19 fun v22 h21 =>
 viaT v22 fun vs23 =>
 exS vs23 0 fun s24 =>
 viaT v22 fun vs25 =>
 exI .i64 vs25 1 fun n26 =>
 callB S i_laws_eqInt64SS [.sl s24, .sl s11] h21 fun b28 h27 =>
 bif (!b28) then
 K (.bool false) h27
 else
 bif (n26 != n13) then
 K (.bool false) h27
 else
 ldA p17 2 h27 fun cs29 =>
 ldA p0 2 h27 fun cs30 =>
 callA S i_laws_toSet [.agg cs30] h27 fun cs32 h31 =>
(range h31 p17.o p17.n p17.off 2 = range h27 p17.o p17.n p17.off 2) ∧ (
 callB S i_laws_eqSet [.agg cs29, .agg cs32] h31 fun b34 h33 =>
 bif (!b34) then
 K (.bool false) h33
 else
 ldA p17 2 h33 fun cs35 =>
 callI S .i64 i_laws_markSet [.agg cs35, .int .i64 (1)] h33 fun n37 h36 =>
 bif (decide (n37 < (0))) then
 K (.bool false) h36
 else
 callB S i_laws_eqInt64SS [.sl s24, .sl s11] h36 fun b39 h38 =>
 bif (!b39) then
 K (.bool false) h38
 else
 bif (n26 != n13) then
 K (.bool false) h38
 else
 callI S .i64 i_laws_markInt64SS [.sl s24, .int .i64 (1)] h38 fun n41 h40 =>
 callI S .i64 i_laws_heldInt64SS [.sl s24, .int .i64 (1)] h40 fun n43 h42 =>
 bif (decide (n43 < (0))) then
 K (.bool false) h42
 else
 bif (n43 != n41) then
 K (.bool false) h42
 else
 ldA p0 2 h42 fun cs44 =>
 callA S i_laws_toSet [.agg cs44] h42 fun cs46 h45 =>
 callV S i_impl_TorusTable [.agg cs46] h45 fun v48 h47 =>
 viaT v48 fun vs49 =>
 exS vs49 0 fun s50 =>
 viaT v48 fun vs51 =>
 exI .i64 vs51 1 fun n52 =>
 callB S i_laws_eqInt64SS [.sl s50, .sl s11] h47 fun b54 h53 =>
 bif (!b54) then
 K (.bool false) h53
 else
 bif (n52 != n13) then
 K (.bool false) h53
 else
 callI S .i64 i_laws_heldInt64SS [.sl s24, .int .i64 (1)] h53 fun n56 h55 =>
 bif (decide (n56 < (0))) then
 K (.bool false) h55
 else
 bif (n56 != n41) then
 K (.bool false) h55
 else
 K (.bool true) h55)
theorem laws_FnExactTorusTable_main_link (S : SatT) (K : AVal → H → Prop) (x0 : List AVal) (h : H) : cwp S tab laws_FnExactTorusTable_M [] (bodyOf Try.f7) (kFun tab Try.f7.results.toList K) (fr0 Try.f7 [.agg x0]) h = laws_FnExactTorusTable_main S K x0 h := by kernel_rfl
theorem laws_FnExactTorusTable_call (x0 : List AVal) (h : H) (K : Bool → H → Prop) (hm : laws_FnExactTorusTable_main (Sat Try.prog) (fun v h' => ∃ r, v = .bool r ∧ K r h') x0 h) : callB (Sat Try.prog) i_laws_FnExactTorusTable [.agg x0] h K := by
  have := Sat.ex tok mixed laws_FnExactTorusTable_M Try.func7 (c := bodyOf Try.f7) (by kernel_rfl) (calls_of Try.func7 (c := bodyOf Try.f7) (by kernel_rfl) (by decide)) ((laws_FnExactTorusTable_main_link _ _ x0 h).mpr hm)
  obtain ⟨v, h2, h3, r, rfl, h4⟩ := this; exact ⟨r, h2, h3, h4⟩

/-! ### loop.example/g01354/laws.FnExactIsTorus -/
def laws_FnExactIsTorus_M : Nat → List Nat := fun i => []
def laws_FnExactIsTorus_main (S : SatT) (K : AVal → H → Prop) (x0 : List AVal) (x1 : Sl) (h : H) : Prop :=
 newK 2 x0 h fun p0 h1 =>
 ldA p0 2 h1 fun cs2 =>
 callI S .i64 i_laws_szSet [.agg cs2, .int .i64 (1048576)] h1 fun n4 h3 =>
 bif (decide (n4 < (0))) then
 K (.bool true) h3
 else
 callI S .i64 i_laws_szInt64SS [.sl x1, .int .i64 n4] h3 fun n6 h5 =>
 bif (decide (n6 < (0))) then
 K (.bool true) h5
 else
 ldA p0 2 h5 fun cs7 =>
 callA S i_laws_toSet [.agg cs7] h5 fun cs9 h8 =>
 callS S i_laws_toInt64SS [.sl x1] h8 fun s11 h10 =>
 callV S i_spec_IsTorus [.agg cs9, .sl s11] h10 fun v13 h12 =>
 viaT v13 fun vs14 =>
 exB vs14 0 fun b15 =>
 viaT v13 fun vs16 =>
 exI .i64 vs16 1 fun n17 =>
 ldA p0 2 h12 fun cs18 =>
 callA S i_laws_toSet [.agg cs18] h12 fun cs20 h19 =>
 newO [.int .i64 (0), .sl Sl.nil] h19 fun p21 h22 =>
 stN p21 2 cs20 h22 fun h23 =>
 callS S i_laws_toInt64SS [.sl x1] h23 fun s25 h24 =>
 ldA p21 2 h24 fun cs26 =>
 callV S i_impl_IsTorus [.agg cs26, .sl s25] h24 fun v28 h27 =>
 viaT v28 fun vs29 =>
 exB vs29 0 fun b30 =>
 viaT v28 fun vs31 =>
 exI .i64 vs31 1 fun n32 =>
 bif (b30 != b15) then
 K (.bool false) h27
 else
 bif (n32 != n17) then
 K (.bool false) h27
 else
 ldA p21 2 h27 fun cs33 =>
 ldA p0 2 h27 fun cs34 =>
 callA S i_laws_toSet [.agg cs34] h27 fun cs36 h35 =>
(range h35 p21.o p21.n p21.off 2 = range h27 p21.o p21.n p21.off 2) ∧ (
 callB S i_laws_eqSet [.agg cs33, .agg cs36] h35 fun b38 h37 =>
 bif (!b38) then
 K (.bool false) h37
 else
 callS S i_laws_toInt64SS [.sl x1] h37 fun s40 h39 =>
 callB S i_laws_eqInt64SS [.sl s25, .sl s40] h39 fun b42 h41 =>
 bif (!b42) then
 K (.bool false) h41
 else
 K (.bool true) h41)
theorem laws_FnExactIsTorus_main_link (S : SatT) (K : AVal → H → Prop) (x0 : List AVal) (x1 : Sl) (h : H) : cwp S tab laws_FnExactIsTorus_M [] (bodyOf Try.f6) (kFun tab Try.f6.results.toList K) (fr0 Try.f6 [.agg x0, .sl x1]) h = laws_FnExactIsTorus_main S K x0 x1 h := by kernel_rfl
theorem laws_FnExactIsTorus_call (x0 : List AVal) (x1 : Sl) (h : H) (K : Bool → H → Prop) (hm : laws_FnExactIsTorus_main (Sat Try.prog) (fun v h' => ∃ r, v = .bool r ∧ K r h') x0 x1 h) : callB (Sat Try.prog) i_laws_FnExactIsTorus [.agg x0, .sl x1] h K := by
  have := Sat.ex tok mixed laws_FnExactIsTorus_M Try.func6 (c := bodyOf Try.f6) (by kernel_rfl) (calls_of Try.func6 (c := bodyOf Try.f6) (by kernel_rfl) (by decide)) ((laws_FnExactIsTorus_main_link _ _ x0 x1 h).mpr hm)
  obtain ⟨v, h2, h3, r, rfl, h4⟩ := this; exact ⟨r, h2, h3, h4⟩

/-! ### loop.example/g01354/impl.CountForms -/
def impl_CountForms_M : Nat → List Nat := fun i => []
def impl_CountForms_main (S : SatT) (K : AVal → H → Prop) (x0 : List AVal) (x1 : Int) (x2 : Int) (h : H) : Prop :=
 newK 2 x0 h fun p0 h1 =>
 newO [.int .i64 x1] h1 fun p2 h3 =>
 newO [.int .i64 x2] h3 fun p4 h5 =>
 ldA p0 2 h5 fun cs6 =>
 callI S .i64 i_impl_setCode [.agg cs6, .func 87 [.ptr p2, .ptr p4]] h5 fun n8 h7 =>
 bif (n8 != (0)) then
 K (.tuple [.int .i64 (0), .int .i64 n8]) h7
 else
 newO [.int .i64 (0)] h7 fun p9 h10 =>
 newO [.int .i64 (0)] h10 fun p11 h12 =>
 st1 p9 (.int .i64 (0)) h12 fun h13 =>
 st1 p11 (.int .i64 (0)) h13 fun h14 =>
 ldA p0 2 h14 fun cs15 =>
 ldI .i64 p2 h14 fun n16 =>
 ldI .i64 p4 h14 fun n17 =>
 callV S i_impl_Set_tori [.agg cs15, .int .i64 n16, .int .i64 n17, .func 89 [.ptr p9, .ptr p11]] h14 fun v19 h18 =>
 ldI .i64 p9 h18 fun n20 =>
 bif (decide (n20 > (4000))) then
 K (.tuple [.int .i64 (0), .int .i64 (3)]) h18
 else
 ldI .i64 p11 h18 fun n21 =>
 K (.tuple [.int .i64 n21, .int .i64 (0)]) h18
theorem impl_CountForms_main_link (S : SatT) (K : AVal → H → Prop) (x0 : List AVal) (x1 : Int) (x2 : Int) (h : H) : cwp S tab impl_CountForms_M [] (bodyOf Try.f39) (kFun tab Try.f39.results.toList K) (fr0 Try.f39 [.agg x0, .int .i64 x1, .int .i64 x2]) h = impl_CountForms_main S K x0 x1 x2 h := by kernel_rfl
theorem impl_CountForms_call (x0 : List AVal) (x1 : Int) (x2 : Int) (h : H) (K : AVal → H → Prop) (hm : impl_CountForms_main (Sat Try.prog) (fun v h' => K v h') x0 x1 x2 h) : callV (Sat Try.prog) i_impl_CountForms [.agg x0, .int .i64 x1, .int .i64 x2] h K := by
  have := Sat.ex tok mixed impl_CountForms_M Try.func39 (c := bodyOf Try.f39) (by kernel_rfl) (calls_of Try.func39 (c := bodyOf Try.f39) (by kernel_rfl) (by decide)) ((impl_CountForms_main_link _ _ x0 x1 x2 h).mpr hm)
  exact this

/-! ### loop.example/g01354/impl.ShiftTorus$1 -/
def impl_ShiftTorus_1_M : Nat → List Nat := fun i => []
def impl_ShiftTorus_1_main (S : SatT) (K : AVal → H → Prop) (x0 : Pt) (x1 : Pt) (x2 : Pt) (x3 : Pt) (h : H) : Prop :=
 ldA x0 2 h fun cs0 =>
 ldS x1 h fun s1 =>
 callB S i_impl_Set_areNumbers [.agg cs0, .sl s1] h fun b3 h2 =>
 bif b3 then
 ldI .i64 x2 h2 fun n4 =>
 ldS x1 h2 fun s5 =>
 callB S i_impl_within [.int .i64 n4, .int .i64 (0), .int .i64 (w64 ((s5.len : Int) - (1)))] h2 fun b7 h6 =>
 bif b7 then
 ldI .i64 x3 h6 fun n8 =>
 ldS x1 h6 fun s9 =>
 ixS s9 1 (0) fun p10 =>
 ldS p10 h6 fun s11 =>
 callB S i_impl_within [.int .i64 n8, .int .i64 (0), .int .i64 (w64 ((s11.len : Int) - (1)))] h6 fun b13 h12 =>
 K (.bool b13) h12
 else
 K (.bool false) h6
 else
 K (.bool false) h2
theorem impl_ShiftTorus_1_main_link (S : SatT) (K : AVal → H → Prop) (x0 : Pt) (x1 : Pt) (x2 : Pt) (x3 : Pt) (h : H) : cwp S tab impl_ShiftTorus_1_M [] (bodyOf Try.f95) (kFun tab Try.f95.results.toList K) (fr0 Try.f95 [.ptr x0, .ptr x1, .ptr x2, .ptr x3]) h = impl_ShiftTorus_1_main S K x0 x1 x2 x3 h := by kernel_rfl
theorem impl_ShiftTorus_1_call (x0 : Pt) (x1 : Pt) (x2 : Pt) (x3 : Pt) (h : H) (K : Bool → H → Prop) (hm : impl_ShiftTorus_1_main (Sat Try.prog) (fun v h' => ∃ r, v = .bool r ∧ K r h') x0 x1 x2 x3 h) : callB (Sat Try.prog) i_impl_ShiftTorus_1 [.ptr x0, .ptr x1, .ptr x2, .ptr x3] h K := by
  have := Sat.ex tok mixed impl_ShiftTorus_1_M Try.func95 (c := bodyOf Try.f95) (by kernel_rfl) (calls_of Try.func95 (c := bodyOf Try.f95) (by kernel_rfl) (by decide)) ((impl_ShiftTorus_1_main_link _ _ x0 x1 x2 x3 h).mpr hm)
  obtain ⟨v, h2, h3, r, rfl, h4⟩ := this; exact ⟨r, h2, h3, h4⟩

/-! ### loop.example/g01354/spec.l05Code -/
def spec_l05Code_M : Nat → List Nat := fun i => []
def spec_l05Code_main (S : SatT) (K : AVal → H → Prop) (x0 : List AVal) (x1 : Int) (x2 : Int) (x3 : Int) (h : H) : Prop :=
 newK 2 x0 h fun p0 h1 =>
 ldA p0 2 h1 fun cs2 =>
 callB S i_spec_l01Is [.agg cs2] h1 fun b4 h3 =>
 bif (!b4) then
 K (.int .i64 (1)) h3
 else
 callB S i_spec_l01In [.int .i64 x1, .int .i64 (1), .int .i64 x3] h3 fun b6 h5 =>
 bif (!b6) then
 K (.int .i64 (2)) h5
 else
 callB S i_spec_l01In [.int .i64 x2, .int .i64 (1), .int .i64 (3)] h5 fun b8 h7 =>
 bif (!b8) then
 K (.int .i64 (2)) h7
 else
 K (.int .i64 (0)) h7
theorem spec_l05Code_main_link (S : SatT) (K : AVal → H → Prop) (x0 : List AVal) (x1 : Int) (x2 : Int) (x3 : Int) (h : H) : cwp S tab spec_l05Code_M [] (bodyOf Try.f49) (kFun tab Try.f49.results.toList K) (fr0 Try.f49 [.agg x0, .int .i64 x1, .int .i64 x2, .int .i64 x3]) h = spec_l05Code_main S K x0 x1 x2 x3 h := by kernel_rfl
theorem spec_l05Code_call (x0 : List AVal) (x1 : Int) (x2 : Int) (x3 : Int) (h : H) (K : Int → H → Prop) (hm : spec_l05Code_main (Sat Try.prog) (fun v h' => ∃ r, v = .int .i64 r ∧ K r h') x0 x1 x2 x3 h) : callI (Sat Try.prog) .i64 i_spec_l05Code [.agg x0, .int .i64 x1, .int .i64 x2, .int .i64 x3] h K := by
  have := Sat.ex tok mixed spec_l05Code_M Try.func49 (c := bodyOf Try.f49) (by kernel_rfl) (calls_of Try.func49 (c := bodyOf Try.f49) (by kernel_rfl) (by decide)) ((spec_l05Code_main_link _ _ x0 x1 x2 x3 h).mpr hm)
  obtain ⟨v, h2, h3, r, rfl, h4⟩ := this; exact ⟨r, h2, h3, h4⟩

/-! ### loop.example/g01354/impl.keeping$1 -/
def impl_keeping_1_M : Nat → List Nat := fun i => []
def impl_keeping_1_main (S : SatT) (K : AVal → H → Prop) (x0 : Int) (x1 : Int) (x2 : Sl) (x3 : Pt) (x4 : Pt) (h : H) : Prop :=
 ldS x3 h fun s0 =>
 callI S .i64 i_impl_compareRows [.sl x2, .sl s0] h fun n2 h1 =>
 bif (n2 == (0)) then
 ldS x4 h1 fun s3 =>
 newS 2 1 [.int .i64 x0, .int .i64 x1] h1 fun s4 h5 =>
 newS 1 1 [.sl s4] h5 fun s6 h7 =>
 app s3 s6 1 h7 fun s8 h9 =>
 st1 x4 (.sl s8) h9 fun h10 =>
 K (.tuple []) h10
 else
 K (.tuple []) h1
theorem impl_keeping_1_main_link (S : SatT) (K : AVal → H → Prop) (x0 : Int) (x1 : Int) (x2 : Sl) (x3 : Pt) (x4 : Pt) (h : H) : cwp S tab impl_keeping_1_M [] (bodyOf Try.f123) (kFun tab Try.f123.results.toList K) (fr0 Try.f123 [.int .i64 x0, .int .i64 x1, .sl x2, .ptr x3, .ptr x4]) h = impl_keeping_1_main S K x0 x1 x2 x3 x4 h := by kernel_rfl
theorem impl_keeping_1_call (x0 : Int) (x1 : Int) (x2 : Sl) (x3 : Pt) (x4 : Pt) (h : H) (K : AVal → H → Prop) (hm : impl_keeping_1_main (Sat Try.prog) (fun v h' => K v h') x0 x1 x2 x3 x4 h) : callV (Sat Try.prog) i_impl_keeping_1 [.int .i64 x0, .int .i64 x1, .sl x2, .ptr x3, .ptr x4] h K := by
  have := Sat.ex tok mixed impl_keeping_1_M Try.func123 (c := bodyOf Try.f123) (by kernel_rfl) (calls_of Try.func123 (c := bodyOf Try.f123) (by kernel_rfl) (by decide)) ((impl_keeping_1_main_link _ _ x0 x1 x2 x3 x4 h).mpr hm)
  exact this

/-! ### loop.example/g01354/spec.ShiftNumber -/
def spec_ShiftNumber_M : Nat → List Nat := fun i => []
def spec_ShiftNumber_main (S : SatT) (K : AVal → H → Prop) (x0 : List AVal) (x1 : Sl) (h : H) : Prop :=
 newK 2 x0 h fun p0 h1 =>
 ldA p0 2 h1 fun cs2 =>
 callI S .i64 i_spec_l05Given [.agg cs2, .sl x1] h1 fun n4 h3 =>
 bif (n4 != (0)) then
 K (.tuple [.int .i64 (0), .int .i64 n4]) h3
 else
 ixS x1 1 (0) fun p5 =>
 ldS p5 h3 fun s6 =>
 callS S i_spec_l05Kept [.sl x1] h3 fun s8 h7 =>
(cell h7 p5 = cell h3 p5) ∧ (
 nz (s8.len : Int) (
 K (.tuple [.int .i64 (w64 (Int.tdiv (w64 ((x1.len : Int) * (s6.len : Int))) (s8.len : Int))), .int .i64 (0)]) h7))
theorem spec_ShiftNumber_main_link (S : SatT) (K : AVal → H → Prop) (x0 : List AVal) (x1 : Sl) (h : H) : cwp S tab spec_ShiftNumber_M [] (bodyOf Try.f42) (kFun tab Try.f42.results.toList K) (fr0 Try.f42 [.agg x0, .sl x1]) h = spec_ShiftNumber_main S K x0 x1 h := by kernel_rfl
theorem spec_ShiftNumber_call (x0 : List AVal) (x1 : Sl) (h : H) (K : AVal → H → Prop) (hm : spec_ShiftNumber_main (Sat Try.prog) (fun v h' => K v h') x0 x1 h) : callV (Sat Try.prog) i_spec_ShiftNumber [.agg x0, .sl x1] h K := by
  have := Sat.ex tok mixed spec_ShiftNumber_M Try.func42 (c := bodyOf Try.f42) (by kernel_rfl) (calls_of Try.func42 (c := bodyOf Try.f42) (by kernel_rfl) (by decide)) ((spec_ShiftNumber_main_link _ _ x0 x1 h).mpr hm)
  exact this

/-! ### loop.example/g01354/spec.CountTori -/
def spec_CountTori_M : Nat → List Nat := fun i => []
def spec_CountTori_main (S : SatT) (K : AVal → H → Prop) (x0 : List AVal) (x1 : Int) (x2 : Int) (h : H) : Prop :=
 newK 2 x0 h fun p0 h1 =>
 ldA p0 2 h1 fun cs2 =>
 callI S .i64 i_spec_l05Code [.agg cs2, .int .i64 x1, .int .i64 x2, .int .i64 (3)] h1 fun n4 h3 =>
 bif (n4 != (0)) then
 K (.tuple [.int .i64 (0), .int .i64 n4]) h3
 else
 ldA p0 2 h3 fun cs5 =>
 callI S .i64 i_spec_l05Count [.agg cs5, .int .i64 x1, .int .i64 x2] h3 fun n7 h6 =>
 K (.tuple [.int .i64 n7, .int .i64 (0)]) h6
theorem spec_CountTori_main_link (S : SatT) (K : AVal → H → Prop) (x0 : List AVal) (x1 : Int) (x2 : Int) (h : H) : cwp S tab spec_CountTori_M [] (bodyOf Try.f20) (kFun tab Try.f20.results.toList K) (fr0 Try.f20 [.agg x0, .int .i64 x1, .int .i64 x2]) h = spec_CountTori_main S K x0 x1 x2 h := by kernel_rfl
theorem spec_CountTori_call (x0 : List AVal) (x1 : Int) (x2 : Int) (h : H) (K : AVal → H → Prop) (hm : spec_CountTori_main (Sat Try.prog) (fun v h' => K v h') x0 x1 x2 h) : callV (Sat Try.prog) i_spec_CountTori [.agg x0, .int .i64 x1, .int .i64 x2] h K := by
  have := Sat.ex tok mixed spec_CountTori_M Try.func20 (c := bodyOf Try.f20) (by kernel_rfl) (calls_of Try.func20 (c := bodyOf Try.f20) (by kernel_rfl) (by decide)) ((spec_CountTori_main_link _ _ x0 x1 x2 h).mpr hm)
  exact this

/-! ### loop.example/g01354/impl.IsCylinder -/
def impl_IsCylinder_M : Nat → List Nat := fun i => []
def impl_IsCylinder_main (S : SatT) (K : AVal → H → Prop) (x0 : List AVal) (x1 : Sl) (h : H) : Prop :=
 newK 2 x0 h fun p0 h1 =>
 newO [.sl x1] h1 fun p2 h3 =>
 ldA p0 2 h3 fun cs4 =>
 callI S .i64 i_impl_setCode [.agg cs4, .func 69 [.ptr p0, .ptr p2]] h3 fun n6 h5 =>
 bif (n6 != (0)) then
 K (.tuple [.bool false, .int .i64 n6]) h5
 else
 ldA p0 2 h5 fun cs7 =>
 ldS p2 h5 fun s8 =>
 callB S i_impl_Set_isCylinder [.agg cs7, .sl s8] h5 fun b10 h9 =>
 K (.tuple [.bool b10, .int .i64 (0)]) h9
theorem impl_IsCylinder_main_link (S : SatT) (K : AVal → H → Prop) (x0 : List AVal) (x1 : Sl) (h : H) : cwp S tab impl_IsCylinder_M [] (bodyOf Try.f25) (kFun tab Try.f25.results.toList K) (fr0 Try.f25 [.agg x0, .sl x1]) h = impl_IsCylinder_main S K x0 x1 h := by kernel_rfl
theorem impl_IsCylinder_call (x0 : List AVal) (x1 : Sl) (h : H) (K : AVal → H → Prop) (hm : impl_IsCylinder_main (Sat Try.prog) (fun v h' => K v h') x0 x1 h) : callV (Sat Try.prog) i_impl_IsCylinder [.agg x0, .sl x1] h K := by
  have := Sat.ex tok mixed impl_IsCylinder_M Try.func25 (c := bodyOf Try.f25) (by kernel_rfl) (calls_of Try.func25 (c := bodyOf Try.f25) (by kernel_rfl) (by decide)) ((impl_IsCylinder_main_link _ _ x0 x1 h).mpr hm)
  exact this

/-! ### loop.example/g01354/impl.leastForm$1 -/
def impl_leastForm_1_M : Nat → List Nat := fun i => []
def impl_leastForm_1_main (S : SatT) (K : AVal → H → Prop) (x0 : Int) (x1 : Int) (x2 : Sl) (x3 : Pt) (h : H) : Prop :=
 ldS x3 h fun s0 =>
 callI S .i64 i_impl_compareRows [.sl x2, .sl s0] h fun n2 h1 =>
 bif (decide (n2 < (0))) then
 st1 x3 (.sl x2) h1 fun h3 =>
 K (.tuple []) h3
 else
 K (.tuple []) h1
theorem impl_leastForm_1_main_link (S : SatT) (K : AVal → H → Prop) (x0 : Int) (x1 : Int) (x2 : Sl) (x3 : Pt) (h : H) : cwp S tab impl_leastForm_1_M [] (bodyOf Try.f121) (kFun tab Try.f121.results.toList K) (fr0 Try.f121 [.int .i64 x0, .int .i64 x1, .sl x2, .ptr x3]) h = impl_leastForm_1_main S K x0 x1 x2 x3 h := by kernel_rfl
theorem impl_leastForm_1_call (x0 : Int) (x1 : Int) (x2 : Sl) (x3 : Pt) (h : H) (K : AVal → H → Prop) (hm : impl_leastForm_1_main (Sat Try.prog) (fun v h' => K v h') x0 x1 x2 x3 h) : callV (Sat Try.prog) i_impl_leastForm_1 [.int .i64 x0, .int .i64 x1, .sl x2, .ptr x3] h K := by
  have := Sat.ex tok mixed impl_leastForm_1_M Try.func121 (c := bodyOf Try.f121) (by kernel_rfl) (calls_of Try.func121 (c := bodyOf Try.f121) (by kernel_rfl) (by decide)) ((impl_leastForm_1_main_link _ _ x0 x1 x2 x3 h).mpr hm)
  exact this

/-! ### loop.example/g01354/impl.areSizes -/
def impl_areSizes_M : Nat → List Nat := fun i => []
def impl_areSizes_main (S : SatT) (K : AVal → H → Prop) (x0 : Int) (x1 : Int) (h : H) : Prop :=
 callB S i_impl_within [.int .i64 x0, .int .i64 (1), .int .i64 (3)] h fun b1 h0 =>
 bif b1 then
 callB S i_impl_within [.int .i64 x1, .int .i64 (1), .int .i64 (3)] h0 fun b3 h2 =>
 K (.bool b3) h2
 else
 K (.bool false) h0
theorem impl_areSizes_main_link (S : SatT) (K : AVal → H → Prop) (x0 : Int) (x1 : Int) (h : H) : cwp S tab impl_areSizes_M [] (bodyOf Try.f62) (kFun tab Try.f62.results.toList K) (fr0 Try.f62 [.int .i64 x0, .int .i64 x1]) h = impl_areSizes_main S K x0 x1 h := by kernel_rfl
theorem impl_areSizes_call (x0 : Int) (x1 : Int) (h : H) (K : Bool → H → Prop) (hm : impl_areSizes_main (Sat Try.prog) (fun v h' => ∃ r, v = .bool r ∧ K r h') x0 x1 h) : callB (Sat Try.prog) i_impl_areSizes [.int .i64 x0, .int .i64 x1] h K := by
  have := Sat.ex tok mixed impl_areSizes_M Try.func62 (c := bodyOf Try.f62) (by kernel_rfl) (calls_of Try.func62 (c := bodyOf Try.f62) (by kernel_rfl) (by decide)) ((impl_areSizes_main_link _ _ x0 x1 h).mpr hm)
  obtain ⟨v, h2, h3, r, rfl, h4⟩ := this; exact ⟨r, h2, h3, h4⟩

/-! ### loop.example/g01354/impl.isTile -/
def impl_isTile_M : Nat → List Nat := fun i => []
def impl_isTile_main (S : SatT) (K : AVal → H → Prop) (x0 : List AVal) (x1 : Int) (h : H) : Prop :=
 newK 4 x0 h fun p0 h1 =>
 newO [.int .i64 x1] h1 fun p2 h3 =>
 cutA p0 4 1 (0) ((4 : Nat) : Int) fun s4 =>
 callB S i_slices_ContainsFunc_s_int64_int64_ [.sl s4, .func 125 [.ptr p2]] h3 fun b6 h5 =>
 K (.bool (!b6)) h5
theorem impl_isTile_main_link (S : SatT) (K : AVal → H → Prop) (x0 : List AVal) (x1 : Int) (h : H) : cwp S tab impl_isTile_M [] (bodyOf Try.f111) (kFun tab Try.f111.results.toList K) (fr0 Try.f111 [.agg x0, .int .i64 x1]) h = impl_isTile_main S K x0 x1 h := by kernel_rfl
theorem impl_isTile_call (x0 : List AVal) (x1 : Int) (h : H) (K : Bool → H → Prop) (hm : impl_isTile_main (Sat Try.prog) (fun v h' => ∃ r, v = .bool r ∧ K r h') x0 x1 h) : callB (Sat Try.prog) i_impl_isTile [.agg x0, .int .i64 x1] h K := by
  have := Sat.ex tok mixed impl_isTile_M Try.func111 (c := bodyOf Try.f111) (by kernel_rfl) (calls_of Try.func111 (c := bodyOf Try.f111) (by kernel_rfl) (by decide)) ((impl_isTile_main_link _ _ x0 x1 h).mpr hm)
  obtain ⟨v, h2, h3, r, rfl, h4⟩ := this; exact ⟨r, h2, h3, h4⟩

/-! ### loop.example/g01354/impl.leastForm -/
def impl_leastForm_M : Nat → List Nat := fun i => []
def impl_leastForm_main (S : SatT) (K : AVal → H → Prop) (x0 : Sl) (h : H) : Prop :=
 callS S i_impl_shifted [.sl x0, .int .i64 (0), .int .i64 (0)] h fun s1 h0 =>
 newO [.sl Sl.nil] h0 fun p2 h3 =>
 st1 p2 (.sl s1) h3 fun h4 =>
 callV S i_impl_shifts [.sl x0, .func 121 [.ptr p2]] h4 fun v6 h5 =>
 ldS p2 h5 fun s7 =>
 K (.sl s7) h5
theorem impl_leastForm_main_link (S : SatT) (K : AVal → H → Prop) (x0 : Sl) (h : H) : cwp S tab impl_leastForm_M [] (bodyOf Try.f91) (kFun tab Try.f91.results.toList K) (fr0 Try.f91 [.sl x0]) h = impl_leastForm_main S K x0 h := by kernel_rfl
theorem impl_leastForm_call (x0 : Sl) (h : H) (K : Sl → H → Prop) (hm : impl_leastForm_main (Sat Try.prog) (fun v h' => ∃ r, v = .sl r ∧ K r h') x0 h) : callS (Sat Try.prog) i_impl_leastForm [.sl x0] h K := by
  have := Sat.ex tok mixed impl_leastForm_M Try.func91 (c := bodyOf Try.f91) (by kernel_rfl) (calls_of Try.func91 (c := bodyOf Try.f91) (by kernel_rfl) (by decide)) ((impl_leastForm_main_link _ _ x0 h).mpr hm)
  obtain ⟨v, h2, h3, r, rfl, h4⟩ := this; exact ⟨r, h2, h3, h4⟩

/-! ### loop.example/g01354/impl.FirstTorus$1 -/
def impl_FirstTorus_1_M : Nat → List Nat := fun i => []
def impl_FirstTorus_1_main (S : SatT) (K : AVal → H → Prop) (x0 : Pt) (x1 : Pt) (h : H) : Prop :=
 ldI .i64 x0 h fun n0 =>
 ldI .i64 x1 h fun n1 =>
 callB S i_impl_areSizes [.int .i64 n0, .int .i64 n1] h fun b3 h2 =>
 K (.bool b3) h2
theorem impl_FirstTorus_1_main_link (S : SatT) (K : AVal → H → Prop) (x0 : Pt) (x1 : Pt) (h : H) : cwp S tab impl_FirstTorus_1_M [] (bodyOf Try.f83) (kFun tab Try.f83.results.toList K) (fr0 Try.f83 [.ptr x0, .ptr x1]) h = impl_FirstTorus_1_main S K x0 x1 h := by kernel_rfl
theorem impl_FirstTorus_1_call (x0 : Pt) (x1 : Pt) (h : H) (K : Bool → H → Prop) (hm : impl_FirstTorus_1_main (Sat Try.prog) (fun v h' => ∃ r, v = .bool r ∧ K r h') x0 x1 h) : callB (Sat Try.prog) i_impl_FirstTorus_1 [.ptr x0, .ptr x1] h K := by
  have := Sat.ex tok mixed impl_FirstTorus_1_M Try.func83 (c := bodyOf Try.f83) (by kernel_rfl) (calls_of Try.func83 (c := bodyOf Try.f83) (by kernel_rfl) (by decide)) ((impl_FirstTorus_1_main_link _ _ x0 x1 h).mpr hm)
  obtain ⟨v, h2, h3, r, rfl, h4⟩ := this; exact ⟨r, h2, h3, h4⟩

/-! ### loop.example/g01354/impl.CountTori$1 -/
def impl_CountTori_1_M : Nat → List Nat := fun i => []
def impl_CountTori_1_main (S : SatT) (K : AVal → H → Prop) (x0 : Pt) (x1 : Pt) (h : H) : Prop :=
 ldI .i64 x0 h fun n0 =>
 ldI .i64 x1 h fun n1 =>
 callB S i_impl_areSizes [.int .i64 n0, .int .i64 n1] h fun b3 h2 =>
 K (.bool b3) h2
theorem impl_CountTori_1_main_link (S : SatT) (K : AVal → H → Prop) (x0 : Pt) (x1 : Pt) (h : H) : cwp S tab impl_CountTori_1_M [] (bodyOf Try.f61) (kFun tab Try.f61.results.toList K) (fr0 Try.f61 [.ptr x0, .ptr x1]) h = impl_CountTori_1_main S K x0 x1 h := by kernel_rfl
theorem impl_CountTori_1_call (x0 : Pt) (x1 : Pt) (h : H) (K : Bool → H → Prop) (hm : impl_CountTori_1_main (Sat Try.prog) (fun v h' => ∃ r, v = .bool r ∧ K r h') x0 x1 h) : callB (Sat Try.prog) i_impl_CountTori_1 [.ptr x0, .ptr x1] h K := by
  have := Sat.ex tok mixed impl_CountTori_1_M Try.func61 (c := bodyOf Try.f61) (by kernel_rfl) (calls_of Try.func61 (c := bodyOf Try.f61) (by kernel_rfl) (by decide)) ((impl_CountTori_1_main_link _ _ x0 x1 h).mpr hm)
  obtain ⟨v, h2, h3, r, rfl, h4⟩ := this; exact ⟨r, h2, h3, h4⟩

/-! ### loop.example/g01354/impl.isTile$1 -/
def impl_isTile_1_M : Nat → List Nat := fun i => []
def impl_isTile_1_main (S : SatT) (K : AVal → H → Prop) (x0 : Int) (x1 : Pt) (h : H) : Prop :=
 ldI .i64 x1 h fun n0 =>
 callB S i_impl_within [.int .i64 x0, .int .i64 (0), .int .i64 (w64 (n0 - (1)))] h fun b2 h1 =>
 K (.bool (!b2)) h1
theorem impl_isTile_1_main_link (S : SatT) (K : AVal → H → Prop) (x0 : Int) (x1 : Pt) (h : H) : cwp S tab impl_isTile_1_M [] (bodyOf Try.f125) (kFun tab Try.f125.results.toList K) (fr0 Try.f125 [.int .i64 x0, .ptr x1]) h = impl_isTile_1_main S K x0 x1 h := by kernel_rfl
theorem impl_isTile_1_call (x0 : Int) (x1 : Pt) (h : H) (K : Bool → H → Prop) (hm : impl_isTile_1_main (Sat Try.prog) (fun v h' => ∃ r, v = .bool r ∧ K r h') x0 x1 h) : callB (Sat Try.prog) i_impl_isTile_1 [.int .i64 x0, .ptr x1] h K := by
  have := Sat.ex tok mixed impl_isTile_1_M Try.func125 (c := bodyOf Try.f125) (by kernel_rfl) (calls_of Try.func125 (c := bodyOf Try.f125) (by kernel_rfl) (by decide)) ((impl_isTile_1_main_link _ _ x0 x1 h).mpr hm)
  obtain ⟨v, h2, h3, r, rfl, h4⟩ := this; exact ⟨r, h2, h3, h4⟩

/-! ### (loop.example/g01354/impl.Set).firstTorus$1 -/
def impl_Set_firstTorus_1_M : Nat → List Nat := fun i => []
def impl_Set_firstTorus_1_main (S : SatT) (K : AVal → H → Prop) (x0 : Sl) (x1 : Pt) (h : H) : Prop :=
 st1 x1 (.sl x0) h fun h0 =>
 K (.bool false) h0
theorem impl_Set_firstTorus_1_main_link (S : SatT) (K : AVal → H → Prop) (x0 : Sl) (x1 : Pt) (h : H) : cwp S tab impl_Set_firstTorus_1_M [] (bodyOf Try.f114) (kFun tab Try.f114.results.toList K) (fr0 Try.f114 [.sl x0, .ptr x1]) h = impl_Set_firstTorus_1_main S K x0 x1 h := by kernel_rfl
theorem impl_Set_firstTorus_1_call (x0 : Sl) (x1 : Pt) (h : H) (K : Bool → H → Prop) (hm : impl_Set_firstTorus_1_main (Sat Try.prog) (fun v h' => ∃ r, v = .bool r ∧ K r h') x0 x1 h) : callB (Sat Try.prog) i_impl_Set_firstTorus_1 [.sl x0, .ptr x1] h K := by
  have := Sat.ex tok mixed impl_Set_firstTorus_1_M Try.func114 (c := bodyOf Try.f114) (by kernel_rfl) (calls_of Try.func114 (c := bodyOf Try.f114) (by kernel_rfl) (by decide)) ((impl_Set_firstTorus_1_main_link _ _ x0 x1 h).mpr hm)
  obtain ⟨v, h2, h3, r, rfl, h4⟩ := this; exact ⟨r, h2, h3, h4⟩

/-! ### loop.example/g01354/spec.l01Own -/
def spec_l01Own_M : Nat → List Nat := fun i => []
def spec_l01Own_main (S : SatT) (K : AVal → H → Prop) (x0 : Sl) (h : H) : Prop :=
 newS 0 1 [] h fun s0 h1 =>
 app s0 x0 1 h1 fun s2 h3 =>
 K (.sl s2) h3
theorem spec_l01Own_main_link (S : SatT) (K : AVal → H → Prop) (x0 : Sl) (h : H) : cwp S tab spec_l01Own_M [] (bodyOf Try.f113) (kFun tab Try.f113.results.toList K) (fr0 Try.f113 [.sl x0]) h = spec_l01Own_main S K x0 h := by kernel_rfl
theorem spec_l01Own_call (x0 : Sl) (h : H) (K : Sl → H → Prop) (hm : spec_l01Own_main (Sat Try.prog) (fun v h' => ∃ r, v = .sl r ∧ K r h') x0 h) : callS (Sat Try.prog) i_spec_l01Own [.sl x0] h K := by
  have := Sat.ex tok mixed spec_l01Own_M Try.func113 (c := bodyOf Try.f113) (by kernel_rfl) (calls_of Try.func113 (c := bodyOf Try.f113) (by kernel_rfl) (by decide)) ((spec_l01Own_main_link _ _ x0 h).mpr hm)
  obtain ⟨v, h2, h3, r, rfl, h4⟩ := this; exact ⟨r, h2, h3, h4⟩

end Go.Proofs.Ytfmjjpophipfbaa.Cl
