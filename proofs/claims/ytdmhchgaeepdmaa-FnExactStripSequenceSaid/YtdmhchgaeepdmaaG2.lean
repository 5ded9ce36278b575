/- Typed forms of functions of the program, and their links. Printed by program. No claim is stated here. -/
import Derived.Test.YtdmhchgaeepdmaaGTab
set_option linter.unusedVariables false
namespace Go.Proofs.Ytdmhchgaeepdmaa.Cl
open Go
/-! ### loop.example/g01354/impl.shortest -/
def impl_shortest_M : Nat → List Nat := fun i => bif i == 7 then [0, 3, 4, 5, 6, 9, 16, 21, 22, 23, 88, 89, 90] else bif i == 5 then [0, 3, 4, 5, 6, 9, 12, 13, 21, 22, 23, 71, 72, 73] else bif i == 2 then [0, 3, 4, 5, 6, 7, 9, 21, 22, 23, 29, 30, 31] else bif i == 0 then [0, 3, 4, 5, 6, 21, 22, 23] else []
def impl_shortest_ks2 (S : SatT) (K : AVal → H → Prop) : Kont := kSeq (cwp S tab impl_shortest_M [] (sub [1, 1, 1] (bodyOf Try.f79)) (kFun tab (Try.f79).results.toList K)) (kFun tab (Try.f79).results.toList K)
def impl_shortest_e0 (s0_ : Sl) (s3_ : Sl) (s4_ : Sl) (i5_ : Int) (i6_ : Int) (s21_ : Sl) (i22_ : Int) (i23_ : Int) : Frame := [.sl s0_, U, U, .sl s3_, .sl s4_, .int .i64 i5_, .int .i64 i6_, U, U, U, U, U, U, U, U, U, U, U, U, U, U, .sl s21_, .int .i64 i22_, .int .i64 i23_, U, U, U, U, U, U, U, U, U, U, U, U, U, U, U, U, U, U, U, U, U, U, U, U, U, U, U, U, U, U, U, U, U, U, U, U, U, U, U, U, U, U, U, U, U, U, U, U, U, U, U, U, U, U, U, U, U, U, U, U, U, U, U, U, U, U, U, U, U, U, U, U, U, U, U, U, U, U, U, U, U, U, U, U, U, U, U, U, U, U, U, U, U, U, U, U, U, U, U, U, U]
def impl_shortest_w0 (S : SatT) (K : AVal → H → Prop) : (Frame → H → Prop) → Frame → H → Prop := fun X fr h => cwp S tab impl_shortest_M (impl_shortest_M 0) (sub [1, 1, 0, 1, 0, 0] (bodyOf Try.f79)) (kSeq (fun fr h => X (mask (impl_shortest_M 0) fr) h) (kBlk 0 (impl_shortest_ks2 S K))) fr h
def impl_shortest_L0 (S : SatT) (K : AVal → H → Prop) (s0_ : Sl) (s3_ : Sl) (s4_ : Sl) (i5_ : Int) (i6_ : Int) (s21_ : Sl) (i22_ : Int) (i23_ : Int) (h : H) : Prop := loopK (impl_shortest_w0 S K) (impl_shortest_e0 s0_ s3_ s4_ i5_ i6_ s21_ i22_ i23_) h
def impl_shortest_ks6 (S : SatT) (K : AVal → H → Prop) (X0 : Frame → H → Prop) : Kont := kSeq (cwp S tab impl_shortest_M (impl_shortest_M 0) (sub [1, 1, 0, 1, 0, 0, 1, 1, 1] (bodyOf Try.f79)) (kSeq (fun fr h => X0 (mask (impl_shortest_M 0) fr) h) (kBlk 0 (impl_shortest_ks2 S K)))) (kSeq (fun fr h => X0 (mask (impl_shortest_M 0) fr) h) (kBlk 0 (impl_shortest_ks2 S K)))
def impl_shortest_ks9 (S : SatT) (K : AVal → H → Prop) (X0 : Frame → H → Prop) : Kont := kSeq (cwp S tab impl_shortest_M (impl_shortest_M 1) (sub [1, 1, 0, 1, 0, 0, 1, 1, 0, 0, 1, 1, 1] (bodyOf Try.f79)) (kBlk 1 (impl_shortest_ks6 S K X0))) (kBlk 1 (impl_shortest_ks6 S K X0))
def impl_shortest_e2 (s0_ : Sl) (s3_ : Sl) (s4_ : Sl) (i5_ : Int) (i6_ : Int) (i7_ : Int) (i9_ : Int) (s21_ : Sl) (i22_ : Int) (i23_ : Int) (s29_ : Sl) (i30_ : Int) (i31_ : Int) : Frame := [.sl s0_, U, U, .sl s3_, .sl s4_, .int .i64 i5_, .int .i64 i6_, .int .i64 i7_, U, .int .i64 i9_, U, U, U, U, U, U, U, U, U, U, U, .sl s21_, .int .i64 i22_, .int .i64 i23_, U, U, U, U, U, .sl s29_, .int .i64 i30_, .int .i64 i31_, U, U, U, U, U, U, U, U, U, U, U, U, U, U, U, U, U, U, U, U, U, U, U, U, U, U, U, U, U, U, U, U, U, U, U, U, U, U, U, U, U, U, U, U, U, U, U, U, U, U, U, U, U, U, U, U, U, U, U, U, U, U, U, U, U, U, U, U, U, U, U, U, U, U, U, U, U, U, U, U, U, U, U, U, U, U, U, U, U, U, U, U, U]
def impl_shortest_w2 (S : SatT) (K : AVal → H → Prop) (X0 : Frame → H → Prop) : (Frame → H → Prop) → Frame → H → Prop := fun X fr h => cwp S tab impl_shortest_M (impl_shortest_M 2) (sub [1, 1, 0, 1, 0, 0, 1, 1, 0, 0, 1, 1, 0, 1, 0, 0] (bodyOf Try.f79)) (kSeq (fun fr h => X (mask (impl_shortest_M 2) fr) h) (kBlk 2 (impl_shortest_ks9 S K X0))) fr h
def impl_shortest_L2 (S : SatT) (K : AVal → H → Prop) (X0 : Frame → H → Prop) (s0_ : Sl) (s3_ : Sl) (s4_ : Sl) (i5_ : Int) (i6_ : Int) (i7_ : Int) (i9_ : Int) (s21_ : Sl) (i22_ : Int) (i23_ : Int) (s29_ : Sl) (i30_ : Int) (i31_ : Int) (h : H) : Prop := loopK (impl_shortest_w2 S K X0) (impl_shortest_e2 s0_ s3_ s4_ i5_ i6_ i7_ i9_ s21_ i22_ i23_ s29_ i30_ i31_) h
def impl_shortest_C1 (S : SatT) (K : AVal → H → Prop) (X0 : Frame → H → Prop) (s0_ : Sl) (s3_ : Sl) (s4_ : Sl) (i5_ : Int) (i6_ : Int) (s21_ : Sl) (i22_ : Int) (i23_ : Int) (h : H) : Prop :=
 X0 (impl_shortest_e0 s0_ s3_ s4_ i5_ i6_ s21_ i22_ (w64 (i23_ + (1)))) h
def impl_shortest_ks22 (S : SatT) (K : AVal → H → Prop) (X0 : Frame → H → Prop) : Kont := kSeq (cwp S tab impl_shortest_M (impl_shortest_M 1) (sub [1, 1, 0, 1, 0, 0, 1, 1, 0, 0, 1, 1, 1, 1, 1, 1, 1] (bodyOf Try.f79)) (kBlk 1 (impl_shortest_ks6 S K X0))) (kBlk 1 (impl_shortest_ks6 S K X0))
def impl_shortest_e5 (s0_ : Sl) (s3_ : Sl) (s4_ : Sl) (i5_ : Int) (i6_ : Int) (i9_ : Int) (i12_ : Int) (s13_ : Sl) (s21_ : Sl) (i22_ : Int) (i23_ : Int) (s71_ : Sl) (i72_ : Int) (i73_ : Int) : Frame := [.sl s0_, U, U, .sl s3_, .sl s4_, .int .i64 i5_, .int .i64 i6_, U, U, .int .i64 i9_, U, U, .int .i64 i12_, .sl s13_, U, U, U, U, U, U, U, .sl s21_, .int .i64 i22_, .int .i64 i23_, U, U, U, U, U, U, U, U, U, U, U, U, U, U, U, U, U, U, U, U, U, U, U, U, U, U, U, U, U, U, U, U, U, U, U, U, U, U, U, U, U, U, U, U, U, U, U, .sl s71_, .int .i64 i72_, .int .i64 i73_, U, U, U, U, U, U, U, U, U, U, U, U, U, U, U, U, U, U, U, U, U, U, U, U, U, U, U, U, U, U, U, U, U, U, U, U, U, U, U, U, U, U, U, U, U, U, U, U, U, U, U]
def impl_shortest_w5 (S : SatT) (K : AVal → H → Prop) (X0 : Frame → H → Prop) : (Frame → H → Prop) → Frame → H → Prop := fun X fr h => cwp S tab impl_shortest_M (impl_shortest_M 5) (sub [1, 1, 0, 1, 0, 0, 1, 1, 0, 0, 1, 1, 1, 1, 1, 1, 0, 1, 0, 0] (bodyOf Try.f79)) (kSeq (fun fr h => X (mask (impl_shortest_M 5) fr) h) (kBlk 5 (impl_shortest_ks22 S K X0))) fr h
def impl_shortest_L5 (S : SatT) (K : AVal → H → Prop) (X0 : Frame → H → Prop) (s0_ : Sl) (s3_ : Sl) (s4_ : Sl) (i5_ : Int) (i6_ : Int) (i9_ : Int) (i12_ : Int) (s13_ : Sl) (s21_ : Sl) (i22_ : Int) (i23_ : Int) (s71_ : Sl) (i72_ : Int) (i73_ : Int) (h : H) : Prop := loopK (impl_shortest_w5 S K X0) (impl_shortest_e5 s0_ s3_ s4_ i5_ i6_ i9_ i12_ s13_ s21_ i22_ i23_ s71_ i72_ i73_) h
def impl_shortest_ks29 (S : SatT) (K : AVal → H → Prop) (X0 : Frame → H → Prop) : Kont := kSeq (cwp S tab impl_shortest_M (impl_shortest_M 1) (sub [1, 1, 0, 1, 0, 0, 1, 1, 0, 0, 1, 1, 1, 1, 1, 1, 1, 1, 1] (bodyOf Try.f79)) (kBlk 1 (impl_shortest_ks6 S K X0))) (kBlk 1 (impl_shortest_ks6 S K X0))
def impl_shortest_e7 (s0_ : Sl) (s3_ : Sl) (s4_ : Sl) (i5_ : Int) (i6_ : Int) (i9_ : Int) (s16_ : Sl) (s21_ : Sl) (i22_ : Int) (i23_ : Int) (s88_ : Sl) (i89_ : Int) (i90_ : Int) : Frame := [.sl s0_, U, U, .sl s3_, .sl s4_, .int .i64 i5_, .int .i64 i6_, U, U, .int .i64 i9_, U, U, U, U, U, U, .sl s16_, U, U, U, U, .sl s21_, .int .i64 i22_, .int .i64 i23_, U, U, U, U, U, U, U, U, U, U, U, U, U, U, U, U, U, U, U, U, U, U, U, U, U, U, U, U, U, U, U, U, U, U, U, U, U, U, U, U, U, U, U, U, U, U, U, U, U, U, U, U, U, U, U, U, U, U, U, U, U, U, U, U, .sl s88_, .int .i64 i89_, .int .i64 i90_, U, U, U, U, U, U, U, U, U, U, U, U, U, U, U, U, U, U, U, U, U, U, U, U, U, U, U, U, U, U, U, U, U, U]
def impl_shortest_w7 (S : SatT) (K : AVal → H → Prop) (X0 : Frame → H → Prop) : (Frame → H → Prop) → Frame → H → Prop := fun X fr h => cwp S tab impl_shortest_M (impl_shortest_M 7) (sub [1, 1, 0, 1, 0, 0, 1, 1, 0, 0, 1, 1, 1, 1, 1, 1, 1, 1, 0, 1, 0, 0] (bodyOf Try.f79)) (kSeq (fun fr h => X (mask (impl_shortest_M 7) fr) h) (kBlk 7 (impl_shortest_ks29 S K X0))) fr h
def impl_shortest_L7 (S : SatT) (K : AVal → H → Prop) (X0 : Frame → H → Prop) (s0_ : Sl) (s3_ : Sl) (s4_ : Sl) (i5_ : Int) (i6_ : Int) (i9_ : Int) (s16_ : Sl) (s21_ : Sl) (i22_ : Int) (i23_ : Int) (s88_ : Sl) (i89_ : Int) (i90_ : Int) (h : H) : Prop := loopK (impl_shortest_w7 S K X0) (impl_shortest_e7 s0_ s3_ s4_ i5_ i6_ i9_ s16_ s21_ i22_ i23_ s88_ i89_ i90_) h
def impl_shortest_C7 (S : SatT) (K : AVal → H → Prop) (X0 : Frame → H → Prop) (s0_ : Sl) (s3_ : Sl) (s4_ : Sl) (i5_ : Int) (i6_ : Int) (i9_ : Int) (s16_ : Sl) (s21_ : Sl) (i22_ : Int) (i23_ : Int) (h : H) : Prop :=
 bif (decide ((s16_.len : Int) > (s3_.len : Int))) then
 impl_shortest_C1 S K X0 s0_ s16_ s3_ i9_ (0) s21_ i22_ i23_ h
 else
 impl_shortest_C1 S K X0 s0_ s16_ s4_ i5_ (w64 (i6_ + (1))) s21_ i22_ i23_ h
def impl_shortest_b7 (S : SatT) (K : AVal → H → Prop) (X0 : Frame → H → Prop) (X7 : Frame → H → Prop) (s0_ : Sl) (s3_ : Sl) (s4_ : Sl) (i5_ : Int) (i6_ : Int) (i9_ : Int) (s16_ : Sl) (s21_ : Sl) (i22_ : Int) (i23_ : Int) (s88_ : Sl) (i89_ : Int) (i90_ : Int) (h : H) : Prop :=
 bif (decide (i90_ < i89_)) then
 ixS s88_ 1 i90_ fun p0 =>
 ldI .i64 p0 h fun n1 =>
 bif (i90_ == (s16_.len : Int)) then
 newS 1 1 [.int .i64 (0)] h fun s2 h3 =>
 app s16_ s2 1 h3 fun s4 h5 =>
 ixS s4 1 i90_ fun p6 =>
 ldI .i64 p6 h5 fun n7 =>
 callI S .i64 i_impl_modulo [.int .i64 (w64 (n7 + n1))] h5 fun n9 h8 =>
 ixS s4 1 i90_ fun p10 =>
 st1 p10 (.int .i64 n9) h8 fun h11 =>
 X7 (impl_shortest_e7 s0_ s3_ s4_ i5_ i6_ i9_ s4 s21_ i22_ i23_ s88_ i89_ (w64 (i90_ + (1)))) h11
 else
 ixS s16_ 1 i90_ fun p12 =>
 ldI .i64 p12 h fun n13 =>
 callI S .i64 i_impl_modulo [.int .i64 (w64 (n13 + n1))] h fun n15 h14 =>
 ixS s16_ 1 i90_ fun p16 =>
 st1 p16 (.int .i64 n15) h14 fun h17 =>
 X7 (impl_shortest_e7 s0_ s3_ s4_ i5_ i6_ i9_ s16_ s21_ i22_ i23_ s88_ i89_ (w64 (i90_ + (1)))) h17
 else
 impl_shortest_C7 S K X0 s0_ s3_ s4_ i5_ i6_ i9_ s16_ s21_ i22_ i23_ h
theorem impl_shortest_link7 (S : SatT) (K : AVal → H → Prop) (X0 : Frame → H → Prop) (X7 : Frame → H → Prop) (s0_ : Sl) (s3_ : Sl) (s4_ : Sl) (i5_ : Int) (i6_ : Int) (i9_ : Int) (s16_ : Sl) (s21_ : Sl) (i22_ : Int) (i23_ : Int) (s88_ : Sl) (i89_ : Int) (i90_ : Int) (h : H) : impl_shortest_w7 S K X0 X7 (impl_shortest_e7 s0_ s3_ s4_ i5_ i6_ i9_ s16_ s21_ i22_ i23_ s88_ i89_ i90_) h = impl_shortest_b7 S K X0 X7 s0_ s3_ s4_ i5_ i6_ i9_ s16_ s21_ i22_ i23_ s88_ i89_ i90_ h := by kernel_rfl
theorem impl_shortest_rule7 (S : SatT) (K : AVal → H → Prop) (X0 : Frame → H → Prop) (s0_ : Sl) (s3_ : Sl) (s4_ : Sl) (i5_ : Int) (i6_ : Int) (i9_ : Int) (s21_ : Sl) (i22_ : Int) (i23_ : Int) (s88_ : Sl) (i89_ : Int) (I_ : Sl → Int → H → Prop) (m_ : Sl → Int → H → Nat)
    (hs : ∀ (X7 : Frame → H → Prop) (s16_ : Sl) (i90_ : Int) (h : H), I_ s16_ i90_ h → (∀ (s16_' : Sl) (i90_' : Int) (h' : H), I_ s16_' i90_' h' → m_ s16_' i90_' h' < m_ s16_ i90_ h → X7 (impl_shortest_e7 s0_ s3_ s4_ i5_ i6_ i9_ s16_' s21_ i22_ i23_ s88_ i89_ i90_') h') → impl_shortest_b7 S K X0 X7 s0_ s3_ s4_ i5_ i6_ i9_ s16_ s21_ i22_ i23_ s88_ i89_ i90_ h) (s16_ : Sl) (i90_ : Int) {h : H} (h0 : I_ s16_ i90_ h) : impl_shortest_L7 S K X0 s0_ s3_ s4_ i5_ i6_ i9_ s16_ s21_ i22_ i23_ s88_ i89_ i90_ h :=
  loop_rule (σ := (Sl) × (Int)) (fun s_ => impl_shortest_e7 s0_ s3_ s4_ i5_ i6_ i9_ (s_.1) s21_ i22_ i23_ s88_ i89_ (s_.2)) (fun s_ h => I_ (s_.1) (s_.2) h) (fun s_ h => m_ (s_.1) (s_.2) h)
    (fun X s_ h hi hx => (impl_shortest_link7 S K X0 X s0_ s3_ s4_ i5_ i6_ i9_ (s_.1) s21_ i22_ i23_ s88_ i89_ (s_.2) h).mpr (hs X (s_.1) (s_.2) h hi fun s16_' i90_' h' hi' hm' => hx (s16_', i90_') h' hi' hm')) (s16_, i90_) h0
theorem impl_shortest_unroll7 (S : SatT) (K : AVal → H → Prop) (X0 : Frame → H → Prop) (s0_ : Sl) (s3_ : Sl) (s4_ : Sl) (i5_ : Int) (i6_ : Int) (i9_ : Int) (s16_ : Sl) (s21_ : Sl) (i22_ : Int) (i23_ : Int) (s88_ : Sl) (i89_ : Int) (i90_ : Int) (h : H) (hb : impl_shortest_b7 S K X0 (fun fr h => loopK (impl_shortest_w7 S K X0) fr h) s0_ s3_ s4_ i5_ i6_ i9_ s16_ s21_ i22_ i23_ s88_ i89_ i90_ h) : impl_shortest_L7 S K X0 s0_ s3_ s4_ i5_ i6_ i9_ s16_ s21_ i22_ i23_ s88_ i89_ i90_ h := loop_unroll ((impl_shortest_link7 S K X0 _ s0_ s3_ s4_ i5_ i6_ i9_ s16_ s21_ i22_ i23_ s88_ i89_ i90_ h).mpr hb)
def impl_shortest_C5 (S : SatT) (K : AVal → H → Prop) (X0 : Frame → H → Prop) (s0_ : Sl) (s3_ : Sl) (s4_ : Sl) (i5_ : Int) (i6_ : Int) (i9_ : Int) (s13_ : Sl) (s21_ : Sl) (i22_ : Int) (i23_ : Int) (h : H) : Prop :=
 callS S i_slices_Clone_s_int64_int64_ [.sl s3_] h fun s1 h0 =>
 impl_shortest_L7 S K X0 s0_ s3_ s4_ i5_ i6_ i9_ s1 s21_ i22_ i23_ s13_ (s13_.len : Int) (0) h0
def impl_shortest_b5 (S : SatT) (K : AVal → H → Prop) (X0 : Frame → H → Prop) (X5 : Frame → H → Prop) (s0_ : Sl) (s3_ : Sl) (s4_ : Sl) (i5_ : Int) (i6_ : Int) (i9_ : Int) (i12_ : Int) (s13_ : Sl) (s21_ : Sl) (i22_ : Int) (i23_ : Int) (s71_ : Sl) (i72_ : Int) (i73_ : Int) (h : H) : Prop :=
 bif (decide (i73_ < i72_)) then
 ixS s71_ 1 i73_ fun p0 =>
 ldI .i64 p0 h fun n1 =>
 callI S .i64 i_impl_modulo [.int .i64 (w64 ((w64 (0 - i12_)) * n1))] h fun n3 h2 =>
 newS 1 1 [.int .i64 n3] h2 fun s4 h5 =>
 app s13_ s4 1 h5 fun s6 h7 =>
 X5 (impl_shortest_e5 s0_ s3_ s4_ i5_ i6_ i9_ i12_ s6 s21_ i22_ i23_ s71_ i72_ (w64 (i73_ + (1)))) h7
 else
 impl_shortest_C5 S K X0 s0_ s3_ s4_ i5_ i6_ i9_ s13_ s21_ i22_ i23_ h
theorem impl_shortest_link5 (S : SatT) (K : AVal → H → Prop) (X0 : Frame → H → Prop) (X5 : Frame → H → Prop) (s0_ : Sl) (s3_ : Sl) (s4_ : Sl) (i5_ : Int) (i6_ : Int) (i9_ : Int) (i12_ : Int) (s13_ : Sl) (s21_ : Sl) (i22_ : Int) (i23_ : Int) (s71_ : Sl) (i72_ : Int) (i73_ : Int) (h : H) : impl_shortest_w5 S K X0 X5 (impl_shortest_e5 s0_ s3_ s4_ i5_ i6_ i9_ i12_ s13_ s21_ i22_ i23_ s71_ i72_ i73_) h = impl_shortest_b5 S K X0 X5 s0_ s3_ s4_ i5_ i6_ i9_ i12_ s13_ s21_ i22_ i23_ s71_ i72_ i73_ h := by kernel_rfl
theorem impl_shortest_rule5 (S : SatT) (K : AVal → H → Prop) (X0 : Frame → H → Prop) (s0_ : Sl) (s3_ : Sl) (s4_ : Sl) (i5_ : Int) (i6_ : Int) (i9_ : Int) (i12_ : Int) (s21_ : Sl) (i22_ : Int) (i23_ : Int) (s71_ : Sl) (i72_ : Int) (I_ : Sl → Int → H → Prop) (m_ : Sl → Int → H → Nat)
    (hs : ∀ (X5 : Frame → H → Prop) (s13_ : Sl) (i73_ : Int) (h : H), I_ s13_ i73_ h → (∀ (s13_' : Sl) (i73_' : Int) (h' : H), I_ s13_' i73_' h' → m_ s13_' i73_' h' < m_ s13_ i73_ h → X5 (impl_shortest_e5 s0_ s3_ s4_ i5_ i6_ i9_ i12_ s13_' s21_ i22_ i23_ s71_ i72_ i73_') h') → impl_shortest_b5 S K X0 X5 s0_ s3_ s4_ i5_ i6_ i9_ i12_ s13_ s21_ i22_ i23_ s71_ i72_ i73_ h) (s13_ : Sl) (i73_ : Int) {h : H} (h0 : I_ s13_ i73_ h) : impl_shortest_L5 S K X0 s0_ s3_ s4_ i5_ i6_ i9_ i12_ s13_ s21_ i22_ i23_ s71_ i72_ i73_ h :=
  loop_rule (σ := (Sl) × (Int)) (fun s_ => impl_shortest_e5 s0_ s3_ s4_ i5_ i6_ i9_ i12_ (s_.1) s21_ i22_ i23_ s71_ i72_ (s_.2)) (fun s_ h => I_ (s_.1) (s_.2) h) (fun s_ h => m_ (s_.1) (s_.2) h)
    (fun X s_ h hi hx => (impl_shortest_link5 S K X0 X s0_ s3_ s4_ i5_ i6_ i9_ i12_ (s_.1) s21_ i22_ i23_ s71_ i72_ (s_.2) h).mpr (hs X (s_.1) (s_.2) h hi fun s13_' i73_' h' hi' hm' => hx (s13_', i73_') h' hi' hm')) (s13_, i73_) h0
theorem impl_shortest_unroll5 (S : SatT) (K : AVal → H → Prop) (X0 : Frame → H → Prop) (s0_ : Sl) (s3_ : Sl) (s4_ : Sl) (i5_ : Int) (i6_ : Int) (i9_ : Int) (i12_ : Int) (s13_ : Sl) (s21_ : Sl) (i22_ : Int) (i23_ : Int) (s71_ : Sl) (i72_ : Int) (i73_ : Int) (h : H) (hb : impl_shortest_b5 S K X0 (fun fr h => loopK (impl_shortest_w5 S K X0) fr h) s0_ s3_ s4_ i5_ i6_ i9_ i12_ s13_ s21_ i22_ i23_ s71_ i72_ i73_ h) : impl_shortest_L5 S K X0 s0_ s3_ s4_ i5_ i6_ i9_ i12_ s13_ s21_ i22_ i23_ s71_ i72_ i73_ h := loop_unroll ((impl_shortest_link5 S K X0 _ s0_ s3_ s4_ i5_ i6_ i9_ i12_ s13_ s21_ i22_ i23_ s71_ i72_ i73_ h).mpr hb)
def impl_shortest_C2 (S : SatT) (K : AVal → H → Prop) (X0 : Frame → H → Prop) (s0_ : Sl) (s3_ : Sl) (s4_ : Sl) (i5_ : Int) (i6_ : Int) (i7_ : Int) (i9_ : Int) (s21_ : Sl) (i22_ : Int) (i23_ : Int) (h : H) : Prop :=
 bif (i9_ == (0)) then
 impl_shortest_C1 S K X0 s0_ s3_ s4_ i5_ (w64 (i6_ + (1))) s21_ i22_ i23_ h
 else
 bif ((s3_.len : Int) == (0)) then
 mkS (w64 (i7_ + (1))) [.int .i64 (0)] h fun s0 h1 =>
 impl_shortest_C1 S K X0 s0_ s0 Sl.nil i9_ (0) s21_ i22_ i23_ h1
 else
 callI S .i64 i_impl_inverse [.int .i64 i5_] h fun n3 h2 =>
 nz (10007) (
 mkS i6_ [.int .i64 (0)] h2 fun s4 h5 =>
 newS 1 1 [.int .i64 (Int.tmod (w64 (i9_ * n3)) (10007))] h5 fun s6 h7 =>
 app s4 s6 1 h7 fun s8 h9 =>
 impl_shortest_L5 S K X0 s0_ s3_ s4_ i5_ i6_ i9_ (Int.tmod (w64 (i9_ * n3)) (10007)) s8 s21_ i22_ i23_ s4_ (s4_.len : Int) (0) h9)
def impl_shortest_b2 (S : SatT) (K : AVal → H → Prop) (X0 : Frame → H → Prop) (X2 : Frame → H → Prop) (s0_ : Sl) (s3_ : Sl) (s4_ : Sl) (i5_ : Int) (i6_ : Int) (i7_ : Int) (i9_ : Int) (s21_ : Sl) (i22_ : Int) (i23_ : Int) (s29_ : Sl) (i30_ : Int) (i31_ : Int) (h : H) : Prop :=
 bif (decide (i31_ < i30_)) then
 ixS s29_ 1 i31_ fun p0 =>
 ldI .i64 p0 h fun n1 =>
 callI S .i64 i_impl_at [.sl s0_, .int .i64 (w64 ((w64 (i7_ - i31_)) - (1)))] h fun n3 h2 =>
 callI S .i64 i_impl_modulo [.int .i64 (w64 (i9_ - (w64 (n1 * n3))))] h2 fun n5 h4 =>
 X2 (impl_shortest_e2 s0_ s3_ s4_ i5_ i6_ i7_ n5 s21_ i22_ i23_ s29_ i30_ (w64 (i31_ + (1)))) h4
 else
 impl_shortest_C2 S K X0 s0_ s3_ s4_ i5_ i6_ i7_ i9_ s21_ i22_ i23_ h
theorem impl_shortest_link2 (S : SatT) (K : AVal → H → Prop) (X0 : Frame → H → Prop) (X2 : Frame → H → Prop) (s0_ : Sl) (s3_ : Sl) (s4_ : Sl) (i5_ : Int) (i6_ : Int) (i7_ : Int) (i9_ : Int) (s21_ : Sl) (i22_ : Int) (i23_ : Int) (s29_ : Sl) (i30_ : Int) (i31_ : Int) (h : H) : impl_shortest_w2 S K X0 X2 (impl_shortest_e2 s0_ s3_ s4_ i5_ i6_ i7_ i9_ s21_ i22_ i23_ s29_ i30_ i31_) h = impl_shortest_b2 S K X0 X2 s0_ s3_ s4_ i5_ i6_ i7_ i9_ s21_ i22_ i23_ s29_ i30_ i31_ h := by kernel_rfl
theorem impl_shortest_rule2 (S : SatT) (K : AVal → H → Prop) (X0 : Frame → H → Prop) (s0_ : Sl) (s3_ : Sl) (s4_ : Sl) (i5_ : Int) (i6_ : Int) (i7_ : Int) (s21_ : Sl) (i22_ : Int) (i23_ : Int) (s29_ : Sl) (i30_ : Int) (I_ : Int → Int → H → Prop) (m_ : Int → Int → H → Nat)
    (hs : ∀ (X2 : Frame → H → Prop) (i9_ : Int) (i31_ : Int) (h : H), I_ i9_ i31_ h → (∀ (i9_' : Int) (i31_' : Int) (h' : H), I_ i9_' i31_' h' → m_ i9_' i31_' h' < m_ i9_ i31_ h → X2 (impl_shortest_e2 s0_ s3_ s4_ i5_ i6_ i7_ i9_' s21_ i22_ i23_ s29_ i30_ i31_') h') → impl_shortest_b2 S K X0 X2 s0_ s3_ s4_ i5_ i6_ i7_ i9_ s21_ i22_ i23_ s29_ i30_ i31_ h) (i9_ : Int) (i31_ : Int) {h : H} (h0 : I_ i9_ i31_ h) : impl_shortest_L2 S K X0 s0_ s3_ s4_ i5_ i6_ i7_ i9_ s21_ i22_ i23_ s29_ i30_ i31_ h :=
  loop_rule (σ := (Int) × (Int)) (fun s_ => impl_shortest_e2 s0_ s3_ s4_ i5_ i6_ i7_ (s_.1) s21_ i22_ i23_ s29_ i30_ (s_.2)) (fun s_ h => I_ (s_.1) (s_.2) h) (fun s_ h => m_ (s_.1) (s_.2) h)
    (fun X s_ h hi hx => (impl_shortest_link2 S K X0 X s0_ s3_ s4_ i5_ i6_ i7_ (s_.1) s21_ i22_ i23_ s29_ i30_ (s_.2) h).mpr (hs X (s_.1) (s_.2) h hi fun i9_' i31_' h' hi' hm' => hx (i9_', i31_') h' hi' hm')) (i9_, i31_) h0
theorem impl_shortest_unroll2 (S : SatT) (K : AVal → H → Prop) (X0 : Frame → H → Prop) (s0_ : Sl) (s3_ : Sl) (s4_ : Sl) (i5_ : Int) (i6_ : Int) (i7_ : Int) (i9_ : Int) (s21_ : Sl) (i22_ : Int) (i23_ : Int) (s29_ : Sl) (i30_ : Int) (i31_ : Int) (h : H) (hb : impl_shortest_b2 S K X0 (fun fr h => loopK (impl_shortest_w2 S K X0) fr h) s0_ s3_ s4_ i5_ i6_ i7_ i9_ s21_ i22_ i23_ s29_ i30_ i31_ h) : impl_shortest_L2 S K X0 s0_ s3_ s4_ i5_ i6_ i7_ i9_ s21_ i22_ i23_ s29_ i30_ i31_ h := loop_unroll ((impl_shortest_link2 S K X0 _ s0_ s3_ s4_ i5_ i6_ i7_ i9_ s21_ i22_ i23_ s29_ i30_ i31_ h).mpr hb)
def impl_shortest_C0 (S : SatT) (K : AVal → H → Prop) (s3_ : Sl) (h : H) : Prop :=
 K (.sl s3_) h
def impl_shortest_b0 (S : SatT) (K : AVal → H → Prop) (X0 : Frame → H → Prop) (s0_ : Sl) (s3_ : Sl) (s4_ : Sl) (i5_ : Int) (i6_ : Int) (s21_ : Sl) (i22_ : Int) (i23_ : Int) (h : H) : Prop :=
 bif (decide (i23_ < i22_)) then
 ixS s21_ 1 i23_ fun p0 =>
 ldI .i64 p0 h fun n1 =>
 impl_shortest_L2 S K X0 s0_ s3_ s4_ i5_ i6_ i23_ n1 s21_ i22_ i23_ s3_ (s3_.len : Int) (0) h
 else
 impl_shortest_C0 S K s3_ h
theorem impl_shortest_link0 (S : SatT) (K : AVal → H → Prop) (X0 : Frame → H → Prop) (s0_ : Sl) (s3_ : Sl) (s4_ : Sl) (i5_ : Int) (i6_ : Int) (s21_ : Sl) (i22_ : Int) (i23_ : Int) (h : H) : impl_shortest_w0 S K X0 (impl_shortest_e0 s0_ s3_ s4_ i5_ i6_ s21_ i22_ i23_) h = impl_shortest_b0 S K X0 s0_ s3_ s4_ i5_ i6_ s21_ i22_ i23_ h := by kernel_rfl
theorem impl_shortest_rule0 (S : SatT) (K : AVal → H → Prop) (s0_ : Sl) (s21_ : Sl) (i22_ : Int) (I_ : Sl → Sl → Int → Int → Int → H → Prop) (m_ : Sl → Sl → Int → Int → Int → H → Nat)
    (hs : ∀ (X0 : Frame → H → Prop) (s3_ : Sl) (s4_ : Sl) (i5_ : Int) (i6_ : Int) (i23_ : Int) (h : H), I_ s3_ s4_ i5_ i6_ i23_ h → (∀ (s3_' : Sl) (s4_' : Sl) (i5_' : Int) (i6_' : Int) (i23_' : Int) (h' : H), I_ s3_' s4_' i5_' i6_' i23_' h' → m_ s3_' s4_' i5_' i6_' i23_' h' < m_ s3_ s4_ i5_ i6_ i23_ h → X0 (impl_shortest_e0 s0_ s3_' s4_' i5_' i6_' s21_ i22_ i23_') h') → impl_shortest_b0 S K X0 s0_ s3_ s4_ i5_ i6_ s21_ i22_ i23_ h) (s3_ : Sl) (s4_ : Sl) (i5_ : Int) (i6_ : Int) (i23_ : Int) {h : H} (h0 : I_ s3_ s4_ i5_ i6_ i23_ h) : impl_shortest_L0 S K s0_ s3_ s4_ i5_ i6_ s21_ i22_ i23_ h :=
  loop_rule (σ := (Sl) × (Sl) × (Int) × (Int) × (Int)) (fun s_ => impl_shortest_e0 s0_ (s_.1) (s_.2.1) (s_.2.2.1) (s_.2.2.2.1) s21_ i22_ (s_.2.2.2.2)) (fun s_ h => I_ (s_.1) (s_.2.1) (s_.2.2.1) (s_.2.2.2.1) (s_.2.2.2.2) h) (fun s_ h => m_ (s_.1) (s_.2.1) (s_.2.2.1) (s_.2.2.2.1) (s_.2.2.2.2) h)
    (fun X s_ h hi hx => (impl_shortest_link0 S K X s0_ (s_.1) (s_.2.1) (s_.2.2.1) (s_.2.2.2.1) s21_ i22_ (s_.2.2.2.2) h).mpr (hs X (s_.1) (s_.2.1) (s_.2.2.1) (s_.2.2.2.1) (s_.2.2.2.2) h hi fun s3_' s4_' i5_' i6_' i23_' h' hi' hm' => hx (s3_', s4_', i5_', i6_', i23_') h' hi' hm')) (s3_, s4_, i5_, i6_, i23_) h0
theorem impl_shortest_unroll0 (S : SatT) (K : AVal → H → Prop) (s0_ : Sl) (s3_ : Sl) (s4_ : Sl) (i5_ : Int) (i6_ : Int) (s21_ : Sl) (i22_ : Int) (i23_ : Int) (h : H) (hb : impl_shortest_b0 S K (fun fr h => loopK (impl_shortest_w0 S K) fr h) s0_ s3_ s4_ i5_ i6_ s21_ i22_ i23_ h) : impl_shortest_L0 S K s0_ s3_ s4_ i5_ i6_ s21_ i22_ i23_ h := loop_unroll ((impl_shortest_link0 S K _ s0_ s3_ s4_ i5_ i6_ s21_ i22_ i23_ h).mpr hb)
def impl_shortest_main (S : SatT) (K : AVal → H → Prop) (x0 : Sl) (h : H) : Prop :=
 newS 0 1 [] h fun s0 h1 =>
 newS 0 1 [] h1 fun s2 h3 =>
 impl_shortest_L0 S K x0 s0 s2 (0) (0) x0 (x0.len : Int) (0) h3
theorem impl_shortest_main_link (S : SatT) (K : AVal → H → Prop) (x0 : Sl) (h : H) : cwp S tab impl_shortest_M [] (bodyOf Try.f79) (kFun tab Try.f79.results.toList K) (fr0 Try.f79 [.sl x0]) h = impl_shortest_main S K x0 h := by kernel_rfl
theorem impl_shortest_call (x0 : Sl) (h : H) (K : Sl → H → Prop) (hm : impl_shortest_main (Sat Try.prog) (fun v h' => ∃ r, v = .sl r ∧ K r h') x0 h) : callS (Sat Try.prog) i_impl_shortest [.sl x0] h K := by
  have := Sat.ex tok mixed impl_shortest_M Try.func79 (c := bodyOf Try.f79) (by kernel_rfl) (calls_of Try.func79 (c := bodyOf Try.f79) (by kernel_rfl) (by decide)) ((impl_shortest_main_link _ _ x0 h).mpr hm)
  obtain ⟨v, h2, h3, r, rfl, h4⟩ := this; exact ⟨r, h2, h3, h4⟩

/-! ### loop.example/g01354/spec.l06Reach -/
def spec_l06Reach_M : Nat → List Nat := fun i => bif i == 8 then [3, 4, 8, 9, 10, 11] else bif i == 6 then [3, 4, 8, 9] else bif i == 4 then [3, 4, 8] else bif i == 2 then [0, 3, 4, 5, 6, 7] else bif i == 0 then [0, 3, 4, 5] else []
def spec_l06Reach_ks2 (S : SatT) (K : AVal → H → Prop) : Kont := kSeq (cwp S tab spec_l06Reach_M [] (sub [1, 1, 1] (bodyOf Try.f108)) (kFun tab (Try.f108).results.toList K)) (kFun tab (Try.f108).results.toList K)
def spec_l06Reach_e0 (s0_ : Sl) (i3_ : Int) (s4_ : Sl) (i5_ : Int) : Frame := [.sl s0_, U, U, .int .i64 i3_, .sl s4_, .int .i64 i5_, U, U, U, U, U, U, U, U, U, U, U, U, U, U, U, U, U, U, U, U, U, U, U, U, U, U, U, U, U, U, U, U, U, U, U, U, U, U, U, U, U, U, U, U, U, U, U, U, U, U, U, U, U, U, U, U, U, U, U, U, U, U, U, U, U, U, U, U, U, U, U, U, U, U, U, U, U, U]
def spec_l06Reach_w0 (S : SatT) (K : AVal → H → Prop) : (Frame → H → Prop) → Frame → H → Prop := fun X fr h => cwp S tab spec_l06Reach_M (spec_l06Reach_M 0) (sub [1, 1, 0, 1, 0, 0] (bodyOf Try.f108)) (kSeq (fun fr h => X (mask (spec_l06Reach_M 0) fr) h) (kBlk 0 (spec_l06Reach_ks2 S K))) fr h
def spec_l06Reach_L0 (S : SatT) (K : AVal → H → Prop) (s0_ : Sl) (i3_ : Int) (s4_ : Sl) (i5_ : Int) (h : H) : Prop := loopK (spec_l06Reach_w0 S K) (spec_l06Reach_e0 s0_ i3_ s4_ i5_) h
def spec_l06Reach_ks6 (S : SatT) (K : AVal → H → Prop) (X0 : Frame → H → Prop) : Kont := kSeq (cwp S tab spec_l06Reach_M (spec_l06Reach_M 0) (sub [1, 1, 0, 1, 0, 0, 1, 1] (bodyOf Try.f108)) (kSeq (fun fr h => X0 (mask (spec_l06Reach_M 0) fr) h) (kBlk 0 (spec_l06Reach_ks2 S K)))) (kSeq (fun fr h => X0 (mask (spec_l06Reach_M 0) fr) h) (kBlk 0 (spec_l06Reach_ks2 S K)))
def spec_l06Reach_ks8 (S : SatT) (K : AVal → H → Prop) (X0 : Frame → H → Prop) : Kont := kSeq (cwp S tab spec_l06Reach_M (spec_l06Reach_M 1) (sub [1, 1, 0, 1, 0, 0, 1, 0, 0, 1, 1] (bodyOf Try.f108)) (kBlk 1 (spec_l06Reach_ks6 S K X0))) (kBlk 1 (spec_l06Reach_ks6 S K X0))
def spec_l06Reach_e2 (s0_ : Sl) (i3_ : Int) (s4_ : Sl) (i5_ : Int) (s6_ : Sl) (i7_ : Int) : Frame := [.sl s0_, U, U, .int .i64 i3_, .sl s4_, .int .i64 i5_, .sl s6_, .int .i64 i7_, U, U, U, U, U, U, U, U, U, U, U, U, U, U, U, U, U, U, U, U, U, U, U, U, U, U, U, U, U, U, U, U, U, U, U, U, U, U, U, U, U, U, U, U, U, U, U, U, U, U, U, U, U, U, U, U, U, U, U, U, U, U, U, U, U, U, U, U, U, U, U, U, U, U, U, U]
def spec_l06Reach_w2 (S : SatT) (K : AVal → H → Prop) (X0 : Frame → H → Prop) : (Frame → H → Prop) → Frame → H → Prop := fun X fr h => cwp S tab spec_l06Reach_M (spec_l06Reach_M 2) (sub [1, 1, 0, 1, 0, 0, 1, 0, 0, 1, 0, 1, 0, 0] (bodyOf Try.f108)) (kSeq (fun fr h => X (mask (spec_l06Reach_M 2) fr) h) (kBlk 2 (spec_l06Reach_ks8 S K X0))) fr h
def spec_l06Reach_L2 (S : SatT) (K : AVal → H → Prop) (X0 : Frame → H → Prop) (s0_ : Sl) (i3_ : Int) (s4_ : Sl) (i5_ : Int) (s6_ : Sl) (i7_ : Int) (h : H) : Prop := loopK (spec_l06Reach_w2 S K X0) (spec_l06Reach_e2 s0_ i3_ s4_ i5_ s6_ i7_) h
def spec_l06Reach_C1 (S : SatT) (K : AVal → H → Prop) (X0 : Frame → H → Prop) (s0_ : Sl) (i3_ : Int) (s4_ : Sl) (i5_ : Int) (h : H) : Prop :=
 X0 (spec_l06Reach_e0 s0_ i3_ s4_ (w64 (i5_ + (1)))) h
def spec_l06Reach_C2 (S : SatT) (K : AVal → H → Prop) (X0 : Frame → H → Prop) (s0_ : Sl) (i3_ : Int) (s4_ : Sl) (i5_ : Int) (s6_ : Sl) (h : H) : Prop :=
 newS 1 1 [.sl s6_] h fun s0 h1 =>
 app s4_ s0 1 h1 fun s2 h3 =>
 spec_l06Reach_C1 S K X0 s0_ i3_ s2 i5_ h3
def spec_l06Reach_b2 (S : SatT) (K : AVal → H → Prop) (X0 : Frame → H → Prop) (X2 : Frame → H → Prop) (s0_ : Sl) (i3_ : Int) (s4_ : Sl) (i5_ : Int) (s6_ : Sl) (i7_ : Int) (h : H) : Prop :=
 bif (decide (i7_ < i3_)) then
 ixS s0_ 1 i5_ fun p0 =>
 ldS p0 h fun s1 =>
 ixS s1 1 i7_ fun p2 =>
 ldI .i64 p2 h fun n3 =>
 ixS s6_ 1 i7_ fun p4 =>
 st1 p4 (.bool (decide (n3 > (0)))) h fun h5 =>
 X2 (spec_l06Reach_e2 s0_ i3_ s4_ i5_ s6_ (w64 (i7_ + (1)))) h5
 else
 spec_l06Reach_C2 S K X0 s0_ i3_ s4_ i5_ s6_ h
theorem spec_l06Reach_link2 (S : SatT) (K : AVal → H → Prop) (X0 : Frame → H → Prop) (X2 : Frame → H → Prop) (s0_ : Sl) (i3_ : Int) (s4_ : Sl) (i5_ : Int) (s6_ : Sl) (i7_ : Int) (h : H) : spec_l06Reach_w2 S K X0 X2 (spec_l06Reach_e2 s0_ i3_ s4_ i5_ s6_ i7_) h = spec_l06Reach_b2 S K X0 X2 s0_ i3_ s4_ i5_ s6_ i7_ h := by kernel_rfl
theorem spec_l06Reach_rule2 (S : SatT) (K : AVal → H → Prop) (X0 : Frame → H → Prop) (s0_ : Sl) (i3_ : Int) (s4_ : Sl) (i5_ : Int) (s6_ : Sl) (I_ : Int → H → Prop) (m_ : Int → H → Nat)
    (hs : ∀ (X2 : Frame → H → Prop) (i7_ : Int) (h : H), I_ i7_ h → (∀ (i7_' : Int) (h' : H), I_ i7_' h' → m_ i7_' h' < m_ i7_ h → X2 (spec_l06Reach_e2 s0_ i3_ s4_ i5_ s6_ i7_') h') → spec_l06Reach_b2 S K X0 X2 s0_ i3_ s4_ i5_ s6_ i7_ h) (i7_ : Int) {h : H} (h0 : I_ i7_ h) : spec_l06Reach_L2 S K X0 s0_ i3_ s4_ i5_ s6_ i7_ h :=
  loop_rule (σ := (Int)) (fun s_ => spec_l06Reach_e2 s0_ i3_ s4_ i5_ s6_ (s_)) (fun s_ h => I_ (s_) h) (fun s_ h => m_ (s_) h)
    (fun X s_ h hi hx => (spec_l06Reach_link2 S K X0 X s0_ i3_ s4_ i5_ s6_ (s_) h).mpr (hs X (s_) h hi fun i7_' h' hi' hm' => hx (i7_') h' hi' hm')) (i7_) h0
theorem spec_l06Reach_unroll2 (S : SatT) (K : AVal → H → Prop) (X0 : Frame → H → Prop) (s0_ : Sl) (i3_ : Int) (s4_ : Sl) (i5_ : Int) (s6_ : Sl) (i7_ : Int) (h : H) (hb : spec_l06Reach_b2 S K X0 (fun fr h => loopK (spec_l06Reach_w2 S K X0) fr h) s0_ i3_ s4_ i5_ s6_ i7_ h) : spec_l06Reach_L2 S K X0 s0_ i3_ s4_ i5_ s6_ i7_ h := loop_unroll ((spec_l06Reach_link2 S K X0 _ s0_ i3_ s4_ i5_ s6_ i7_ h).mpr hb)
def spec_l06Reach_ks13 (S : SatT) (K : AVal → H → Prop) : Kont := kSeq (cwp S tab spec_l06Reach_M [] (sub [1, 1, 1, 1] (bodyOf Try.f108)) (kFun tab (Try.f108).results.toList K)) (kFun tab (Try.f108).results.toList K)
def spec_l06Reach_e4 (i3_ : Int) (s4_ : Sl) (i8_ : Int) : Frame := [U, U, U, .int .i64 i3_, .sl s4_, U, U, U, .int .i64 i8_, U, U, U, U, U, U, U, U, U, U, U, U, U, U, U, U, U, U, U, U, U, U, U, U, U, U, U, U, U, U, U, U, U, U, U, U, U, U, U, U, U, U, U, U, U, U, U, U, U, U, U, U, U, U, U, U, U, U, U, U, U, U, U, U, U, U, U, U, U, U, U, U, U, U, U]
def spec_l06Reach_w4 (S : SatT) (K : AVal → H → Prop) : (Frame → H → Prop) → Frame → H → Prop := fun X fr h => cwp S tab spec_l06Reach_M (spec_l06Reach_M 4) (sub [1, 1, 1, 0, 1, 0, 0] (bodyOf Try.f108)) (kSeq (fun fr h => X (mask (spec_l06Reach_M 4) fr) h) (kBlk 4 (spec_l06Reach_ks13 S K))) fr h
def spec_l06Reach_L4 (S : SatT) (K : AVal → H → Prop) (i3_ : Int) (s4_ : Sl) (i8_ : Int) (h : H) : Prop := loopK (spec_l06Reach_w4 S K) (spec_l06Reach_e4 i3_ s4_ i8_) h
def spec_l06Reach_ks17 (S : SatT) (K : AVal → H → Prop) (X4 : Frame → H → Prop) : Kont := kSeq (cwp S tab spec_l06Reach_M (spec_l06Reach_M 4) (sub [1, 1, 1, 0, 1, 0, 0, 1, 1] (bodyOf Try.f108)) (kSeq (fun fr h => X4 (mask (spec_l06Reach_M 4) fr) h) (kBlk 4 (spec_l06Reach_ks13 S K)))) (kSeq (fun fr h => X4 (mask (spec_l06Reach_M 4) fr) h) (kBlk 4 (spec_l06Reach_ks13 S K)))
def spec_l06Reach_e6 (i3_ : Int) (s4_ : Sl) (i8_ : Int) (i9_ : Int) : Frame := [U, U, U, .int .i64 i3_, .sl s4_, U, U, U, .int .i64 i8_, .int .i64 i9_, U, U, U, U, U, U, U, U, U, U, U, U, U, U, U, U, U, U, U, U, U, U, U, U, U, U, U, U, U, U, U, U, U, U, U, U, U, U, U, U, U, U, U, U, U, U, U, U, U, U, U, U, U, U, U, U, U, U, U, U, U, U, U, U, U, U, U, U, U, U, U, U, U, U]
def spec_l06Reach_w6 (S : SatT) (K : AVal → H → Prop) (X4 : Frame → H → Prop) : (Frame → H → Prop) → Frame → H → Prop := fun X fr h => cwp S tab spec_l06Reach_M (spec_l06Reach_M 6) (sub [1, 1, 1, 0, 1, 0, 0, 1, 0, 0, 1, 0, 0] (bodyOf Try.f108)) (kSeq (fun fr h => X (mask (spec_l06Reach_M 6) fr) h) (kBlk 6 (kBlk 5 (spec_l06Reach_ks17 S K X4)))) fr h
def spec_l06Reach_L6 (S : SatT) (K : AVal → H → Prop) (X4 : Frame → H → Prop) (i3_ : Int) (s4_ : Sl) (i8_ : Int) (i9_ : Int) (h : H) : Prop := loopK (spec_l06Reach_w6 S K X4) (spec_l06Reach_e6 i3_ s4_ i8_ i9_) h
def spec_l06Reach_ks21 (S : SatT) (K : AVal → H → Prop) (X4 : Frame → H → Prop) (X6 : Frame → H → Prop) : Kont := kSeq (cwp S tab spec_l06Reach_M (spec_l06Reach_M 6) (sub [1, 1, 1, 0, 1, 0, 0, 1, 0, 0, 1, 0, 0, 1, 1] (bodyOf Try.f108)) (kSeq (fun fr h => X6 (mask (spec_l06Reach_M 6) fr) h) (kBlk 6 (kBlk 5 (spec_l06Reach_ks17 S K X4))))) (kSeq (fun fr h => X6 (mask (spec_l06Reach_M 6) fr) h) (kBlk 6 (kBlk 5 (spec_l06Reach_ks17 S K X4))))
def spec_l06Reach_e8 (i3_ : Int) (s4_ : Sl) (i8_ : Int) (i9_ : Int) (s10_ : Sl) (i11_ : Int) : Frame := [U, U, U, .int .i64 i3_, .sl s4_, U, U, U, .int .i64 i8_, .int .i64 i9_, .sl s10_, .int .i64 i11_, U, U, U, U, U, U, U, U, U, U, U, U, U, U, U, U, U, U, U, U, U, U, U, U, U, U, U, U, U, U, U, U, U, U, U, U, U, U, U, U, U, U, U, U, U, U, U, U, U, U, U, U, U, U, U, U, U, U, U, U, U, U, U, U, U, U, U, U, U, U, U, U]
def spec_l06Reach_w8 (S : SatT) (K : AVal → H → Prop) (X4 : Frame → H → Prop) (X6 : Frame → H → Prop) : (Frame → H → Prop) → Frame → H → Prop := fun X fr h => cwp S tab spec_l06Reach_M (spec_l06Reach_M 8) (sub [1, 1, 1, 0, 1, 0, 0, 1, 0, 0, 1, 0, 0, 1, 0, 0, 1, 1, 0, 0] (bodyOf Try.f108)) (kSeq (fun fr h => X (mask (spec_l06Reach_M 8) fr) h) (kBlk 8 (kBlk 7 (spec_l06Reach_ks21 S K X4 X6)))) fr h
def spec_l06Reach_L8 (S : SatT) (K : AVal → H → Prop) (X4 : Frame → H → Prop) (X6 : Frame → H → Prop) (i3_ : Int) (s4_ : Sl) (i8_ : Int) (i9_ : Int) (s10_ : Sl) (i11_ : Int) (h : H) : Prop := loopK (spec_l06Reach_w8 S K X4 X6) (spec_l06Reach_e8 i3_ s4_ i8_ i9_ s10_ i11_) h
def spec_l06Reach_C7 (S : SatT) (K : AVal → H → Prop) (X4 : Frame → H → Prop) (X6 : Frame → H → Prop) (i3_ : Int) (s4_ : Sl) (i8_ : Int) (i9_ : Int) (h : H) : Prop :=
 X6 (spec_l06Reach_e6 i3_ s4_ i8_ (w64 (i9_ + (1)))) h
def spec_l06Reach_C8 (S : SatT) (K : AVal → H → Prop) (X4 : Frame → H → Prop) (X6 : Frame → H → Prop) (i3_ : Int) (s4_ : Sl) (i8_ : Int) (i9_ : Int) (h : H) : Prop :=
 spec_l06Reach_C7 S K X4 X6 i3_ s4_ i8_ i9_ h
def spec_l06Reach_b8 (S : SatT) (K : AVal → H → Prop) (X4 : Frame → H → Prop) (X6 : Frame → H → Prop) (X8 : Frame → H → Prop) (i3_ : Int) (s4_ : Sl) (i8_ : Int) (i9_ : Int) (s10_ : Sl) (i11_ : Int) (h : H) : Prop :=
 bif (decide (i11_ < i3_)) then
 ixS s10_ 1 i8_ fun p0 =>
 ldB p0 h fun b1 =>
 bif b1 then
 ixS s10_ 1 i11_ fun p2 =>
 ldB p2 h fun b3 =>
 bif b3 then
 ixS s10_ 1 i11_ fun p4 =>
 st1 p4 (.bool true) h fun h5 =>
 X8 (spec_l06Reach_e8 i3_ s4_ i8_ i9_ s10_ (w64 (i11_ + (1)))) h5
 else
 ixS s4_ 1 i8_ fun p6 =>
 ldS p6 h fun s7 =>
 ixS s7 1 i11_ fun p8 =>
 ldB p8 h fun b9 =>
 ixS s10_ 1 i11_ fun p10 =>
 st1 p10 (.bool b9) h fun h11 =>
 X8 (spec_l06Reach_e8 i3_ s4_ i8_ i9_ s10_ (w64 (i11_ + (1)))) h11
 else
 spec_l06Reach_C8 S K X4 X6 i3_ s4_ i8_ i9_ h
 else
 spec_l06Reach_C8 S K X4 X6 i3_ s4_ i8_ i9_ h
theorem spec_l06Reach_link8 (S : SatT) (K : AVal → H → Prop) (X4 : Frame → H → Prop) (X6 : Frame → H → Prop) (X8 : Frame → H → Prop) (i3_ : Int) (s4_ : Sl) (i8_ : Int) (i9_ : Int) (s10_ : Sl) (i11_ : Int) (h : H) : spec_l06Reach_w8 S K X4 X6 X8 (spec_l06Reach_e8 i3_ s4_ i8_ i9_ s10_ i11_) h = spec_l06Reach_b8 S K X4 X6 X8 i3_ s4_ i8_ i9_ s10_ i11_ h := by kernel_rfl
theorem spec_l06Reach_rule8 (S : SatT) (K : AVal → H → Prop) (X4 : Frame → H → Prop) (X6 : Frame → H → Prop) (i3_ : Int) (s4_ : Sl) (i8_ : Int) (i9_ : Int) (s10_ : Sl) (I_ : Int → H → Prop) (m_ : Int → H → Nat)
    (hs : ∀ (X8 : Frame → H → Prop) (i11_ : Int) (h : H), I_ i11_ h → (∀ (i11_' : Int) (h' : H), I_ i11_' h' → m_ i11_' h' < m_ i11_ h → X8 (spec_l06Reach_e8 i3_ s4_ i8_ i9_ s10_ i11_') h') → spec_l06Reach_b8 S K X4 X6 X8 i3_ s4_ i8_ i9_ s10_ i11_ h) (i11_ : Int) {h : H} (h0 : I_ i11_ h) : spec_l06Reach_L8 S K X4 X6 i3_ s4_ i8_ i9_ s10_ i11_ h :=
  loop_rule (σ := (Int)) (fun s_ => spec_l06Reach_e8 i3_ s4_ i8_ i9_ s10_ (s_)) (fun s_ h => I_ (s_) h) (fun s_ h => m_ (s_) h)
    (fun X s_ h hi hx => (spec_l06Reach_link8 S K X4 X6 X i3_ s4_ i8_ i9_ s10_ (s_) h).mpr (hs X (s_) h hi fun i11_' h' hi' hm' => hx (i11_') h' hi' hm')) (i11_) h0
theorem spec_l06Reach_unroll8 (S : SatT) (K : AVal → H → Prop) (X4 : Frame → H → Prop) (X6 : Frame → H → Prop) (i3_ : Int) (s4_ : Sl) (i8_ : Int) (i9_ : Int) (s10_ : Sl) (i11_ : Int) (h : H) (hb : spec_l06Reach_b8 S K X4 X6 (fun fr h => loopK (spec_l06Reach_w8 S K X4 X6) fr h) i3_ s4_ i8_ i9_ s10_ i11_ h) : spec_l06Reach_L8 S K X4 X6 i3_ s4_ i8_ i9_ s10_ i11_ h := loop_unroll ((spec_l06Reach_link8 S K X4 X6 _ i3_ s4_ i8_ i9_ s10_ i11_ h).mpr hb)
def spec_l06Reach_C5 (S : SatT) (K : AVal → H → Prop) (X4 : Frame → H → Prop) (i3_ : Int) (s4_ : Sl) (i8_ : Int) (h : H) : Prop :=
 X4 (spec_l06Reach_e4 i3_ s4_ (w64 (i8_ + (1)))) h
def spec_l06Reach_C6 (S : SatT) (K : AVal → H → Prop) (X4 : Frame → H → Prop) (i3_ : Int) (s4_ : Sl) (i8_ : Int) (h : H) : Prop :=
 spec_l06Reach_C5 S K X4 i3_ s4_ i8_ h
def spec_l06Reach_b6 (S : SatT) (K : AVal → H → Prop) (X4 : Frame → H → Prop) (X6 : Frame → H → Prop) (i3_ : Int) (s4_ : Sl) (i8_ : Int) (i9_ : Int) (h : H) : Prop :=
 bif (decide (i9_ < i3_)) then
 ixS s4_ 1 i9_ fun p0 =>
 ldS p0 h fun s1 =>
 spec_l06Reach_L8 S K X4 X6 i3_ s4_ i8_ i9_ s1 (0) h
 else
 spec_l06Reach_C6 S K X4 i3_ s4_ i8_ h
theorem spec_l06Reach_link6 (S : SatT) (K : AVal → H → Prop) (X4 : Frame → H → Prop) (X6 : Frame → H → Prop) (i3_ : Int) (s4_ : Sl) (i8_ : Int) (i9_ : Int) (h : H) : spec_l06Reach_w6 S K X4 X6 (spec_l06Reach_e6 i3_ s4_ i8_ i9_) h = spec_l06Reach_b6 S K X4 X6 i3_ s4_ i8_ i9_ h := by kernel_rfl
theorem spec_l06Reach_rule6 (S : SatT) (K : AVal → H → Prop) (X4 : Frame → H → Prop) (i3_ : Int) (s4_ : Sl) (i8_ : Int) (I_ : Int → H → Prop) (m_ : Int → H → Nat)
    (hs : ∀ (X6 : Frame → H → Prop) (i9_ : Int) (h : H), I_ i9_ h → (∀ (i9_' : Int) (h' : H), I_ i9_' h' → m_ i9_' h' < m_ i9_ h → X6 (spec_l06Reach_e6 i3_ s4_ i8_ i9_') h') → spec_l06Reach_b6 S K X4 X6 i3_ s4_ i8_ i9_ h) (i9_ : Int) {h : H} (h0 : I_ i9_ h) : spec_l06Reach_L6 S K X4 i3_ s4_ i8_ i9_ h :=
  loop_rule (σ := (Int)) (fun s_ => spec_l06Reach_e6 i3_ s4_ i8_ (s_)) (fun s_ h => I_ (s_) h) (fun s_ h => m_ (s_) h)
    (fun X s_ h hi hx => (spec_l06Reach_link6 S K X4 X i3_ s4_ i8_ (s_) h).mpr (hs X (s_) h hi fun i9_' h' hi' hm' => hx (i9_') h' hi' hm')) (i9_) h0
theorem spec_l06Reach_unroll6 (S : SatT) (K : AVal → H → Prop) (X4 : Frame → H → Prop) (i3_ : Int) (s4_ : Sl) (i8_ : Int) (i9_ : Int) (h : H) (hb : spec_l06Reach_b6 S K X4 (fun fr h => loopK (spec_l06Reach_w6 S K X4) fr h) i3_ s4_ i8_ i9_ h) : spec_l06Reach_L6 S K X4 i3_ s4_ i8_ i9_ h := loop_unroll ((spec_l06Reach_link6 S K X4 _ i3_ s4_ i8_ i9_ h).mpr hb)
def spec_l06Reach_C4 (S : SatT) (K : AVal → H → Prop) (s4_ : Sl) (h : H) : Prop :=
 K (.sl s4_) h
def spec_l06Reach_b4 (S : SatT) (K : AVal → H → Prop) (X4 : Frame → H → Prop) (i3_ : Int) (s4_ : Sl) (i8_ : Int) (h : H) : Prop :=
 bif (decide (i8_ < i3_)) then
 spec_l06Reach_L6 S K X4 i3_ s4_ i8_ (0) h
 else
 spec_l06Reach_C4 S K s4_ h
theorem spec_l06Reach_link4 (S : SatT) (K : AVal → H → Prop) (X4 : Frame → H → Prop) (i3_ : Int) (s4_ : Sl) (i8_ : Int) (h : H) : spec_l06Reach_w4 S K X4 (spec_l06Reach_e4 i3_ s4_ i8_) h = spec_l06Reach_b4 S K X4 i3_ s4_ i8_ h := by kernel_rfl
theorem spec_l06Reach_rule4 (S : SatT) (K : AVal → H → Prop) (i3_ : Int) (s4_ : Sl) (I_ : Int → H → Prop) (m_ : Int → H → Nat)
    (hs : ∀ (X4 : Frame → H → Prop) (i8_ : Int) (h : H), I_ i8_ h → (∀ (i8_' : Int) (h' : H), I_ i8_' h' → m_ i8_' h' < m_ i8_ h → X4 (spec_l06Reach_e4 i3_ s4_ i8_') h') → spec_l06Reach_b4 S K X4 i3_ s4_ i8_ h) (i8_ : Int) {h : H} (h0 : I_ i8_ h) : spec_l06Reach_L4 S K i3_ s4_ i8_ h :=
  loop_rule (σ := (Int)) (fun s_ => spec_l06Reach_e4 i3_ s4_ (s_)) (fun s_ h => I_ (s_) h) (fun s_ h => m_ (s_) h)
    (fun X s_ h hi hx => (spec_l06Reach_link4 S K X i3_ s4_ (s_) h).mpr (hs X (s_) h hi fun i8_' h' hi' hm' => hx (i8_') h' hi' hm')) (i8_) h0
theorem spec_l06Reach_unroll4 (S : SatT) (K : AVal → H → Prop) (i3_ : Int) (s4_ : Sl) (i8_ : Int) (h : H) (hb : spec_l06Reach_b4 S K (fun fr h => loopK (spec_l06Reach_w4 S K) fr h) i3_ s4_ i8_ h) : spec_l06Reach_L4 S K i3_ s4_ i8_ h := loop_unroll ((spec_l06Reach_link4 S K _ i3_ s4_ i8_ h).mpr hb)
def spec_l06Reach_C0 (S : SatT) (K : AVal → H → Prop) (i3_ : Int) (s4_ : Sl) (h : H) : Prop :=
 spec_l06Reach_L4 S K i3_ s4_ (0) h
def spec_l06Reach_b0 (S : SatT) (K : AVal → H → Prop) (X0 : Frame → H → Prop) (s0_ : Sl) (i3_ : Int) (s4_ : Sl) (i5_ : Int) (h : H) : Prop :=
 bif (decide (i5_ < i3_)) then
 mkS i3_ [.bool false] h fun s0 h1 =>
 spec_l06Reach_L2 S K X0 s0_ i3_ s4_ i5_ s0 (0) h1
 else
 spec_l06Reach_C0 S K i3_ s4_ h
theorem spec_l06Reach_link0 (S : SatT) (K : AVal → H → Prop) (X0 : Frame → H → Prop) (s0_ : Sl) (i3_ : Int) (s4_ : Sl) (i5_ : Int) (h : H) : spec_l06Reach_w0 S K X0 (spec_l06Reach_e0 s0_ i3_ s4_ i5_) h = spec_l06Reach_b0 S K X0 s0_ i3_ s4_ i5_ h := by kernel_rfl
theorem spec_l06Reach_rule0 (S : SatT) (K : AVal → H → Prop) (s0_ : Sl) (i3_ : Int) (I_ : Sl → Int → H → Prop) (m_ : Sl → Int → H → Nat)
    (hs : ∀ (X0 : Frame → H → Prop) (s4_ : Sl) (i5_ : Int) (h : H), I_ s4_ i5_ h → (∀ (s4_' : Sl) (i5_' : Int) (h' : H), I_ s4_' i5_' h' → m_ s4_' i5_' h' < m_ s4_ i5_ h → X0 (spec_l06Reach_e0 s0_ i3_ s4_' i5_') h') → spec_l06Reach_b0 S K X0 s0_ i3_ s4_ i5_ h) (s4_ : Sl) (i5_ : Int) {h : H} (h0 : I_ s4_ i5_ h) : spec_l06Reach_L0 S K s0_ i3_ s4_ i5_ h :=
  loop_rule (σ := (Sl) × (Int)) (fun s_ => spec_l06Reach_e0 s0_ i3_ (s_.1) (s_.2)) (fun s_ h => I_ (s_.1) (s_.2) h) (fun s_ h => m_ (s_.1) (s_.2) h)
    (fun X s_ h hi hx => (spec_l06Reach_link0 S K X s0_ i3_ (s_.1) (s_.2) h).mpr (hs X (s_.1) (s_.2) h hi fun s4_' i5_' h' hi' hm' => hx (s4_', i5_') h' hi' hm')) (s4_, i5_) h0
theorem spec_l06Reach_unroll0 (S : SatT) (K : AVal → H → Prop) (s0_ : Sl) (i3_ : Int) (s4_ : Sl) (i5_ : Int) (h : H) (hb : spec_l06Reach_b0 S K (fun fr h => loopK (spec_l06Reach_w0 S K) fr h) s0_ i3_ s4_ i5_ h) : spec_l06Reach_L0 S K s0_ i3_ s4_ i5_ h := loop_unroll ((spec_l06Reach_link0 S K _ s0_ i3_ s4_ i5_ h).mpr hb)
def spec_l06Reach_main (S : SatT) (K : AVal → H → Prop) (x0 : Sl) (h : H) : Prop :=
 newS 0 1 [] h fun s0 h1 =>
 spec_l06Reach_L0 S K x0 (x0.len : Int) s0 (0) h1
theorem spec_l06Reach_main_link (S : SatT) (K : AVal → H → Prop) (x0 : Sl) (h : H) : cwp S tab spec_l06Reach_M [] (bodyOf Try.f108) (kFun tab Try.f108.results.toList K) (fr0 Try.f108 [.sl x0]) h = spec_l06Reach_main S K x0 h := by kernel_rfl
theorem spec_l06Reach_call (x0 : Sl) (h : H) (K : Sl → H → Prop) (hm : spec_l06Reach_main (Sat Try.prog) (fun v h' => ∃ r, v = .sl r ∧ K r h') x0 h) : callS (Sat Try.prog) i_spec_l06Reach [.sl x0] h K := by
  have := Sat.ex tok mixed spec_l06Reach_M Try.func108 (c := bodyOf Try.f108) (by kernel_rfl) (calls_of Try.func108 (c := bodyOf Try.f108) (by kernel_rfl) (by decide)) ((spec_l06Reach_main_link _ _ x0 h).mpr hm)
  obtain ⟨v, h2, h3, r, rfl, h4⟩ := this; exact ⟨r, h2, h3, h4⟩

/-! ### loop.example/g01354/spec.l06Columns -/
def spec_l06Columns_M : Nat → List Nat := fun i => bif i == 4 then [1, 2, 6, 7, 8, 9, 10] else bif i == 2 then [1, 2, 6, 7, 8, 9] else bif i == 0 then [1, 2, 6, 7] else []
def spec_l06Columns_ks2 (S : SatT) (K : AVal → H → Prop) : Kont := kSeq (cwp S tab spec_l06Columns_M [] (sub [1, 1, 1] (bodyOf Try.f89)) (kFun tab (Try.f89).results.toList K)) (kFun tab (Try.f89).results.toList K)
def spec_l06Columns_e0 (i1_ : Int) (p2_ : Pt) (s6_ : Sl) (i7_ : Int) : Frame := [U, .int .i64 i1_, .ptr p2_, U, U, U, .sl s6_, .int .i64 i7_, U, U, U, U, U, U, U, U, U, U, U, U, U, U, U, U, U, U, U, U, U, U, U, U, U, U, U, U, U, U, U, U, U, U, U, U, U, U, U, U, U, U, U, U, U, U, U, U, U, U, U, U, U, U, U, U, U, U, U, U, U, U, U, U, U, U, U, U, U, U, U, U, U, U, U, U, U, U, U, U, U, U, U]
def spec_l06Columns_w0 (S : SatT) (K : AVal → H → Prop) : (Frame → H → Prop) → Frame → H → Prop := fun X fr h => cwp S tab spec_l06Columns_M (spec_l06Columns_M 0) (sub [1, 1, 0, 1, 0, 0] (bodyOf Try.f89)) (kSeq (fun fr h => X (mask (spec_l06Columns_M 0) fr) h) (kBlk 0 (spec_l06Columns_ks2 S K))) fr h
def spec_l06Columns_L0 (S : SatT) (K : AVal → H → Prop) (i1_ : Int) (p2_ : Pt) (s6_ : Sl) (i7_ : Int) (h : H) : Prop := loopK (spec_l06Columns_w0 S K) (spec_l06Columns_e0 i1_ p2_ s6_ i7_) h
def spec_l06Columns_ks6 (S : SatT) (K : AVal → H → Prop) (X0 : Frame → H → Prop) : Kont := kSeq (cwp S tab spec_l06Columns_M (spec_l06Columns_M 0) (sub [1, 1, 0, 1, 0, 0, 1, 1] (bodyOf Try.f89)) (kSeq (fun fr h => X0 (mask (spec_l06Columns_M 0) fr) h) (kBlk 0 (spec_l06Columns_ks2 S K)))) (kSeq (fun fr h => X0 (mask (spec_l06Columns_M 0) fr) h) (kBlk 0 (spec_l06Columns_ks2 S K)))
def spec_l06Columns_ks8 (S : SatT) (K : AVal → H → Prop) (X0 : Frame → H → Prop) : Kont := kSeq (cwp S tab spec_l06Columns_M (spec_l06Columns_M 1) (sub [1, 1, 0, 1, 0, 0, 1, 0, 0, 1, 1] (bodyOf Try.f89)) (kBlk 1 (spec_l06Columns_ks6 S K X0))) (kBlk 1 (spec_l06Columns_ks6 S K X0))
def spec_l06Columns_e2 (i1_ : Int) (p2_ : Pt) (s6_ : Sl) (i7_ : Int) (s8_ : Sl) (i9_ : Int) : Frame := [U, .int .i64 i1_, .ptr p2_, U, U, U, .sl s6_, .int .i64 i7_, .sl s8_, .int .i64 i9_, U, U, U, U, U, U, U, U, U, U, U, U, U, U, U, U, U, U, U, U, U, U, U, U, U, U, U, U, U, U, U, U, U, U, U, U, U, U, U, U, U, U, U, U, U, U, U, U, U, U, U, U, U, U, U, U, U, U, U, U, U, U, U, U, U, U, U, U, U, U, U, U, U, U, U, U, U, U, U, U, U]
def spec_l06Columns_w2 (S : SatT) (K : AVal → H → Prop) (X0 : Frame → H → Prop) : (Frame → H → Prop) → Frame → H → Prop := fun X fr h => cwp S tab spec_l06Columns_M (spec_l06Columns_M 2) (sub [1, 1, 0, 1, 0, 0, 1, 0, 0, 1, 0, 1, 0, 0] (bodyOf Try.f89)) (kSeq (fun fr h => X (mask (spec_l06Columns_M 2) fr) h) (kBlk 2 (spec_l06Columns_ks8 S K X0))) fr h
def spec_l06Columns_L2 (S : SatT) (K : AVal → H → Prop) (X0 : Frame → H → Prop) (i1_ : Int) (p2_ : Pt) (s6_ : Sl) (i7_ : Int) (s8_ : Sl) (i9_ : Int) (h : H) : Prop := loopK (spec_l06Columns_w2 S K X0) (spec_l06Columns_e2 i1_ p2_ s6_ i7_ s8_ i9_) h
def spec_l06Columns_ks12 (S : SatT) (K : AVal → H → Prop) (X0 : Frame → H → Prop) (X2 : Frame → H → Prop) : Kont := kSeq (cwp S tab spec_l06Columns_M (spec_l06Columns_M 2) (sub [1, 1, 0, 1, 0, 0, 1, 0, 0, 1, 0, 1, 0, 0, 1, 1] (bodyOf Try.f89)) (kSeq (fun fr h => X2 (mask (spec_l06Columns_M 2) fr) h) (kBlk 2 (spec_l06Columns_ks8 S K X0)))) (kSeq (fun fr h => X2 (mask (spec_l06Columns_M 2) fr) h) (kBlk 2 (spec_l06Columns_ks8 S K X0)))
def spec_l06Columns_e4 (i1_ : Int) (p2_ : Pt) (s6_ : Sl) (i7_ : Int) (s8_ : Sl) (i9_ : Int) (i10_ : Int) : Frame := [U, .int .i64 i1_, .ptr p2_, U, U, U, .sl s6_, .int .i64 i7_, .sl s8_, .int .i64 i9_, .int .i64 i10_, U, U, U, U, U, U, U, U, U, U, U, U, U, U, U, U, U, U, U, U, U, U, U, U, U, U, U, U, U, U, U, U, U, U, U, U, U, U, U, U, U, U, U, U, U, U, U, U, U, U, U, U, U, U, U, U, U, U, U, U, U, U, U, U, U, U, U, U, U, U, U, U, U, U, U, U, U, U, U, U]
def spec_l06Columns_w4 (S : SatT) (K : AVal → H → Prop) (X0 : Frame → H → Prop) (X2 : Frame → H → Prop) : (Frame → H → Prop) → Frame → H → Prop := fun X fr h => cwp S tab spec_l06Columns_M (spec_l06Columns_M 4) (sub [1, 1, 0, 1, 0, 0, 1, 0, 0, 1, 0, 1, 0, 0, 1, 0, 0, 1, 0, 0] (bodyOf Try.f89)) (kSeq (fun fr h => X (mask (spec_l06Columns_M 4) fr) h) (kBlk 4 (kBlk 3 (spec_l06Columns_ks12 S K X0 X2)))) fr h
def spec_l06Columns_L4 (S : SatT) (K : AVal → H → Prop) (X0 : Frame → H → Prop) (X2 : Frame → H → Prop) (i1_ : Int) (p2_ : Pt) (s6_ : Sl) (i7_ : Int) (s8_ : Sl) (i9_ : Int) (i10_ : Int) (h : H) : Prop := loopK (spec_l06Columns_w4 S K X0 X2) (spec_l06Columns_e4 i1_ p2_ s6_ i7_ s8_ i9_ i10_) h
def spec_l06Columns_C3 (S : SatT) (K : AVal → H → Prop) (X0 : Frame → H → Prop) (X2 : Frame → H → Prop) (i1_ : Int) (p2_ : Pt) (s6_ : Sl) (i7_ : Int) (s8_ : Sl) (i9_ : Int) (h : H) : Prop :=
 X2 (spec_l06Columns_e2 i1_ p2_ s6_ i7_ s8_ (w64 (i9_ + (1)))) h
def spec_l06Columns_C4 (S : SatT) (K : AVal → H → Prop) (X0 : Frame → H → Prop) (X2 : Frame → H → Prop) (i1_ : Int) (p2_ : Pt) (s6_ : Sl) (i7_ : Int) (s8_ : Sl) (i9_ : Int) (h : H) : Prop :=
 spec_l06Columns_C3 S K X0 X2 i1_ p2_ s6_ i7_ s8_ i9_ h
def spec_l06Columns_b4 (S : SatT) (K : AVal → H → Prop) (X0 : Frame → H → Prop) (X2 : Frame → H → Prop) (X4 : Frame → H → Prop) (i1_ : Int) (p2_ : Pt) (s6_ : Sl) (i7_ : Int) (s8_ : Sl) (i9_ : Int) (i10_ : Int) (h : H) : Prop :=
 isPt p2_ (
 ldS (Pt.add p2_ 1) h fun s0 =>
 bif (decide (i10_ < (s0.len : Int))) then
 isPt p2_ (
 ldS (Pt.add p2_ 1) h fun s1 =>
 ixS s1 4 i10_ fun p2 =>
 ldA p2 4 h fun cs3 =>
 newO [.int .i64 (0), .int .i64 (0), .int .i64 (0), .int .i64 (0)] h fun p4 h5 =>
 stN p4 4 cs3 h5 fun h6 =>
 ixS s6_ 1 i9_ fun p7 =>
 ldS p7 h6 fun s8 =>
 ixS s8 1 (2) fun p9 =>
 ldI .i64 p9 h6 fun n10 =>
 bif (decide (n10 ≥ (0))) then
 ixS s6_ 1 i9_ fun p11 =>
 ldS p11 h6 fun s12 =>
 ixS s12 1 (2) fun p13 =>
 ldI .i64 p13 h6 fun n14 =>
 ixA p4 4 1 (1) fun p15 =>
 ldI .i64 p15 h6 fun n16 =>
 bif (n14 != n16) then
 X4 (spec_l06Columns_e4 i1_ p2_ s6_ i7_ s8_ i9_ (w64 (i10_ + (1)))) h6
 else
 bif ((s8_.len : Int) == (5000)) then
 K (.tuple [.sl Sl.nil, .bool false]) h6
 else
 ixS s6_ 1 i9_ fun p17 =>
 ldS p17 h6 fun s18 =>
 ixS s18 1 (0) fun p19 =>
 ldI .i64 p19 h6 fun n20 =>
 isPt p2_ (
 ldI .i64 (Pt.add p2_ 0) h6 fun n21 =>
 ixA p4 4 1 (0) fun p22 =>
 ldI .i64 p22 h6 fun n23 =>
 ixS s6_ 1 i9_ fun p24 =>
 ldS p24 h6 fun s25 =>
 ixS s25 1 (1) fun p26 =>
 ldI .i64 p26 h6 fun n27 =>
 isPt p2_ (
 ldI .i64 (Pt.add p2_ 0) h6 fun n28 =>
 ixA p4 4 1 (2) fun p29 =>
 ldI .i64 p29 h6 fun n30 =>
 ixA p4 4 1 (3) fun p31 =>
 ldI .i64 p31 h6 fun n32 =>
 newS 3 1 [.int .i64 (w64 ((w64 (n20 * n21)) + n23)), .int .i64 (w64 ((w64 (n27 * n28)) + n30)), .int .i64 n32] h6 fun s33 h34 =>
 newS 1 1 [.sl s33] h34 fun s35 h36 =>
 app s8_ s35 1 h36 fun s37 h38 =>
 X4 (spec_l06Columns_e4 i1_ p2_ s6_ i7_ s37 i9_ (w64 (i10_ + (1)))) h38))
 else
 bif ((s8_.len : Int) == (5000)) then
 K (.tuple [.sl Sl.nil, .bool false]) h6
 else
 ixS s6_ 1 i9_ fun p39 =>
 ldS p39 h6 fun s40 =>
 ixS s40 1 (0) fun p41 =>
 ldI .i64 p41 h6 fun n42 =>
 isPt p2_ (
 ldI .i64 (Pt.add p2_ 0) h6 fun n43 =>
 ixA p4 4 1 (0) fun p44 =>
 ldI .i64 p44 h6 fun n45 =>
 ixS s6_ 1 i9_ fun p46 =>
 ldS p46 h6 fun s47 =>
 ixS s47 1 (1) fun p48 =>
 ldI .i64 p48 h6 fun n49 =>
 isPt p2_ (
 ldI .i64 (Pt.add p2_ 0) h6 fun n50 =>
 ixA p4 4 1 (2) fun p51 =>
 ldI .i64 p51 h6 fun n52 =>
 ixA p4 4 1 (3) fun p53 =>
 ldI .i64 p53 h6 fun n54 =>
 newS 3 1 [.int .i64 (w64 ((w64 (n42 * n43)) + n45)), .int .i64 (w64 ((w64 (n49 * n50)) + n52)), .int .i64 n54] h6 fun s55 h56 =>
 newS 1 1 [.sl s55] h56 fun s57 h58 =>
 app s8_ s57 1 h58 fun s59 h60 =>
 X4 (spec_l06Columns_e4 i1_ p2_ s6_ i7_ s59 i9_ (w64 (i10_ + (1)))) h60)))
 else
 spec_l06Columns_C4 S K X0 X2 i1_ p2_ s6_ i7_ s8_ i9_ h)
theorem spec_l06Columns_link4 (S : SatT) (K : AVal → H → Prop) (X0 : Frame → H → Prop) (X2 : Frame → H → Prop) (X4 : Frame → H → Prop) (i1_ : Int) (p2_ : Pt) (s6_ : Sl) (i7_ : Int) (s8_ : Sl) (i9_ : Int) (i10_ : Int) (h : H) : spec_l06Columns_w4 S K X0 X2 X4 (spec_l06Columns_e4 i1_ p2_ s6_ i7_ s8_ i9_ i10_) h = spec_l06Columns_b4 S K X0 X2 X4 i1_ p2_ s6_ i7_ s8_ i9_ i10_ h := by kernel_rfl
theorem spec_l06Columns_rule4 (S : SatT) (K : AVal → H → Prop) (X0 : Frame → H → Prop) (X2 : Frame → H → Prop) (i1_ : Int) (p2_ : Pt) (s6_ : Sl) (i7_ : Int) (i9_ : Int) (I_ : Sl → Int → H → Prop) (m_ : Sl → Int → H → Nat)
    (hs : ∀ (X4 : Frame → H → Prop) (s8_ : Sl) (i10_ : Int) (h : H), I_ s8_ i10_ h → (∀ (s8_' : Sl) (i10_' : Int) (h' : H), I_ s8_' i10_' h' → m_ s8_' i10_' h' < m_ s8_ i10_ h → X4 (spec_l06Columns_e4 i1_ p2_ s6_ i7_ s8_' i9_ i10_') h') → spec_l06Columns_b4 S K X0 X2 X4 i1_ p2_ s6_ i7_ s8_ i9_ i10_ h) (s8_ : Sl) (i10_ : Int) {h : H} (h0 : I_ s8_ i10_ h) : spec_l06Columns_L4 S K X0 X2 i1_ p2_ s6_ i7_ s8_ i9_ i10_ h :=
  loop_rule (σ := (Sl) × (Int)) (fun s_ => spec_l06Columns_e4 i1_ p2_ s6_ i7_ (s_.1) i9_ (s_.2)) (fun s_ h => I_ (s_.1) (s_.2) h) (fun s_ h => m_ (s_.1) (s_.2) h)
    (fun X s_ h hi hx => (spec_l06Columns_link4 S K X0 X2 X i1_ p2_ s6_ i7_ (s_.1) i9_ (s_.2) h).mpr (hs X (s_.1) (s_.2) h hi fun s8_' i10_' h' hi' hm' => hx (s8_', i10_') h' hi' hm')) (s8_, i10_) h0
theorem spec_l06Columns_unroll4 (S : SatT) (K : AVal → H → Prop) (X0 : Frame → H → Prop) (X2 : Frame → H → Prop) (i1_ : Int) (p2_ : Pt) (s6_ : Sl) (i7_ : Int) (s8_ : Sl) (i9_ : Int) (i10_ : Int) (h : H) (hb : spec_l06Columns_b4 S K X0 X2 (fun fr h => loopK (spec_l06Columns_w4 S K X0 X2) fr h) i1_ p2_ s6_ i7_ s8_ i9_ i10_ h) : spec_l06Columns_L4 S K X0 X2 i1_ p2_ s6_ i7_ s8_ i9_ i10_ h := loop_unroll ((spec_l06Columns_link4 S K X0 X2 _ i1_ p2_ s6_ i7_ s8_ i9_ i10_ h).mpr hb)
def spec_l06Columns_C1 (S : SatT) (K : AVal → H → Prop) (X0 : Frame → H → Prop) (i1_ : Int) (p2_ : Pt) (s6_ : Sl) (i7_ : Int) (h : H) : Prop :=
 X0 (spec_l06Columns_e0 i1_ p2_ s6_ (w64 (i7_ + (1)))) h
def spec_l06Columns_C2 (S : SatT) (K : AVal → H → Prop) (X0 : Frame → H → Prop) (i1_ : Int) (p2_ : Pt) (i7_ : Int) (s8_ : Sl) (h : H) : Prop :=
 spec_l06Columns_C1 S K X0 i1_ p2_ s8_ i7_ h
def spec_l06Columns_b2 (S : SatT) (K : AVal → H → Prop) (X0 : Frame → H → Prop) (X2 : Frame → H → Prop) (i1_ : Int) (p2_ : Pt) (s6_ : Sl) (i7_ : Int) (s8_ : Sl) (i9_ : Int) (h : H) : Prop :=
 bif (decide (i9_ < (s6_.len : Int))) then
 spec_l06Columns_L4 S K X0 X2 i1_ p2_ s6_ i7_ s8_ i9_ (0) h
 else
 spec_l06Columns_C2 S K X0 i1_ p2_ i7_ s8_ h
theorem spec_l06Columns_link2 (S : SatT) (K : AVal → H → Prop) (X0 : Frame → H → Prop) (X2 : Frame → H → Prop) (i1_ : Int) (p2_ : Pt) (s6_ : Sl) (i7_ : Int) (s8_ : Sl) (i9_ : Int) (h : H) : spec_l06Columns_w2 S K X0 X2 (spec_l06Columns_e2 i1_ p2_ s6_ i7_ s8_ i9_) h = spec_l06Columns_b2 S K X0 X2 i1_ p2_ s6_ i7_ s8_ i9_ h := by kernel_rfl
theorem spec_l06Columns_rule2 (S : SatT) (K : AVal → H → Prop) (X0 : Frame → H → Prop) (i1_ : Int) (p2_ : Pt) (s6_ : Sl) (i7_ : Int) (I_ : Sl → Int → H → Prop) (m_ : Sl → Int → H → Nat)
    (hs : ∀ (X2 : Frame → H → Prop) (s8_ : Sl) (i9_ : Int) (h : H), I_ s8_ i9_ h → (∀ (s8_' : Sl) (i9_' : Int) (h' : H), I_ s8_' i9_' h' → m_ s8_' i9_' h' < m_ s8_ i9_ h → X2 (spec_l06Columns_e2 i1_ p2_ s6_ i7_ s8_' i9_') h') → spec_l06Columns_b2 S K X0 X2 i1_ p2_ s6_ i7_ s8_ i9_ h) (s8_ : Sl) (i9_ : Int) {h : H} (h0 : I_ s8_ i9_ h) : spec_l06Columns_L2 S K X0 i1_ p2_ s6_ i7_ s8_ i9_ h :=
  loop_rule (σ := (Sl) × (Int)) (fun s_ => spec_l06Columns_e2 i1_ p2_ s6_ i7_ (s_.1) (s_.2)) (fun s_ h => I_ (s_.1) (s_.2) h) (fun s_ h => m_ (s_.1) (s_.2) h)
    (fun X s_ h hi hx => (spec_l06Columns_link2 S K X0 X i1_ p2_ s6_ i7_ (s_.1) (s_.2) h).mpr (hs X (s_.1) (s_.2) h hi fun s8_' i9_' h' hi' hm' => hx (s8_', i9_') h' hi' hm')) (s8_, i9_) h0
theorem spec_l06Columns_unroll2 (S : SatT) (K : AVal → H → Prop) (X0 : Frame → H → Prop) (i1_ : Int) (p2_ : Pt) (s6_ : Sl) (i7_ : Int) (s8_ : Sl) (i9_ : Int) (h : H) (hb : spec_l06Columns_b2 S K X0 (fun fr h => loopK (spec_l06Columns_w2 S K X0) fr h) i1_ p2_ s6_ i7_ s8_ i9_ h) : spec_l06Columns_L2 S K X0 i1_ p2_ s6_ i7_ s8_ i9_ h := loop_unroll ((spec_l06Columns_link2 S K X0 _ i1_ p2_ s6_ i7_ s8_ i9_ h).mpr hb)
def spec_l06Columns_C0 (S : SatT) (K : AVal → H → Prop) (s6_ : Sl) (h : H) : Prop :=
 K (.tuple [.sl s6_, .bool true]) h
def spec_l06Columns_b0 (S : SatT) (K : AVal → H → Prop) (X0 : Frame → H → Prop) (i1_ : Int) (p2_ : Pt) (s6_ : Sl) (i7_ : Int) (h : H) : Prop :=
 bif (decide (i7_ < i1_)) then
 newS 0 1 [] h fun s0 h1 =>
 spec_l06Columns_L2 S K X0 i1_ p2_ s6_ i7_ s0 (0) h1
 else
 spec_l06Columns_C0 S K s6_ h
theorem spec_l06Columns_link0 (S : SatT) (K : AVal → H → Prop) (X0 : Frame → H → Prop) (i1_ : Int) (p2_ : Pt) (s6_ : Sl) (i7_ : Int) (h : H) : spec_l06Columns_w0 S K X0 (spec_l06Columns_e0 i1_ p2_ s6_ i7_) h = spec_l06Columns_b0 S K X0 i1_ p2_ s6_ i7_ h := by kernel_rfl
theorem spec_l06Columns_rule0 (S : SatT) (K : AVal → H → Prop) (i1_ : Int) (p2_ : Pt) (I_ : Sl → Int → H → Prop) (m_ : Sl → Int → H → Nat)
    (hs : ∀ (X0 : Frame → H → Prop) (s6_ : Sl) (i7_ : Int) (h : H), I_ s6_ i7_ h → (∀ (s6_' : Sl) (i7_' : Int) (h' : H), I_ s6_' i7_' h' → m_ s6_' i7_' h' < m_ s6_ i7_ h → X0 (spec_l06Columns_e0 i1_ p2_ s6_' i7_') h') → spec_l06Columns_b0 S K X0 i1_ p2_ s6_ i7_ h) (s6_ : Sl) (i7_ : Int) {h : H} (h0 : I_ s6_ i7_ h) : spec_l06Columns_L0 S K i1_ p2_ s6_ i7_ h :=
  loop_rule (σ := (Sl) × (Int)) (fun s_ => spec_l06Columns_e0 i1_ p2_ (s_.1) (s_.2)) (fun s_ h => I_ (s_.1) (s_.2) h) (fun s_ h => m_ (s_.1) (s_.2) h)
    (fun X s_ h hi hx => (spec_l06Columns_link0 S K X i1_ p2_ (s_.1) (s_.2) h).mpr (hs X (s_.1) (s_.2) h hi fun s6_' i7_' h' hi' hm' => hx (s6_', i7_') h' hi' hm')) (s6_, i7_) h0
theorem spec_l06Columns_unroll0 (S : SatT) (K : AVal → H → Prop) (i1_ : Int) (p2_ : Pt) (s6_ : Sl) (i7_ : Int) (h : H) (hb : spec_l06Columns_b0 S K (fun fr h => loopK (spec_l06Columns_w0 S K) fr h) i1_ p2_ s6_ i7_ h) : spec_l06Columns_L0 S K i1_ p2_ s6_ i7_ h := loop_unroll ((spec_l06Columns_link0 S K _ i1_ p2_ s6_ i7_ h).mpr hb)
def spec_l06Columns_main (S : SatT) (K : AVal → H → Prop) (x0 : List AVal) (x1 : Int) (h : H) : Prop :=
 newK 2 x0 h fun p0 h1 =>
 newS 3 1 [.int .i64 (0), .int .i64 (0), .int .i64 (-1)] h1 fun s2 h3 =>
 newS 1 1 [.sl s2] h3 fun s4 h5 =>
 spec_l06Columns_L0 S K x1 p0 s4 (0) h5
theorem spec_l06Columns_main_link (S : SatT) (K : AVal → H → Prop) (x0 : List AVal) (x1 : Int) (h : H) : cwp S tab spec_l06Columns_M [] (bodyOf Try.f89) (kFun tab Try.f89.results.toList K) (fr0 Try.f89 [.agg x0, .int .i64 x1]) h = spec_l06Columns_main S K x0 x1 h := by kernel_rfl
theorem spec_l06Columns_call (x0 : List AVal) (x1 : Int) (h : H) (K : AVal → H → Prop) (hm : spec_l06Columns_main (Sat Try.prog) (fun v h' => K v h') x0 x1 h) : callV (Sat Try.prog) i_spec_l06Columns [.agg x0, .int .i64 x1] h K := by
  have := Sat.ex tok mixed spec_l06Columns_M Try.func89 (c := bodyOf Try.f89) (by kernel_rfl) (calls_of Try.func89 (c := bodyOf Try.f89) (by kernel_rfl) (by decide)) ((spec_l06Columns_main_link _ _ x0 x1 h).mpr hm)
  exact this

/-! ### (*loop.example/g01354/impl.strip).sequence -/
def impl_strip_sequence_M : Nat → List Nat := fun i => bif i == 4 then [0, 1, 2, 7, 8, 51, 52, 53] else bif i == 2 then [0, 1, 2, 6, 7, 8, 27, 28, 29] else bif i == 0 then [0, 1, 2, 6] else []
def impl_strip_sequence_e0 (p0_ : Pt) (f1_ : AVal) (f2_ : AVal) (s6_ : Sl) : Frame := [.ptr p0_, f1_, f2_, U, U, U, .sl s6_, U, U, U, U, U, U, U, U, U, U, U, U, U, U, U, U, U, U, U, U, U, U, U, U, U, U, U, U, U, U, U, U, U, U, U, U, U, U, U, U, U, U, U, U, U, U, U, U, U, U, U, U, U, U, U, U, U, U, U, U, U]
def impl_strip_sequence_w0 (S : SatT) (K : AVal → H → Prop) : (Frame → H → Prop) → Frame → H → Prop := fun X fr h => cwp S tab impl_strip_sequence_M (impl_strip_sequence_M 0) (sub [1, 0, 0] (bodyOf Try.f69)) (kSeq (fun fr h => X (mask (impl_strip_sequence_M 0) fr) h) (kBlk 0 (kFun tab (Try.f69).results.toList K))) fr h
def impl_strip_sequence_L0 (S : SatT) (K : AVal → H → Prop) (p0_ : Pt) (f1_ : AVal) (f2_ : AVal) (s6_ : Sl) (h : H) : Prop := loopK (impl_strip_sequence_w0 S K) (impl_strip_sequence_e0 p0_ f1_ f2_ s6_) h
def impl_strip_sequence_ks2 (S : SatT) (K : AVal → H → Prop) (X0 : Frame → H → Prop) : Kont := kSeq (cwp S tab impl_strip_sequence_M (impl_strip_sequence_M 1) (sub [1, 0, 0, 0, 1, 1] (bodyOf Try.f69)) (kBlk 1 (kSeq (fun fr h => X0 (mask (impl_strip_sequence_M 0) fr) h) (kBlk 0 (kFun tab (Try.f69).results.toList K))))) (kBlk 1 (kSeq (fun fr h => X0 (mask (impl_strip_sequence_M 0) fr) h) (kBlk 0 (kFun tab (Try.f69).results.toList K))))
def impl_strip_sequence_e2 (p0_ : Pt) (f1_ : AVal) (f2_ : AVal) (s6_ : Sl) (s7_ : Sl) (i8_ : Int) (s27_ : Sl) (i28_ : Int) (i29_ : Int) : Frame := [.ptr p0_, f1_, f2_, U, U, U, .sl s6_, .sl s7_, .int .i64 i8_, U, U, U, U, U, U, U, U, U, U, U, U, U, U, U, U, U, U, .sl s27_, .int .i64 i28_, .int .i64 i29_, U, U, U, U, U, U, U, U, U, U, U, U, U, U, U, U, U, U, U, U, U, U, U, U, U, U, U, U, U, U, U, U, U, U, U, U, U, U]
def impl_strip_sequence_w2 (S : SatT) (K : AVal → H → Prop) (X0 : Frame → H → Prop) : (Frame → H → Prop) → Frame → H → Prop := fun X fr h => cwp S tab impl_strip_sequence_M (impl_strip_sequence_M 2) (sub [1, 0, 0, 0, 1, 0, 1, 0, 0] (bodyOf Try.f69)) (kSeq (fun fr h => X (mask (impl_strip_sequence_M 2) fr) h) (kBlk 2 (impl_strip_sequence_ks2 S K X0))) fr h
def impl_strip_sequence_L2 (S : SatT) (K : AVal → H → Prop) (X0 : Frame → H → Prop) (p0_ : Pt) (f1_ : AVal) (f2_ : AVal) (s6_ : Sl) (s7_ : Sl) (i8_ : Int) (s27_ : Sl) (i28_ : Int) (i29_ : Int) (h : H) : Prop := loopK (impl_strip_sequence_w2 S K X0) (impl_strip_sequence_e2 p0_ f1_ f2_ s6_ s7_ i8_ s27_ i28_ i29_) h
def impl_strip_sequence_ks8 (S : SatT) (K : AVal → H → Prop) (X0 : Frame → H → Prop) : Kont := kSeq (cwp S tab impl_strip_sequence_M (impl_strip_sequence_M 1) (sub [1, 0, 0, 0, 1, 1, 1] (bodyOf Try.f69)) (kBlk 1 (kSeq (fun fr h => X0 (mask (impl_strip_sequence_M 0) fr) h) (kBlk 0 (kFun tab (Try.f69).results.toList K))))) (kBlk 1 (kSeq (fun fr h => X0 (mask (impl_strip_sequence_M 0) fr) h) (kBlk 0 (kFun tab (Try.f69).results.toList K))))
def impl_strip_sequence_e4 (p0_ : Pt) (f1_ : AVal) (f2_ : AVal) (s7_ : Sl) (i8_ : Int) (s51_ : Sl) (i52_ : Int) (i53_ : Int) : Frame := [.ptr p0_, f1_, f2_, U, U, U, U, .sl s7_, .int .i64 i8_, U, U, U, U, U, U, U, U, U, U, U, U, U, U, U, U, U, U, U, U, U, U, U, U, U, U, U, U, U, U, U, U, U, U, U, U, U, U, U, U, U, U, .sl s51_, .int .i64 i52_, .int .i64 i53_, U, U, U, U, U, U, U, U, U, U, U, U, U, U]
def impl_strip_sequence_w4 (S : SatT) (K : AVal → H → Prop) (X0 : Frame → H → Prop) : (Frame → H → Prop) → Frame → H → Prop := fun X fr h => cwp S tab impl_strip_sequence_M (impl_strip_sequence_M 4) (sub [1, 0, 0, 0, 1, 1, 0, 1, 0, 0] (bodyOf Try.f69)) (kSeq (fun fr h => X (mask (impl_strip_sequence_M 4) fr) h) (kBlk 4 (impl_strip_sequence_ks8 S K X0))) fr h
def impl_strip_sequence_L4 (S : SatT) (K : AVal → H → Prop) (X0 : Frame → H → Prop) (p0_ : Pt) (f1_ : AVal) (f2_ : AVal) (s7_ : Sl) (i8_ : Int) (s51_ : Sl) (i52_ : Int) (i53_ : Int) (h : H) : Prop := loopK (impl_strip_sequence_w4 S K X0) (impl_strip_sequence_e4 p0_ f1_ f2_ s7_ i8_ s51_ i52_ i53_) h
def impl_strip_sequence_C4 (S : SatT) (K : AVal → H → Prop) (X0 : Frame → H → Prop) (p0_ : Pt) (f1_ : AVal) (f2_ : AVal) (s7_ : Sl) (i8_ : Int) (h : H) : Prop :=
 viaF f2_ [.int .i64 i8_] fun g0 ys1 =>
 callB S g0 ys1 h fun b3 h2 =>
 bif (!b3) then
 K (.tuple []) h2
 else
 X0 (impl_strip_sequence_e0 p0_ f1_ f2_ s7_) h2
def impl_strip_sequence_b4 (S : SatT) (K : AVal → H → Prop) (X0 : Frame → H → Prop) (X4 : Frame → H → Prop) (p0_ : Pt) (f1_ : AVal) (f2_ : AVal) (s7_ : Sl) (i8_ : Int) (s51_ : Sl) (i52_ : Int) (i53_ : Int) (h : H) : Prop :=
 bif (decide (i53_ < i52_)) then
 ixS s51_ 1 i53_ fun p0 =>
 ldI .i64 p0 h fun n1 =>
 viaF f1_ [.int .i64 (w64 (i8_ + n1))] fun g2 ys3 =>
 callI S .i64 g2 ys3 h fun n5 h4 =>
 X4 (impl_strip_sequence_e4 p0_ f1_ f2_ s7_ n5 s51_ i52_ (w64 (i53_ + (1)))) h4
 else
 impl_strip_sequence_C4 S K X0 p0_ f1_ f2_ s7_ i8_ h
theorem impl_strip_sequence_link4 (S : SatT) (K : AVal → H → Prop) (X0 : Frame → H → Prop) (X4 : Frame → H → Prop) (p0_ : Pt) (f1_ : AVal) (f2_ : AVal) (s7_ : Sl) (i8_ : Int) (s51_ : Sl) (i52_ : Int) (i53_ : Int) (h : H) : impl_strip_sequence_w4 S K X0 X4 (impl_strip_sequence_e4 p0_ f1_ f2_ s7_ i8_ s51_ i52_ i53_) h = impl_strip_sequence_b4 S K X0 X4 p0_ f1_ f2_ s7_ i8_ s51_ i52_ i53_ h := by kernel_rfl
theorem impl_strip_sequence_rule4 (S : SatT) (K : AVal → H → Prop) (X0 : Frame → H → Prop) (p0_ : Pt) (f1_ : AVal) (f2_ : AVal) (s7_ : Sl) (s51_ : Sl) (i52_ : Int) (I_ : Int → Int → H → Prop) (m_ : Int → Int → H → Nat)
    (hs : ∀ (X4 : Frame → H → Prop) (i8_ : Int) (i53_ : Int) (h : H), I_ i8_ i53_ h → (∀ (i8_' : Int) (i53_' : Int) (h' : H), I_ i8_' i53_' h' → m_ i8_' i53_' h' < m_ i8_ i53_ h → X4 (impl_strip_sequence_e4 p0_ f1_ f2_ s7_ i8_' s51_ i52_ i53_') h') → impl_strip_sequence_b4 S K X0 X4 p0_ f1_ f2_ s7_ i8_ s51_ i52_ i53_ h) (i8_ : Int) (i53_ : Int) {h : H} (h0 : I_ i8_ i53_ h) : impl_strip_sequence_L4 S K X0 p0_ f1_ f2_ s7_ i8_ s51_ i52_ i53_ h :=
  loop_rule (σ := (Int) × (Int)) (fun s_ => impl_strip_sequence_e4 p0_ f1_ f2_ s7_ (s_.1) s51_ i52_ (s_.2)) (fun s_ h => I_ (s_.1) (s_.2) h) (fun s_ h => m_ (s_.1) (s_.2) h)
    (fun X s_ h hi hx => (impl_strip_sequence_link4 S K X0 X p0_ f1_ f2_ s7_ (s_.1) s51_ i52_ (s_.2) h).mpr (hs X (s_.1) (s_.2) h hi fun i8_' i53_' h' hi' hm' => hx (i8_', i53_') h' hi' hm')) (i8_, i53_) h0
theorem impl_strip_sequence_unroll4 (S : SatT) (K : AVal → H → Prop) (X0 : Frame → H → Prop) (p0_ : Pt) (f1_ : AVal) (f2_ : AVal) (s7_ : Sl) (i8_ : Int) (s51_ : Sl) (i52_ : Int) (i53_ : Int) (h : H) (hb : impl_strip_sequence_b4 S K X0 (fun fr h => loopK (impl_strip_sequence_w4 S K X0) fr h) p0_ f1_ f2_ s7_ i8_ s51_ i52_ i53_ h) : impl_strip_sequence_L4 S K X0 p0_ f1_ f2_ s7_ i8_ s51_ i52_ i53_ h := loop_unroll ((impl_strip_sequence_link4 S K X0 _ p0_ f1_ f2_ s7_ i8_ s51_ i52_ i53_ h).mpr hb)
def impl_strip_sequence_C2 (S : SatT) (K : AVal → H → Prop) (X0 : Frame → H → Prop) (p0_ : Pt) (f1_ : AVal) (f2_ : AVal) (s7_ : Sl) (i8_ : Int) (h : H) : Prop :=
 impl_strip_sequence_L4 S K X0 p0_ f1_ f2_ s7_ i8_ s7_ (s7_.len : Int) (0) h
def impl_strip_sequence_b2 (S : SatT) (K : AVal → H → Prop) (X0 : Frame → H → Prop) (X2 : Frame → H → Prop) (p0_ : Pt) (f1_ : AVal) (f2_ : AVal) (s6_ : Sl) (s7_ : Sl) (i8_ : Int) (s27_ : Sl) (i28_ : Int) (i29_ : Int) (h : H) : Prop :=
 bif (decide (i29_ < i28_)) then
 ixS s27_ 3 i29_ fun p0 =>
 ldA p0 3 h fun cs1 =>
 newO [.int .i64 (0), .int .i64 (0), .int .i64 (0)] h fun p2 h3 =>
 stN p2 3 cs1 h3 fun h4 =>
 ixA p2 3 1 (1) fun p5 =>
 ldI .i64 p5 h4 fun n6 =>
 ixA p2 3 1 (1) fun p7 =>
 ldI .i64 p7 h4 fun n8 =>
 ixS s7_ 1 n8 fun p9 =>
 ldI .i64 p9 h4 fun n10 =>
 ixA p2 3 1 (0) fun p11 =>
 ldI .i64 p11 h4 fun n12 =>
 ixS s6_ 1 n12 fun p13 =>
 ldI .i64 p13 h4 fun n14 =>
 viaF f1_ [.int .i64 (w64 (n10 + n14))] fun g15 ys16 =>
 callI S .i64 g15 ys16 h4 fun n18 h17 =>
(cell h17 p5 = cell h4 p5) ∧ (
 ixS s7_ 1 n6 fun p19 =>
 st1 p19 (.int .i64 n18) h17 fun h20 =>
 X2 (impl_strip_sequence_e2 p0_ f1_ f2_ s6_ s7_ i8_ s27_ i28_ (w64 (i29_ + (1)))) h20)
 else
 impl_strip_sequence_C2 S K X0 p0_ f1_ f2_ s7_ i8_ h
theorem impl_strip_sequence_link2 (S : SatT) (K : AVal → H → Prop) (X0 : Frame → H → Prop) (X2 : Frame → H → Prop) (p0_ : Pt) (f1_ : AVal) (f2_ : AVal) (s6_ : Sl) (s7_ : Sl) (i8_ : Int) (s27_ : Sl) (i28_ : Int) (i29_ : Int) (h : H) : impl_strip_sequence_w2 S K X0 X2 (impl_strip_sequence_e2 p0_ f1_ f2_ s6_ s7_ i8_ s27_ i28_ i29_) h = impl_strip_sequence_b2 S K X0 X2 p0_ f1_ f2_ s6_ s7_ i8_ s27_ i28_ i29_ h := by kernel_rfl
theorem impl_strip_sequence_rule2 (S : SatT) (K : AVal → H → Prop) (X0 : Frame → H → Prop) (p0_ : Pt) (f1_ : AVal) (f2_ : AVal) (s6_ : Sl) (s7_ : Sl) (i8_ : Int) (s27_ : Sl) (i28_ : Int) (I_ : Int → H → Prop) (m_ : Int → H → Nat)
    (hs : ∀ (X2 : Frame → H → Prop) (i29_ : Int) (h : H), I_ i29_ h → (∀ (i29_' : Int) (h' : H), I_ i29_' h' → m_ i29_' h' < m_ i29_ h → X2 (impl_strip_sequence_e2 p0_ f1_ f2_ s6_ s7_ i8_ s27_ i28_ i29_') h') → impl_strip_sequence_b2 S K X0 X2 p0_ f1_ f2_ s6_ s7_ i8_ s27_ i28_ i29_ h) (i29_ : Int) {h : H} (h0 : I_ i29_ h) : impl_strip_sequence_L2 S K X0 p0_ f1_ f2_ s6_ s7_ i8_ s27_ i28_ i29_ h :=
  loop_rule (σ := (Int)) (fun s_ => impl_strip_sequence_e2 p0_ f1_ f2_ s6_ s7_ i8_ s27_ i28_ (s_)) (fun s_ h => I_ (s_) h) (fun s_ h => m_ (s_) h)
    (fun X s_ h hi hx => (impl_strip_sequence_link2 S K X0 X p0_ f1_ f2_ s6_ s7_ i8_ s27_ i28_ (s_) h).mpr (hs X (s_) h hi fun i29_' h' hi' hm' => hx (i29_') h' hi' hm')) (i29_) h0
theorem impl_strip_sequence_unroll2 (S : SatT) (K : AVal → H → Prop) (X0 : Frame → H → Prop) (p0_ : Pt) (f1_ : AVal) (f2_ : AVal) (s6_ : Sl) (s7_ : Sl) (i8_ : Int) (s27_ : Sl) (i28_ : Int) (i29_ : Int) (h : H) (hb : impl_strip_sequence_b2 S K X0 (fun fr h => loopK (impl_strip_sequence_w2 S K X0) fr h) p0_ f1_ f2_ s6_ s7_ i8_ s27_ i28_ i29_ h) : impl_strip_sequence_L2 S K X0 p0_ f1_ f2_ s6_ s7_ i8_ s27_ i28_ i29_ h := loop_unroll ((impl_strip_sequence_link2 S K X0 _ p0_ f1_ f2_ s6_ s7_ i8_ s27_ i28_ i29_ h).mpr hb)
def impl_strip_sequence_b0 (S : SatT) (K : AVal → H → Prop) (X0 : Frame → H → Prop) (p0_ : Pt) (f1_ : AVal) (f2_ : AVal) (s6_ : Sl) (h : H) : Prop :=
 nilC (.ptr p0_) (
 isPt p0_ (
 ldI .i64 (Pt.add p0_ 3) h fun n0 =>
 mkS n0 [.int .i64 (0)] h fun s1 h2 =>
 nilC (.ptr p0_) (
 isPt p0_ (
 ldS (Pt.add p0_ 4) h2 fun s3 =>
 impl_strip_sequence_L2 S K X0 p0_ f1_ f2_ s6_ s1 (0) s3 (s3.len : Int) (0) h2))))
theorem impl_strip_sequence_link0 (S : SatT) (K : AVal → H → Prop) (X0 : Frame → H → Prop) (p0_ : Pt) (f1_ : AVal) (f2_ : AVal) (s6_ : Sl) (h : H) : impl_strip_sequence_w0 S K X0 (impl_strip_sequence_e0 p0_ f1_ f2_ s6_) h = impl_strip_sequence_b0 S K X0 p0_ f1_ f2_ s6_ h := by kernel_rfl
theorem impl_strip_sequence_rule0 (S : SatT) (K : AVal → H → Prop) (p0_ : Pt) (f1_ : AVal) (f2_ : AVal) (I_ : Sl → H → Prop) (m_ : Sl → H → Nat)
    (hs : ∀ (X0 : Frame → H → Prop) (s6_ : Sl) (h : H), I_ s6_ h → (∀ (s6_' : Sl) (h' : H), I_ s6_' h' → m_ s6_' h' < m_ s6_ h → X0 (impl_strip_sequence_e0 p0_ f1_ f2_ s6_') h') → impl_strip_sequence_b0 S K X0 p0_ f1_ f2_ s6_ h) (s6_ : Sl) {h : H} (h0 : I_ s6_ h) : impl_strip_sequence_L0 S K p0_ f1_ f2_ s6_ h :=
  loop_rule (σ := (Sl)) (fun s_ => impl_strip_sequence_e0 p0_ f1_ f2_ (s_)) (fun s_ h => I_ (s_) h) (fun s_ h => m_ (s_) h)
    (fun X s_ h hi hx => (impl_strip_sequence_link0 S K X p0_ f1_ f2_ (s_) h).mpr (hs X (s_) h hi fun s6_' h' hi' hm' => hx (s6_') h' hi' hm')) (s6_) h0
theorem impl_strip_sequence_unroll0 (S : SatT) (K : AVal → H → Prop) (p0_ : Pt) (f1_ : AVal) (f2_ : AVal) (s6_ : Sl) (h : H) (hb : impl_strip_sequence_b0 S K (fun fr h => loopK (impl_strip_sequence_w0 S K) fr h) p0_ f1_ f2_ s6_ h) : impl_strip_sequence_L0 S K p0_ f1_ f2_ s6_ h := loop_unroll ((impl_strip_sequence_link0 S K _ p0_ f1_ f2_ s6_ h).mpr hb)
def impl_strip_sequence_main (S : SatT) (K : AVal → H → Prop) (x0 : Pt) (x1 : AVal) (x2 : AVal) (h : H) : Prop :=
 newS 1 1 [.int .i64 (1)] h fun s0 h1 =>
 nilC (.ptr x0) (
 isPt x0 (
 ldI .i64 (Pt.add x0 3) h1 fun n2 =>
 callS S i_slices_Repeat_s_int64_int64_ [.sl s0, .int .i64 n2] h1 fun s4 h3 =>
 impl_strip_sequence_L0 S K x0 x1 x2 s4 h3))
theorem impl_strip_sequence_main_link (S : SatT) (K : AVal → H → Prop) (x0 : Pt) (x1 : AVal) (x2 : AVal) (h : H) : cwp S tab impl_strip_sequence_M [] (bodyOf Try.f69) (kFun tab Try.f69.results.toList K) (fr0 Try.f69 [.ptr x0, x1, x2]) h = impl_strip_sequence_main S K x0 x1 x2 h := by kernel_rfl
theorem impl_strip_sequence_call (x0 : Pt) (x1 : AVal) (x2 : AVal) (h : H) (K : AVal → H → Prop) (hm : impl_strip_sequence_main (Sat Try.prog) (fun v h' => K v h') x0 x1 x2 h) : callV (Sat Try.prog) i_impl_strip_sequence [.ptr x0, x1, x2] h K := by
  have := Sat.ex tok mixed impl_strip_sequence_M Try.func69 (c := bodyOf Try.f69) (by kernel_rfl) (calls_of Try.func69 (c := bodyOf Try.f69) (by kernel_rfl) (by decide)) ((impl_strip_sequence_main_link _ _ x0 x1 x2 h).mpr hm)
  exact this

/-! ### loop.example/g01354/laws.FnColumns -/
def laws_FnColumns_M : Nat → List Nat := fun i => bif i == 0 then [5, 9, 10, 13, 14, 28, 29] else []
def laws_FnColumns_ks47 (S : SatT) (K : AVal → H → Prop) : Kont := kSeq (cwp S tab laws_FnColumns_M [] (sub [1, 1, 1, 1, 1, 1, 1, 1, 1, 1, 1, 1, 1, 1, 1, 1] (bodyOf Try.f12)) (kFun tab (Try.f12).results.toList K)) (kFun tab (Try.f12).results.toList K)
def laws_FnColumns_e0 (s5_ : Sl) (s9_ : Sl) (i10_ : Int) (i13_ : Int) (i14_ : Int) (i28_ : Int) (i29_ : Int) : Frame := [U, U, U, U, U, .sl s5_, U, U, U, .sl s9_, .int .i64 i10_, U, U, .int .i64 i13_, .int .i64 i14_, U, U, U, U, U, U, U, U, U, U, U, U, U, .int .i64 i28_, .int .i64 i29_, U, U, U, U, U, U, U, U, U, U, U, U, U, U, U, U, U, U, U, U, U, U, U, U, U, U, U, U, U, U, U, U, U, U, U, U, U, U, U, U, U, U, U, U, U, U, U, U, U, U, U, U, U, U, U, U, U, U, U, U, U, U, U, U, U, U, U, U, U, U, U, U, U, U, U, U, U, U, U, U, U, U, U, U, U, U, U, U, U, U, U, U, U, U, U, U, U, U, U, U, U, U, U, U, U, U, U, U, U, U, U, U, U, U, U, U, U, U, U, U, U, U, U, U, U, U, U, U, U, U, U, U, U, U, U, U, U, U, U, U, U, U, U, U, U, U, U, U, U, U, U, U, U, U, U, U, U, U, U, U, U, U, U, U, U, U, U, U, U, U, U, U, U, U, U, U, U, U, U, U, U, U, U, U]
def laws_FnColumns_w0 (S : SatT) (K : AVal → H → Prop) : (Frame → H → Prop) → Frame → H → Prop := fun X fr h => cwp S tab laws_FnColumns_M (laws_FnColumns_M 0) (sub [1, 1, 1, 1, 1, 1, 1, 1, 1, 1, 1, 1, 1, 1, 1, 0, 1, 0, 0] (bodyOf Try.f12)) (kSeq (fun fr h => X (mask (laws_FnColumns_M 0) fr) h) (kBlk 0 (laws_FnColumns_ks47 S K))) fr h
def laws_FnColumns_L0 (S : SatT) (K : AVal → H → Prop) (s5_ : Sl) (s9_ : Sl) (i10_ : Int) (i13_ : Int) (i14_ : Int) (i28_ : Int) (i29_ : Int) (h : H) : Prop := loopK (laws_FnColumns_w0 S K) (laws_FnColumns_e0 s5_ s9_ i10_ i13_ i14_ i28_ i29_) h
def laws_FnColumns_C0 (S : SatT) (K : AVal → H → Prop) (s5_ : Sl) (s9_ : Sl) (i10_ : Int) (i13_ : Int) (i14_ : Int) (i28_ : Int) (h : H) : Prop :=
 bif (i10_ == (0)) then
 bif ((s9_.len : Int) == (s5_.len : Int)) then
 bif (i14_ == (0)) then
 K (.bool (decide (i28_ ≤ i13_))) h
 else
 K (.bool false) h
 else
 K (.bool false) h
 else
 K (.bool false) h
def laws_FnColumns_b0 (S : SatT) (K : AVal → H → Prop) (X0 : Frame → H → Prop) (s5_ : Sl) (s9_ : Sl) (i10_ : Int) (i13_ : Int) (i14_ : Int) (i28_ : Int) (i29_ : Int) (h : H) : Prop :=
 bif (decide (i29_ < (s5_.len : Int))) then
 ixS s5_ 1 i29_ fun p0 =>
 ldS p0 h fun s1 =>
 bif ((s1.len : Int) != (s5_.len : Int)) then
 K (.bool false) h
 else
 ixS s5_ 1 i29_ fun p2 =>
 ldS p2 h fun s3 =>
 callI S .i64 i_laws_sum [.sl s3] h fun n5 h4 =>
 X0 (laws_FnColumns_e0 s5_ s9_ i10_ i13_ i14_ (w64 (i28_ + n5)) (w64 (i29_ + (1)))) h4
 else
 laws_FnColumns_C0 S K s5_ s9_ i10_ i13_ i14_ i28_ h
theorem laws_FnColumns_link0 (S : SatT) (K : AVal → H → Prop) (X0 : Frame → H → Prop) (s5_ : Sl) (s9_ : Sl) (i10_ : Int) (i13_ : Int) (i14_ : Int) (i28_ : Int) (i29_ : Int) (h : H) : laws_FnColumns_w0 S K X0 (laws_FnColumns_e0 s5_ s9_ i10_ i13_ i14_ i28_ i29_) h = laws_FnColumns_b0 S K X0 s5_ s9_ i10_ i13_ i14_ i28_ i29_ h := by kernel_rfl
theorem laws_FnColumns_rule0 (S : SatT) (K : AVal → H → Prop) (s5_ : Sl) (s9_ : Sl) (i10_ : Int) (i13_ : Int) (i14_ : Int) (I_ : Int → Int → H → Prop) (m_ : Int → Int → H → Nat)
    (hs : ∀ (X0 : Frame → H → Prop) (i28_ : Int) (i29_ : Int) (h : H), I_ i28_ i29_ h → (∀ (i28_' : Int) (i29_' : Int) (h' : H), I_ i28_' i29_' h' → m_ i28_' i29_' h' < m_ i28_ i29_ h → X0 (laws_FnColumns_e0 s5_ s9_ i10_ i13_ i14_ i28_' i29_') h') → laws_FnColumns_b0 S K X0 s5_ s9_ i10_ i13_ i14_ i28_ i29_ h) (i28_ : Int) (i29_ : Int) {h : H} (h0 : I_ i28_ i29_ h) : laws_FnColumns_L0 S K s5_ s9_ i10_ i13_ i14_ i28_ i29_ h :=
  loop_rule (σ := (Int) × (Int)) (fun s_ => laws_FnColumns_e0 s5_ s9_ i10_ i13_ i14_ (s_.1) (s_.2)) (fun s_ h => I_ (s_.1) (s_.2) h) (fun s_ h => m_ (s_.1) (s_.2) h)
    (fun X s_ h hi hx => (laws_FnColumns_link0 S K X s5_ s9_ i10_ i13_ i14_ (s_.1) (s_.2) h).mpr (hs X (s_.1) (s_.2) h hi fun i28_' i29_' h' hi' hm' => hx (i28_', i29_') h' hi' hm')) (i28_, i29_) h0
theorem laws_FnColumns_unroll0 (S : SatT) (K : AVal → H → Prop) (s5_ : Sl) (s9_ : Sl) (i10_ : Int) (i13_ : Int) (i14_ : Int) (i28_ : Int) (i29_ : Int) (h : H) (hb : laws_FnColumns_b0 S K (fun fr h => loopK (laws_FnColumns_w0 S K) fr h) s5_ s9_ i10_ i13_ i14_ i28_ i29_ h) : laws_FnColumns_L0 S K s5_ s9_ i10_ i13_ i14_ i28_ i29_ h := loop_unroll ((laws_FnColumns_link0 S K _ s5_ s9_ i10_ i13_ i14_ i28_ i29_ h).mpr hb)
def laws_FnColumns_main (S : SatT) (K : AVal → H → Prop) (x0 : Sl) (h : H) : Prop :=
 callB S i_laws_big [.sl x0] h fun b1 h0 =>
 bif b1 then
 K (.bool true) h0
 else
 callV S i_spec_DrawColumnTable [.sl x0] h0 fun v3 h2 =>
 viaT v3 fun vs4 =>
 exA vs4 0 fun cs5 =>
 viaT v3 fun vs6 =>
 exI .i64 vs6 1 fun n7 =>
 newO [.int .i64 (0), .sl Sl.nil] h2 fun p8 h9 =>
 stN p8 2 cs5 h9 fun h10 =>
 ldA p8 2 h10 fun cs11 =>
 callV S i_impl_ColumnTable [.agg cs11, .int .i64 n7] h10 fun v13 h12 =>
 viaT v13 fun vs14 =>
 exS vs14 0 fun s15 =>
 viaT v13 fun vs16 =>
 exI .i64 vs16 1 fun n17 =>
 ldA p8 2 h12 fun cs18 =>
 callV S i_spec_ColumnTable [.agg cs18, .int .i64 n7] h12 fun v20 h19 =>
 viaT v20 fun vs21 =>
 exS vs21 0 fun s22 =>
 viaT v20 fun vs23 =>
 exI .i64 vs23 1 fun n24 =>
 bif (n17 != n24) then
 K (.bool false) h19
 else
 callB S i_laws_rows9 [.sl s15, .sl s22] h19 fun b26 h25 =>
 bif (!b26) then
 K (.bool false) h25
 else
 ldA p8 2 h25 fun cs27 =>
 callV S i_impl_ColumnWords [.agg cs27, .int .i64 n7] h25 fun v29 h28 =>
 viaT v29 fun vs30 =>
 exS vs30 0 fun s31 =>
 viaT v29 fun vs32 =>
 exI .i64 vs32 1 fun n33 =>
 ldA p8 2 h28 fun cs34 =>
 callV S i_spec_ColumnWords [.agg cs34, .int .i64 n7] h28 fun v36 h35 =>
 viaT v36 fun vs37 =>
 exS vs37 0 fun s38 =>
 viaT v36 fun vs39 =>
 exI .i64 vs39 1 fun n40 =>
 bif (n33 != n40) then
 K (.bool false) h35
 else
 callB S i_laws_rows9 [.sl s31, .sl s38] h35 fun b42 h41 =>
 bif (!b42) then
 K (.bool false) h41
 else
 ldA p8 2 h41 fun cs43 =>
 callV S i_impl_CountColumns [.agg cs43, .int .i64 n7] h41 fun v45 h44 =>
 viaT v45 fun vs46 =>
 exI .i64 vs46 0 fun n47 =>
 viaT v45 fun vs48 =>
 exI .i64 vs48 1 fun n49 =>
 ldA p8 2 h44 fun cs50 =>
 callV S i_spec_CountColumns [.agg cs50, .int .i64 n7] h44 fun v52 h51 =>
 viaT v52 fun vs53 =>
 exI .i64 vs53 0 fun n54 =>
 viaT v52 fun vs55 =>
 exI .i64 vs55 1 fun n56 =>
 bif (n49 != n56) then
 K (.bool false) h51
 else
 bif (n47 != n54) then
 K (.bool false) h51
 else
 callV S i_spec_DrawStripSequence [.sl x0] h51 fun v58 h57 =>
 viaT v58 fun vs59 =>
 exA vs59 0 fun cs60 =>
 viaT v58 fun vs61 =>
 exI .i64 vs61 1 fun n62 =>
 viaT v58 fun vs63 =>
 exI .i64 vs63 2 fun n64 =>
 newO [.int .i64 (0), .sl Sl.nil] h57 fun p65 h66 =>
 stN p65 2 cs60 h66 fun h67 =>
 ldA p65 2 h67 fun cs68 =>
 callV S i_impl_StripSequence [.agg cs68, .int .i64 n62, .int .i64 n64] h67 fun v70 h69 =>
 viaT v70 fun vs71 =>
 exS vs71 0 fun s72 =>
 viaT v70 fun vs73 =>
 exI .i64 vs73 1 fun n74 =>
 ldA p65 2 h69 fun cs75 =>
 callV S i_spec_StripSequence [.agg cs75, .int .i64 n62, .int .i64 n64] h69 fun v77 h76 =>
 viaT v77 fun vs78 =>
 exS vs78 0 fun s79 =>
 viaT v77 fun vs80 =>
 exI .i64 vs80 1 fun n81 =>
 bif (n74 != n81) then
 K (.bool false) h76
 else
 callB S i_laws_likeInts [.sl s72, .sl s79] h76 fun b83 h82 =>
 bif (!b83) then
 K (.bool false) h82
 else
 bif (n74 == (0)) then
 ldA p65 2 h82 fun cs84 =>
 callV S i_impl_CountColumns [.agg cs84, .int .i64 n62] h82 fun v86 h85 =>
 viaT v86 fun vs87 =>
 exI .i64 vs87 0 fun n88 =>
 viaT v86 fun vs89 =>
 exI .i64 vs89 1 fun n90 =>
 bif (n90 != (0)) then
 K (.bool false) h85
 else
 bif ((s72.len : Int) != n64) then
 K (.bool false) h85
 else
 ixS s72 1 (0) fun p91 =>
 ldI .i64 p91 h85 fun n92 =>
 bif (n92 != n88) then
 K (.bool false) h85
 else
 bif (n62 == (1)) then
 ldA p65 2 h85 fun cs93 =>
 callV S i_impl_CountRows [.agg cs93, .int .i64 n64] h85 fun v95 h94 =>
 viaT v95 fun vs96 =>
 exI .i64 vs96 0 fun n97 =>
 viaT v95 fun vs98 =>
 exI .i64 vs98 1 fun n99 =>
 bif (n99 != (0)) then
 K (.bool false) h94
 else
 ixS s72 1 (w64 (n64 - (1))) fun p100 =>
 ldI .i64 p100 h94 fun n101 =>
 bif (n97 != n101) then
 K (.bool false) h94
 else
 bif (n17 != (0)) then
 K (.bool ((s15.len : Int) == (0))) h94
 else
 laws_FnColumns_L0 S K s15 s31 n33 n47 n49 (0) (0) h94
 else
 bif (n17 != (0)) then
 K (.bool ((s15.len : Int) == (0))) h85
 else
 laws_FnColumns_L0 S K s15 s31 n33 n47 n49 (0) (0) h85
 else
 bif (n17 != (0)) then
 K (.bool ((s15.len : Int) == (0))) h82
 else
 laws_FnColumns_L0 S K s15 s31 n33 n47 n49 (0) (0) h82
theorem laws_FnColumns_main_link (S : SatT) (K : AVal → H → Prop) (x0 : Sl) (h : H) : cwp S tab laws_FnColumns_M [] (bodyOf Try.f12) (kFun tab Try.f12.results.toList K) (fr0 Try.f12 [.sl x0]) h = laws_FnColumns_main S K x0 h := by kernel_rfl
theorem laws_FnColumns_call (x0 : Sl) (h : H) (K : Bool → H → Prop) (hm : laws_FnColumns_main (Sat Try.prog) (fun v h' => ∃ r, v = .bool r ∧ K r h') x0 h) : callB (Sat Try.prog) i_laws_FnColumns [.sl x0] h K := by
  have := Sat.ex tok mixed laws_FnColumns_M Try.func12 (c := bodyOf Try.f12) (by kernel_rfl) (calls_of Try.func12 (c := bodyOf Try.f12) (by kernel_rfl) (by decide)) ((laws_FnColumns_main_link _ _ x0 h).mpr hm)
  obtain ⟨v, h2, h3, r, rfl, h4⟩ := this; exact ⟨r, h2, h3, h4⟩

/-! ### loop.example/g01354/impl.CountRows -/
def impl_CountRows_M : Nat → List Nat := fun i => bif i == 2 then [7, 20, 21, 22, 26, 27, 28] else bif i == 0 then [7, 20, 21, 22] else []
def impl_CountRows_ks6 (S : SatT) (K : AVal → H → Prop) : Kont := kSeq (cwp S tab impl_CountRows_M [] (sub [1, 1, 1, 1] (bodyOf Try.f47)) (kFun tab (Try.f47).results.toList K)) (kFun tab (Try.f47).results.toList K)
def impl_CountRows_e0 (i7_ : Int) (s20_ : Sl) (i21_ : Int) (i22_ : Int) : Frame := [U, U, U, U, U, U, U, .int .i64 i7_, U, U, U, U, U, U, U, U, U, U, U, U, .sl s20_, .int .i64 i21_, .int .i64 i22_, U, U, U, U, U, U, U, U, U, U, U, U, U, U, U, U, U, U]
def impl_CountRows_w0 (S : SatT) (K : AVal → H → Prop) : (Frame → H → Prop) → Frame → H → Prop := fun X fr h => cwp S tab impl_CountRows_M (impl_CountRows_M 0) (sub [1, 1, 1, 0, 1, 0, 0] (bodyOf Try.f47)) (kSeq (fun fr h => X (mask (impl_CountRows_M 0) fr) h) (kBlk 0 (impl_CountRows_ks6 S K))) fr h
def impl_CountRows_L0 (S : SatT) (K : AVal → H → Prop) (i7_ : Int) (s20_ : Sl) (i21_ : Int) (i22_ : Int) (h : H) : Prop := loopK (impl_CountRows_w0 S K) (impl_CountRows_e0 i7_ s20_ i21_ i22_) h
def impl_CountRows_ks10 (S : SatT) (K : AVal → H → Prop) (X0 : Frame → H → Prop) : Kont := kSeq (cwp S tab impl_CountRows_M (impl_CountRows_M 0) (sub [1, 1, 1, 0, 1, 0, 0, 1, 1, 1] (bodyOf Try.f47)) (kSeq (fun fr h => X0 (mask (impl_CountRows_M 0) fr) h) (kBlk 0 (impl_CountRows_ks6 S K)))) (kSeq (fun fr h => X0 (mask (impl_CountRows_M 0) fr) h) (kBlk 0 (impl_CountRows_ks6 S K)))
def impl_CountRows_e2 (i7_ : Int) (s20_ : Sl) (i21_ : Int) (i22_ : Int) (s26_ : Sl) (i27_ : Int) (i28_ : Int) : Frame := [U, U, U, U, U, U, U, .int .i64 i7_, U, U, U, U, U, U, U, U, U, U, U, U, .sl s20_, .int .i64 i21_, .int .i64 i22_, U, U, U, .sl s26_, .int .i64 i27_, .int .i64 i28_, U, U, U, U, U, U, U, U, U, U, U, U]
def impl_CountRows_w2 (S : SatT) (K : AVal → H → Prop) (X0 : Frame → H → Prop) : (Frame → H → Prop) → Frame → H → Prop := fun X fr h => cwp S tab impl_CountRows_M (impl_CountRows_M 2) (sub [1, 1, 1, 0, 1, 0, 0, 1, 1, 0, 0, 1, 1, 0, 0] (bodyOf Try.f47)) (kSeq (fun fr h => X (mask (impl_CountRows_M 2) fr) h) (kBlk 2 (kBlk 1 (impl_CountRows_ks10 S K X0)))) fr h
def impl_CountRows_L2 (S : SatT) (K : AVal → H → Prop) (X0 : Frame → H → Prop) (i7_ : Int) (s20_ : Sl) (i21_ : Int) (i22_ : Int) (s26_ : Sl) (i27_ : Int) (i28_ : Int) (h : H) : Prop := loopK (impl_CountRows_w2 S K X0) (impl_CountRows_e2 i7_ s20_ i21_ i22_ s26_ i27_ i28_) h
def impl_CountRows_C1 (S : SatT) (K : AVal → H → Prop) (X0 : Frame → H → Prop) (i7_ : Int) (s20_ : Sl) (i21_ : Int) (i22_ : Int) (h : H) : Prop :=
 X0 (impl_CountRows_e0 i7_ s20_ i21_ (w64 (i22_ + (1)))) h
def impl_CountRows_C2 (S : SatT) (K : AVal → H → Prop) (X0 : Frame → H → Prop) (i7_ : Int) (s20_ : Sl) (i21_ : Int) (i22_ : Int) (h : H) : Prop :=
 impl_CountRows_C1 S K X0 i7_ s20_ i21_ i22_ h
def impl_CountRows_b2 (S : SatT) (K : AVal → H → Prop) (X0 : Frame → H → Prop) (X2 : Frame → H → Prop) (i7_ : Int) (s20_ : Sl) (i21_ : Int) (i22_ : Int) (s26_ : Sl) (i27_ : Int) (i28_ : Int) (h : H) : Prop :=
 bif (decide (i28_ < i27_)) then
 ixS s26_ 1 i28_ fun p0 =>
 ldI .i64 p0 h fun n1 =>
 X2 (impl_CountRows_e2 (w64 (i7_ + n1)) s20_ i21_ i22_ s26_ i27_ (w64 (i28_ + (1)))) h
 else
 impl_CountRows_C2 S K X0 i7_ s20_ i21_ i22_ h
theorem impl_CountRows_link2 (S : SatT) (K : AVal → H → Prop) (X0 : Frame → H → Prop) (X2 : Frame → H → Prop) (i7_ : Int) (s20_ : Sl) (i21_ : Int) (i22_ : Int) (s26_ : Sl) (i27_ : Int) (i28_ : Int) (h : H) : impl_CountRows_w2 S K X0 X2 (impl_CountRows_e2 i7_ s20_ i21_ i22_ s26_ i27_ i28_) h = impl_CountRows_b2 S K X0 X2 i7_ s20_ i21_ i22_ s26_ i27_ i28_ h := by kernel_rfl
theorem impl_CountRows_rule2 (S : SatT) (K : AVal → H → Prop) (X0 : Frame → H → Prop) (s20_ : Sl) (i21_ : Int) (i22_ : Int) (s26_ : Sl) (i27_ : Int) (I_ : Int → Int → H → Prop) (m_ : Int → Int → H → Nat)
    (hs : ∀ (X2 : Frame → H → Prop) (i7_ : Int) (i28_ : Int) (h : H), I_ i7_ i28_ h → (∀ (i7_' : Int) (i28_' : Int) (h' : H), I_ i7_' i28_' h' → m_ i7_' i28_' h' < m_ i7_ i28_ h → X2 (impl_CountRows_e2 i7_' s20_ i21_ i22_ s26_ i27_ i28_') h') → impl_CountRows_b2 S K X0 X2 i7_ s20_ i21_ i22_ s26_ i27_ i28_ h) (i7_ : Int) (i28_ : Int) {h : H} (h0 : I_ i7_ i28_ h) : impl_CountRows_L2 S K X0 i7_ s20_ i21_ i22_ s26_ i27_ i28_ h :=
  loop_rule (σ := (Int) × (Int)) (fun s_ => impl_CountRows_e2 (s_.1) s20_ i21_ i22_ s26_ i27_ (s_.2)) (fun s_ h => I_ (s_.1) (s_.2) h) (fun s_ h => m_ (s_.1) (s_.2) h)
    (fun X s_ h hi hx => (impl_CountRows_link2 S K X0 X (s_.1) s20_ i21_ i22_ s26_ i27_ (s_.2) h).mpr (hs X (s_.1) (s_.2) h hi fun i7_' i28_' h' hi' hm' => hx (i7_', i28_') h' hi' hm')) (i7_, i28_) h0
theorem impl_CountRows_unroll2 (S : SatT) (K : AVal → H → Prop) (X0 : Frame → H → Prop) (i7_ : Int) (s20_ : Sl) (i21_ : Int) (i22_ : Int) (s26_ : Sl) (i27_ : Int) (i28_ : Int) (h : H) (hb : impl_CountRows_b2 S K X0 (fun fr h => loopK (impl_CountRows_w2 S K X0) fr h) i7_ s20_ i21_ i22_ s26_ i27_ i28_ h) : impl_CountRows_L2 S K X0 i7_ s20_ i21_ i22_ s26_ i27_ i28_ h := loop_unroll ((impl_CountRows_link2 S K X0 _ i7_ s20_ i21_ i22_ s26_ i27_ i28_ h).mpr hb)
def impl_CountRows_C0 (S : SatT) (K : AVal → H → Prop) (i7_ : Int) (h : H) : Prop :=
 callV S i_impl_counted [.int .i64 i7_] h fun v1 h0 =>
 viaT v1 fun vs2 =>
 exI .i64 vs2 0 fun n3 =>
 viaT v1 fun vs4 =>
 exI .i64 vs4 1 fun n5 =>
 K (.tuple [.int .i64 n3, .int .i64 n5]) h0
def impl_CountRows_b0 (S : SatT) (K : AVal → H → Prop) (X0 : Frame → H → Prop) (i7_ : Int) (s20_ : Sl) (i21_ : Int) (i22_ : Int) (h : H) : Prop :=
 bif (decide (i22_ < i21_)) then
 ixS s20_ 1 i22_ fun p0 =>
 ldS p0 h fun s1 =>
 impl_CountRows_L2 S K X0 i7_ s20_ i21_ i22_ s1 (s1.len : Int) (0) h
 else
 impl_CountRows_C0 S K i7_ h
theorem impl_CountRows_link0 (S : SatT) (K : AVal → H → Prop) (X0 : Frame → H → Prop) (i7_ : Int) (s20_ : Sl) (i21_ : Int) (i22_ : Int) (h : H) : impl_CountRows_w0 S K X0 (impl_CountRows_e0 i7_ s20_ i21_ i22_) h = impl_CountRows_b0 S K X0 i7_ s20_ i21_ i22_ h := by kernel_rfl
theorem impl_CountRows_rule0 (S : SatT) (K : AVal → H → Prop) (s20_ : Sl) (i21_ : Int) (I_ : Int → Int → H → Prop) (m_ : Int → Int → H → Nat)
    (hs : ∀ (X0 : Frame → H → Prop) (i7_ : Int) (i22_ : Int) (h : H), I_ i7_ i22_ h → (∀ (i7_' : Int) (i22_' : Int) (h' : H), I_ i7_' i22_' h' → m_ i7_' i22_' h' < m_ i7_ i22_ h → X0 (impl_CountRows_e0 i7_' s20_ i21_ i22_') h') → impl_CountRows_b0 S K X0 i7_ s20_ i21_ i22_ h) (i7_ : Int) (i22_ : Int) {h : H} (h0 : I_ i7_ i22_ h) : impl_CountRows_L0 S K i7_ s20_ i21_ i22_ h :=
  loop_rule (σ := (Int) × (Int)) (fun s_ => impl_CountRows_e0 (s_.1) s20_ i21_ (s_.2)) (fun s_ h => I_ (s_.1) (s_.2) h) (fun s_ h => m_ (s_.1) (s_.2) h)
    (fun X s_ h hi hx => (impl_CountRows_link0 S K X (s_.1) s20_ i21_ (s_.2) h).mpr (hs X (s_.1) (s_.2) h hi fun i7_' i22_' h' hi' hm' => hx (i7_', i22_') h' hi' hm')) (i7_, i22_) h0
theorem impl_CountRows_unroll0 (S : SatT) (K : AVal → H → Prop) (i7_ : Int) (s20_ : Sl) (i21_ : Int) (i22_ : Int) (h : H) (hb : impl_CountRows_b0 S K (fun fr h => loopK (impl_CountRows_w0 S K) fr h) i7_ s20_ i21_ i22_ h) : impl_CountRows_L0 S K i7_ s20_ i21_ i22_ h := loop_unroll ((impl_CountRows_link0 S K _ i7_ s20_ i21_ i22_ h).mpr hb)
def impl_CountRows_main (S : SatT) (K : AVal → H → Prop) (x0 : List AVal) (x1 : Int) (h : H) : Prop :=
 newK 2 x0 h fun p0 h1 =>
 newO [.int .i64 x1] h1 fun p2 h3 =>
 ldA p0 2 h3 fun cs4 =>
 callI S .i64 i_impl_setCode [.agg cs4, .func 86 [.ptr p2]] h3 fun n6 h5 =>
 bif (n6 != (0)) then
 K (.tuple [.int .i64 (0), .int .i64 n6]) h5
 else
 ldA p0 2 h5 fun cs7 =>
 ldI .i64 p2 h5 fun n8 =>
 callS S i_impl_Set_ways [.agg cs7, .int .i64 n8] h5 fun s10 h9 =>
 impl_CountRows_L0 S K (0) s10 (s10.len : Int) (0) h9
theorem impl_CountRows_main_link (S : SatT) (K : AVal → H → Prop) (x0 : List AVal) (x1 : Int) (h : H) : cwp S tab impl_CountRows_M [] (bodyOf Try.f47) (kFun tab Try.f47.results.toList K) (fr0 Try.f47 [.agg x0, .int .i64 x1]) h = impl_CountRows_main S K x0 x1 h := by kernel_rfl
theorem impl_CountRows_call (x0 : List AVal) (x1 : Int) (h : H) (K : AVal → H → Prop) (hm : impl_CountRows_main (Sat Try.prog) (fun v h' => K v h') x0 x1 h) : callV (Sat Try.prog) i_impl_CountRows [.agg x0, .int .i64 x1] h K := by
  have := Sat.ex tok mixed impl_CountRows_M Try.func47 (c := bodyOf Try.f47) (by kernel_rfl) (calls_of Try.func47 (c := bodyOf Try.f47) (by kernel_rfl) (by decide)) ((impl_CountRows_main_link _ _ x0 x1 h).mpr hm)
  exact this

/-! ### loop.example/g01354/spec.StripSequence -/
def spec_StripSequence_M : Nat → List Nat := fun i => bif i == 0 then [2, 8, 10, 11, 12] else []
def spec_StripSequence_ks8 (S : SatT) (K : AVal → H → Prop) : Kont := kSeq (cwp S tab spec_StripSequence_M [] (sub [1, 1, 1, 1, 1, 1] (bodyOf Try.f25)) (kFun tab (Try.f25).results.toList K)) (kFun tab (Try.f25).results.toList K)
def spec_StripSequence_e0 (i2_ : Int) (s8_ : Sl) (s10_ : Sl) (s11_ : Sl) (i12_ : Int) : Frame := [U, U, .int .i64 i2_, U, U, U, U, U, .sl s8_, U, .sl s10_, .sl s11_, .int .i64 i12_, U, U, U, U, U, U, U, U, U, U, U, U, U, U, U, U, U, U, U, U, U, U, U, U, U, U, U, U, U, U, U, U, U, U, U, U, U, U, U]
def spec_StripSequence_w0 (S : SatT) (K : AVal → H → Prop) : (Frame → H → Prop) → Frame → H → Prop := fun X fr h => cwp S tab spec_StripSequence_M (spec_StripSequence_M 0) (sub [1, 1, 1, 1, 1, 0, 1, 0, 0] (bodyOf Try.f25)) (kSeq (fun fr h => X (mask (spec_StripSequence_M 0) fr) h) (kBlk 0 (spec_StripSequence_ks8 S K))) fr h
def spec_StripSequence_L0 (S : SatT) (K : AVal → H → Prop) (i2_ : Int) (s8_ : Sl) (s10_ : Sl) (s11_ : Sl) (i12_ : Int) (h : H) : Prop := loopK (spec_StripSequence_w0 S K) (spec_StripSequence_e0 i2_ s8_ s10_ s11_ i12_) h
def spec_StripSequence_C0 (S : SatT) (K : AVal → H → Prop) (s11_ : Sl) (h : H) : Prop :=
 K (.tuple [.sl s11_, .int .i64 (0)]) h
def spec_StripSequence_b0 (S : SatT) (K : AVal → H → Prop) (X0 : Frame → H → Prop) (i2_ : Int) (s8_ : Sl) (s10_ : Sl) (s11_ : Sl) (i12_ : Int) (h : H) : Prop :=
 bif (decide (i12_ < i2_)) then
 callS S i_spec_l06Step [.sl s8_, .sl s10_] h fun s1 h0 =>
 callI S .i64 i_spec_l02Total [.sl s1] h0 fun n3 h2 =>
 bif (decide (n3 > (1000000000000000))) then
 K (.tuple [.sl Sl.nil, .int .i64 (3)]) h2
 else
 newS 1 1 [.int .i64 n3] h2 fun s4 h5 =>
 app s11_ s4 1 h5 fun s6 h7 =>
 X0 (spec_StripSequence_e0 i2_ s8_ s1 s6 (w64 (i12_ + (1)))) h7
 else
 spec_StripSequence_C0 S K s11_ h
theorem spec_StripSequence_link0 (S : SatT) (K : AVal → H → Prop) (X0 : Frame → H → Prop) (i2_ : Int) (s8_ : Sl) (s10_ : Sl) (s11_ : Sl) (i12_ : Int) (h : H) : spec_StripSequence_w0 S K X0 (spec_StripSequence_e0 i2_ s8_ s10_ s11_ i12_) h = spec_StripSequence_b0 S K X0 i2_ s8_ s10_ s11_ i12_ h := by kernel_rfl
theorem spec_StripSequence_rule0 (S : SatT) (K : AVal → H → Prop) (i2_ : Int) (s8_ : Sl) (I_ : Sl → Sl → Int → H → Prop) (m_ : Sl → Sl → Int → H → Nat)
    (hs : ∀ (X0 : Frame → H → Prop) (s10_ : Sl) (s11_ : Sl) (i12_ : Int) (h : H), I_ s10_ s11_ i12_ h → (∀ (s10_' : Sl) (s11_' : Sl) (i12_' : Int) (h' : H), I_ s10_' s11_' i12_' h' → m_ s10_' s11_' i12_' h' < m_ s10_ s11_ i12_ h → X0 (spec_StripSequence_e0 i2_ s8_ s10_' s11_' i12_') h') → spec_StripSequence_b0 S K X0 i2_ s8_ s10_ s11_ i12_ h) (s10_ : Sl) (s11_ : Sl) (i12_ : Int) {h : H} (h0 : I_ s10_ s11_ i12_ h) : spec_StripSequence_L0 S K i2_ s8_ s10_ s11_ i12_ h :=
  loop_rule (σ := (Sl) × (Sl) × (Int)) (fun s_ => spec_StripSequence_e0 i2_ s8_ (s_.1) (s_.2.1) (s_.2.2)) (fun s_ h => I_ (s_.1) (s_.2.1) (s_.2.2) h) (fun s_ h => m_ (s_.1) (s_.2.1) (s_.2.2) h)
    (fun X s_ h hi hx => (spec_StripSequence_link0 S K X i2_ s8_ (s_.1) (s_.2.1) (s_.2.2) h).mpr (hs X (s_.1) (s_.2.1) (s_.2.2) h hi fun s10_' s11_' i12_' h' hi' hm' => hx (s10_', s11_', i12_') h' hi' hm')) (s10_, s11_, i12_) h0
theorem spec_StripSequence_unroll0 (S : SatT) (K : AVal → H → Prop) (i2_ : Int) (s8_ : Sl) (s10_ : Sl) (s11_ : Sl) (i12_ : Int) (h : H) (hb : spec_StripSequence_b0 S K (fun fr h => loopK (spec_StripSequence_w0 S K) fr h) i2_ s8_ s10_ s11_ i12_ h) : spec_StripSequence_L0 S K i2_ s8_ s10_ s11_ i12_ h := loop_unroll ((spec_StripSequence_link0 S K _ i2_ s8_ s10_ s11_ i12_ h).mpr hb)
def spec_StripSequence_main (S : SatT) (K : AVal → H → Prop) (x0 : List AVal) (x1 : Int) (x2 : Int) (h : H) : Prop :=
 newK 2 x0 h fun p0 h1 =>
 ldA p0 2 h1 fun cs2 =>
 callV S i_spec_l06Code [.agg cs2, .int .i64 x1] h1 fun v4 h3 =>
 viaT v4 fun vs5 =>
 exS vs5 0 fun s6 =>
 viaT v4 fun vs7 =>
 exI .i64 vs7 1 fun n8 =>
 bif (n8 != (1)) then
 callB S i_spec_l01In [.int .i64 x2, .int .i64 (1), .int .i64 (30)] h3 fun b10 h9 =>
 bif (!b10) then
 bif ((2) != (0)) then
 K (.tuple [.sl Sl.nil, .int .i64 (2)]) h9
 else
 ldA p0 2 h9 fun cs11 =>
 callI S .i64 i_spec_l06Size [.agg cs11, .int .i64 x1] h9 fun n13 h12 =>
 callS S i_spec_l02Each [.int .i64 n13] h12 fun s15 h14 =>
 newS 0 1 [] h14 fun s16 h17 =>
 spec_StripSequence_L0 S K x2 s6 s15 s16 (0) h17
 else
 bif (n8 != (0)) then
 K (.tuple [.sl Sl.nil, .int .i64 n8]) h9
 else
 ldA p0 2 h9 fun cs18 =>
 callI S .i64 i_spec_l06Size [.agg cs18, .int .i64 x1] h9 fun n20 h19 =>
 callS S i_spec_l02Each [.int .i64 n20] h19 fun s22 h21 =>
 newS 0 1 [] h21 fun s23 h24 =>
 spec_StripSequence_L0 S K x2 s6 s22 s23 (0) h24
 else
 bif (n8 != (0)) then
 K (.tuple [.sl Sl.nil, .int .i64 n8]) h3
 else
 ldA p0 2 h3 fun cs25 =>
 callI S .i64 i_spec_l06Size [.agg cs25, .int .i64 x1] h3 fun n27 h26 =>
 callS S i_spec_l02Each [.int .i64 n27] h26 fun s29 h28 =>
 newS 0 1 [] h28 fun s30 h31 =>
 spec_StripSequence_L0 S K x2 s6 s29 s30 (0) h31
theorem spec_StripSequence_main_link (S : SatT) (K : AVal → H → Prop) (x0 : List AVal) (x1 : Int) (x2 : Int) (h : H) : cwp S tab spec_StripSequence_M [] (bodyOf Try.f25) (kFun tab Try.f25.results.toList K) (fr0 Try.f25 [.agg x0, .int .i64 x1, .int .i64 x2]) h = spec_StripSequence_main S K x0 x1 x2 h := by kernel_rfl
theorem spec_StripSequence_call (x0 : List AVal) (x1 : Int) (x2 : Int) (h : H) (K : AVal → H → Prop) (hm : spec_StripSequence_main (Sat Try.prog) (fun v h' => K v h') x0 x1 x2 h) : callV (Sat Try.prog) i_spec_StripSequence [.agg x0, .int .i64 x1, .int .i64 x2] h K := by
  have := Sat.ex tok mixed spec_StripSequence_M Try.func25 (c := bodyOf Try.f25) (by kernel_rfl) (calls_of Try.func25 (c := bodyOf Try.f25) (by kernel_rfl) (by decide)) ((spec_StripSequence_main_link _ _ x0 x1 x2 h).mpr hm)
  exact this

/-! ### loop.example/g01354/spec.l01Draw -/
def spec_l01Draw_M : Nat → List Nat := fun i => []
def spec_l01Draw_main (S : SatT) (K : AVal → H → Prop) (x0 : Pt) (h : H) : Prop :=
 newO [.int .i64 (0), .sl Sl.nil] h fun p0 h1 =>
 callI S .i64 i_spec_l01Next [.ptr x0, .int .i64 (4)] h1 fun n3 h2 =>
 bif (n3 == (0)) then
 bif (n3 == (0)) then
 callA S i_spec_l01Small [.ptr x0] h2 fun cs5 h4 =>
 stN p0 2 cs5 h4 fun h6 =>
 ldA p0 2 h6 fun cs7 =>
 K (.agg cs7) h6
 else
 bif (n3 == (2)) then
 newS 3 1 [.int .i64 (2), .int .i64 (3), .int .i64 (4)] h2 fun s8 h9 =>
 callI S .i64 i_spec_l01Pick [.ptr x0, .sl s8] h9 fun n11 h10 =>
 callI S .i64 i_spec_l01Next [.ptr x0, .int .i64 (10)] h10 fun n13 h12 =>
 callA S i_spec_l01DrawOf [.ptr x0, .int .i64 n11, .int .i64 n13] h12 fun cs15 h14 =>
 newO [.int .i64 (0), .sl Sl.nil] h14 fun p16 h17 =>
 stN p16 2 cs15 h17 fun h18 =>
 isPt p16 (
 ldI .i64 (Pt.add p16 0) h18 fun n19 =>
 callI S .i64 i_spec_l01Next [.ptr x0, .int .i64 n19] h18 fun n21 h20 =>
 isPt p16 (
 ldI .i64 (Pt.add p16 0) h20 fun n22 =>
(cell h18 (Pt.add p16 0) = cell h20 (Pt.add p16 0)) ∧ (
 callI S .i64 i_spec_l01Next [.ptr x0, .int .i64 n22] h20 fun n24 h23 =>
 slotK 15 h23 fun h25 =>
 isPt p16 (
 ldI .i64 (Pt.add p16 0) h25 fun n26 =>
 isPt p16 (
 ldS (Pt.add p16 1) h25 fun s27 =>
 newSat 0 4 [] h25 (h23.length + 2) fun s28 h29 =>
(cell h29 (Pt.add p16 1) = cell h25 (Pt.add p16 1)) ∧ (
(cell h29 (Pt.add p16 0) = cell h25 (Pt.add p16 0)) ∧ (
 app s28 s27 4 h29 fun s30 h31 =>
(cell h31 (Pt.add p16 0) = cell h25 (Pt.add p16 0)) ∧ (
 lenA [.int .i64 n21, .int .i64 n24, .int .i64 n21, .int .i64 n24] 4 (
 newSat 1 4 (spl [.int .i64 (0), .int .i64 (0), .int .i64 (0), .int .i64 (0)] 0 4 [.int .i64 n21, .int .i64 n24, .int .i64 n21, .int .i64 n24]) h31 (h23.length + 11) fun s32 h33 =>
(cell h31 (Pt.add p16 1) = cell h25 (Pt.add p16 1)) ∧ (
(cell h33 (Pt.add p16 1) = cell h25 (Pt.add p16 1)) ∧ (
(cell h33 (Pt.add p16 0) = cell h25 (Pt.add p16 0)) ∧ (
 app s30 s32 4 h33 fun s34 h35 =>
(cell h35 (Pt.add p16 0) = cell h25 (Pt.add p16 0)) ∧ (
 callA S i_spec_l01Made [.int .i64 n26, .sl s34] h35 fun cs37 h36 =>
 stN p0 2 cs37 h36 fun h38 =>
 ldA p0 2 h38 fun cs39 =>
 K (.agg cs39) h38)))))))))))))
 else
 callI S .i64 i_spec_l01Next [.ptr x0, .int .i64 (6)] h2 fun n41 h40 =>
 callI S .i64 i_spec_l01Next [.ptr x0, .int .i64 (17)] h40 fun n43 h42 =>
 callA S i_spec_l01DrawOf [.ptr x0, .int .i64 (w64 ((1) + n41)), .int .i64 n43] h42 fun cs45 h44 =>
 stN p0 2 cs45 h44 fun h46 =>
 ldA p0 2 h46 fun cs47 =>
 K (.agg cs47) h46
 else
 bif (n3 == (1)) then
 callA S i_spec_l01Small [.ptr x0] h2 fun cs49 h48 =>
 stN p0 2 cs49 h48 fun h50 =>
 ldA p0 2 h50 fun cs51 =>
 K (.agg cs51) h50
 else
 bif (n3 == (2)) then
 newS 3 1 [.int .i64 (2), .int .i64 (3), .int .i64 (4)] h2 fun s52 h53 =>
 callI S .i64 i_spec_l01Pick [.ptr x0, .sl s52] h53 fun n55 h54 =>
 callI S .i64 i_spec_l01Next [.ptr x0, .int .i64 (10)] h54 fun n57 h56 =>
 callA S i_spec_l01DrawOf [.ptr x0, .int .i64 n55, .int .i64 n57] h56 fun cs59 h58 =>
 newO [.int .i64 (0), .sl Sl.nil] h58 fun p60 h61 =>
 stN p60 2 cs59 h61 fun h62 =>
 isPt p60 (
 ldI .i64 (Pt.add p60 0) h62 fun n63 =>
 callI S .i64 i_spec_l01Next [.ptr x0, .int .i64 n63] h62 fun n65 h64 =>
 isPt p60 (
 ldI .i64 (Pt.add p60 0) h64 fun n66 =>
(cell h62 (Pt.add p60 0) = cell h64 (Pt.add p60 0)) ∧ (
 callI S .i64 i_spec_l01Next [.ptr x0, .int .i64 n66] h64 fun n68 h67 =>
 slotK 15 h67 fun h69 =>
 isPt p60 (
 ldI .i64 (Pt.add p60 0) h69 fun n70 =>
 isPt p60 (
 ldS (Pt.add p60 1) h69 fun s71 =>
 newSat 0 4 [] h69 (h67.length + 2) fun s72 h73 =>
(cell h73 (Pt.add p60 1) = cell h69 (Pt.add p60 1)) ∧ (
(cell h73 (Pt.add p60 0) = cell h69 (Pt.add p60 0)) ∧ (
 app s72 s71 4 h73 fun s74 h75 =>
(cell h75 (Pt.add p60 0) = cell h69 (Pt.add p60 0)) ∧ (
 lenA [.int .i64 n65, .int .i64 n68, .int .i64 n65, .int .i64 n68] 4 (
 newSat 1 4 (spl [.int .i64 (0), .int .i64 (0), .int .i64 (0), .int .i64 (0)] 0 4 [.int .i64 n65, .int .i64 n68, .int .i64 n65, .int .i64 n68]) h75 (h67.length + 11) fun s76 h77 =>
(cell h75 (Pt.add p60 1) = cell h69 (Pt.add p60 1)) ∧ (
(cell h77 (Pt.add p60 1) = cell h69 (Pt.add p60 1)) ∧ (
(cell h77 (Pt.add p60 0) = cell h69 (Pt.add p60 0)) ∧ (
 app s74 s76 4 h77 fun s78 h79 =>
(cell h79 (Pt.add p60 0) = cell h69 (Pt.add p60 0)) ∧ (
 callA S i_spec_l01Made [.int .i64 n70, .sl s78] h79 fun cs81 h80 =>
 stN p0 2 cs81 h80 fun h82 =>
 ldA p0 2 h82 fun cs83 =>
 K (.agg cs83) h82)))))))))))))
 else
 callI S .i64 i_spec_l01Next [.ptr x0, .int .i64 (6)] h2 fun n85 h84 =>
 callI S .i64 i_spec_l01Next [.ptr x0, .int .i64 (17)] h84 fun n87 h86 =>
 callA S i_spec_l01DrawOf [.ptr x0, .int .i64 (w64 ((1) + n85)), .int .i64 n87] h86 fun cs89 h88 =>
 stN p0 2 cs89 h88 fun h90 =>
 ldA p0 2 h90 fun cs91 =>
 K (.agg cs91) h90
theorem spec_l01Draw_main_link (S : SatT) (K : AVal → H → Prop) (x0 : Pt) (h : H) : cwp S tab spec_l01Draw_M [] (bodyOf Try.f131) (kFun tab Try.f131.results.toList K) (fr0 Try.f131 [.ptr x0]) h = spec_l01Draw_main S K x0 h := by kernel_rfl
theorem spec_l01Draw_call (x0 : Pt) (h : H) (K : List AVal → H → Prop) (hm : spec_l01Draw_main (Sat Try.prog) (fun v h' => ∃ r, v = .agg r ∧ K r h') x0 h) : callA (Sat Try.prog) i_spec_l01Draw [.ptr x0] h K := by
  have := Sat.ex tok mixed spec_l01Draw_M Try.func131 (c := bodyOf Try.f131) (by kernel_rfl) (calls_of Try.func131 (c := bodyOf Try.f131) (by kernel_rfl) (by decide)) ((spec_l01Draw_main_link _ _ x0 h).mpr hm)
  obtain ⟨v, h2, h3, r, rfl, h4⟩ := this; exact ⟨r, h2, h3, h4⟩

/-! ### loop.example/g01354/spec.ColumnWords -/
def spec_ColumnWords_M : Nat → List Nat := fun i => bif i == 0 then [1, 2, 6, 9, 10] else []
def spec_ColumnWords_ks6 (S : SatT) (K : AVal → H → Prop) : Kont := kSeq (cwp S tab spec_ColumnWords_M [] (sub [1, 1, 1, 1, 1] (bodyOf Try.f32)) (kFun tab (Try.f32).results.toList K)) (kFun tab (Try.f32).results.toList K)
def spec_ColumnWords_e0 (i1_ : Int) (p2_ : Pt) (s6_ : Sl) (s9_ : Sl) (i10_ : Int) : Frame := [U, .int .i64 i1_, .ptr p2_, U, U, U, .sl s6_, U, U, .sl s9_, .int .i64 i10_, U, U, U, U, U, U, U, U, U, U, U, U, U, U, U, U, U, U, U, U, U, U, U, U, U, U, U, U, U]
def spec_ColumnWords_w0 (S : SatT) (K : AVal → H → Prop) : (Frame → H → Prop) → Frame → H → Prop := fun X fr h => cwp S tab spec_ColumnWords_M (spec_ColumnWords_M 0) (sub [1, 1, 1, 1, 0, 1, 0, 0] (bodyOf Try.f32)) (kSeq (fun fr h => X (mask (spec_ColumnWords_M 0) fr) h) (kBlk 0 (spec_ColumnWords_ks6 S K))) fr h
def spec_ColumnWords_L0 (S : SatT) (K : AVal → H → Prop) (i1_ : Int) (p2_ : Pt) (s6_ : Sl) (s9_ : Sl) (i10_ : Int) (h : H) : Prop := loopK (spec_ColumnWords_w0 S K) (spec_ColumnWords_e0 i1_ p2_ s6_ s9_ i10_) h
def spec_ColumnWords_C0 (S : SatT) (K : AVal → H → Prop) (s9_ : Sl) (h : H) : Prop :=
 K (.tuple [.sl s9_, .int .i64 (0)]) h
def spec_ColumnWords_b0 (S : SatT) (K : AVal → H → Prop) (X0 : Frame → H → Prop) (i1_ : Int) (p2_ : Pt) (s6_ : Sl) (s9_ : Sl) (i10_ : Int) (h : H) : Prop :=
 bif (decide (i10_ < (s6_.len : Int))) then
 ixS s6_ 1 i10_ fun p0 =>
 ldI .i64 p0 h fun n1 =>
 isPt p2_ (
 ldI .i64 (Pt.add p2_ 0) h fun n2 =>
 callS S i_spec_l06Word [.int .i64 n1, .int .i64 n2, .int .i64 i1_] h fun s4 h3 =>
 newS 1 1 [.sl s4] h3 fun s5 h6 =>
 app s9_ s5 1 h6 fun s7 h8 =>
 X0 (spec_ColumnWords_e0 i1_ p2_ s6_ s7 (w64 (i10_ + (1)))) h8)
 else
 spec_ColumnWords_C0 S K s9_ h
theorem spec_ColumnWords_link0 (S : SatT) (K : AVal → H → Prop) (X0 : Frame → H → Prop) (i1_ : Int) (p2_ : Pt) (s6_ : Sl) (s9_ : Sl) (i10_ : Int) (h : H) : spec_ColumnWords_w0 S K X0 (spec_ColumnWords_e0 i1_ p2_ s6_ s9_ i10_) h = spec_ColumnWords_b0 S K X0 i1_ p2_ s6_ s9_ i10_ h := by kernel_rfl
theorem spec_ColumnWords_rule0 (S : SatT) (K : AVal → H → Prop) (i1_ : Int) (p2_ : Pt) (s6_ : Sl) (I_ : Sl → Int → H → Prop) (m_ : Sl → Int → H → Nat)
    (hs : ∀ (X0 : Frame → H → Prop) (s9_ : Sl) (i10_ : Int) (h : H), I_ s9_ i10_ h → (∀ (s9_' : Sl) (i10_' : Int) (h' : H), I_ s9_' i10_' h' → m_ s9_' i10_' h' < m_ s9_ i10_ h → X0 (spec_ColumnWords_e0 i1_ p2_ s6_ s9_' i10_') h') → spec_ColumnWords_b0 S K X0 i1_ p2_ s6_ s9_ i10_ h) (s9_ : Sl) (i10_ : Int) {h : H} (h0 : I_ s9_ i10_ h) : spec_ColumnWords_L0 S K i1_ p2_ s6_ s9_ i10_ h :=
  loop_rule (σ := (Sl) × (Int)) (fun s_ => spec_ColumnWords_e0 i1_ p2_ s6_ (s_.1) (s_.2)) (fun s_ h => I_ (s_.1) (s_.2) h) (fun s_ h => m_ (s_.1) (s_.2) h)
    (fun X s_ h hi hx => (spec_ColumnWords_link0 S K X i1_ p2_ s6_ (s_.1) (s_.2) h).mpr (hs X (s_.1) (s_.2) h hi fun s9_' i10_' h' hi' hm' => hx (s9_', i10_') h' hi' hm')) (s9_, i10_) h0
theorem spec_ColumnWords_unroll0 (S : SatT) (K : AVal → H → Prop) (i1_ : Int) (p2_ : Pt) (s6_ : Sl) (s9_ : Sl) (i10_ : Int) (h : H) (hb : spec_ColumnWords_b0 S K (fun fr h => loopK (spec_ColumnWords_w0 S K) fr h) i1_ p2_ s6_ s9_ i10_ h) : spec_ColumnWords_L0 S K i1_ p2_ s6_ s9_ i10_ h := loop_unroll ((spec_ColumnWords_link0 S K _ i1_ p2_ s6_ s9_ i10_ h).mpr hb)
def spec_ColumnWords_main (S : SatT) (K : AVal → H → Prop) (x0 : List AVal) (x1 : Int) (h : H) : Prop :=
 newK 2 x0 h fun p0 h1 =>
 ldA p0 2 h1 fun cs2 =>
 callV S i_spec_l06Lasting [.agg cs2, .int .i64 x1] h1 fun v4 h3 =>
 viaT v4 fun vs5 =>
 exS vs5 0 fun s6 =>
 viaT v4 fun vs7 =>
 exS vs7 1 fun s8 =>
 viaT v4 fun vs9 =>
 exI .i64 vs9 2 fun n10 =>
 bif (n10 != (0)) then
 K (.tuple [.sl Sl.nil, .int .i64 n10]) h3
 else
 newS 0 1 [] h3 fun s11 h12 =>
 spec_ColumnWords_L0 S K x1 p0 s6 s11 (0) h12
theorem spec_ColumnWords_main_link (S : SatT) (K : AVal → H → Prop) (x0 : List AVal) (x1 : Int) (h : H) : cwp S tab spec_ColumnWords_M [] (bodyOf Try.f32) (kFun tab Try.f32.results.toList K) (fr0 Try.f32 [.agg x0, .int .i64 x1]) h = spec_ColumnWords_main S K x0 x1 h := by kernel_rfl
theorem spec_ColumnWords_call (x0 : List AVal) (x1 : Int) (h : H) (K : AVal → H → Prop) (hm : spec_ColumnWords_main (Sat Try.prog) (fun v h' => K v h') x0 x1 h) : callV (Sat Try.prog) i_spec_ColumnWords [.agg x0, .int .i64 x1] h K := by
  have := Sat.ex tok mixed spec_ColumnWords_M Try.func32 (c := bodyOf Try.f32) (by kernel_rfl) (calls_of Try.func32 (c := bodyOf Try.f32) (by kernel_rfl) (by decide)) ((spec_ColumnWords_main_link _ _ x0 x1 h).mpr hm)
  exact this

/-! ### loop.example/g01354/impl.IsSet -/
def impl_IsSet_M : Nat → List Nat := fun i => bif i == 0 then [1, 6, 7, 8] else []
def impl_IsSet_ks1 (S : SatT) (K : AVal → H → Prop) : Kont := kSeq (cwp S tab impl_IsSet_M [] (sub [1, 1] (bodyOf Try.f58)) (kFun tab (Try.f58).results.toList K)) (kFun tab (Try.f58).results.toList K)
def impl_IsSet_e0 (p1_ : Pt) (s6_ : Sl) (i7_ : Int) (i8_ : Int) : Frame := [U, .ptr p1_, U, U, U, U, .sl s6_, .int .i64 i7_, .int .i64 i8_, U, U, U, U, U, U, U, U, U, U, U, U, U, U, U, U, U, U, U, U, U, U, U, U, U, U, U, U, U, U, U, U, U, U]
def impl_IsSet_w0 (S : SatT) (K : AVal → H → Prop) : (Frame → H → Prop) → Frame → H → Prop := fun X fr h => cwp S tab impl_IsSet_M (impl_IsSet_M 0) (sub [1, 0, 1, 0, 0] (bodyOf Try.f58)) (kSeq (fun fr h => X (mask (impl_IsSet_M 0) fr) h) (kBlk 0 (impl_IsSet_ks1 S K))) fr h
def impl_IsSet_L0 (S : SatT) (K : AVal → H → Prop) (p1_ : Pt) (s6_ : Sl) (i7_ : Int) (i8_ : Int) (h : H) : Prop := loopK (impl_IsSet_w0 S K) (impl_IsSet_e0 p1_ s6_ i7_ i8_) h
def impl_IsSet_C0 (S : SatT) (K : AVal → H → Prop) (p1_ : Pt) (h : H) : Prop :=
 isPt p1_ (
 ldI .i64 (Pt.add p1_ 0) h fun n0 =>
 callB S i_impl_within [.int .i64 n0, .int .i64 (1), .int .i64 (6)] h fun b2 h1 =>
 bif b2 then
 isPt p1_ (
 ldS (Pt.add p1_ 1) h1 fun s3 =>
 K (.bool (decide ((s3.len : Int) ≤ (16)))) h1)
 else
 K (.bool false) h1)
def impl_IsSet_b0 (S : SatT) (K : AVal → H → Prop) (X0 : Frame → H → Prop) (p1_ : Pt) (s6_ : Sl) (i7_ : Int) (i8_ : Int) (h : H) : Prop :=
 bif (decide (i8_ < i7_)) then
 ixS s6_ 4 i8_ fun p0 =>
 ldA p0 4 h fun cs1 =>
 newO [.int .i64 (0), .int .i64 (0), .int .i64 (0), .int .i64 (0)] h fun p2 h3 =>
 stN p2 4 cs1 h3 fun h4 =>
 ldA p2 4 h4 fun cs5 =>
 isPt p1_ (
 ldI .i64 (Pt.add p1_ 0) h4 fun n6 =>
 callB S i_impl_isTile [.agg cs5, .int .i64 n6] h4 fun b8 h7 =>
 bif (!b8) then
 K (.bool false) h7
 else
 bif (decide (i8_ > (0))) then
 isPt p1_ (
 ldS (Pt.add p1_ 1) h7 fun s9 =>
 ixS s9 4 (w64 (i8_ - (1))) fun p10 =>
 ldA p10 4 h7 fun cs11 =>
 ldA p2 4 h7 fun cs12 =>
 callI S .i64 i_impl_compare [.agg cs11, .agg cs12] h7 fun n14 h13 =>
 bif (decide (n14 ≥ (0))) then
 K (.bool false) h13
 else
 X0 (impl_IsSet_e0 p1_ s6_ i7_ (w64 (i8_ + (1)))) h13)
 else
 X0 (impl_IsSet_e0 p1_ s6_ i7_ (w64 (i8_ + (1)))) h7)
 else
 impl_IsSet_C0 S K p1_ h
theorem impl_IsSet_link0 (S : SatT) (K : AVal → H → Prop) (X0 : Frame → H → Prop) (p1_ : Pt) (s6_ : Sl) (i7_ : Int) (i8_ : Int) (h : H) : impl_IsSet_w0 S K X0 (impl_IsSet_e0 p1_ s6_ i7_ i8_) h = impl_IsSet_b0 S K X0 p1_ s6_ i7_ i8_ h := by kernel_rfl
theorem impl_IsSet_rule0 (S : SatT) (K : AVal → H → Prop) (p1_ : Pt) (s6_ : Sl) (i7_ : Int) (I_ : Int → H → Prop) (m_ : Int → H → Nat)
    (hs : ∀ (X0 : Frame → H → Prop) (i8_ : Int) (h : H), I_ i8_ h → (∀ (i8_' : Int) (h' : H), I_ i8_' h' → m_ i8_' h' < m_ i8_ h → X0 (impl_IsSet_e0 p1_ s6_ i7_ i8_') h') → impl_IsSet_b0 S K X0 p1_ s6_ i7_ i8_ h) (i8_ : Int) {h : H} (h0 : I_ i8_ h) : impl_IsSet_L0 S K p1_ s6_ i7_ i8_ h :=
  loop_rule (σ := (Int)) (fun s_ => impl_IsSet_e0 p1_ s6_ i7_ (s_)) (fun s_ h => I_ (s_) h) (fun s_ h => m_ (s_) h)
    (fun X s_ h hi hx => (impl_IsSet_link0 S K X p1_ s6_ i7_ (s_) h).mpr (hs X (s_) h hi fun i8_' h' hi' hm' => hx (i8_') h' hi' hm')) (i8_) h0
theorem impl_IsSet_unroll0 (S : SatT) (K : AVal → H → Prop) (p1_ : Pt) (s6_ : Sl) (i7_ : Int) (i8_ : Int) (h : H) (hb : impl_IsSet_b0 S K (fun fr h => loopK (impl_IsSet_w0 S K) fr h) p1_ s6_ i7_ i8_ h) : impl_IsSet_L0 S K p1_ s6_ i7_ i8_ h := loop_unroll ((impl_IsSet_link0 S K _ p1_ s6_ i7_ i8_ h).mpr hb)
def impl_IsSet_main (S : SatT) (K : AVal → H → Prop) (x0 : List AVal) (h : H) : Prop :=
 newK 2 x0 h fun p0 h1 =>
 isPt p0 (
 ldS (Pt.add p0 1) h1 fun s2 =>
 impl_IsSet_L0 S K p0 s2 (s2.len : Int) (0) h1)
theorem impl_IsSet_main_link (S : SatT) (K : AVal → H → Prop) (x0 : List AVal) (h : H) : cwp S tab impl_IsSet_M [] (bodyOf Try.f58) (kFun tab Try.f58.results.toList K) (fr0 Try.f58 [.agg x0]) h = impl_IsSet_main S K x0 h := by kernel_rfl
theorem impl_IsSet_call (x0 : List AVal) (h : H) (K : Bool → H → Prop) (hm : impl_IsSet_main (Sat Try.prog) (fun v h' => ∃ r, v = .bool r ∧ K r h') x0 h) : callB (Sat Try.prog) i_impl_IsSet [.agg x0] h K := by
  have := Sat.ex tok mixed impl_IsSet_M Try.func58 (c := bodyOf Try.f58) (by kernel_rfl) (calls_of Try.func58 (c := bodyOf Try.f58) (by kernel_rfl) (by decide)) ((impl_IsSet_main_link _ _ x0 h).mpr hm)
  obtain ⟨v, h2, h3, r, rfl, h4⟩ := this; exact ⟨r, h2, h3, h4⟩

/-! ### loop.example/g01354/spec.l01Is -/
def spec_l01Is_M : Nat → List Nat := fun i => bif i == 0 then [1, 3] else []
def spec_l01Is_ks5 (S : SatT) (K : AVal → H → Prop) : Kont := kSeq (cwp S tab spec_l01Is_M [] (sub [1, 1, 1] (bodyOf Try.f56)) (kFun tab (Try.f56).results.toList K)) (kFun tab (Try.f56).results.toList K)
def spec_l01Is_e0 (p1_ : Pt) (i3_ : Int) : Frame := [U, .ptr p1_, U, .int .i64 i3_, U, U, U, U, U, U, U, U, U, U, U, U, U, U, U, U, U, U, U, U, U, U, U, U, U, U, U, U, U, U, U, U, U, U, U, U, U, U, U, U, U, U, U, U, U]
def spec_l01Is_w0 (S : SatT) (K : AVal → H → Prop) : (Frame → H → Prop) → Frame → H → Prop := fun X fr h => cwp S tab spec_l01Is_M (spec_l01Is_M 0) (sub [1, 1, 0, 1, 0, 0] (bodyOf Try.f56)) (kSeq (fun fr h => X (mask (spec_l01Is_M 0) fr) h) (kBlk 0 (spec_l01Is_ks5 S K))) fr h
def spec_l01Is_L0 (S : SatT) (K : AVal → H → Prop) (p1_ : Pt) (i3_ : Int) (h : H) : Prop := loopK (spec_l01Is_w0 S K) (spec_l01Is_e0 p1_ i3_) h
def spec_l01Is_C0 (S : SatT) (K : AVal → H → Prop) (h : H) : Prop :=
 K (.bool true) h
def spec_l01Is_b0 (S : SatT) (K : AVal → H → Prop) (X0 : Frame → H → Prop) (p1_ : Pt) (i3_ : Int) (h : H) : Prop :=
 isPt p1_ (
 ldS (Pt.add p1_ 1) h fun s0 =>
 bif (decide (i3_ < (s0.len : Int))) then
 isPt p1_ (
 ldI .i64 (Pt.add p1_ 0) h fun n1 =>
 isPt p1_ (
 ldS (Pt.add p1_ 1) h fun s2 =>
 ixS s2 4 i3_ fun p3 =>
 ldA p3 4 h fun cs4 =>
 callB S i_spec_l01Tile [.int .i64 n1, .agg cs4] h fun b6 h5 =>
 bif (!b6) then
 K (.bool false) h5
 else
 bif (decide (i3_ > (0))) then
 isPt p1_ (
 ldS (Pt.add p1_ 1) h5 fun s7 =>
 ixS s7 4 (w64 (i3_ - (1))) fun p8 =>
 ldA p8 4 h5 fun cs9 =>
 isPt p1_ (
 ldS (Pt.add p1_ 1) h5 fun s10 =>
 ixS s10 4 i3_ fun p11 =>
 ldA p11 4 h5 fun cs12 =>
 callB S i_spec_l01Before [.agg cs9, .agg cs12] h5 fun b14 h13 =>
 bif (!b14) then
 K (.bool false) h13
 else
 X0 (spec_l01Is_e0 p1_ (w64 (i3_ + (1)))) h13))
 else
 X0 (spec_l01Is_e0 p1_ (w64 (i3_ + (1)))) h5))
 else
 spec_l01Is_C0 S K h)
theorem spec_l01Is_link0 (S : SatT) (K : AVal → H → Prop) (X0 : Frame → H → Prop) (p1_ : Pt) (i3_ : Int) (h : H) : spec_l01Is_w0 S K X0 (spec_l01Is_e0 p1_ i3_) h = spec_l01Is_b0 S K X0 p1_ i3_ h := by kernel_rfl
theorem spec_l01Is_rule0 (S : SatT) (K : AVal → H → Prop) (p1_ : Pt) (I_ : Int → H → Prop) (m_ : Int → H → Nat)
    (hs : ∀ (X0 : Frame → H → Prop) (i3_ : Int) (h : H), I_ i3_ h → (∀ (i3_' : Int) (h' : H), I_ i3_' h' → m_ i3_' h' < m_ i3_ h → X0 (spec_l01Is_e0 p1_ i3_') h') → spec_l01Is_b0 S K X0 p1_ i3_ h) (i3_ : Int) {h : H} (h0 : I_ i3_ h) : spec_l01Is_L0 S K p1_ i3_ h :=
  loop_rule (σ := (Int)) (fun s_ => spec_l01Is_e0 p1_ (s_)) (fun s_ h => I_ (s_) h) (fun s_ h => m_ (s_) h)
    (fun X s_ h hi hx => (spec_l01Is_link0 S K X p1_ (s_) h).mpr (hs X (s_) h hi fun i3_' h' hi' hm' => hx (i3_') h' hi' hm')) (i3_) h0
theorem spec_l01Is_unroll0 (S : SatT) (K : AVal → H → Prop) (p1_ : Pt) (i3_ : Int) (h : H) (hb : spec_l01Is_b0 S K (fun fr h => loopK (spec_l01Is_w0 S K) fr h) p1_ i3_ h) : spec_l01Is_L0 S K p1_ i3_ h := loop_unroll ((spec_l01Is_link0 S K _ p1_ i3_ h).mpr hb)
def spec_l01Is_main (S : SatT) (K : AVal → H → Prop) (x0 : List AVal) (h : H) : Prop :=
 newK 2 x0 h fun p0 h1 =>
 isPt p0 (
 ldI .i64 (Pt.add p0 0) h1 fun n2 =>
 callB S i_spec_l01In [.int .i64 n2, .int .i64 (1), .int .i64 (6)] h1 fun b4 h3 =>
 bif (!b4) then
 K (.bool false) h3
 else
 isPt p0 (
 ldS (Pt.add p0 1) h3 fun s5 =>
 bif (decide ((s5.len : Int) > (16))) then
 K (.bool false) h3
 else
 spec_l01Is_L0 S K p0 (0) h3))
theorem spec_l01Is_main_link (S : SatT) (K : AVal → H → Prop) (x0 : List AVal) (h : H) : cwp S tab spec_l01Is_M [] (bodyOf Try.f56) (kFun tab Try.f56.results.toList K) (fr0 Try.f56 [.agg x0]) h = spec_l01Is_main S K x0 h := by kernel_rfl
theorem spec_l01Is_call (x0 : List AVal) (h : H) (K : Bool → H → Prop) (hm : spec_l01Is_main (Sat Try.prog) (fun v h' => ∃ r, v = .bool r ∧ K r h') x0 h) : callB (Sat Try.prog) i_spec_l01Is [.agg x0] h K := by
  have := Sat.ex tok mixed spec_l01Is_M Try.func56 (c := bodyOf Try.f56) (by kernel_rfl) (calls_of Try.func56 (c := bodyOf Try.f56) (by kernel_rfl) (by decide)) ((spec_l01Is_main_link _ _ x0 h).mpr hm)
  obtain ⟨v, h2, h3, r, rfl, h4⟩ := this; exact ⟨r, h2, h3, h4⟩

/-! ### loop.example/g01354/spec.l06Step -/
def spec_l06Step_M : Nat → List Nat := fun i => bif i == 0 then [0, 1, 5, 6] else []
def spec_l06Step_ks2 (S : SatT) (K : AVal → H → Prop) : Kont := kSeq (cwp S tab spec_l06Step_M [] (sub [1, 1, 1] (bodyOf Try.f64)) (kFun tab (Try.f64).results.toList K)) (kFun tab (Try.f64).results.toList K)
def spec_l06Step_e0 (s0_ : Sl) (s1_ : Sl) (s5_ : Sl) (i6_ : Int) : Frame := [.sl s0_, .sl s1_, U, U, U, .sl s5_, .int .i64 i6_, U, U, U, U, U, U, U, U, U, U, U, U, U, U, U, U, U, U, U, U, U, U, U, U, U, U, U, U, U, U, U, U, U, U, U, U, U]
def spec_l06Step_w0 (S : SatT) (K : AVal → H → Prop) : (Frame → H → Prop) → Frame → H → Prop := fun X fr h => cwp S tab spec_l06Step_M (spec_l06Step_M 0) (sub [1, 1, 0, 1, 0, 0] (bodyOf Try.f64)) (kSeq (fun fr h => X (mask (spec_l06Step_M 0) fr) h) (kBlk 0 (spec_l06Step_ks2 S K))) fr h
def spec_l06Step_L0 (S : SatT) (K : AVal → H → Prop) (s0_ : Sl) (s1_ : Sl) (s5_ : Sl) (i6_ : Int) (h : H) : Prop := loopK (spec_l06Step_w0 S K) (spec_l06Step_e0 s0_ s1_ s5_ i6_) h
def spec_l06Step_C0 (S : SatT) (K : AVal → H → Prop) (s5_ : Sl) (h : H) : Prop :=
 K (.sl s5_) h
def spec_l06Step_b0 (S : SatT) (K : AVal → H → Prop) (X0 : Frame → H → Prop) (s0_ : Sl) (s1_ : Sl) (s5_ : Sl) (i6_ : Int) (h : H) : Prop :=
 bif (decide (i6_ < (s0_.len : Int))) then
 ixS s0_ 1 i6_ fun p0 =>
 ldS p0 h fun s1 =>
 ixS s1 1 (0) fun p2 =>
 ldI .i64 p2 h fun n3 =>
 ixS s0_ 1 i6_ fun p4 =>
 ldS p4 h fun s5 =>
 ixS s5 1 (1) fun p6 =>
 ldI .i64 p6 h fun n7 =>
 ixS s5_ 1 n7 fun p8 =>
 ldI .i64 p8 h fun n9 =>
 ixS s1_ 1 n3 fun p10 =>
 ldI .i64 p10 h fun n11 =>
 ixS s5_ 1 n7 fun p12 =>
 st1 p12 (.int .i64 (mnI (w64 (n9 + n11)) (1000000000000001))) h fun h13 =>
 X0 (spec_l06Step_e0 s0_ s1_ s5_ (w64 (i6_ + (1)))) h13
 else
 spec_l06Step_C0 S K s5_ h
theorem spec_l06Step_link0 (S : SatT) (K : AVal → H → Prop) (X0 : Frame → H → Prop) (s0_ : Sl) (s1_ : Sl) (s5_ : Sl) (i6_ : Int) (h : H) : spec_l06Step_w0 S K X0 (spec_l06Step_e0 s0_ s1_ s5_ i6_) h = spec_l06Step_b0 S K X0 s0_ s1_ s5_ i6_ h := by kernel_rfl
theorem spec_l06Step_rule0 (S : SatT) (K : AVal → H → Prop) (s0_ : Sl) (s1_ : Sl) (s5_ : Sl) (I_ : Int → H → Prop) (m_ : Int → H → Nat)
    (hs : ∀ (X0 : Frame → H → Prop) (i6_ : Int) (h : H), I_ i6_ h → (∀ (i6_' : Int) (h' : H), I_ i6_' h' → m_ i6_' h' < m_ i6_ h → X0 (spec_l06Step_e0 s0_ s1_ s5_ i6_') h') → spec_l06Step_b0 S K X0 s0_ s1_ s5_ i6_ h) (i6_ : Int) {h : H} (h0 : I_ i6_ h) : spec_l06Step_L0 S K s0_ s1_ s5_ i6_ h :=
  loop_rule (σ := (Int)) (fun s_ => spec_l06Step_e0 s0_ s1_ s5_ (s_)) (fun s_ h => I_ (s_) h) (fun s_ h => m_ (s_) h)
    (fun X s_ h hi hx => (spec_l06Step_link0 S K X s0_ s1_ s5_ (s_) h).mpr (hs X (s_) h hi fun i6_' h' hi' hm' => hx (i6_') h' hi' hm')) (i6_) h0
theorem spec_l06Step_unroll0 (S : SatT) (K : AVal → H → Prop) (s0_ : Sl) (s1_ : Sl) (s5_ : Sl) (i6_ : Int) (h : H) (hb : spec_l06Step_b0 S K (fun fr h => loopK (spec_l06Step_w0 S K) fr h) s0_ s1_ s5_ i6_ h) : spec_l06Step_L0 S K s0_ s1_ s5_ i6_ h := loop_unroll ((spec_l06Step_link0 S K _ s0_ s1_ s5_ i6_ h).mpr hb)
def spec_l06Step_main (S : SatT) (K : AVal → H → Prop) (x0 : Sl) (x1 : Sl) (h : H) : Prop :=
 mkS (x1.len : Int) [.int .i64 (0)] h fun s0 h1 =>
 spec_l06Step_L0 S K x0 x1 s0 (0) h1
theorem spec_l06Step_main_link (S : SatT) (K : AVal → H → Prop) (x0 : Sl) (x1 : Sl) (h : H) : cwp S tab spec_l06Step_M [] (bodyOf Try.f64) (kFun tab Try.f64.results.toList K) (fr0 Try.f64 [.sl x0, .sl x1]) h = spec_l06Step_main S K x0 x1 h := by kernel_rfl
theorem spec_l06Step_call (x0 : Sl) (x1 : Sl) (h : H) (K : Sl → H → Prop) (hm : spec_l06Step_main (Sat Try.prog) (fun v h' => ∃ r, v = .sl r ∧ K r h') x0 x1 h) : callS (Sat Try.prog) i_spec_l06Step [.sl x0, .sl x1] h K := by
  have := Sat.ex tok mixed spec_l06Step_M Try.func64 (c := bodyOf Try.f64) (by kernel_rfl) (calls_of Try.func64 (c := bodyOf Try.f64) (by kernel_rfl) (by decide)) ((spec_l06Step_main_link _ _ x0 x1 h).mpr hm)
  obtain ⟨v, h2, h3, r, rfl, h4⟩ := this; exact ⟨r, h2, h3, h4⟩

/-! ### loop.example/g01354/laws.heldInt64SS -/
def laws_heldInt64SS_M : Nat → List Nat := fun i => bif i == 0 then [0, 1, 5] else []
def laws_heldInt64SS_ks1 (S : SatT) (K : AVal → H → Prop) : Kont := kSeq (cwp S tab laws_heldInt64SS_M [] (sub [1, 1] (bodyOf Try.f31)) (kFun tab (Try.f31).results.toList K)) (kFun tab (Try.f31).results.toList K)
def laws_heldInt64SS_e0 (s0_ : Sl) (i1_ : Int) (i5_ : Int) : Frame := [.sl s0_, .int .i64 i1_, U, U, U, .int .i64 i5_, U, U, U, U, U, U, U, U, U, U, U, U, U, U, U]
def laws_heldInt64SS_w0 (S : SatT) (K : AVal → H → Prop) : (Frame → H → Prop) → Frame → H → Prop := fun X fr h => cwp S tab laws_heldInt64SS_M (laws_heldInt64SS_M 0) (sub [1, 0, 1, 0, 0] (bodyOf Try.f31)) (kSeq (fun fr h => X (mask (laws_heldInt64SS_M 0) fr) h) (kBlk 0 (laws_heldInt64SS_ks1 S K))) fr h
def laws_heldInt64SS_L0 (S : SatT) (K : AVal → H → Prop) (s0_ : Sl) (i1_ : Int) (i5_ : Int) (h : H) : Prop := loopK (laws_heldInt64SS_w0 S K) (laws_heldInt64SS_e0 s0_ i1_ i5_) h
def laws_heldInt64SS_C0 (S : SatT) (K : AVal → H → Prop) (i1_ : Int) (h : H) : Prop :=
 K (.int .i64 i1_) h
def laws_heldInt64SS_b0 (S : SatT) (K : AVal → H → Prop) (X0 : Frame → H → Prop) (s0_ : Sl) (i1_ : Int) (i5_ : Int) (h : H) : Prop :=
 bif (decide (i5_ < (s0_.len : Int))) then
 ixS s0_ 1 i5_ fun p0 =>
 ldS p0 h fun s1 =>
 callI S .i64 i_laws_heldInt64S [.sl s1, .int .i64 i1_] h fun n3 h2 =>
 bif (decide (n3 < (0))) then
 K (.int .i64 (-1)) h2
 else
 X0 (laws_heldInt64SS_e0 s0_ n3 (w64 (i5_ + (1)))) h2
 else
 laws_heldInt64SS_C0 S K i1_ h
theorem laws_heldInt64SS_link0 (S : SatT) (K : AVal → H → Prop) (X0 : Frame → H → Prop) (s0_ : Sl) (i1_ : Int) (i5_ : Int) (h : H) : laws_heldInt64SS_w0 S K X0 (laws_heldInt64SS_e0 s0_ i1_ i5_) h = laws_heldInt64SS_b0 S K X0 s0_ i1_ i5_ h := by kernel_rfl
theorem laws_heldInt64SS_rule0 (S : SatT) (K : AVal → H → Prop) (s0_ : Sl) (I_ : Int → Int → H → Prop) (m_ : Int → Int → H → Nat)
    (hs : ∀ (X0 : Frame → H → Prop) (i1_ : Int) (i5_ : Int) (h : H), I_ i1_ i5_ h → (∀ (i1_' : Int) (i5_' : Int) (h' : H), I_ i1_' i5_' h' → m_ i1_' i5_' h' < m_ i1_ i5_ h → X0 (laws_heldInt64SS_e0 s0_ i1_' i5_') h') → laws_heldInt64SS_b0 S K X0 s0_ i1_ i5_ h) (i1_ : Int) (i5_ : Int) {h : H} (h0 : I_ i1_ i5_ h) : laws_heldInt64SS_L0 S K s0_ i1_ i5_ h :=
  loop_rule (σ := (Int) × (Int)) (fun s_ => laws_heldInt64SS_e0 s0_ (s_.1) (s_.2)) (fun s_ h => I_ (s_.1) (s_.2) h) (fun s_ h => m_ (s_.1) (s_.2) h)
    (fun X s_ h hi hx => (laws_heldInt64SS_link0 S K X s0_ (s_.1) (s_.2) h).mpr (hs X (s_.1) (s_.2) h hi fun i1_' i5_' h' hi' hm' => hx (i1_', i5_') h' hi' hm')) (i1_, i5_) h0
theorem laws_heldInt64SS_unroll0 (S : SatT) (K : AVal → H → Prop) (s0_ : Sl) (i1_ : Int) (i5_ : Int) (h : H) (hb : laws_heldInt64SS_b0 S K (fun fr h => loopK (laws_heldInt64SS_w0 S K) fr h) s0_ i1_ i5_ h) : laws_heldInt64SS_L0 S K s0_ i1_ i5_ h := loop_unroll ((laws_heldInt64SS_link0 S K _ s0_ i1_ i5_ h).mpr hb)
def laws_heldInt64SS_main (S : SatT) (K : AVal → H → Prop) (x0 : Sl) (x1 : Int) (h : H) : Prop :=
 laws_heldInt64SS_L0 S K x0 x1 (0) h
theorem laws_heldInt64SS_main_link (S : SatT) (K : AVal → H → Prop) (x0 : Sl) (x1 : Int) (h : H) : cwp S tab laws_heldInt64SS_M [] (bodyOf Try.f31) (kFun tab Try.f31.results.toList K) (fr0 Try.f31 [.sl x0, .int .i64 x1]) h = laws_heldInt64SS_main S K x0 x1 h := by kernel_rfl
theorem laws_heldInt64SS_call (x0 : Sl) (x1 : Int) (h : H) (K : Int → H → Prop) (hm : laws_heldInt64SS_main (Sat Try.prog) (fun v h' => ∃ r, v = .int .i64 r ∧ K r h') x0 x1 h) : callI (Sat Try.prog) .i64 i_laws_heldInt64SS [.sl x0, .int .i64 x1] h K := by
  have := Sat.ex tok mixed laws_heldInt64SS_M Try.func31 (c := bodyOf Try.f31) (by kernel_rfl) (calls_of Try.func31 (c := bodyOf Try.f31) (by kernel_rfl) (by decide)) ((laws_heldInt64SS_main_link _ _ x0 x1 h).mpr hm)
  obtain ⟨v, h2, h3, r, rfl, h4⟩ := this; exact ⟨r, h2, h3, h4⟩

/-! ### loop.example/g01354/laws.heldInt64S -/
def laws_heldInt64S_M : Nat → List Nat := fun i => bif i == 0 then [0, 1, 5] else []
def laws_heldInt64S_ks1 (S : SatT) (K : AVal → H → Prop) : Kont := kSeq (cwp S tab laws_heldInt64S_M [] (sub [1, 1] (bodyOf Try.f24)) (kFun tab (Try.f24).results.toList K)) (kFun tab (Try.f24).results.toList K)
def laws_heldInt64S_e0 (s0_ : Sl) (i1_ : Int) (i5_ : Int) : Frame := [.sl s0_, .int .i64 i1_, U, U, U, .int .i64 i5_, U, U, U, U, U, U, U, U, U, U, U, U, U, U, U]
def laws_heldInt64S_w0 (S : SatT) (K : AVal → H → Prop) : (Frame → H → Prop) → Frame → H → Prop := fun X fr h => cwp S tab laws_heldInt64S_M (laws_heldInt64S_M 0) (sub [1, 0, 1, 0, 0] (bodyOf Try.f24)) (kSeq (fun fr h => X (mask (laws_heldInt64S_M 0) fr) h) (kBlk 0 (laws_heldInt64S_ks1 S K))) fr h
def laws_heldInt64S_L0 (S : SatT) (K : AVal → H → Prop) (s0_ : Sl) (i1_ : Int) (i5_ : Int) (h : H) : Prop := loopK (laws_heldInt64S_w0 S K) (laws_heldInt64S_e0 s0_ i1_ i5_) h
def laws_heldInt64S_C0 (S : SatT) (K : AVal → H → Prop) (i1_ : Int) (h : H) : Prop :=
 K (.int .i64 i1_) h
def laws_heldInt64S_b0 (S : SatT) (K : AVal → H → Prop) (X0 : Frame → H → Prop) (s0_ : Sl) (i1_ : Int) (i5_ : Int) (h : H) : Prop :=
 bif (decide (i5_ < (s0_.len : Int))) then
 ixS s0_ 1 i5_ fun p0 =>
 ldI .i64 p0 h fun n1 =>
 bif (n1 != i1_) then
 K (.int .i64 (-1)) h
 else
 X0 (laws_heldInt64S_e0 s0_ (w64 (i1_ + (1))) (w64 (i5_ + (1)))) h
 else
 laws_heldInt64S_C0 S K i1_ h
theorem laws_heldInt64S_link0 (S : SatT) (K : AVal → H → Prop) (X0 : Frame → H → Prop) (s0_ : Sl) (i1_ : Int) (i5_ : Int) (h : H) : laws_heldInt64S_w0 S K X0 (laws_heldInt64S_e0 s0_ i1_ i5_) h = laws_heldInt64S_b0 S K X0 s0_ i1_ i5_ h := by kernel_rfl
theorem laws_heldInt64S_rule0 (S : SatT) (K : AVal → H → Prop) (s0_ : Sl) (I_ : Int → Int → H → Prop) (m_ : Int → Int → H → Nat)
    (hs : ∀ (X0 : Frame → H → Prop) (i1_ : Int) (i5_ : Int) (h : H), I_ i1_ i5_ h → (∀ (i1_' : Int) (i5_' : Int) (h' : H), I_ i1_' i5_' h' → m_ i1_' i5_' h' < m_ i1_ i5_ h → X0 (laws_heldInt64S_e0 s0_ i1_' i5_') h') → laws_heldInt64S_b0 S K X0 s0_ i1_ i5_ h) (i1_ : Int) (i5_ : Int) {h : H} (h0 : I_ i1_ i5_ h) : laws_heldInt64S_L0 S K s0_ i1_ i5_ h :=
  loop_rule (σ := (Int) × (Int)) (fun s_ => laws_heldInt64S_e0 s0_ (s_.1) (s_.2)) (fun s_ h => I_ (s_.1) (s_.2) h) (fun s_ h => m_ (s_.1) (s_.2) h)
    (fun X s_ h hi hx => (laws_heldInt64S_link0 S K X s0_ (s_.1) (s_.2) h).mpr (hs X (s_.1) (s_.2) h hi fun i1_' i5_' h' hi' hm' => hx (i1_', i5_') h' hi' hm')) (i1_, i5_) h0
theorem laws_heldInt64S_unroll0 (S : SatT) (K : AVal → H → Prop) (s0_ : Sl) (i1_ : Int) (i5_ : Int) (h : H) (hb : laws_heldInt64S_b0 S K (fun fr h => loopK (laws_heldInt64S_w0 S K) fr h) s0_ i1_ i5_ h) : laws_heldInt64S_L0 S K s0_ i1_ i5_ h := loop_unroll ((laws_heldInt64S_link0 S K _ s0_ i1_ i5_ h).mpr hb)
def laws_heldInt64S_main (S : SatT) (K : AVal → H → Prop) (x0 : Sl) (x1 : Int) (h : H) : Prop :=
 laws_heldInt64S_L0 S K x0 x1 (0) h
theorem laws_heldInt64S_main_link (S : SatT) (K : AVal → H → Prop) (x0 : Sl) (x1 : Int) (h : H) : cwp S tab laws_heldInt64S_M [] (bodyOf Try.f24) (kFun tab Try.f24.results.toList K) (fr0 Try.f24 [.sl x0, .int .i64 x1]) h = laws_heldInt64S_main S K x0 x1 h := by kernel_rfl
theorem laws_heldInt64S_call (x0 : Sl) (x1 : Int) (h : H) (K : Int → H → Prop) (hm : laws_heldInt64S_main (Sat Try.prog) (fun v h' => ∃ r, v = .int .i64 r ∧ K r h') x0 x1 h) : callI (Sat Try.prog) .i64 i_laws_heldInt64S [.sl x0, .int .i64 x1] h K := by
  have := Sat.ex tok mixed laws_heldInt64S_M Try.func24 (c := bodyOf Try.f24) (by kernel_rfl) (calls_of Try.func24 (c := bodyOf Try.f24) (by kernel_rfl) (by decide)) ((laws_heldInt64S_main_link _ _ x0 x1 h).mpr hm)
  obtain ⟨v, h2, h3, r, rfl, h4⟩ := this; exact ⟨r, h2, h3, h4⟩

/-! ### loop.example/g01354/laws.eqTileS -/
def laws_eqTileS_M : Nat → List Nat := fun i => bif i == 0 then [0, 1, 5] else []
def laws_eqTileS_ks4 (S : SatT) (K : AVal → H → Prop) : Kont := kSeq (cwp S tab laws_eqTileS_M [] (sub [1, 1, 1] (bodyOf Try.f55)) (kFun tab (Try.f55).results.toList K)) (kFun tab (Try.f55).results.toList K)
def laws_eqTileS_e0 (s0_ : Sl) (s1_ : Sl) (i5_ : Int) : Frame := [.sl s0_, .sl s1_, U, U, U, .int .i64 i5_, U, U, U, U, U, U, U, U, U, U, U, U, U, U, U, U, U, U, U, U, U]
def laws_eqTileS_w0 (S : SatT) (K : AVal → H → Prop) : (Frame → H → Prop) → Frame → H → Prop := fun X fr h => cwp S tab laws_eqTileS_M (laws_eqTileS_M 0) (sub [1, 1, 0, 1, 0, 0] (bodyOf Try.f55)) (kSeq (fun fr h => X (mask (laws_eqTileS_M 0) fr) h) (kBlk 0 (laws_eqTileS_ks4 S K))) fr h
def laws_eqTileS_L0 (S : SatT) (K : AVal → H → Prop) (s0_ : Sl) (s1_ : Sl) (i5_ : Int) (h : H) : Prop := loopK (laws_eqTileS_w0 S K) (laws_eqTileS_e0 s0_ s1_ i5_) h
def laws_eqTileS_C0 (S : SatT) (K : AVal → H → Prop) (h : H) : Prop :=
 K (.bool true) h
def laws_eqTileS_b0 (S : SatT) (K : AVal → H → Prop) (X0 : Frame → H → Prop) (s0_ : Sl) (s1_ : Sl) (i5_ : Int) (h : H) : Prop :=
 bif (decide (i5_ < (s0_.len : Int))) then
 ixS s0_ 4 i5_ fun p0 =>
 ldA p0 4 h fun cs1 =>
 ixS s1_ 4 i5_ fun p2 =>
 ldA p2 4 h fun cs3 =>
 callB S i_laws_eqTile [.agg cs1, .agg cs3] h fun b5 h4 =>
 bif (!b5) then
 K (.bool false) h4
 else
 X0 (laws_eqTileS_e0 s0_ s1_ (w64 (i5_ + (1)))) h4
 else
 laws_eqTileS_C0 S K h
theorem laws_eqTileS_link0 (S : SatT) (K : AVal → H → Prop) (X0 : Frame → H → Prop) (s0_ : Sl) (s1_ : Sl) (i5_ : Int) (h : H) : laws_eqTileS_w0 S K X0 (laws_eqTileS_e0 s0_ s1_ i5_) h = laws_eqTileS_b0 S K X0 s0_ s1_ i5_ h := by kernel_rfl
theorem laws_eqTileS_rule0 (S : SatT) (K : AVal → H → Prop) (s0_ : Sl) (s1_ : Sl) (I_ : Int → H → Prop) (m_ : Int → H → Nat)
    (hs : ∀ (X0 : Frame → H → Prop) (i5_ : Int) (h : H), I_ i5_ h → (∀ (i5_' : Int) (h' : H), I_ i5_' h' → m_ i5_' h' < m_ i5_ h → X0 (laws_eqTileS_e0 s0_ s1_ i5_') h') → laws_eqTileS_b0 S K X0 s0_ s1_ i5_ h) (i5_ : Int) {h : H} (h0 : I_ i5_ h) : laws_eqTileS_L0 S K s0_ s1_ i5_ h :=
  loop_rule (σ := (Int)) (fun s_ => laws_eqTileS_e0 s0_ s1_ (s_)) (fun s_ h => I_ (s_) h) (fun s_ h => m_ (s_) h)
    (fun X s_ h hi hx => (laws_eqTileS_link0 S K X s0_ s1_ (s_) h).mpr (hs X (s_) h hi fun i5_' h' hi' hm' => hx (i5_') h' hi' hm')) (i5_) h0
theorem laws_eqTileS_unroll0 (S : SatT) (K : AVal → H → Prop) (s0_ : Sl) (s1_ : Sl) (i5_ : Int) (h : H) (hb : laws_eqTileS_b0 S K (fun fr h => loopK (laws_eqTileS_w0 S K) fr h) s0_ s1_ i5_ h) : laws_eqTileS_L0 S K s0_ s1_ i5_ h := loop_unroll ((laws_eqTileS_link0 S K _ s0_ s1_ i5_ h).mpr hb)
def laws_eqTileS_main (S : SatT) (K : AVal → H → Prop) (x0 : Sl) (x1 : Sl) (h : H) : Prop :=
 bif ((x0.len : Int) != (x1.len : Int)) then
 K (.bool false) h
 else
 laws_eqTileS_L0 S K x0 x1 (0) h
theorem laws_eqTileS_main_link (S : SatT) (K : AVal → H → Prop) (x0 : Sl) (x1 : Sl) (h : H) : cwp S tab laws_eqTileS_M [] (bodyOf Try.f55) (kFun tab Try.f55.results.toList K) (fr0 Try.f55 [.sl x0, .sl x1]) h = laws_eqTileS_main S K x0 x1 h := by kernel_rfl
theorem laws_eqTileS_call (x0 : Sl) (x1 : Sl) (h : H) (K : Bool → H → Prop) (hm : laws_eqTileS_main (Sat Try.prog) (fun v h' => ∃ r, v = .bool r ∧ K r h') x0 x1 h) : callB (Sat Try.prog) i_laws_eqTileS [.sl x0, .sl x1] h K := by
  have := Sat.ex tok mixed laws_eqTileS_M Try.func55 (c := bodyOf Try.f55) (by kernel_rfl) (calls_of Try.func55 (c := bodyOf Try.f55) (by kernel_rfl) (by decide)) ((laws_eqTileS_main_link _ _ x0 x1 h).mpr hm)
  obtain ⟨v, h2, h3, r, rfl, h4⟩ := this; exact ⟨r, h2, h3, h4⟩

/-! ### loop.example/g01354/laws.FnExactStripSequence -/
def laws_FnExactStripSequence_M : Nat → List Nat := fun i => []
def laws_FnExactStripSequence_main (S : SatT) (K : AVal → H → Prop) (x0 : List AVal) (x1 : Int) (x2 : Int) (h : H) : Prop :=
 newK 2 x0 h fun p0 h1 =>
 ldA p0 2 h1 fun cs2 =>
 callI S .i64 i_laws_szSet [.agg cs2, .int .i64 (1048576)] h1 fun n4 h3 =>
 bif (decide (n4 < (0))) then
 K (.bool true) h3
 else
 ldA p0 2 h3 fun cs5 =>
 callA S i_laws_toSet [.agg cs5] h3 fun cs7 h6 =>
 callV S i_spec_StripSequence [.agg cs7, .int .i64 x1, .int .i64 x2] h6 fun v9 h8 =>
 viaT v9 fun vs10 =>
 exS vs10 0 fun s11 =>
 viaT v9 fun vs12 =>
 exI .i64 vs12 1 fun n13 =>
 ldA p0 2 h8 fun cs14 =>
 callA S i_laws_toSet [.agg cs14] h8 fun cs16 h15 =>
 newO [.int .i64 (0), .sl Sl.nil] h15 fun p17 h18 =>
 stN p17 2 cs16 h18 fun h19 =>
 ldA p17 2 h19 fun cs20 =>
 callV S i_impl_StripSequence [.agg cs20, .int .i64 x1, .int .i64 x2] h19 fun v22 h21 =>
 viaT v22 fun vs23 =>
 exS vs23 0 fun s24 =>
 viaT v22 fun vs25 =>
 exI .i64 vs25 1 fun n26 =>
 callB S i_laws_eqInt64S [.sl s24, .sl s11] h21 fun b28 h27 =>
 bif (!b28) then
 K (.bool false) h27
 else
 bif (n26 != n13) then
 K (.bool false) h27
 else
 ldA p17 2 h27 fun cs29 =>
 ldA p0 2 h27 fun cs30 =>
 callA S i_laws_toSet [.agg cs30] h27 fun cs32 h31 =>
(range h31 p17.o p17.n p17.off 2 = range h27 p17.o p17.n p17.off 2) ∧ (
 callB S i_laws_eqSet [.agg cs29, .agg cs32] h31 fun b34 h33 =>
 bif (!b34) then
 K (.bool false) h33
 else
 ldA p17 2 h33 fun cs35 =>
 callI S .i64 i_laws_markSet [.agg cs35, .int .i64 (1)] h33 fun n37 h36 =>
 bif (decide (n37 < (0))) then
 K (.bool false) h36
 else
 callB S i_laws_eqInt64S [.sl s24, .sl s11] h36 fun b39 h38 =>
 bif (!b39) then
 K (.bool false) h38
 else
 bif (n26 != n13) then
 K (.bool false) h38
 else
 callI S .i64 i_laws_markInt64S [.sl s24, .int .i64 (1)] h38 fun n41 h40 =>
 callI S .i64 i_laws_heldInt64S [.sl s24, .int .i64 (1)] h40 fun n43 h42 =>
 bif (decide (n43 < (0))) then
 K (.bool false) h42
 else
 bif (n43 != n41) then
 K (.bool false) h42
 else
 ldA p0 2 h42 fun cs44 =>
 callA S i_laws_toSet [.agg cs44] h42 fun cs46 h45 =>
 callV S i_impl_StripSequence [.agg cs46, .int .i64 x1, .int .i64 x2] h45 fun v48 h47 =>
 viaT v48 fun vs49 =>
 exS vs49 0 fun s50 =>
 viaT v48 fun vs51 =>
 exI .i64 vs51 1 fun n52 =>
 callB S i_laws_eqInt64S [.sl s50, .sl s11] h47 fun b54 h53 =>
 bif (!b54) then
 K (.bool false) h53
 else
 bif (n52 != n13) then
 K (.bool false) h53
 else
 callI S .i64 i_laws_heldInt64S [.sl s24, .int .i64 (1)] h53 fun n56 h55 =>
 bif (decide (n56 < (0))) then
 K (.bool false) h55
 else
 bif (n56 != n41) then
 K (.bool false) h55
 else
 K (.bool true) h55)
theorem laws_FnExactStripSequence_main_link (S : SatT) (K : AVal → H → Prop) (x0 : List AVal) (x1 : Int) (x2 : Int) (h : H) : cwp S tab laws_FnExactStripSequence_M [] (bodyOf Try.f5) (kFun tab Try.f5.results.toList K) (fr0 Try.f5 [.agg x0, .int .i64 x1, .int .i64 x2]) h = laws_FnExactStripSequence_main S K x0 x1 x2 h := by kernel_rfl
theorem laws_FnExactStripSequence_call (x0 : List AVal) (x1 : Int) (x2 : Int) (h : H) (K : Bool → H → Prop) (hm : laws_FnExactStripSequence_main (Sat Try.prog) (fun v h' => ∃ r, v = .bool r ∧ K r h') x0 x1 x2 h) : callB (Sat Try.prog) i_laws_FnExactStripSequence [.agg x0, .int .i64 x1, .int .i64 x2] h K := by
  have := Sat.ex tok mixed laws_FnExactStripSequence_M Try.func5 (c := bodyOf Try.f5) (by kernel_rfl) (calls_of Try.func5 (c := bodyOf Try.f5) (by kernel_rfl) (by decide)) ((laws_FnExactStripSequence_main_link _ _ x0 x1 x2 h).mpr hm)
  obtain ⟨v, h2, h3, r, rfl, h4⟩ := this; exact ⟨r, h2, h3, h4⟩

/-! ### loop.example/g01354/laws.eqTile -/
def laws_eqTile_M : Nat → List Nat := fun i => bif i == 0 then [2, 3, 5] else []
def laws_eqTile_ks1 (S : SatT) (K : AVal → H → Prop) : Kont := kSeq (cwp S tab laws_eqTile_M [] (sub [1, 1] (bodyOf Try.f93)) (kFun tab (Try.f93).results.toList K)) (kFun tab (Try.f93).results.toList K)
def laws_eqTile_e0 (p2_ : Pt) (p3_ : Pt) (i5_ : Int) : Frame := [U, U, .ptr p2_, .ptr p3_, U, .int .i64 i5_, U, U, U, U, U, U, U, U, U, U, U]
def laws_eqTile_w0 (S : SatT) (K : AVal → H → Prop) : (Frame → H → Prop) → Frame → H → Prop := fun X fr h => cwp S tab laws_eqTile_M (laws_eqTile_M 0) (sub [1, 0, 1, 0, 0] (bodyOf Try.f93)) (kSeq (fun fr h => X (mask (laws_eqTile_M 0) fr) h) (kBlk 0 (laws_eqTile_ks1 S K))) fr h
def laws_eqTile_L0 (S : SatT) (K : AVal → H → Prop) (p2_ : Pt) (p3_ : Pt) (i5_ : Int) (h : H) : Prop := loopK (laws_eqTile_w0 S K) (laws_eqTile_e0 p2_ p3_ i5_) h
def laws_eqTile_C0 (S : SatT) (K : AVal → H → Prop) (h : H) : Prop :=
 K (.bool true) h
def laws_eqTile_b0 (S : SatT) (K : AVal → H → Prop) (X0 : Frame → H → Prop) (p2_ : Pt) (p3_ : Pt) (i5_ : Int) (h : H) : Prop :=
 bif (decide (i5_ < (4))) then
 ixA p2_ 4 1 i5_ fun p0 =>
 ldI .i64 p0 h fun n1 =>
 ixA p3_ 4 1 i5_ fun p2 =>
 ldI .i64 p2 h fun n3 =>
 bif (n1 != n3) then
 K (.bool false) h
 else
 X0 (laws_eqTile_e0 p2_ p3_ (w64 (i5_ + (1)))) h
 else
 laws_eqTile_C0 S K h
theorem laws_eqTile_link0 (S : SatT) (K : AVal → H → Prop) (X0 : Frame → H → Prop) (p2_ : Pt) (p3_ : Pt) (i5_ : Int) (h : H) : laws_eqTile_w0 S K X0 (laws_eqTile_e0 p2_ p3_ i5_) h = laws_eqTile_b0 S K X0 p2_ p3_ i5_ h := by kernel_rfl
theorem laws_eqTile_rule0 (S : SatT) (K : AVal → H → Prop) (p2_ : Pt) (p3_ : Pt) (I_ : Int → H → Prop) (m_ : Int → H → Nat)
    (hs : ∀ (X0 : Frame → H → Prop) (i5_ : Int) (h : H), I_ i5_ h → (∀ (i5_' : Int) (h' : H), I_ i5_' h' → m_ i5_' h' < m_ i5_ h → X0 (laws_eqTile_e0 p2_ p3_ i5_') h') → laws_eqTile_b0 S K X0 p2_ p3_ i5_ h) (i5_ : Int) {h : H} (h0 : I_ i5_ h) : laws_eqTile_L0 S K p2_ p3_ i5_ h :=
  loop_rule (σ := (Int)) (fun s_ => laws_eqTile_e0 p2_ p3_ (s_)) (fun s_ h => I_ (s_) h) (fun s_ h => m_ (s_) h)
    (fun X s_ h hi hx => (laws_eqTile_link0 S K X p2_ p3_ (s_) h).mpr (hs X (s_) h hi fun i5_' h' hi' hm' => hx (i5_') h' hi' hm')) (i5_) h0
theorem laws_eqTile_unroll0 (S : SatT) (K : AVal → H → Prop) (p2_ : Pt) (p3_ : Pt) (i5_ : Int) (h : H) (hb : laws_eqTile_b0 S K (fun fr h => loopK (laws_eqTile_w0 S K) fr h) p2_ p3_ i5_ h) : laws_eqTile_L0 S K p2_ p3_ i5_ h := loop_unroll ((laws_eqTile_link0 S K _ p2_ p3_ i5_ h).mpr hb)
def laws_eqTile_main (S : SatT) (K : AVal → H → Prop) (x0 : List AVal) (x1 : List AVal) (h : H) : Prop :=
 newK 4 x0 h fun p0 h1 =>
 newK 4 x1 h1 fun p2 h3 =>
 laws_eqTile_L0 S K p0 p2 (0) h3
theorem laws_eqTile_main_link (S : SatT) (K : AVal → H → Prop) (x0 : List AVal) (x1 : List AVal) (h : H) : cwp S tab laws_eqTile_M [] (bodyOf Try.f93) (kFun tab Try.f93.results.toList K) (fr0 Try.f93 [.agg x0, .agg x1]) h = laws_eqTile_main S K x0 x1 h := by kernel_rfl
theorem laws_eqTile_call (x0 : List AVal) (x1 : List AVal) (h : H) (K : Bool → H → Prop) (hm : laws_eqTile_main (Sat Try.prog) (fun v h' => ∃ r, v = .bool r ∧ K r h') x0 x1 h) : callB (Sat Try.prog) i_laws_eqTile [.agg x0, .agg x1] h K := by
  have := Sat.ex tok mixed laws_eqTile_M Try.func93 (c := bodyOf Try.f93) (by kernel_rfl) (calls_of Try.func93 (c := bodyOf Try.f93) (by kernel_rfl) (by decide)) ((laws_eqTile_main_link _ _ x0 x1 h).mpr hm)
  obtain ⟨v, h2, h3, r, rfl, h4⟩ := this; exact ⟨r, h2, h3, h4⟩

/-! ### loop.example/g01354/laws.FnExactStrongParts -/
def laws_FnExactStrongParts_M : Nat → List Nat := fun i => []
def laws_FnExactStrongParts_main (S : SatT) (K : AVal → H → Prop) (x0 : List AVal) (x1 : Int) (h : H) : Prop :=
 newK 2 x0 h fun p0 h1 =>
 ldA p0 2 h1 fun cs2 =>
 callI S .i64 i_laws_szSet [.agg cs2, .int .i64 (1048576)] h1 fun n4 h3 =>
 bif (decide (n4 < (0))) then
 K (.bool true) h3
 else
 ldA p0 2 h3 fun cs5 =>
 callA S i_laws_toSet [.agg cs5] h3 fun cs7 h6 =>
 callV S i_spec_StrongParts [.agg cs7, .int .i64 x1] h6 fun v9 h8 =>
 viaT v9 fun vs10 =>
 exS vs10 0 fun s11 =>
 viaT v9 fun vs12 =>
 exI .i64 vs12 1 fun n13 =>
 ldA p0 2 h8 fun cs14 =>
 callA S i_laws_toSet [.agg cs14] h8 fun cs16 h15 =>
 newO [.int .i64 (0), .sl Sl.nil] h15 fun p17 h18 =>
 stN p17 2 cs16 h18 fun h19 =>
 ldA p17 2 h19 fun cs20 =>
 callV S i_impl_StrongParts [.agg cs20, .int .i64 x1] h19 fun v22 h21 =>
 viaT v22 fun vs23 =>
 exS vs23 0 fun s24 =>
 viaT v22 fun vs25 =>
 exI .i64 vs25 1 fun n26 =>
 callB S i_laws_eqInt64SS [.sl s24, .sl s11] h21 fun b28 h27 =>
 bif (!b28) then
 K (.bool false) h27
 else
 bif (n26 != n13) then
 K (.bool false) h27
 else
 ldA p17 2 h27 fun cs29 =>
 ldA p0 2 h27 fun cs30 =>
 callA S i_laws_toSet [.agg cs30] h27 fun cs32 h31 =>
(range h31 p17.o p17.n p17.off 2 = range h27 p17.o p17.n p17.off 2) ∧ (
 callB S i_laws_eqSet [.agg cs29, .agg cs32] h31 fun b34 h33 =>
 bif (!b34) then
 K (.bool false) h33
 else
 ldA p17 2 h33 fun cs35 =>
 callI S .i64 i_laws_markSet [.agg cs35, .int .i64 (1)] h33 fun n37 h36 =>
 bif (decide (n37 < (0))) then
 K (.bool false) h36
 else
 callB S i_laws_eqInt64SS [.sl s24, .sl s11] h36 fun b39 h38 =>
 bif (!b39) then
 K (.bool false) h38
 else
 bif (n26 != n13) then
 K (.bool false) h38
 else
 callI S .i64 i_laws_markInt64SS [.sl s24, .int .i64 (1)] h38 fun n41 h40 =>
 callI S .i64 i_laws_heldInt64SS [.sl s24, .int .i64 (1)] h40 fun n43 h42 =>
 bif (decide (n43 < (0))) then
 K (.bool false) h42
 else
 bif (n43 != n41) then
 K (.bool false) h42
 else
 ldA p0 2 h42 fun cs44 =>
 callA S i_laws_toSet [.agg cs44] h42 fun cs46 h45 =>
 callV S i_impl_StrongParts [.agg cs46, .int .i64 x1] h45 fun v48 h47 =>
 viaT v48 fun vs49 =>
 exS vs49 0 fun s50 =>
 viaT v48 fun vs51 =>
 exI .i64 vs51 1 fun n52 =>
 callB S i_laws_eqInt64SS [.sl s50, .sl s11] h47 fun b54 h53 =>
 bif (!b54) then
 K (.bool false) h53
 else
 bif (n52 != n13) then
 K (.bool false) h53
 else
 callI S .i64 i_laws_heldInt64SS [.sl s24, .int .i64 (1)] h53 fun n56 h55 =>
 bif (decide (n56 < (0))) then
 K (.bool false) h55
 else
 bif (n56 != n41) then
 K (.bool false) h55
 else
 K (.bool true) h55)
theorem laws_FnExactStrongParts_main_link (S : SatT) (K : AVal → H → Prop) (x0 : List AVal) (x1 : Int) (h : H) : cwp S tab laws_FnExactStrongParts_M [] (bodyOf Try.f9) (kFun tab Try.f9.results.toList K) (fr0 Try.f9 [.agg x0, .int .i64 x1]) h = laws_FnExactStrongParts_main S K x0 x1 h := by kernel_rfl
theorem laws_FnExactStrongParts_call (x0 : List AVal) (x1 : Int) (h : H) (K : Bool → H → Prop) (hm : laws_FnExactStrongParts_main (Sat Try.prog) (fun v h' => ∃ r, v = .bool r ∧ K r h') x0 x1 h) : callB (Sat Try.prog) i_laws_FnExactStrongParts [.agg x0, .int .i64 x1] h K := by
  have := Sat.ex tok mixed laws_FnExactStrongParts_M Try.func9 (c := bodyOf Try.f9) (by kernel_rfl) (calls_of Try.func9 (c := bodyOf Try.f9) (by kernel_rfl) (by decide)) ((laws_FnExactStrongParts_main_link _ _ x0 x1 h).mpr hm)
  obtain ⟨v, h2, h3, r, rfl, h4⟩ := this; exact ⟨r, h2, h3, h4⟩

/-! ### loop.example/g01354/laws.FnExactLastingTiles -/
def laws_FnExactLastingTiles_M : Nat → List Nat := fun i => []
def laws_FnExactLastingTiles_main (S : SatT) (K : AVal → H → Prop) (x0 : List AVal) (h : H) : Prop :=
 newK 2 x0 h fun p0 h1 =>
 ldA p0 2 h1 fun cs2 =>
 callI S .i64 i_laws_szSet [.agg cs2, .int .i64 (1048576)] h1 fun n4 h3 =>
 bif (decide (n4 < (0))) then
 K (.bool true) h3
 else
 ldA p0 2 h3 fun cs5 =>
 callA S i_laws_toSet [.agg cs5] h3 fun cs7 h6 =>
 callV S i_spec_LastingTiles [.agg cs7] h6 fun v9 h8 =>
 viaT v9 fun vs10 =>
 exS vs10 0 fun s11 =>
 viaT v9 fun vs12 =>
 exI .i64 vs12 1 fun n13 =>
 ldA p0 2 h8 fun cs14 =>
 callA S i_laws_toSet [.agg cs14] h8 fun cs16 h15 =>
 newO [.int .i64 (0), .sl Sl.nil] h15 fun p17 h18 =>
 stN p17 2 cs16 h18 fun h19 =>
 ldA p17 2 h19 fun cs20 =>
 callV S i_impl_LastingTiles [.agg cs20] h19 fun v22 h21 =>
 viaT v22 fun vs23 =>
 exS vs23 0 fun s24 =>
 viaT v22 fun vs25 =>
 exI .i64 vs25 1 fun n26 =>
 callB S i_laws_eqInt64S [.sl s24, .sl s11] h21 fun b28 h27 =>
 bif (!b28) then
 K (.bool false) h27
 else
 bif (n26 != n13) then
 K (.bool false) h27
 else
 ldA p17 2 h27 fun cs29 =>
 ldA p0 2 h27 fun cs30 =>
 callA S i_laws_toSet [.agg cs30] h27 fun cs32 h31 =>
(range h31 p17.o p17.n p17.off 2 = range h27 p17.o p17.n p17.off 2) ∧ (
 callB S i_laws_eqSet [.agg cs29, .agg cs32] h31 fun b34 h33 =>
 bif (!b34) then
 K (.bool false) h33
 else
 ldA p17 2 h33 fun cs35 =>
 callI S .i64 i_laws_markSet [.agg cs35, .int .i64 (1)] h33 fun n37 h36 =>
 bif (decide (n37 < (0))) then
 K (.bool false) h36
 else
 callB S i_laws_eqInt64S [.sl s24, .sl s11] h36 fun b39 h38 =>
 bif (!b39) then
 K (.bool false) h38
 else
 bif (n26 != n13) then
 K (.bool false) h38
 else
 callI S .i64 i_laws_markInt64S [.sl s24, .int .i64 (1)] h38 fun n41 h40 =>
 callI S .i64 i_laws_heldInt64S [.sl s24, .int .i64 (1)] h40 fun n43 h42 =>
 bif (decide (n43 < (0))) then
 K (.bool false) h42
 else
 bif (n43 != n41) then
 K (.bool false) h42
 else
 ldA p0 2 h42 fun cs44 =>
 callA S i_laws_toSet [.agg cs44] h42 fun cs46 h45 =>
 callV S i_impl_LastingTiles [.agg cs46] h45 fun v48 h47 =>
 viaT v48 fun vs49 =>
 exS vs49 0 fun s50 =>
 viaT v48 fun vs51 =>
 exI .i64 vs51 1 fun n52 =>
 callB S i_laws_eqInt64S [.sl s50, .sl s11] h47 fun b54 h53 =>
 bif (!b54) then
 K (.bool false) h53
 else
 bif (n52 != n13) then
 K (.bool false) h53
 else
 callI S .i64 i_laws_heldInt64S [.sl s24, .int .i64 (1)] h53 fun n56 h55 =>
 bif (decide (n56 < (0))) then
 K (.bool false) h55
 else
 bif (n56 != n41) then
 K (.bool false) h55
 else
 K (.bool true) h55)
theorem laws_FnExactLastingTiles_main_link (S : SatT) (K : AVal → H → Prop) (x0 : List AVal) (h : H) : cwp S tab laws_FnExactLastingTiles_M [] (bodyOf Try.f4) (kFun tab Try.f4.results.toList K) (fr0 Try.f4 [.agg x0]) h = laws_FnExactLastingTiles_main S K x0 h := by kernel_rfl
theorem laws_FnExactLastingTiles_call (x0 : List AVal) (h : H) (K : Bool → H → Prop) (hm : laws_FnExactLastingTiles_main (Sat Try.prog) (fun v h' => ∃ r, v = .bool r ∧ K r h') x0 h) : callB (Sat Try.prog) i_laws_FnExactLastingTiles [.agg x0] h K := by
  have := Sat.ex tok mixed laws_FnExactLastingTiles_M Try.func4 (c := bodyOf Try.f4) (by kernel_rfl) (calls_of Try.func4 (c := bodyOf Try.f4) (by kernel_rfl) (by decide)) ((laws_FnExactLastingTiles_main_link _ _ x0 h).mpr hm)
  obtain ⟨v, h2, h3, r, rfl, h4⟩ := this; exact ⟨r, h2, h3, h4⟩

/-! ### loop.example/g01354/laws.FnExactIsMixing -/
def laws_FnExactIsMixing_M : Nat → List Nat := fun i => []
def laws_FnExactIsMixing_main (S : SatT) (K : AVal → H → Prop) (x0 : List AVal) (x1 : Int) (h : H) : Prop :=
 newK 2 x0 h fun p0 h1 =>
 ldA p0 2 h1 fun cs2 =>
 callI S .i64 i_laws_szSet [.agg cs2, .int .i64 (1048576)] h1 fun n4 h3 =>
 bif (decide (n4 < (0))) then
 K (.bool true) h3
 else
 ldA p0 2 h3 fun cs5 =>
 callA S i_laws_toSet [.agg cs5] h3 fun cs7 h6 =>
 callV S i_spec_IsMixing [.agg cs7, .int .i64 x1] h6 fun v9 h8 =>
 viaT v9 fun vs10 =>
 exB vs10 0 fun b11 =>
 viaT v9 fun vs12 =>
 exI .i64 vs12 1 fun n13 =>
 ldA p0 2 h8 fun cs14 =>
 callA S i_laws_toSet [.agg cs14] h8 fun cs16 h15 =>
 newO [.int .i64 (0), .sl Sl.nil] h15 fun p17 h18 =>
 stN p17 2 cs16 h18 fun h19 =>
 ldA p17 2 h19 fun cs20 =>
 callV S i_impl_IsMixing [.agg cs20, .int .i64 x1] h19 fun v22 h21 =>
 viaT v22 fun vs23 =>
 exB vs23 0 fun b24 =>
 viaT v22 fun vs25 =>
 exI .i64 vs25 1 fun n26 =>
 bif (b24 != b11) then
 K (.bool false) h21
 else
 bif (n26 != n13) then
 K (.bool false) h21
 else
 ldA p17 2 h21 fun cs27 =>
 ldA p0 2 h21 fun cs28 =>
 callA S i_laws_toSet [.agg cs28] h21 fun cs30 h29 =>
(range h29 p17.o p17.n p17.off 2 = range h21 p17.o p17.n p17.off 2) ∧ (
 callB S i_laws_eqSet [.agg cs27, .agg cs30] h29 fun b32 h31 =>
 bif (!b32) then
 K (.bool false) h31
 else
 K (.bool true) h31)
theorem laws_FnExactIsMixing_main_link (S : SatT) (K : AVal → H → Prop) (x0 : List AVal) (x1 : Int) (h : H) : cwp S tab laws_FnExactIsMixing_M [] (bodyOf Try.f10) (kFun tab Try.f10.results.toList K) (fr0 Try.f10 [.agg x0, .int .i64 x1]) h = laws_FnExactIsMixing_main S K x0 x1 h := by kernel_rfl
theorem laws_FnExactIsMixing_call (x0 : List AVal) (x1 : Int) (h : H) (K : Bool → H → Prop) (hm : laws_FnExactIsMixing_main (Sat Try.prog) (fun v h' => ∃ r, v = .bool r ∧ K r h') x0 x1 h) : callB (Sat Try.prog) i_laws_FnExactIsMixing [.agg x0, .int .i64 x1] h K := by
  have := Sat.ex tok mixed laws_FnExactIsMixing_M Try.func10 (c := bodyOf Try.f10) (by kernel_rfl) (calls_of Try.func10 (c := bodyOf Try.f10) (by kernel_rfl) (by decide)) ((laws_FnExactIsMixing_main_link _ _ x0 x1 h).mpr hm)
  obtain ⟨v, h2, h3, r, rfl, h4⟩ := this; exact ⟨r, h2, h3, h4⟩

/-! ### loop.example/g01354/spec.l01Names -/
def spec_l01Names_M : Nat → List Nat := fun i => []
def spec_l01Names_main (S : SatT) (K : AVal → H → Prop) (h : H) : Prop :=
 bif (AVal.isCell (.str ⟨#[112, 108, 97, 105, 110]⟩) && true) then
 bif (AVal.isCell (.str ⟨#[99, 104, 101, 115, 115]⟩) && true) then
 bif (AVal.isCell (.str ⟨#[119, 105, 114, 101, 115]⟩) && true) then
 bif (AVal.isCell (.str ⟨#[98, 101, 110, 100, 115]⟩) && true) then
 bif (AVal.isCell (.str ⟨#[115, 117, 109, 115]⟩) && true) then
 bif (AVal.isCell (.str ⟨#[99, 97, 114, 114, 121]⟩) && true) then
 bif (AVal.isCell (.str ⟨#[119, 97, 108, 108]⟩) && true) then
 bif (AVal.isCell (.str ⟨#[119, 104, 101, 101, 108]⟩) && true) then
 newS 8 1 [(.str ⟨#[112, 108, 97, 105, 110]⟩), (.str ⟨#[99, 104, 101, 115, 115]⟩), (.str ⟨#[119, 105, 114, 101, 115]⟩), (.str ⟨#[98, 101, 110, 100, 115]⟩), (.str ⟨#[115, 117, 109, 115]⟩), (.str ⟨#[99, 97, 114, 114, 121]⟩), (.str ⟨#[119, 97, 108, 108]⟩), (.str ⟨#[119, 104, 101, 101, 108]⟩)] h fun s0 h1 =>
 K (.sl s0) h1
 else False
 else False
 else False
 else False
 else False
 else False
 else False
 else False
theorem spec_l01Names_main_link (S : SatT) (K : AVal → H → Prop) (h : H) : cwp S tab spec_l01Names_M [] (bodyOf Try.f132) (kFun tab Try.f132.results.toList K) (fr0 Try.f132 []) h = spec_l01Names_main S K h := by kernel_rfl
theorem spec_l01Names_call (h : H) (K : Sl → H → Prop) (hm : spec_l01Names_main (Sat Try.prog) (fun v h' => ∃ r, v = .sl r ∧ K r h') h) : callS (Sat Try.prog) i_spec_l01Names [] h K := by
  have := Sat.ex tok mixed spec_l01Names_M Try.func132 (c := bodyOf Try.f132) (by kernel_rfl) (calls_of Try.func132 (c := bodyOf Try.f132) (by kernel_rfl) (by decide)) ((spec_l01Names_main_link _ _ h).mpr hm)
  obtain ⟨v, h2, h3, r, rfl, h4⟩ := this; exact ⟨r, h2, h3, h4⟩

/-! ### loop.example/g01354/spec.PeriodOfHeight -/
def spec_PeriodOfHeight_M : Nat → List Nat := fun i => []
def spec_PeriodOfHeight_main (S : SatT) (K : AVal → H → Prop) (x0 : List AVal) (x1 : Int) (h : H) : Prop :=
 newK 2 x0 h fun p0 h1 =>
 ldA p0 2 h1 fun cs2 =>
 callV S i_spec_l06Lasting [.agg cs2, .int .i64 x1] h1 fun v4 h3 =>
 viaT v4 fun vs5 =>
 exS vs5 0 fun s6 =>
 viaT v4 fun vs7 =>
 exS vs7 1 fun s8 =>
 viaT v4 fun vs9 =>
 exI .i64 vs9 2 fun n10 =>
 bif (n10 != (0)) then
 K (.tuple [.int .i64 (0), .int .i64 n10]) h3
 else
 callV S i_spec_l06Period [.sl s8] h3 fun v12 h11 =>
 viaT v12 fun vs13 =>
 exI .i64 vs13 0 fun n14 =>
 viaT v12 fun vs15 =>
 exB vs15 1 fun b16 =>
 bif (!b16) then
 K (.tuple [.int .i64 (0), .int .i64 (5)]) h11
 else
 K (.tuple [.int .i64 n14, .int .i64 (0)]) h11
theorem spec_PeriodOfHeight_main_link (S : SatT) (K : AVal → H → Prop) (x0 : List AVal) (x1 : Int) (h : H) : cwp S tab spec_PeriodOfHeight_M [] (bodyOf Try.f40) (kFun tab Try.f40.results.toList K) (fr0 Try.f40 [.agg x0, .int .i64 x1]) h = spec_PeriodOfHeight_main S K x0 x1 h := by kernel_rfl
theorem spec_PeriodOfHeight_call (x0 : List AVal) (x1 : Int) (h : H) (K : AVal → H → Prop) (hm : spec_PeriodOfHeight_main (Sat Try.prog) (fun v h' => K v h') x0 x1 h) : callV (Sat Try.prog) i_spec_PeriodOfHeight [.agg x0, .int .i64 x1] h K := by
  have := Sat.ex tok mixed spec_PeriodOfHeight_M Try.func40 (c := bodyOf Try.f40) (by kernel_rfl) (calls_of Try.func40 (c := bodyOf Try.f40) (by kernel_rfl) (by decide)) ((spec_PeriodOfHeight_main_link _ _ x0 x1 h).mpr hm)
  exact this

/-! ### loop.example/g01354/impl.PeriodOfHeight -/
def impl_PeriodOfHeight_M : Nat → List Nat := fun i => []
def impl_PeriodOfHeight_main (S : SatT) (K : AVal → H → Prop) (x0 : List AVal) (x1 : Int) (h : H) : Prop :=
 newK 2 x0 h fun p0 h1 =>
 ldA p0 2 h1 fun cs2 =>
 callV S i_impl_lastingOf [.agg cs2, .int .i64 x1] h1 fun v4 h3 =>
 viaT v4 fun vs5 =>
 exP vs5 0 fun p6 =>
 viaT v4 fun vs7 =>
 exS vs7 1 fun s8 =>
 viaT v4 fun vs9 =>
 exS vs9 2 fun s10 =>
 viaT v4 fun vs11 =>
 exI .i64 vs11 3 fun n12 =>
 bif (n12 != (0)) then
 K (.tuple [.int .i64 (0), .int .i64 n12]) h3
 else
 callI S .i64 i_impl_period [.sl s10] h3 fun n14 h13 =>
 bif (n14 == (0)) then
 K (.tuple [.int .i64 (0), .int .i64 (5)]) h13
 else
 K (.tuple [.int .i64 n14, .int .i64 (0)]) h13
theorem impl_PeriodOfHeight_main_link (S : SatT) (K : AVal → H → Prop) (x0 : List AVal) (x1 : Int) (h : H) : cwp S tab impl_PeriodOfHeight_M [] (bodyOf Try.f41) (kFun tab Try.f41.results.toList K) (fr0 Try.f41 [.agg x0, .int .i64 x1]) h = impl_PeriodOfHeight_main S K x0 x1 h := by kernel_rfl
theorem impl_PeriodOfHeight_call (x0 : List AVal) (x1 : Int) (h : H) (K : AVal → H → Prop) (hm : impl_PeriodOfHeight_main (Sat Try.prog) (fun v h' => K v h') x0 x1 h) : callV (Sat Try.prog) i_impl_PeriodOfHeight [.agg x0, .int .i64 x1] h K := by
  have := Sat.ex tok mixed impl_PeriodOfHeight_M Try.func41 (c := bodyOf Try.f41) (by kernel_rfl) (calls_of Try.func41 (c := bodyOf Try.f41) (by kernel_rfl) (by decide)) ((impl_PeriodOfHeight_main_link _ _ x0 x1 h).mpr hm)
  exact this

/-! ### loop.example/g01354/impl.StrongParts -/
def impl_StrongParts_M : Nat → List Nat := fun i => []
def impl_StrongParts_main (S : SatT) (K : AVal → H → Prop) (x0 : List AVal) (x1 : Int) (h : H) : Prop :=
 newK 2 x0 h fun p0 h1 =>
 ldA p0 2 h1 fun cs2 =>
 callV S i_impl_lastingOf [.agg cs2, .int .i64 x1] h1 fun v4 h3 =>
 viaT v4 fun vs5 =>
 exP vs5 0 fun p6 =>
 viaT v4 fun vs7 =>
 exS vs7 1 fun s8 =>
 viaT v4 fun vs9 =>
 exS vs9 2 fun s10 =>
 viaT v4 fun vs11 =>
 exI .i64 vs11 3 fun n12 =>
 bif (n12 != (0)) then
 K (.tuple [.sl Sl.nil, .int .i64 n12]) h3
 else
 callS S i_impl_strongParts [.sl s10] h3 fun s14 h13 =>
 K (.tuple [.sl s14, .int .i64 (0)]) h13
theorem impl_StrongParts_main_link (S : SatT) (K : AVal → H → Prop) (x0 : List AVal) (x1 : Int) (h : H) : cwp S tab impl_StrongParts_M [] (bodyOf Try.f37) (kFun tab Try.f37.results.toList K) (fr0 Try.f37 [.agg x0, .int .i64 x1]) h = impl_StrongParts_main S K x0 x1 h := by kernel_rfl
theorem impl_StrongParts_call (x0 : List AVal) (x1 : Int) (h : H) (K : AVal → H → Prop) (hm : impl_StrongParts_main (Sat Try.prog) (fun v h' => K v h') x0 x1 h) : callV (Sat Try.prog) i_impl_StrongParts [.agg x0, .int .i64 x1] h K := by
  have := Sat.ex tok mixed impl_StrongParts_M Try.func37 (c := bodyOf Try.f37) (by kernel_rfl) (calls_of Try.func37 (c := bodyOf Try.f37) (by kernel_rfl) (by decide)) ((impl_StrongParts_main_link _ _ x0 x1 h).mpr hm)
  exact this

/-! ### loop.example/g01354/laws.toSet -/
def laws_toSet_M : Nat → List Nat := fun i => []
def laws_toSet_main (S : SatT) (K : AVal → H → Prop) (x0 : List AVal) (h : H) : Prop :=
 newK 2 x0 h fun p0 h1 =>
 newO [.int .i64 (0), .sl Sl.nil] h1 fun p2 h3 =>
 newO [.int .i64 (0), .sl Sl.nil] h3 fun p4 h5 =>
 isPt p0 (
 ldI .i64 (Pt.add p0 0) h5 fun n6 =>
 isPt p4 (
 st1 (Pt.add p4 0) (.int .i64 n6) h5 fun h7 =>
 isPt p0 (
 ldS (Pt.add p0 1) h7 fun s8 =>
 callS S i_laws_toTileS [.sl s8] h7 fun s10 h9 =>
 isPt p4 (
 st1 (Pt.add p4 1) (.sl s10) h9 fun h11 =>
 ldA p4 2 h11 fun cs12 =>
 stN p2 2 cs12 h11 fun h13 =>
 ldA p2 2 h13 fun cs14 =>
 K (.agg cs14) h13))))
theorem laws_toSet_main_link (S : SatT) (K : AVal → H → Prop) (x0 : List AVal) (h : H) : cwp S tab laws_toSet_M [] (bodyOf Try.f16) (kFun tab Try.f16.results.toList K) (fr0 Try.f16 [.agg x0]) h = laws_toSet_main S K x0 h := by kernel_rfl
theorem laws_toSet_call (x0 : List AVal) (h : H) (K : List AVal → H → Prop) (hm : laws_toSet_main (Sat Try.prog) (fun v h' => ∃ r, v = .agg r ∧ K r h') x0 h) : callA (Sat Try.prog) i_laws_toSet [.agg x0] h K := by
  have := Sat.ex tok mixed laws_toSet_M Try.func16 (c := bodyOf Try.f16) (by kernel_rfl) (calls_of Try.func16 (c := bodyOf Try.f16) (by kernel_rfl) (by decide)) ((laws_toSet_main_link _ _ x0 h).mpr hm)
  obtain ⟨v, h2, h3, r, rfl, h4⟩ := this; exact ⟨r, h2, h3, h4⟩

/-! ### loop.example/g01354/impl.CountColumns -/
def impl_CountColumns_M : Nat → List Nat := fun i => []
def impl_CountColumns_main (S : SatT) (K : AVal → H → Prop) (x0 : List AVal) (x1 : Int) (h : H) : Prop :=
 newK 2 x0 h fun p0 h1 =>
 ldA p0 2 h1 fun cs2 =>
 callV S i_impl_stripOf [.agg cs2, .int .i64 x1] h1 fun v4 h3 =>
 viaT v4 fun vs5 =>
 exP vs5 0 fun p6 =>
 viaT v4 fun vs7 =>
 exI .i64 vs7 1 fun n8 =>
 bif (n8 != (0)) then
 K (.tuple [.int .i64 (0), .int .i64 n8]) h3
 else
 nilC (.ptr p6) (
 isPt p6 (
 ldS (Pt.add p6 4) h3 fun s9 =>
 K (.tuple [.int .i64 (s9.len : Int), .int .i64 (0)]) h3))
theorem impl_CountColumns_main_link (S : SatT) (K : AVal → H → Prop) (x0 : List AVal) (x1 : Int) (h : H) : cwp S tab impl_CountColumns_M [] (bodyOf Try.f17) (kFun tab Try.f17.results.toList K) (fr0 Try.f17 [.agg x0, .int .i64 x1]) h = impl_CountColumns_main S K x0 x1 h := by kernel_rfl
theorem impl_CountColumns_call (x0 : List AVal) (x1 : Int) (h : H) (K : AVal → H → Prop) (hm : impl_CountColumns_main (Sat Try.prog) (fun v h' => K v h') x0 x1 h) : callV (Sat Try.prog) i_impl_CountColumns [.agg x0, .int .i64 x1] h K := by
  have := Sat.ex tok mixed impl_CountColumns_M Try.func17 (c := bodyOf Try.f17) (by kernel_rfl) (calls_of Try.func17 (c := bodyOf Try.f17) (by kernel_rfl) (by decide)) ((impl_CountColumns_main_link _ _ x0 x1 h).mpr hm)
  exact this

/-! ### loop.example/g01354/spec.CountColumns -/
def spec_CountColumns_M : Nat → List Nat := fun i => []
def spec_CountColumns_main (S : SatT) (K : AVal → H → Prop) (x0 : List AVal) (x1 : Int) (h : H) : Prop :=
 newK 2 x0 h fun p0 h1 =>
 ldA p0 2 h1 fun cs2 =>
 callV S i_spec_l06Code [.agg cs2, .int .i64 x1] h1 fun v4 h3 =>
 viaT v4 fun vs5 =>
 exS vs5 0 fun s6 =>
 viaT v4 fun vs7 =>
 exI .i64 vs7 1 fun n8 =>
 bif (n8 != (0)) then
 K (.tuple [.int .i64 (0), .int .i64 n8]) h3
 else
 K (.tuple [.int .i64 (s6.len : Int), .int .i64 (0)]) h3
theorem spec_CountColumns_main_link (S : SatT) (K : AVal → H → Prop) (x0 : List AVal) (x1 : Int) (h : H) : cwp S tab spec_CountColumns_M [] (bodyOf Try.f15) (kFun tab Try.f15.results.toList K) (fr0 Try.f15 [.agg x0, .int .i64 x1]) h = spec_CountColumns_main S K x0 x1 h := by kernel_rfl
theorem spec_CountColumns_call (x0 : List AVal) (x1 : Int) (h : H) (K : AVal → H → Prop) (hm : spec_CountColumns_main (Sat Try.prog) (fun v h' => K v h') x0 x1 h) : callV (Sat Try.prog) i_spec_CountColumns [.agg x0, .int .i64 x1] h K := by
  have := Sat.ex tok mixed spec_CountColumns_M Try.func15 (c := bodyOf Try.f15) (by kernel_rfl) (calls_of Try.func15 (c := bodyOf Try.f15) (by kernel_rfl) (by decide)) ((spec_CountColumns_main_link _ _ x0 x1 h).mpr hm)
  exact this

/-! ### loop.example/g01354/impl.setCode -/
def impl_setCode_M : Nat → List Nat := fun i => []
def impl_setCode_main (S : SatT) (K : AVal → H → Prop) (x0 : List AVal) (x1 : AVal) (h : H) : Prop :=
 newK 2 x0 h fun p0 h1 =>
 ldA p0 2 h1 fun cs2 =>
 callB S i_impl_IsSet [.agg cs2] h1 fun b4 h3 =>
 bif (!b4) then
 K (.int .i64 (1)) h3
 else
 viaF x1 [] fun g5 ys6 =>
 callB S g5 ys6 h3 fun b8 h7 =>
 bif (!b8) then
 K (.int .i64 (2)) h7
 else
 K (.int .i64 (0)) h7
theorem impl_setCode_main_link (S : SatT) (K : AVal → H → Prop) (x0 : List AVal) (x1 : AVal) (h : H) : cwp S tab impl_setCode_M [] (bodyOf Try.f66) (kFun tab Try.f66.results.toList K) (fr0 Try.f66 [.agg x0, x1]) h = impl_setCode_main S K x0 x1 h := by kernel_rfl
theorem impl_setCode_call (x0 : List AVal) (x1 : AVal) (h : H) (K : Int → H → Prop) (hm : impl_setCode_main (Sat Try.prog) (fun v h' => ∃ r, v = .int .i64 r ∧ K r h') x0 x1 h) : callI (Sat Try.prog) .i64 i_impl_setCode [.agg x0, x1] h K := by
  have := Sat.ex tok mixed impl_setCode_M Try.func66 (c := bodyOf Try.f66) (by kernel_rfl) (calls_of Try.func66 (c := bodyOf Try.f66) (by kernel_rfl) (by decide)) ((impl_setCode_main_link _ _ x0 x1 h).mpr hm)
  obtain ⟨v, h2, h3, r, rfl, h4⟩ := this; exact ⟨r, h2, h3, h4⟩

/-! ### loop.example/g01354/laws.szSet -/
def laws_szSet_M : Nat → List Nat := fun i => []
def laws_szSet_main (S : SatT) (K : AVal → H → Prop) (x0 : List AVal) (x1 : Int) (h : H) : Prop :=
 newK 2 x0 h fun p0 h1 =>
 isPt p0 (
 ldS (Pt.add p0 1) h1 fun s2 =>
 callI S .i64 i_laws_szTileS [.sl s2, .int .i64 x1] h1 fun n4 h3 =>
 bif (decide (n4 < (0))) then
 K (.int .i64 (-1)) h3
 else
 K (.int .i64 n4) h3)
theorem laws_szSet_main_link (S : SatT) (K : AVal → H → Prop) (x0 : List AVal) (x1 : Int) (h : H) : cwp S tab laws_szSet_M [] (bodyOf Try.f14) (kFun tab Try.f14.results.toList K) (fr0 Try.f14 [.agg x0, .int .i64 x1]) h = laws_szSet_main S K x0 x1 h := by kernel_rfl
theorem laws_szSet_call (x0 : List AVal) (x1 : Int) (h : H) (K : Int → H → Prop) (hm : laws_szSet_main (Sat Try.prog) (fun v h' => ∃ r, v = .int .i64 r ∧ K r h') x0 x1 h) : callI (Sat Try.prog) .i64 i_laws_szSet [.agg x0, .int .i64 x1] h K := by
  have := Sat.ex tok mixed laws_szSet_M Try.func14 (c := bodyOf Try.f14) (by kernel_rfl) (calls_of Try.func14 (c := bodyOf Try.f14) (by kernel_rfl) (by decide)) ((laws_szSet_main_link _ _ x0 x1 h).mpr hm)
  obtain ⟨v, h2, h3, r, rfl, h4⟩ := this; exact ⟨r, h2, h3, h4⟩

/-! ### loop.example/g01354/spec.l01Spoil -/
def spec_l01Spoil_M : Nat → List Nat := fun i => []
def spec_l01Spoil_main (S : SatT) (K : AVal → H → Prop) (x0 : Pt) (h : H) : Prop :=
 newO [.int .i64 (0), .sl Sl.nil] h fun p0 h1 =>
 callA S i_spec_l01Draw [.ptr x0] h1 fun cs3 h2 =>
 callA S i_spec_l01Bad [.ptr x0, .agg cs3] h2 fun cs5 h4 =>
 stN p0 2 cs5 h4 fun h6 =>
 ldA p0 2 h6 fun cs7 =>
 K (.agg cs7) h6
theorem spec_l01Spoil_main_link (S : SatT) (K : AVal → H → Prop) (x0 : Pt) (h : H) : cwp S tab spec_l01Spoil_M [] (bodyOf Try.f123) (kFun tab Try.f123.results.toList K) (fr0 Try.f123 [.ptr x0]) h = spec_l01Spoil_main S K x0 h := by kernel_rfl
theorem spec_l01Spoil_call (x0 : Pt) (h : H) (K : List AVal → H → Prop) (hm : spec_l01Spoil_main (Sat Try.prog) (fun v h' => ∃ r, v = .agg r ∧ K r h') x0 h) : callA (Sat Try.prog) i_spec_l01Spoil [.ptr x0] h K := by
  have := Sat.ex tok mixed spec_l01Spoil_M Try.func123 (c := bodyOf Try.f123) (by kernel_rfl) (calls_of Try.func123 (c := bodyOf Try.f123) (by kernel_rfl) (by decide)) ((spec_l01Spoil_main_link _ _ x0 h).mpr hm)
  obtain ⟨v, h2, h3, r, rfl, h4⟩ := this; exact ⟨r, h2, h3, h4⟩

/-! ### loop.example/g01354/spec.l01Pick -/
def spec_l01Pick_M : Nat → List Nat := fun i => []
def spec_l01Pick_main (S : SatT) (K : AVal → H → Prop) (x0 : Pt) (x1 : Sl) (h : H) : Prop :=
 callI S .i64 i_spec_l01Next [.ptr x0, .int .i64 (x1.len : Int)] h fun n1 h0 =>
 ixS x1 1 n1 fun p2 =>
 ldI .i64 p2 h0 fun n3 =>
 K (.int .i64 n3) h0
theorem spec_l01Pick_main_link (S : SatT) (K : AVal → H → Prop) (x0 : Pt) (x1 : Sl) (h : H) : cwp S tab spec_l01Pick_M [] (bodyOf Try.f114) (kFun tab Try.f114.results.toList K) (fr0 Try.f114 [.ptr x0, .sl x1]) h = spec_l01Pick_main S K x0 x1 h := by kernel_rfl
theorem spec_l01Pick_call (x0 : Pt) (x1 : Sl) (h : H) (K : Int → H → Prop) (hm : spec_l01Pick_main (Sat Try.prog) (fun v h' => ∃ r, v = .int .i64 r ∧ K r h') x0 x1 h) : callI (Sat Try.prog) .i64 i_spec_l01Pick [.ptr x0, .sl x1] h K := by
  have := Sat.ex tok mixed spec_l01Pick_M Try.func114 (c := bodyOf Try.f114) (by kernel_rfl) (calls_of Try.func114 (c := bodyOf Try.f114) (by kernel_rfl) (by decide)) ((spec_l01Pick_main_link _ _ x0 x1 h).mpr hm)
  obtain ⟨v, h2, h3, r, rfl, h4⟩ := this; exact ⟨r, h2, h3, h4⟩

/-! ### loop.example/g01354/impl.CountRows$1 -/
def impl_CountRows_1_M : Nat → List Nat := fun i => []
def impl_CountRows_1_main (S : SatT) (K : AVal → H → Prop) (x0 : Pt) (h : H) : Prop :=
 ldI .i64 x0 h fun n0 =>
 callB S i_impl_within [.int .i64 n0, .int .i64 (1), .int .i64 (40)] h fun b2 h1 =>
 K (.bool b2) h1
theorem impl_CountRows_1_main_link (S : SatT) (K : AVal → H → Prop) (x0 : Pt) (h : H) : cwp S tab impl_CountRows_1_M [] (bodyOf Try.f86) (kFun tab Try.f86.results.toList K) (fr0 Try.f86 [.ptr x0]) h = impl_CountRows_1_main S K x0 h := by kernel_rfl
theorem impl_CountRows_1_call (x0 : Pt) (h : H) (K : Bool → H → Prop) (hm : impl_CountRows_1_main (Sat Try.prog) (fun v h' => ∃ r, v = .bool r ∧ K r h') x0 h) : callB (Sat Try.prog) i_impl_CountRows_1 [.ptr x0] h K := by
  have := Sat.ex tok mixed impl_CountRows_1_M Try.func86 (c := bodyOf Try.f86) (by kernel_rfl) (calls_of Try.func86 (c := bodyOf Try.f86) (by kernel_rfl) (by decide)) ((impl_CountRows_1_main_link _ _ x0 h).mpr hm)
  obtain ⟨v, h2, h3, r, rfl, h4⟩ := this; exact ⟨r, h2, h3, h4⟩

/-! ### loop.example/g01354/impl.stripOf$1 -/
def impl_stripOf_1_M : Nat → List Nat := fun i => []
def impl_stripOf_1_main (S : SatT) (K : AVal → H → Prop) (x0 : Pt) (h : H) : Prop :=
 ldI .i64 x0 h fun n0 =>
 callB S i_impl_within [.int .i64 n0, .int .i64 (1), .int .i64 (4)] h fun b2 h1 =>
 K (.bool b2) h1
theorem impl_stripOf_1_main_link (S : SatT) (K : AVal → H → Prop) (x0 : Pt) (h : H) : cwp S tab impl_stripOf_1_M [] (bodyOf Try.f91) (kFun tab Try.f91.results.toList K) (fr0 Try.f91 [.ptr x0]) h = impl_stripOf_1_main S K x0 h := by kernel_rfl
theorem impl_stripOf_1_call (x0 : Pt) (h : H) (K : Bool → H → Prop) (hm : impl_stripOf_1_main (Sat Try.prog) (fun v h' => ∃ r, v = .bool r ∧ K r h') x0 h) : callB (Sat Try.prog) i_impl_stripOf_1 [.ptr x0] h K := by
  have := Sat.ex tok mixed impl_stripOf_1_M Try.func91 (c := bodyOf Try.f91) (by kernel_rfl) (calls_of Try.func91 (c := bodyOf Try.f91) (by kernel_rfl) (by decide)) ((impl_stripOf_1_main_link _ _ x0 h).mpr hm)
  obtain ⟨v, h2, h3, r, rfl, h4⟩ := this; exact ⟨r, h2, h3, h4⟩

/-! ### loop.example/g01354/laws.big -/
def laws_big_M : Nat → List Nat := fun i => []
def laws_big_main (S : SatT) (K : AVal → H → Prop) (x0 : Sl) (h : H) : Prop :=
 K (.bool (decide ((x0.len : Int) > (4096)))) h
theorem laws_big_main_link (S : SatT) (K : AVal → H → Prop) (x0 : Sl) (h : H) : cwp S tab laws_big_M [] (bodyOf Try.f42) (kFun tab Try.f42.results.toList K) (fr0 Try.f42 [.sl x0]) h = laws_big_main S K x0 h := by kernel_rfl
theorem laws_big_call (x0 : Sl) (h : H) (K : Bool → H → Prop) (hm : laws_big_main (Sat Try.prog) (fun v h' => ∃ r, v = .bool r ∧ K r h') x0 h) : callB (Sat Try.prog) i_laws_big [.sl x0] h K := by
  have := Sat.ex tok mixed laws_big_M Try.func42 (c := bodyOf Try.f42) (by kernel_rfl) (calls_of Try.func42 (c := bodyOf Try.f42) (by kernel_rfl) (by decide)) ((laws_big_main_link _ _ x0 h).mpr hm)
  obtain ⟨v, h2, h3, r, rfl, h4⟩ := this; exact ⟨r, h2, h3, h4⟩

end Go.Proofs.Ytdmhchgaeepdmaa.Cl
