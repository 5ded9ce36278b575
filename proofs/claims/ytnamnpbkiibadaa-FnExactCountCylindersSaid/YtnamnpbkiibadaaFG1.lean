/- Typed forms of functions, and their links. No claim is stated here. -/
import Derived.Test.YtnamnpbkiibadaaFT
/- Typed forms of functions of the program, and their links. Printed by program. No claim is stated here. -/
set_option linter.unusedVariables false
namespace Go.Proofs.Ytnamnpbkiibadaa.Cl
open Go
/-! ### loop.example/g01354/spec.l05Words -/
def spec_l05Words_M : Nat → List Nat := fun i => bif i == 0 then [2, 7, 8, 9, 10] else []
def spec_l05Words_ks2 (S : SatT) (K : AVal → H → Prop) : Kont := kSeq (cwp S tab spec_l05Words_M [] (sub [1, 1, 1] (bodyOf Try.f31)) (kFun tab (Try.f31).results.toList K)) (kFun tab (Try.f31).results.toList K)
def spec_l05Words_e0 (p2_ : Pt) (s7_ : Sl) (s8_ : Sl) (s9_ : Sl) (i10_ : Int) : Frame := [U, U, .ptr p2_, U, U, U, U, .sl s7_, .sl s8_, .sl s9_, .int .i64 i10_, U, U, U, U, U, U, U, U, U, U, U, U, U, U, U, U, U, U, U, U, U, U, U, U, U, U, U, U, U, U, U, U, U]
def spec_l05Words_w0 (S : SatT) (K : AVal → H → Prop) : (Frame → H → Prop) → Frame → H → Prop := fun X fr h => cwp S tab spec_l05Words_M (spec_l05Words_M 0) (sub [1, 1, 0, 1, 0, 0] (bodyOf Try.f31)) (kSeq (fun fr h => X (mask (spec_l05Words_M 0) fr) h) (kBlk 0 (spec_l05Words_ks2 S K))) fr h
def spec_l05Words_L0 (S : SatT) (K : AVal → H → Prop) (p2_ : Pt) (s7_ : Sl) (s8_ : Sl) (s9_ : Sl) (i10_ : Int) (h : H) : Prop := loopK (spec_l05Words_w0 S K) (spec_l05Words_e0 p2_ s7_ s8_ s9_ i10_) h
def spec_l05Words_C0 (S : SatT) (K : AVal → H → Prop) (s7_ : Sl) (s8_ : Sl) (s9_ : Sl) (h : H) : Prop :=
 K (.tuple [.sl s7_, .sl s8_, .sl s9_]) h
def spec_l05Words_b0 (S : SatT) (K : AVal → H → Prop) (X0 : Frame → H → Prop) (p2_ : Pt) (s7_ : Sl) (s8_ : Sl) (s9_ : Sl) (i10_ : Int) (h : H) : Prop :=
 bif (decide (i10_ < (s7_.len : Int))) then
 ldA p2_ 2 h fun cs0 =>
 ixS s7_ 1 i10_ fun p1 =>
 ldS p1 h fun s2 =>
 callI S .i64 i_spec_l05Side [.agg cs0, .sl s2, .int .i64 (1)] h fun n4 h3 =>
 newS 1 1 [.int .i64 n4] h3 fun s5 h6 =>
 app s8_ s5 1 h6 fun s7 h8 =>
 ldA p2_ 2 h8 fun cs9 =>
 ixS s7_ 1 i10_ fun p10 =>
 ldS p10 h8 fun s11 =>
 callI S .i64 i_spec_l05Side [.agg cs9, .sl s11, .int .i64 (3)] h8 fun n13 h12 =>
 newS 1 1 [.int .i64 n13] h12 fun s14 h15 =>
 app s9_ s14 1 h15 fun s16 h17 =>
 X0 (spec_l05Words_e0 p2_ s7_ s7 s16 (w64 (i10_ + (1)))) h17
 else
 spec_l05Words_C0 S K s7_ s8_ s9_ h
theorem spec_l05Words_link0 (S : SatT) (K : AVal → H → Prop) (X0 : Frame → H → Prop) (p2_ : Pt) (s7_ : Sl) (s8_ : Sl) (s9_ : Sl) (i10_ : Int) (h : H) : spec_l05Words_w0 S K X0 (spec_l05Words_e0 p2_ s7_ s8_ s9_ i10_) h = spec_l05Words_b0 S K X0 p2_ s7_ s8_ s9_ i10_ h := by kernel_rfl
theorem spec_l05Words_rule0 (S : SatT) (K : AVal → H → Prop) (p2_ : Pt) (s7_ : Sl) (I_ : Sl → Sl → Int → H → Prop) (m_ : Sl → Sl → Int → H → Nat)
    (hs : ∀ (X0 : Frame → H → Prop) (s8_ : Sl) (s9_ : Sl) (i10_ : Int) (h : H), I_ s8_ s9_ i10_ h → (∀ (s8_' : Sl) (s9_' : Sl) (i10_' : Int) (h' : H), I_ s8_' s9_' i10_' h' → m_ s8_' s9_' i10_' h' < m_ s8_ s9_ i10_ h → X0 (spec_l05Words_e0 p2_ s7_ s8_' s9_' i10_') h') → spec_l05Words_b0 S K X0 p2_ s7_ s8_ s9_ i10_ h) (s8_ : Sl) (s9_ : Sl) (i10_ : Int) {h : H} (h0 : I_ s8_ s9_ i10_ h) : spec_l05Words_L0 S K p2_ s7_ s8_ s9_ i10_ h :=
  loop_rule (σ := (Sl) × (Sl) × (Int)) (fun s_ => spec_l05Words_e0 p2_ s7_ (s_.1) (s_.2.1) (s_.2.2)) (fun s_ h => I_ (s_.1) (s_.2.1) (s_.2.2) h) (fun s_ h => m_ (s_.1) (s_.2.1) (s_.2.2) h)
    (fun X s_ h hi hx => (spec_l05Words_link0 S K X p2_ s7_ (s_.1) (s_.2.1) (s_.2.2) h).mpr (hs X (s_.1) (s_.2.1) (s_.2.2) h hi fun s8_' s9_' i10_' h' hi' hm' => hx (s8_', s9_', i10_') h' hi' hm')) (s8_, s9_, i10_) h0
theorem spec_l05Words_unroll0 (S : SatT) (K : AVal → H → Prop) (p2_ : Pt) (s7_ : Sl) (s8_ : Sl) (s9_ : Sl) (i10_ : Int) (h : H) (hb : spec_l05Words_b0 S K (fun fr h => loopK (spec_l05Words_w0 S K) fr h) p2_ s7_ s8_ s9_ i10_ h) : spec_l05Words_L0 S K p2_ s7_ s8_ s9_ i10_ h := loop_unroll ((spec_l05Words_link0 S K _ p2_ s7_ s8_ s9_ i10_ h).mpr hb)
def spec_l05Words_main (S : SatT) (K : AVal → H → Prop) (x0 : List AVal) (x1 : Int) (h : H) : Prop :=
 newK 2 x0 h fun p0 h1 =>
 ldA p0 2 h1 fun cs2 =>
 newS 0 1 [] h1 fun s3 h4 =>
 callS S i_spec_l05Rounds [.agg cs2, .sl s3, .int .i64 x1] h4 fun s6 h5 =>
 newS 0 1 [] h5 fun s7 h8 =>
 newS 0 1 [] h8 fun s9 h10 =>
 spec_l05Words_L0 S K p0 s6 s7 s9 (0) h10
theorem spec_l05Words_main_link (S : SatT) (K : AVal → H → Prop) (x0 : List AVal) (x1 : Int) (h : H) : cwp S tab spec_l05Words_M [] (bodyOf Try.f31) (kFun tab Try.f31.results.toList K) (fr0 Try.f31 [.agg x0, .int .i64 x1]) h = spec_l05Words_main S K x0 x1 h := by kernel_rfl
theorem spec_l05Words_call (x0 : List AVal) (x1 : Int) (h : H) (K : AVal → H → Prop) (hm : spec_l05Words_main (Sat Try.prog) (fun v h' => K v h') x0 x1 h) : callV (Sat Try.prog) i_spec_l05Words [.agg x0, .int .i64 x1] h K := by
  have := Sat.ex tok mixed spec_l05Words_M Try.func31 (c := bodyOf Try.f31) (by kernel_rfl) (calls_of Try.func31 (c := bodyOf Try.f31) (by kernel_rfl) (by decide)) ((spec_l05Words_main_link _ _ x0 x1 h).mpr hm)
  exact this

/-! ### (loop.example/g01354/impl.Set).rounds -/
def impl_Set_rounds_M : Nat → List Nat := fun i => bif i == 0 then [1, 5, 6, 11, 12] else []
def impl_Set_rounds_ks4 (S : SatT) (K : AVal → H → Prop) : Kont := kSeq (cwp S tab impl_Set_rounds_M [] (sub [1, 1, 1, 1, 1] (bodyOf Try.f37)) (kFun tab (Try.f37).results.toList K)) (kFun tab (Try.f37).results.toList K)
def impl_Set_rounds_e0 (i1_ : Int) (p5_ : Pt) (p6_ : Pt) (i11_ : Int) (i12_ : Int) : Frame := [U, .int .i64 i1_, U, U, U, .ptr p5_, .ptr p6_, U, U, U, U, .int .i64 i11_, .int .i64 i12_, U, U, U, U, U, U, U, U, U]
def impl_Set_rounds_w0 (S : SatT) (K : AVal → H → Prop) : (Frame → H → Prop) → Frame → H → Prop := fun X fr h => cwp S tab impl_Set_rounds_M (impl_Set_rounds_M 0) (sub [1, 1, 1, 1, 0, 1, 0, 0] (bodyOf Try.f37)) (kSeq (fun fr h => X (mask (impl_Set_rounds_M 0) fr) h) (kBlk 0 (impl_Set_rounds_ks4 S K))) fr h
def impl_Set_rounds_L0 (S : SatT) (K : AVal → H → Prop) (i1_ : Int) (p5_ : Pt) (p6_ : Pt) (i11_ : Int) (i12_ : Int) (h : H) : Prop := loopK (impl_Set_rounds_w0 S K) (impl_Set_rounds_e0 i1_ p5_ p6_ i11_ i12_) h
def impl_Set_rounds_C0 (S : SatT) (K : AVal → H → Prop) (p5_ : Pt) (h : H) : Prop :=
 ldS p5_ h fun s0 =>
 K (.sl s0) h
def impl_Set_rounds_b0 (S : SatT) (K : AVal → H → Prop) (X0 : Frame → H → Prop) (i1_ : Int) (p5_ : Pt) (p6_ : Pt) (i11_ : Int) (i12_ : Int) (h : H) : Prop :=
 bif (decide (i12_ < i11_)) then
 ldV p6_ h fun v0 =>
 viaF v0 [.int .i64 i12_, .int .i64 i12_, .int .i64 (0), .int .i64 (0), .int .i64 i1_] fun g1 ys2 =>
 callV S g1 ys2 h fun v4 h3 =>
 X0 (impl_Set_rounds_e0 i1_ p5_ p6_ i11_ (w64 (i12_ + (1)))) h3
 else
 impl_Set_rounds_C0 S K p5_ h
theorem impl_Set_rounds_link0 (S : SatT) (K : AVal → H → Prop) (X0 : Frame → H → Prop) (i1_ : Int) (p5_ : Pt) (p6_ : Pt) (i11_ : Int) (i12_ : Int) (h : H) : impl_Set_rounds_w0 S K X0 (impl_Set_rounds_e0 i1_ p5_ p6_ i11_ i12_) h = impl_Set_rounds_b0 S K X0 i1_ p5_ p6_ i11_ i12_ h := by kernel_rfl
theorem impl_Set_rounds_rule0 (S : SatT) (K : AVal → H → Prop) (i1_ : Int) (p5_ : Pt) (p6_ : Pt) (i11_ : Int) (I_ : Int → H → Prop) (m_ : Int → H → Nat)
    (hs : ∀ (X0 : Frame → H → Prop) (i12_ : Int) (h : H), I_ i12_ h → (∀ (i12_' : Int) (h' : H), I_ i12_' h' → m_ i12_' h' < m_ i12_ h → X0 (impl_Set_rounds_e0 i1_ p5_ p6_ i11_ i12_') h') → impl_Set_rounds_b0 S K X0 i1_ p5_ p6_ i11_ i12_ h) (i12_ : Int) {h : H} (h0 : I_ i12_ h) : impl_Set_rounds_L0 S K i1_ p5_ p6_ i11_ i12_ h :=
  loop_rule (σ := (Int)) (fun s_ => impl_Set_rounds_e0 i1_ p5_ p6_ i11_ (s_)) (fun s_ h => I_ (s_) h) (fun s_ h => m_ (s_) h)
    (fun X s_ h hi hx => (impl_Set_rounds_link0 S K X i1_ p5_ p6_ i11_ (s_) h).mpr (hs X (s_) h hi fun i12_' h' hi' hm' => hx (i12_') h' hi' hm')) (i12_) h0
theorem impl_Set_rounds_unroll0 (S : SatT) (K : AVal → H → Prop) (i1_ : Int) (p5_ : Pt) (p6_ : Pt) (i11_ : Int) (i12_ : Int) (h : H) (hb : impl_Set_rounds_b0 S K (fun fr h => loopK (impl_Set_rounds_w0 S K) fr h) i1_ p5_ p6_ i11_ i12_ h) : impl_Set_rounds_L0 S K i1_ p5_ p6_ i11_ i12_ h := loop_unroll ((impl_Set_rounds_link0 S K _ i1_ p5_ p6_ i11_ i12_ h).mpr hb)
def impl_Set_rounds_main (S : SatT) (K : AVal → H → Prop) (x0 : List AVal) (x1 : Int) (h : H) : Prop :=
 newK 2 x0 h fun p0 h1 =>
 newS 0 2 [] h1 fun s2 h3 =>
 newO [.sl Sl.nil] h3 fun p4 h5 =>
 st1 p4 (.sl s2) h5 fun h6 =>
 newO [.nilFunc] h6 fun p7 h8 =>
 st1 p7 (.func 55 [.ptr p4, .ptr p0, .ptr p7]) h8 fun h9 =>
 isPt p0 (
 ldI .i64 (Pt.add p0 0) h9 fun n10 =>
 impl_Set_rounds_L0 S K x1 p4 p7 n10 (0) h9)
theorem impl_Set_rounds_main_link (S : SatT) (K : AVal → H → Prop) (x0 : List AVal) (x1 : Int) (h : H) : cwp S tab impl_Set_rounds_M [] (bodyOf Try.f37) (kFun tab Try.f37.results.toList K) (fr0 Try.f37 [.agg x0, .int .i64 x1]) h = impl_Set_rounds_main S K x0 x1 h := by kernel_rfl
theorem impl_Set_rounds_call (x0 : List AVal) (x1 : Int) (h : H) (K : Sl → H → Prop) (hm : impl_Set_rounds_main (Sat Try.prog) (fun v h' => ∃ r, v = .sl r ∧ K r h') x0 x1 h) : callS (Sat Try.prog) i_impl_Set_rounds [.agg x0, .int .i64 x1] h K := by
  have := Sat.ex tok mixed impl_Set_rounds_M Try.func37 (c := bodyOf Try.f37) (by kernel_rfl) (calls_of Try.func37 (c := bodyOf Try.f37) (by kernel_rfl) (by decide)) ((impl_Set_rounds_main_link _ _ x0 x1 h).mpr hm)
  obtain ⟨v, h2, h3, r, rfl, h4⟩ := this; exact ⟨r, h2, h3, h4⟩

/-! ### loop.example/g01354/impl.inverse -/
def impl_inverse_M : Nat → List Nat := fun i => bif i == 0 then [0, 3, 4] else []
def impl_inverse_ks2 (S : SatT) (K : AVal → H → Prop) : Kont := kSeq (cwp S tab impl_inverse_M [] (sub [1, 1, 1] (bodyOf Try.f49)) (kFun tab (Try.f49).results.toList K)) (kFun tab (Try.f49).results.toList K)
def impl_inverse_e0 (i0_ : Int) (i3_ : Int) (i4_ : Int) : Frame := [.int .i64 i0_, U, U, .int .i64 i3_, .int .i64 i4_, U, U, U, U, U, U, U, U, U, U, U, U, U, U, U, U]
def impl_inverse_w0 (S : SatT) (K : AVal → H → Prop) : (Frame → H → Prop) → Frame → H → Prop := fun X fr h => cwp S tab impl_inverse_M (impl_inverse_M 0) (sub [1, 1, 0, 1, 0, 0] (bodyOf Try.f49)) (kSeq (fun fr h => X (mask (impl_inverse_M 0) fr) h) (kBlk 0 (impl_inverse_ks2 S K))) fr h
def impl_inverse_L0 (S : SatT) (K : AVal → H → Prop) (i0_ : Int) (i3_ : Int) (i4_ : Int) (h : H) : Prop := loopK (impl_inverse_w0 S K) (impl_inverse_e0 i0_ i3_ i4_) h
def impl_inverse_C0 (S : SatT) (K : AVal → H → Prop) (i3_ : Int) (h : H) : Prop :=
 K (.int .i64 i3_) h
def impl_inverse_b0 (S : SatT) (K : AVal → H → Prop) (X0 : Frame → H → Prop) (i0_ : Int) (i3_ : Int) (i4_ : Int) (h : H) : Prop :=
 bif (decide (i4_ > (0))) then
 nz (2) (
 bif ((Int.tmod i4_ (2)) == (1)) then
 nz (10007) (
 nz (10007) (
 nz (2) (
 X0 (impl_inverse_e0 (Int.tmod (w64 (i0_ * i0_)) (10007)) (Int.tmod (w64 (i3_ * i0_)) (10007)) (w64 (Int.tdiv i4_ (2)))) h)))
 else
 nz (10007) (
 nz (2) (
 X0 (impl_inverse_e0 (Int.tmod (w64 (i0_ * i0_)) (10007)) i3_ (w64 (Int.tdiv i4_ (2)))) h)))
 else
 impl_inverse_C0 S K i3_ h
theorem impl_inverse_link0 (S : SatT) (K : AVal → H → Prop) (X0 : Frame → H → Prop) (i0_ : Int) (i3_ : Int) (i4_ : Int) (h : H) : impl_inverse_w0 S K X0 (impl_inverse_e0 i0_ i3_ i4_) h = impl_inverse_b0 S K X0 i0_ i3_ i4_ h := by kernel_rfl
theorem impl_inverse_rule0 (S : SatT) (K : AVal → H → Prop) (I_ : Int → Int → Int → H → Prop) (m_ : Int → Int → Int → H → Nat)
    (hs : ∀ (X0 : Frame → H → Prop) (i0_ : Int) (i3_ : Int) (i4_ : Int) (h : H), I_ i0_ i3_ i4_ h → (∀ (i0_' : Int) (i3_' : Int) (i4_' : Int) (h' : H), I_ i0_' i3_' i4_' h' → m_ i0_' i3_' i4_' h' < m_ i0_ i3_ i4_ h → X0 (impl_inverse_e0 i0_' i3_' i4_') h') → impl_inverse_b0 S K X0 i0_ i3_ i4_ h) (i0_ : Int) (i3_ : Int) (i4_ : Int) {h : H} (h0 : I_ i0_ i3_ i4_ h) : impl_inverse_L0 S K i0_ i3_ i4_ h :=
  loop_rule (σ := (Int) × (Int) × (Int)) (fun s_ => impl_inverse_e0 (s_.1) (s_.2.1) (s_.2.2)) (fun s_ h => I_ (s_.1) (s_.2.1) (s_.2.2) h) (fun s_ h => m_ (s_.1) (s_.2.1) (s_.2.2) h)
    (fun X s_ h hi hx => (impl_inverse_link0 S K X (s_.1) (s_.2.1) (s_.2.2) h).mpr (hs X (s_.1) (s_.2.1) (s_.2.2) h hi fun i0_' i3_' i4_' h' hi' hm' => hx (i0_', i3_', i4_') h' hi' hm')) (i0_, i3_, i4_) h0
theorem impl_inverse_unroll0 (S : SatT) (K : AVal → H → Prop) (i0_ : Int) (i3_ : Int) (i4_ : Int) (h : H) (hb : impl_inverse_b0 S K (fun fr h => loopK (impl_inverse_w0 S K) fr h) i0_ i3_ i4_ h) : impl_inverse_L0 S K i0_ i3_ i4_ h := loop_unroll ((impl_inverse_link0 S K _ i0_ i3_ i4_ h).mpr hb)
def impl_inverse_main (S : SatT) (K : AVal → H → Prop) (x0 : Int) (h : H) : Prop :=
 impl_inverse_L0 S K x0 (1) (10005) h
theorem impl_inverse_main_link (S : SatT) (K : AVal → H → Prop) (x0 : Int) (h : H) : cwp S tab impl_inverse_M [] (bodyOf Try.f49) (kFun tab Try.f49.results.toList K) (fr0 Try.f49 [.int .i64 x0]) h = impl_inverse_main S K x0 h := by kernel_rfl
theorem impl_inverse_call (x0 : Int) (h : H) (K : Int → H → Prop) (hm : impl_inverse_main (Sat Try.prog) (fun v h' => ∃ r, v = .int .i64 r ∧ K r h') x0 h) : callI (Sat Try.prog) .i64 i_impl_inverse [.int .i64 x0] h K := by
  have := Sat.ex tok mixed impl_inverse_M Try.func49 (c := bodyOf Try.f49) (by kernel_rfl) (calls_of Try.func49 (c := bodyOf Try.f49) (by kernel_rfl) (by decide)) ((impl_inverse_main_link _ _ x0 h).mpr hm)
  obtain ⟨v, h2, h3, r, rfl, h4⟩ := this; exact ⟨r, h2, h3, h4⟩

/-! ### loop.example/g01354/spec.l06Size -/
def spec_l06Size_M : Nat → List Nat := fun i => bif i == 0 then [1, 2, 5, 6] else []
def spec_l06Size_ks2 (S : SatT) (K : AVal → H → Prop) : Kont := kSeq (cwp S tab spec_l06Size_M [] (sub [1, 1, 1] (bodyOf Try.f18)) (kFun tab (Try.f18).results.toList K)) (kFun tab (Try.f18).results.toList K)
def spec_l06Size_e0 (i1_ : Int) (p2_ : Pt) (i5_ : Int) (i6_ : Int) : Frame := [U, .int .i64 i1_, .ptr p2_, U, U, .int .i64 i5_, .int .i64 i6_, U, U, U, U, U, U, U, U, U, U]
def spec_l06Size_w0 (S : SatT) (K : AVal → H → Prop) : (Frame → H → Prop) → Frame → H → Prop := fun X fr h => cwp S tab spec_l06Size_M (spec_l06Size_M 0) (sub [1, 1, 0, 1, 0, 0] (bodyOf Try.f18)) (kSeq (fun fr h => X (mask (spec_l06Size_M 0) fr) h) (kBlk 0 (spec_l06Size_ks2 S K))) fr h
def spec_l06Size_L0 (S : SatT) (K : AVal → H → Prop) (i1_ : Int) (p2_ : Pt) (i5_ : Int) (i6_ : Int) (h : H) : Prop := loopK (spec_l06Size_w0 S K) (spec_l06Size_e0 i1_ p2_ i5_ i6_) h
def spec_l06Size_C0 (S : SatT) (K : AVal → H → Prop) (i5_ : Int) (h : H) : Prop :=
 K (.int .i64 i5_) h
def spec_l06Size_b0 (S : SatT) (K : AVal → H → Prop) (X0 : Frame → H → Prop) (i1_ : Int) (p2_ : Pt) (i5_ : Int) (i6_ : Int) (h : H) : Prop :=
 bif (decide (i6_ < i1_)) then
 isPt p2_ (
 ldI .i64 (Pt.add p2_ 0) h fun n0 =>
 X0 (spec_l06Size_e0 i1_ p2_ (w64 (i5_ * n0)) (w64 (i6_ + (1)))) h)
 else
 spec_l06Size_C0 S K i5_ h
theorem spec_l06Size_link0 (S : SatT) (K : AVal → H → Prop) (X0 : Frame → H → Prop) (i1_ : Int) (p2_ : Pt) (i5_ : Int) (i6_ : Int) (h : H) : spec_l06Size_w0 S K X0 (spec_l06Size_e0 i1_ p2_ i5_ i6_) h = spec_l06Size_b0 S K X0 i1_ p2_ i5_ i6_ h := by kernel_rfl
theorem spec_l06Size_rule0 (S : SatT) (K : AVal → H → Prop) (i1_ : Int) (p2_ : Pt) (I_ : Int → Int → H → Prop) (m_ : Int → Int → H → Nat)
    (hs : ∀ (X0 : Frame → H → Prop) (i5_ : Int) (i6_ : Int) (h : H), I_ i5_ i6_ h → (∀ (i5_' : Int) (i6_' : Int) (h' : H), I_ i5_' i6_' h' → m_ i5_' i6_' h' < m_ i5_ i6_ h → X0 (spec_l06Size_e0 i1_ p2_ i5_' i6_') h') → spec_l06Size_b0 S K X0 i1_ p2_ i5_ i6_ h) (i5_ : Int) (i6_ : Int) {h : H} (h0 : I_ i5_ i6_ h) : spec_l06Size_L0 S K i1_ p2_ i5_ i6_ h :=
  loop_rule (σ := (Int) × (Int)) (fun s_ => spec_l06Size_e0 i1_ p2_ (s_.1) (s_.2)) (fun s_ h => I_ (s_.1) (s_.2) h) (fun s_ h => m_ (s_.1) (s_.2) h)
    (fun X s_ h hi hx => (spec_l06Size_link0 S K X i1_ p2_ (s_.1) (s_.2) h).mpr (hs X (s_.1) (s_.2) h hi fun i5_' i6_' h' hi' hm' => hx (i5_', i6_') h' hi' hm')) (i5_, i6_) h0
theorem spec_l06Size_unroll0 (S : SatT) (K : AVal → H → Prop) (i1_ : Int) (p2_ : Pt) (i5_ : Int) (i6_ : Int) (h : H) (hb : spec_l06Size_b0 S K (fun fr h => loopK (spec_l06Size_w0 S K) fr h) i1_ p2_ i5_ i6_ h) : spec_l06Size_L0 S K i1_ p2_ i5_ i6_ h := loop_unroll ((spec_l06Size_link0 S K _ i1_ p2_ i5_ i6_ h).mpr hb)
def spec_l06Size_main (S : SatT) (K : AVal → H → Prop) (x0 : List AVal) (x1 : Int) (h : H) : Prop :=
 newK 2 x0 h fun p0 h1 =>
 spec_l06Size_L0 S K x1 p0 (1) (0) h1
theorem spec_l06Size_main_link (S : SatT) (K : AVal → H → Prop) (x0 : List AVal) (x1 : Int) (h : H) : cwp S tab spec_l06Size_M [] (bodyOf Try.f18) (kFun tab Try.f18.results.toList K) (fr0 Try.f18 [.agg x0, .int .i64 x1]) h = spec_l06Size_main S K x0 x1 h := by kernel_rfl
theorem spec_l06Size_call (x0 : List AVal) (x1 : Int) (h : H) (K : Int → H → Prop) (hm : spec_l06Size_main (Sat Try.prog) (fun v h' => ∃ r, v = .int .i64 r ∧ K r h') x0 x1 h) : callI (Sat Try.prog) .i64 i_spec_l06Size [.agg x0, .int .i64 x1] h K := by
  have := Sat.ex tok mixed spec_l06Size_M Try.func18 (c := bodyOf Try.f18) (by kernel_rfl) (calls_of Try.func18 (c := bodyOf Try.f18) (by kernel_rfl) (by decide)) ((spec_l06Size_main_link _ _ x0 x1 h).mpr hm)
  obtain ⟨v, h2, h3, r, rfl, h4⟩ := this; exact ⟨r, h2, h3, h4⟩

/-! ### loop.example/g01354/spec.l01Tile -/
def spec_l01Tile_M : Nat → List Nat := fun i => bif i == 0 then [0, 3, 5] else []
def spec_l01Tile_ks1 (S : SatT) (K : AVal → H → Prop) : Kont := kSeq (cwp S tab spec_l01Tile_M [] (sub [1, 1] (bodyOf Try.f56)) (kFun tab (Try.f56).results.toList K)) (kFun tab (Try.f56).results.toList K)
def spec_l01Tile_e0 (i0_ : Int) (p3_ : Pt) (i5_ : Int) : Frame := [.int .i64 i0_, U, U, .ptr p3_, U, .int .i64 i5_, U, U, U, U, U, U, U, U, U, U, U]
def spec_l01Tile_w0 (S : SatT) (K : AVal → H → Prop) : (Frame → H → Prop) → Frame → H → Prop := fun X fr h => cwp S tab spec_l01Tile_M (spec_l01Tile_M 0) (sub [1, 0, 1, 0, 0] (bodyOf Try.f56)) (kSeq (fun fr h => X (mask (spec_l01Tile_M 0) fr) h) (kBlk 0 (spec_l01Tile_ks1 S K))) fr h
def spec_l01Tile_L0 (S : SatT) (K : AVal → H → Prop) (i0_ : Int) (p3_ : Pt) (i5_ : Int) (h : H) : Prop := loopK (spec_l01Tile_w0 S K) (spec_l01Tile_e0 i0_ p3_ i5_) h
def spec_l01Tile_C0 (S : SatT) (K : AVal → H → Prop) (h : H) : Prop :=
 K (.bool true) h
def spec_l01Tile_b0 (S : SatT) (K : AVal → H → Prop) (X0 : Frame → H → Prop) (i0_ : Int) (p3_ : Pt) (i5_ : Int) (h : H) : Prop :=
 bif (decide (i5_ < (4))) then
 ixA p3_ 4 1 i5_ fun p0 =>
 ldI .i64 p0 h fun n1 =>
 callB S i_spec_l01In [.int .i64 n1, .int .i64 (0), .int .i64 (w64 (i0_ - (1)))] h fun b3 h2 =>
 bif (!b3) then
 K (.bool false) h2
 else
 X0 (spec_l01Tile_e0 i0_ p3_ (w64 (i5_ + (1)))) h2
 else
 spec_l01Tile_C0 S K h
theorem spec_l01Tile_link0 (S : SatT) (K : AVal → H → Prop) (X0 : Frame → H → Prop) (i0_ : Int) (p3_ : Pt) (i5_ : Int) (h : H) : spec_l01Tile_w0 S K X0 (spec_l01Tile_e0 i0_ p3_ i5_) h = spec_l01Tile_b0 S K X0 i0_ p3_ i5_ h := by kernel_rfl
theorem spec_l01Tile_rule0 (S : SatT) (K : AVal → H → Prop) (i0_ : Int) (p3_ : Pt) (I_ : Int → H → Prop) (m_ : Int → H → Nat)
    (hs : ∀ (X0 : Frame → H → Prop) (i5_ : Int) (h : H), I_ i5_ h → (∀ (i5_' : Int) (h' : H), I_ i5_' h' → m_ i5_' h' < m_ i5_ h → X0 (spec_l01Tile_e0 i0_ p3_ i5_') h') → spec_l01Tile_b0 S K X0 i0_ p3_ i5_ h) (i5_ : Int) {h : H} (h0 : I_ i5_ h) : spec_l01Tile_L0 S K i0_ p3_ i5_ h :=
  loop_rule (σ := (Int)) (fun s_ => spec_l01Tile_e0 i0_ p3_ (s_)) (fun s_ h => I_ (s_) h) (fun s_ h => m_ (s_) h)
    (fun X s_ h hi hx => (spec_l01Tile_link0 S K X i0_ p3_ (s_) h).mpr (hs X (s_) h hi fun i5_' h' hi' hm' => hx (i5_') h' hi' hm')) (i5_) h0
theorem spec_l01Tile_unroll0 (S : SatT) (K : AVal → H → Prop) (i0_ : Int) (p3_ : Pt) (i5_ : Int) (h : H) (hb : spec_l01Tile_b0 S K (fun fr h => loopK (spec_l01Tile_w0 S K) fr h) i0_ p3_ i5_ h) : spec_l01Tile_L0 S K i0_ p3_ i5_ h := loop_unroll ((spec_l01Tile_link0 S K _ i0_ p3_ i5_ h).mpr hb)
def spec_l01Tile_main (S : SatT) (K : AVal → H → Prop) (x0 : Int) (x1 : List AVal) (h : H) : Prop :=
 newK 4 x1 h fun p0 h1 =>
 spec_l01Tile_L0 S K x0 p0 (0) h1
theorem spec_l01Tile_main_link (S : SatT) (K : AVal → H → Prop) (x0 : Int) (x1 : List AVal) (h : H) : cwp S tab spec_l01Tile_M [] (bodyOf Try.f56) (kFun tab Try.f56.results.toList K) (fr0 Try.f56 [.int .i64 x0, .agg x1]) h = spec_l01Tile_main S K x0 x1 h := by kernel_rfl
theorem spec_l01Tile_call (x0 : Int) (x1 : List AVal) (h : H) (K : Bool → H → Prop) (hm : spec_l01Tile_main (Sat Try.prog) (fun v h' => ∃ r, v = .bool r ∧ K r h') x0 x1 h) : callB (Sat Try.prog) i_spec_l01Tile [.int .i64 x0, .agg x1] h K := by
  have := Sat.ex tok mixed spec_l01Tile_M Try.func56 (c := bodyOf Try.f56) (by kernel_rfl) (calls_of Try.func56 (c := bodyOf Try.f56) (by kernel_rfl) (by decide)) ((spec_l01Tile_main_link _ _ x0 x1 h).mpr hm)
  obtain ⟨v, h2, h3, r, rfl, h4⟩ := this; exact ⟨r, h2, h3, h4⟩

/-! ### loop.example/g01354/spec.l02Each -/
def spec_l02Each_M : Nat → List Nat := fun i => bif i == 0 then [0, 3, 4] else []
def spec_l02Each_ks2 (S : SatT) (K : AVal → H → Prop) : Kont := kSeq (cwp S tab spec_l02Each_M [] (sub [1, 1, 1] (bodyOf Try.f20)) (kFun tab (Try.f20).results.toList K)) (kFun tab (Try.f20).results.toList K)
def spec_l02Each_e0 (i0_ : Int) (s3_ : Sl) (i4_ : Int) : Frame := [.int .i64 i0_, U, U, .sl s3_, .int .i64 i4_, U, U, U, U, U, U, U, U, U, U]
def spec_l02Each_w0 (S : SatT) (K : AVal → H → Prop) : (Frame → H → Prop) → Frame → H → Prop := fun X fr h => cwp S tab spec_l02Each_M (spec_l02Each_M 0) (sub [1, 1, 0, 1, 0, 0] (bodyOf Try.f20)) (kSeq (fun fr h => X (mask (spec_l02Each_M 0) fr) h) (kBlk 0 (spec_l02Each_ks2 S K))) fr h
def spec_l02Each_L0 (S : SatT) (K : AVal → H → Prop) (i0_ : Int) (s3_ : Sl) (i4_ : Int) (h : H) : Prop := loopK (spec_l02Each_w0 S K) (spec_l02Each_e0 i0_ s3_ i4_) h
def spec_l02Each_C0 (S : SatT) (K : AVal → H → Prop) (s3_ : Sl) (h : H) : Prop :=
 K (.sl s3_) h
def spec_l02Each_b0 (S : SatT) (K : AVal → H → Prop) (X0 : Frame → H → Prop) (i0_ : Int) (s3_ : Sl) (i4_ : Int) (h : H) : Prop :=
 bif (decide (i4_ < i0_)) then
 newS 1 1 [.int .i64 (1)] h fun s0 h1 =>
 app s3_ s0 1 h1 fun s2 h3 =>
 X0 (spec_l02Each_e0 i0_ s2 (w64 (i4_ + (1)))) h3
 else
 spec_l02Each_C0 S K s3_ h
theorem spec_l02Each_link0 (S : SatT) (K : AVal → H → Prop) (X0 : Frame → H → Prop) (i0_ : Int) (s3_ : Sl) (i4_ : Int) (h : H) : spec_l02Each_w0 S K X0 (spec_l02Each_e0 i0_ s3_ i4_) h = spec_l02Each_b0 S K X0 i0_ s3_ i4_ h := by kernel_rfl
theorem spec_l02Each_rule0 (S : SatT) (K : AVal → H → Prop) (i0_ : Int) (I_ : Sl → Int → H → Prop) (m_ : Sl → Int → H → Nat)
    (hs : ∀ (X0 : Frame → H → Prop) (s3_ : Sl) (i4_ : Int) (h : H), I_ s3_ i4_ h → (∀ (s3_' : Sl) (i4_' : Int) (h' : H), I_ s3_' i4_' h' → m_ s3_' i4_' h' < m_ s3_ i4_ h → X0 (spec_l02Each_e0 i0_ s3_' i4_') h') → spec_l02Each_b0 S K X0 i0_ s3_ i4_ h) (s3_ : Sl) (i4_ : Int) {h : H} (h0 : I_ s3_ i4_ h) : spec_l02Each_L0 S K i0_ s3_ i4_ h :=
  loop_rule (σ := (Sl) × (Int)) (fun s_ => spec_l02Each_e0 i0_ (s_.1) (s_.2)) (fun s_ h => I_ (s_.1) (s_.2) h) (fun s_ h => m_ (s_.1) (s_.2) h)
    (fun X s_ h hi hx => (spec_l02Each_link0 S K X i0_ (s_.1) (s_.2) h).mpr (hs X (s_.1) (s_.2) h hi fun s3_' i4_' h' hi' hm' => hx (s3_', i4_') h' hi' hm')) (s3_, i4_) h0
theorem spec_l02Each_unroll0 (S : SatT) (K : AVal → H → Prop) (i0_ : Int) (s3_ : Sl) (i4_ : Int) (h : H) (hb : spec_l02Each_b0 S K (fun fr h => loopK (spec_l02Each_w0 S K) fr h) i0_ s3_ i4_ h) : spec_l02Each_L0 S K i0_ s3_ i4_ h := loop_unroll ((spec_l02Each_link0 S K _ i0_ s3_ i4_ h).mpr hb)
def spec_l02Each_main (S : SatT) (K : AVal → H → Prop) (x0 : Int) (h : H) : Prop :=
 newS 0 1 [] h fun s0 h1 =>
 spec_l02Each_L0 S K x0 s0 (0) h1
theorem spec_l02Each_main_link (S : SatT) (K : AVal → H → Prop) (x0 : Int) (h : H) : cwp S tab spec_l02Each_M [] (bodyOf Try.f20) (kFun tab Try.f20.results.toList K) (fr0 Try.f20 [.int .i64 x0]) h = spec_l02Each_main S K x0 h := by kernel_rfl
theorem spec_l02Each_call (x0 : Int) (h : H) (K : Sl → H → Prop) (hm : spec_l02Each_main (Sat Try.prog) (fun v h' => ∃ r, v = .sl r ∧ K r h') x0 h) : callS (Sat Try.prog) i_spec_l02Each [.int .i64 x0] h K := by
  have := Sat.ex tok mixed spec_l02Each_M Try.func20 (c := bodyOf Try.f20) (by kernel_rfl) (calls_of Try.func20 (c := bodyOf Try.f20) (by kernel_rfl) (by decide)) ((spec_l02Each_main_link _ _ x0 h).mpr hm)
  obtain ⟨v, h2, h3, r, rfl, h4⟩ := this; exact ⟨r, h2, h3, h4⟩

/-! ### loop.example/g01354/spec.l05Code -/
def spec_l05Code_M : Nat → List Nat := fun i => []
def spec_l05Code_main (S : SatT) (K : AVal → H → Prop) (x0 : List AVal) (x1 : Int) (x2 : Int) (x3 : Int) (h : H) : Prop :=
 newK 2 x0 h fun p0 h1 =>
 ldA p0 2 h1 fun cs2 =>
 callB S i_spec_l01Is [.agg cs2] h1 fun b4 h3 =>
 bif (!b4) then
 K (.int .i64 (1)) h3
 else
 callB S i_spec_l01In [.int .i64 x1, .int .i64 (1), .int .i64 x3] h3 fun b6 h5 =>
 bif (!b6) then
 K (.int .i64 (2)) h5
 else
 callB S i_spec_l01In [.int .i64 x2, .int .i64 (1), .int .i64 (3)] h5 fun b8 h7 =>
 bif (!b8) then
 K (.int .i64 (2)) h7
 else
 K (.int .i64 (0)) h7
theorem spec_l05Code_main_link (S : SatT) (K : AVal → H → Prop) (x0 : List AVal) (x1 : Int) (x2 : Int) (x3 : Int) (h : H) : cwp S tab spec_l05Code_M [] (bodyOf Try.f30) (kFun tab Try.f30.results.toList K) (fr0 Try.f30 [.agg x0, .int .i64 x1, .int .i64 x2, .int .i64 x3]) h = spec_l05Code_main S K x0 x1 x2 x3 h := by kernel_rfl
theorem spec_l05Code_call (x0 : List AVal) (x1 : Int) (x2 : Int) (x3 : Int) (h : H) (K : Int → H → Prop) (hm : spec_l05Code_main (Sat Try.prog) (fun v h' => ∃ r, v = .int .i64 r ∧ K r h') x0 x1 x2 x3 h) : callI (Sat Try.prog) .i64 i_spec_l05Code [.agg x0, .int .i64 x1, .int .i64 x2, .int .i64 x3] h K := by
  have := Sat.ex tok mixed spec_l05Code_M Try.func30 (c := bodyOf Try.f30) (by kernel_rfl) (calls_of Try.func30 (c := bodyOf Try.f30) (by kernel_rfl) (by decide)) ((spec_l05Code_main_link _ _ x0 x1 x2 x3 h).mpr hm)
  obtain ⟨v, h2, h3, r, rfl, h4⟩ := this; exact ⟨r, h2, h3, h4⟩

/-! ### loop.example/g01354/laws.eqSet -/
def laws_eqSet_M : Nat → List Nat := fun i => []
def laws_eqSet_main (S : SatT) (K : AVal → H → Prop) (x0 : List AVal) (x1 : List AVal) (h : H) : Prop :=
 newK 2 x0 h fun p0 h1 =>
 newK 2 x1 h1 fun p2 h3 =>
 isPt p0 (
 ldI .i64 (Pt.add p0 0) h3 fun n4 =>
 isPt p2 (
 ldI .i64 (Pt.add p2 0) h3 fun n5 =>
 bif (n4 != n5) then
 K (.bool false) h3
 else
 isPt p0 (
 ldS (Pt.add p0 1) h3 fun s6 =>
 isPt p2 (
 ldS (Pt.add p2 1) h3 fun s7 =>
 callB S i_laws_eqTileS [.sl s6, .sl s7] h3 fun b9 h8 =>
 bif (!b9) then
 K (.bool false) h8
 else
 K (.bool true) h8))))
theorem laws_eqSet_main_link (S : SatT) (K : AVal → H → Prop) (x0 : List AVal) (x1 : List AVal) (h : H) : cwp S tab laws_eqSet_M [] (bodyOf Try.f10) (kFun tab Try.f10.results.toList K) (fr0 Try.f10 [.agg x0, .agg x1]) h = laws_eqSet_main S K x0 x1 h := by kernel_rfl
theorem laws_eqSet_call (x0 : List AVal) (x1 : List AVal) (h : H) (K : Bool → H → Prop) (hm : laws_eqSet_main (Sat Try.prog) (fun v h' => ∃ r, v = .bool r ∧ K r h') x0 x1 h) : callB (Sat Try.prog) i_laws_eqSet [.agg x0, .agg x1] h K := by
  have := Sat.ex tok mixed laws_eqSet_M Try.func10 (c := bodyOf Try.f10) (by kernel_rfl) (calls_of Try.func10 (c := bodyOf Try.f10) (by kernel_rfl) (by decide)) ((laws_eqSet_main_link _ _ x0 x1 h).mpr hm)
  obtain ⟨v, h2, h3, r, rfl, h4⟩ := this; exact ⟨r, h2, h3, h4⟩

/-! ### loop.example/g01354/impl.compare -/
def impl_compare_M : Nat → List Nat := fun i => []
def impl_compare_main (S : SatT) (K : AVal → H → Prop) (x0 : List AVal) (x1 : List AVal) (h : H) : Prop :=
 newK 4 x0 h fun p0 h1 =>
 newK 4 x1 h1 fun p2 h3 =>
 cutA p0 4 1 (0) ((4 : Nat) : Int) fun s4 =>
 cutA p2 4 1 (0) ((4 : Nat) : Int) fun s5 =>
 callI S .i64 i_slices_Compare_s_int64_int64_ [.sl s4, .sl s5] h3 fun n7 h6 =>
 K (.int .i64 n7) h6
theorem impl_compare_main_link (S : SatT) (K : AVal → H → Prop) (x0 : List AVal) (x1 : List AVal) (h : H) : cwp S tab impl_compare_M [] (bodyOf Try.f61) (kFun tab Try.f61.results.toList K) (fr0 Try.f61 [.agg x0, .agg x1]) h = impl_compare_main S K x0 x1 h := by kernel_rfl
theorem impl_compare_call (x0 : List AVal) (x1 : List AVal) (h : H) (K : Int → H → Prop) (hm : impl_compare_main (Sat Try.prog) (fun v h' => ∃ r, v = .int .i64 r ∧ K r h') x0 x1 h) : callI (Sat Try.prog) .i64 i_impl_compare [.agg x0, .agg x1] h K := by
  have := Sat.ex tok mixed impl_compare_M Try.func61 (c := bodyOf Try.f61) (by kernel_rfl) (calls_of Try.func61 (c := bodyOf Try.f61) (by kernel_rfl) (by decide)) ((impl_compare_main_link _ _ x0 x1 h).mpr hm)
  obtain ⟨v, h2, h3, r, rfl, h4⟩ := this; exact ⟨r, h2, h3, h4⟩

/-! ### loop.example/g01354/laws.szSet -/
def laws_szSet_M : Nat → List Nat := fun i => []
def laws_szSet_main (S : SatT) (K : AVal → H → Prop) (x0 : List AVal) (x1 : Int) (h : H) : Prop :=
 newK 2 x0 h fun p0 h1 =>
 isPt p0 (
 ldS (Pt.add p0 1) h1 fun s2 =>
 callI S .i64 i_laws_szTileS [.sl s2, .int .i64 x1] h1 fun n4 h3 =>
 bif (decide (n4 < (0))) then
 K (.int .i64 (-1)) h3
 else
 K (.int .i64 n4) h3)
theorem laws_szSet_main_link (S : SatT) (K : AVal → H → Prop) (x0 : List AVal) (x1 : Int) (h : H) : cwp S tab laws_szSet_M [] (bodyOf Try.f5) (kFun tab Try.f5.results.toList K) (fr0 Try.f5 [.agg x0, .int .i64 x1]) h = laws_szSet_main S K x0 x1 h := by kernel_rfl
theorem laws_szSet_call (x0 : List AVal) (x1 : Int) (h : H) (K : Int → H → Prop) (hm : laws_szSet_main (Sat Try.prog) (fun v h' => ∃ r, v = .int .i64 r ∧ K r h') x0 x1 h) : callI (Sat Try.prog) .i64 i_laws_szSet [.agg x0, .int .i64 x1] h K := by
  have := Sat.ex tok mixed laws_szSet_M Try.func5 (c := bodyOf Try.f5) (by kernel_rfl) (calls_of Try.func5 (c := bodyOf Try.f5) (by kernel_rfl) (by decide)) ((laws_szSet_main_link _ _ x0 x1 h).mpr hm)
  obtain ⟨v, h2, h3, r, rfl, h4⟩ := this; exact ⟨r, h2, h3, h4⟩

/-! ### loop.example/g01354/spec.l01In -/
def spec_l01In_M : Nat → List Nat := fun i => []
def spec_l01In_main (S : SatT) (K : AVal → H → Prop) (x0 : Int) (x1 : Int) (x2 : Int) (h : H) : Prop :=
 bif (decide (x0 ≥ x1)) then
 K (.bool (decide (x0 ≤ x2))) h
 else
 K (.bool false) h
theorem spec_l01In_main_link (S : SatT) (K : AVal → H → Prop) (x0 : Int) (x1 : Int) (x2 : Int) (h : H) : cwp S tab spec_l01In_M [] (bodyOf Try.f40) (kFun tab Try.f40.results.toList K) (fr0 Try.f40 [.int .i64 x0, .int .i64 x1, .int .i64 x2]) h = spec_l01In_main S K x0 x1 x2 h := by kernel_rfl
theorem spec_l01In_call (x0 : Int) (x1 : Int) (x2 : Int) (h : H) (K : Bool → H → Prop) (hm : spec_l01In_main (Sat Try.prog) (fun v h' => ∃ r, v = .bool r ∧ K r h') x0 x1 x2 h) : callB (Sat Try.prog) i_spec_l01In [.int .i64 x0, .int .i64 x1, .int .i64 x2] h K := by
  have := Sat.ex tok mixed spec_l01In_M Try.func40 (c := bodyOf Try.f40) (by kernel_rfl) (calls_of Try.func40 (c := bodyOf Try.f40) (by kernel_rfl) (by decide)) ((spec_l01In_main_link _ _ x0 x1 x2 h).mpr hm)
  obtain ⟨v, h2, h3, r, rfl, h4⟩ := this; exact ⟨r, h2, h3, h4⟩

/-! ### loop.example/g01354/impl.stripOf$1 -/
def impl_stripOf_1_M : Nat → List Nat := fun i => []
def impl_stripOf_1_main (S : SatT) (K : AVal → H → Prop) (x0 : Pt) (h : H) : Prop :=
 ldI .i64 x0 h fun n0 =>
 callB S i_impl_within [.int .i64 n0, .int .i64 (1), .int .i64 (4)] h fun b2 h1 =>
 K (.bool b2) h1
theorem impl_stripOf_1_main_link (S : SatT) (K : AVal → H → Prop) (x0 : Pt) (h : H) : cwp S tab impl_stripOf_1_M [] (bodyOf Try.f45) (kFun tab Try.f45.results.toList K) (fr0 Try.f45 [.ptr x0]) h = impl_stripOf_1_main S K x0 h := by kernel_rfl
theorem impl_stripOf_1_call (x0 : Pt) (h : H) (K : Bool → H → Prop) (hm : impl_stripOf_1_main (Sat Try.prog) (fun v h' => ∃ r, v = .bool r ∧ K r h') x0 h) : callB (Sat Try.prog) i_impl_stripOf_1 [.ptr x0] h K := by
  have := Sat.ex tok mixed impl_stripOf_1_M Try.func45 (c := bodyOf Try.f45) (by kernel_rfl) (calls_of Try.func45 (c := bodyOf Try.f45) (by kernel_rfl) (by decide)) ((impl_stripOf_1_main_link _ _ x0 h).mpr hm)
  obtain ⟨v, h2, h3, r, rfl, h4⟩ := this; exact ⟨r, h2, h3, h4⟩

/-! ### cmp.isNaN[int64] -/
def cmp_isNaN_int64__M : Nat → List Nat := fun i => []
def cmp_isNaN_int64__main (S : SatT) (K : AVal → H → Prop) (x0 : Int) (h : H) : Prop :=
 K (.bool (x0 != x0)) h
theorem cmp_isNaN_int64__main_link (S : SatT) (K : AVal → H → Prop) (x0 : Int) (h : H) : cwp S tab cmp_isNaN_int64__M [] (bodyOf Try.f69) (kFun tab Try.f69.results.toList K) (fr0 Try.f69 [.int .i64 x0]) h = cmp_isNaN_int64__main S K x0 h := by kernel_rfl
theorem cmp_isNaN_int64__call (x0 : Int) (h : H) (K : Bool → H → Prop) (hm : cmp_isNaN_int64__main (Sat Try.prog) (fun v h' => ∃ r, v = .bool r ∧ K r h') x0 h) : callB (Sat Try.prog) i_cmp_isNaN_int64_ [.int .i64 x0] h K := by
  have := Sat.ex tok mixed cmp_isNaN_int64__M Try.func69 (c := bodyOf Try.f69) (by kernel_rfl) (calls_of Try.func69 (c := bodyOf Try.f69) (by kernel_rfl) (by decide)) ((cmp_isNaN_int64__main_link _ _ x0 h).mpr hm)
  obtain ⟨v, h2, h3, r, rfl, h4⟩ := this; exact ⟨r, h2, h3, h4⟩

end Go.Proofs.Ytnamnpbkiibadaa.Cl
