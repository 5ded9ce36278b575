/- Typed forms of functions, and their links. No claim is stated here. -/
import Derived.Test.YtcoampecbpiecaaGreatFT
import Derived.Test.YtcoampecbpiecaaGreatFG0
/- Typed forms of functions of the program, and their links. Printed by program. No claim is stated here. -/
set_option linter.unusedVariables false
namespace Go.Proofs.YtcoampecbpiecaaGreat.Cl
open Go
/-! ### loop.example/g01354/spec.l01Renamed -/
def spec_l01Renamed_M : Nat → List Nat := fun i => bif i == 0 then [1, 2, 4, 5, 6] else []
def spec_l01Renamed_ks2 (S : SatT) (K : KT) : Kont := kSeq (cwp S tab spec_l01Renamed_M [] (sub [1, 1, 1] (bodyOf Tryz.f130)) (kFun tab (Tryz.f130).results.toList K)) (kFun tab (Tryz.f130).results.toList K)
def spec_l01Renamed_e0 (s1_ : Sl) (p2_ p4_ : Pt) (s5_ : Sl) (i6_ : Int) : Frame := [U, .sl s1_, .ptr p2_, U, .ptr p4_, .sl s5_, .int .i64 i6_, U, U, U, U, U, U, U, U, U, U, U, U, U, U, U, U, U, U, U, U, U, U, U, U, U, U, U, U, U, U, U, U, U, U, U, U, U, U, U, U, U, U]
def spec_l01Renamed_w0 (S : SatT) (K : KT) : (XT) → XT := fun X fr h => cwp S tab spec_l01Renamed_M (spec_l01Renamed_M 0) (sub [1, 1, 0, 1, 0, 0] (bodyOf Tryz.f130)) (kSeq (fun fr h => X (mask (spec_l01Renamed_M 0) fr) h) (kBlk 0 (spec_l01Renamed_ks2 S K))) fr h
def spec_l01Renamed_L0 (S : SatT) (K : KT) (s1_ : Sl) (p2_ p4_ : Pt) (s5_ : Sl) (i6_ : Int) (h : H) : Prop := loopK (spec_l01Renamed_w0 S K) (spec_l01Renamed_e0 s1_ p2_ p4_ s5_ i6_) h
def spec_l01Renamed_C0 (S : SatT) (K : KT) (p2_ p4_ : Pt) (s5_ : Sl) (h : H) : Prop :=
 isPt p2_ (
 ldI .i64 (Pt.add p2_ 0) h fun n0 =>
 callA S i_spec_l01Made [.int .i64 n0, .sl s5_] h fun cs2 h1 =>
 stN p4_ 2 cs2 h1 fun h3 =>
 ldA p4_ 2 h3 fun cs4 =>
 K (.agg cs4) h3)
def spec_l01Renamed_b0 (S : SatT) (K : KT) (X0 : XT) (s1_ : Sl) (p2_ p4_ : Pt) (s5_ : Sl) (i6_ : Int) (h : H) : Prop :=
 isPt p2_ (
 ldS (Pt.add p2_ 1) h fun s0 =>
 bif (decide (i6_ < (s0.len : Int))) then
 isPt p2_ (
 ldS (Pt.add p2_ 1) h fun s1 =>
 ixS s1 4 i6_ fun p2 =>
 ldA p2 4 h fun cs3 =>
 newO [.int .i64 (0), .int .i64 (0), .int .i64 (0), .int .i64 (0)] h fun p4 h5 =>
 stN p4 4 cs3 h5 fun h6 =>
 ixA p4 4 1 (0) fun p7 =>
 ldI .i64 p7 h6 fun n8 =>
 ixS s1_ 1 n8 fun p9 =>
 ldI .i64 p9 h6 fun n10 =>
 ixA p4 4 1 (1) fun p11 =>
 ldI .i64 p11 h6 fun n12 =>
 ixS s1_ 1 n12 fun p13 =>
 ldI .i64 p13 h6 fun n14 =>
 ixA p4 4 1 (2) fun p15 =>
 ldI .i64 p15 h6 fun n16 =>
 ixS s1_ 1 n16 fun p17 =>
 ldI .i64 p17 h6 fun n18 =>
 ixA p4 4 1 (3) fun p19 =>
 ldI .i64 p19 h6 fun n20 =>
 ixS s1_ 1 n20 fun p21 =>
 ldI .i64 p21 h6 fun n22 =>
 lenA [.int .i64 n10, .int .i64 n14, .int .i64 n18, .int .i64 n22] 4 (
 newS 1 4 (spl [.int .i64 (0), .int .i64 (0), .int .i64 (0), .int .i64 (0)] 0 4 [.int .i64 n10, .int .i64 n14, .int .i64 n18, .int .i64 n22]) h6 fun s23 h24 =>
 app s5_ s23 4 h24 fun s25 h26 =>
 X0 (spec_l01Renamed_e0 s1_ p2_ p4_ s25 (w64 (i6_ + (1)))) h26))
 else
 spec_l01Renamed_C0 S K p2_ p4_ s5_ h)
theorem spec_l01Renamed_link0 (S : SatT) (K : KT) (X0 : XT) (s1_ : Sl) (p2_ p4_ : Pt) (s5_ : Sl) (i6_ : Int) (h : H) : spec_l01Renamed_w0 S K X0 (spec_l01Renamed_e0 s1_ p2_ p4_ s5_ i6_) h = spec_l01Renamed_b0 S K X0 s1_ p2_ p4_ s5_ i6_ h := by kernel_rfl
theorem spec_l01Renamed_rule0 (S : SatT) (K : KT) (s1_ : Sl) (p2_ p4_ : Pt) (I_ : Sl → Int → H → Prop) (m_ : Sl → Int → H → Nat)
    (hs : ∀ (X0 : XT) (s5_ : Sl) (i6_ : Int) (h : H), I_ s5_ i6_ h → (∀ (s5_' : Sl) (i6_' : Int) (h' : H), I_ s5_' i6_' h' → m_ s5_' i6_' h' < m_ s5_ i6_ h → X0 (spec_l01Renamed_e0 s1_ p2_ p4_ s5_' i6_') h') → spec_l01Renamed_b0 S K X0 s1_ p2_ p4_ s5_ i6_ h) (s5_ : Sl) (i6_ : Int) {h : H} (h0 : I_ s5_ i6_ h) : spec_l01Renamed_L0 S K s1_ p2_ p4_ s5_ i6_ h :=
  loop_rule (σ := (Sl) × (Int)) (fun s_ => spec_l01Renamed_e0 s1_ p2_ p4_ (s_.1) (s_.2)) (fun s_ h => I_ (s_.1) (s_.2) h) (fun s_ h => m_ (s_.1) (s_.2) h)
    (fun X s_ h hi hx => (spec_l01Renamed_link0 S K X s1_ p2_ p4_ (s_.1) (s_.2) h).mpr (hs X (s_.1) (s_.2) h hi fun s5_' i6_' h' hi' hm' => hx (s5_', i6_') h' hi' hm')) (s5_, i6_) h0
def spec_l01Renamed_main (S : SatT) (K : KT) (x0 : List AVal) (x1 : Sl) (h : H) : Prop :=
 newK 2 x0 h fun p0 h1 =>
 newO [.int .i64 (0), .sl Sl.nil] h1 fun p2 h3 =>
 newS 0 4 [] h3 fun s4 h5 =>
 spec_l01Renamed_L0 S K x1 p0 p2 s4 (0) h5
theorem spec_l01Renamed_main_link (S : SatT) (K : KT) (x0 : List AVal) (x1 : Sl) (h : H) : cwp S tab spec_l01Renamed_M [] (bodyOf Tryz.f130) (kFun tab Tryz.f130.results.toList K) (fr0 Tryz.f130 [.agg x0, .sl x1]) h = spec_l01Renamed_main S K x0 x1 h := by kernel_rfl
theorem spec_l01Renamed_call (x0 : List AVal) (x1 : Sl) (h : H) (K : List AVal → H → Prop) (hm : spec_l01Renamed_main (Sat Tryz.prog) (fun v h' => ∃ r, v = .agg r ∧ K r h') x0 x1 h) : callA (Sat Tryz.prog) i_spec_l01Renamed [.agg x0, .sl x1] h K := by
  have := Sat.ex tok mixed spec_l01Renamed_M Tryz.func130 (c := bodyOf Tryz.f130) (by kernel_rfl) (calls_of Tryz.func130 (c := bodyOf Tryz.f130) (by kernel_rfl) (by decide)) ((spec_l01Renamed_main_link _ _ x0 x1 h).mpr hm)
  obtain ⟨v, h2, h3, r, rfl, h4⟩ := this; exact ⟨r, h2, h3, h4⟩

/-! ### (loop.example/g01354/impl.Set).isCylinder -/
def impl_Set_isCylinder_M : Nat → List Nat := fun i => bif i == 0 then [1, 2, 7, 8, 9] else []
def impl_Set_isCylinder_ks1 (S : SatT) (K : KT) : Kont := kSeq (cwp S tab impl_Set_isCylinder_M [] (sub [1, 1] (bodyOf Tryz.f112)) (kFun tab (Tryz.f112).results.toList K)) (kFun tab (Tryz.f112).results.toList K)
def impl_Set_isCylinder_e0 (s1_ : Sl) (p2_ : Pt) (s7_ : Sl) (i8_ i9_ : Int) : Frame := [U, .sl s1_, .ptr p2_, U, U, U, U, .sl s7_, .int .i64 i8_, .int .i64 i9_, U, U, U, U, U, U, U, U, U, U, U, U, U, U, U, U, U, U, U, U, U, U, U, U, U, U, U]
def impl_Set_isCylinder_w0 (S : SatT) (K : KT) : (XT) → XT := fun X fr h => cwp S tab impl_Set_isCylinder_M (impl_Set_isCylinder_M 0) (sub [1, 0, 1, 0, 0] (bodyOf Tryz.f112)) (kSeq (fun fr h => X (mask (impl_Set_isCylinder_M 0) fr) h) (kBlk 0 (impl_Set_isCylinder_ks1 S K))) fr h
def impl_Set_isCylinder_L0 (S : SatT) (K : KT) (s1_ : Sl) (p2_ : Pt) (s7_ : Sl) (i8_ i9_ : Int) (h : H) : Prop := loopK (impl_Set_isCylinder_w0 S K) (impl_Set_isCylinder_e0 s1_ p2_ s7_ i8_ i9_) h
def impl_Set_isCylinder_C0 (S : SatT) (K : KT) (s1_ : Sl) (p2_ : Pt) (h : H) : Prop :=
 ldA p2_ 2 h fun cs0 =>
 callB S i_impl_Set_isFilling [.agg cs0, .sl s1_] h fun b2 h1 =>
 K (.bool b2) h1
def impl_Set_isCylinder_b0 (S : SatT) (K : KT) (X0 : XT) (s1_ : Sl) (p2_ : Pt) (s7_ : Sl) (i8_ i9_ : Int) (h : H) : Prop :=
 bif (decide (i9_ < i8_)) then
 ixS s7_ 1 i9_ fun p0 =>
 ldS p0 h fun s1 =>
 isPt p2_ (
 ldS (Pt.add p2_ 1) h fun s2 =>
 ixS s1 1 (w64 ((s1.len : Int) - (1))) fun p3 =>
 ldI .i64 p3 h fun n4 =>
 ixS s2 4 n4 fun p5 =>
 ixA p5 4 1 (2) fun p6 =>
 ldI .i64 p6 h fun n7 =>
 isPt p2_ (
 ldS (Pt.add p2_ 1) h fun s8 =>
 ixS s1 1 (0) fun p9 =>
 ldI .i64 p9 h fun n10 =>
 ixS s8 4 n10 fun p11 =>
 ixA p11 4 1 (0) fun p12 =>
 ldI .i64 p12 h fun n13 =>
 bif (n7 != n13) then
 K (.bool false) h
 else
 X0 (impl_Set_isCylinder_e0 s1_ p2_ s7_ i8_ (w64 (i9_ + (1)))) h))
 else
 impl_Set_isCylinder_C0 S K s1_ p2_ h
theorem impl_Set_isCylinder_link0 (S : SatT) (K : KT) (X0 : XT) (s1_ : Sl) (p2_ : Pt) (s7_ : Sl) (i8_ i9_ : Int) (h : H) : impl_Set_isCylinder_w0 S K X0 (impl_Set_isCylinder_e0 s1_ p2_ s7_ i8_ i9_) h = impl_Set_isCylinder_b0 S K X0 s1_ p2_ s7_ i8_ i9_ h := by kernel_rfl
theorem impl_Set_isCylinder_rule0 (S : SatT) (K : KT) (s1_ : Sl) (p2_ : Pt) (s7_ : Sl) (i8_ : Int) (I_ : Int → H → Prop) (m_ : Int → H → Nat)
    (hs : ∀ (X0 : XT) (i9_ : Int) (h : H), I_ i9_ h → (∀ (i9_' : Int) (h' : H), I_ i9_' h' → m_ i9_' h' < m_ i9_ h → X0 (impl_Set_isCylinder_e0 s1_ p2_ s7_ i8_ i9_') h') → impl_Set_isCylinder_b0 S K X0 s1_ p2_ s7_ i8_ i9_ h) (i9_ : Int) {h : H} (h0 : I_ i9_ h) : impl_Set_isCylinder_L0 S K s1_ p2_ s7_ i8_ i9_ h :=
  loop_rule (σ := (Int)) (fun s_ => impl_Set_isCylinder_e0 s1_ p2_ s7_ i8_ (s_)) (fun s_ h => I_ (s_) h) (fun s_ h => m_ (s_) h)
    (fun X s_ h hi hx => (impl_Set_isCylinder_link0 S K X s1_ p2_ s7_ i8_ (s_) h).mpr (hs X (s_) h hi fun i9_' h' hi' hm' => hx (i9_') h' hi' hm')) (i9_) h0
def impl_Set_isCylinder_main (S : SatT) (K : KT) (x0 : List AVal) (x1 : Sl) (h : H) : Prop :=
 newK 2 x0 h fun p0 h1 =>
 impl_Set_isCylinder_L0 S K x1 p0 x1 (x1.len : Int) (0) h1
theorem impl_Set_isCylinder_main_link (S : SatT) (K : KT) (x0 : List AVal) (x1 : Sl) (h : H) : cwp S tab impl_Set_isCylinder_M [] (bodyOf Tryz.f112) (kFun tab Tryz.f112.results.toList K) (fr0 Tryz.f112 [.agg x0, .sl x1]) h = impl_Set_isCylinder_main S K x0 x1 h := by kernel_rfl
theorem impl_Set_isCylinder_call (x0 : List AVal) (x1 : Sl) (h : H) (K : Bool → H → Prop) (hm : impl_Set_isCylinder_main (Sat Tryz.prog) (fun v h' => ∃ r, v = .bool r ∧ K r h') x0 x1 h) : callB (Sat Tryz.prog) i_impl_Set_isCylinder [.agg x0, .sl x1] h K := by
  have := Sat.ex tok mixed impl_Set_isCylinder_M Tryz.func112 (c := bodyOf Tryz.f112) (by kernel_rfl) (calls_of Tryz.func112 (c := bodyOf Tryz.f112) (by kernel_rfl) (by decide)) ((impl_Set_isCylinder_main_link _ _ x0 x1 h).mpr hm)
  obtain ⟨v, h2, h3, r, rfl, h4⟩ := this; exact ⟨r, h2, h3, h4⟩

/-! ### loop.example/g01354/spec.l01Number -/
def spec_l01Number_M : Nat → List Nat := fun i => bif i == 0 then [0, 3, 4] else []
def spec_l01Number_ks7 (S : SatT) (K : KT) : Kont := kSeq (cwp S tab spec_l01Number_M [] (sub [1, 1, 1, 1] (bodyOf Tryz.f160)) (kFun tab (Tryz.f160).results.toList K)) (kFun tab (Tryz.f160).results.toList K)
def spec_l01Number_e0 (f0_ : AVal) (i3_ i4_ : Int) : Frame := [f0_, U, U, .int .i64 i3_, .int .i64 i4_, U, U, U, U, U, U, U, U, U, U, U, U, U, U, U, U, U, U, U, U, U, U, U, U, U, U, U, U, U, U, U, U, U, U, U, U, U, U, U, U, U, U, U]
def spec_l01Number_w0 (S : SatT) (K : KT) : (XT) → XT := fun X fr h => cwp S tab spec_l01Number_M (spec_l01Number_M 0) (sub [1, 1, 1, 0, 1, 0, 0] (bodyOf Tryz.f160)) (kSeq (fun fr h => X (mask (spec_l01Number_M 0) fr) h) (kBlk 0 (spec_l01Number_ks7 S K))) fr h
def spec_l01Number_L0 (S : SatT) (K : KT) (f0_ : AVal) (i3_ i4_ : Int) (h : H) : Prop := loopK (spec_l01Number_w0 S K) (spec_l01Number_e0 f0_ i3_ i4_) h
def spec_l01Number_C0 (S : SatT) (K : KT) (i3_ : Int) (h : H) : Prop :=
 K (.int .i64 i3_) h
def spec_l01Number_b0 (S : SatT) (K : KT) (X0 : XT) (f0_ : AVal) (i3_ i4_ : Int) (h : H) : Prop :=
 viaStr f0_ fun t0 =>
 bif (decide (i4_ < (t0.size : Int))) then
 viaStr f0_ fun t1 =>
 ixStr t1 i4_ fun n2 =>
 bif (decide (n2 < (48))) then
 K (.int .i64 (-1)) h
 else
 viaStr f0_ fun t3 =>
 ixStr t3 i4_ fun n4 =>
 bif (decide (n4 > (57))) then
 K (.int .i64 (-1)) h
 else
 viaStr f0_ fun t5 =>
 ixStr t5 i4_ fun n6 =>
 X0 (spec_l01Number_e0 f0_ (w64 ((w64 (i3_ * (10))) + (w64 ((IntKind.wrap .u8 (n6 - (48))))))) (w64 (i4_ + (1)))) h
 else
 spec_l01Number_C0 S K i3_ h
theorem spec_l01Number_link0 (S : SatT) (K : KT) (X0 : XT) (f0_ : AVal) (i3_ i4_ : Int) (h : H) : spec_l01Number_w0 S K X0 (spec_l01Number_e0 f0_ i3_ i4_) h = spec_l01Number_b0 S K X0 f0_ i3_ i4_ h := by kernel_rfl
theorem spec_l01Number_rule0 (S : SatT) (K : KT) (f0_ : AVal) (I_ : Int → Int → H → Prop) (m_ : Int → Int → H → Nat)
    (hs : ∀ (X0 : XT) (i3_ i4_ : Int) (h : H), I_ i3_ i4_ h → (∀ (i3_' i4_' : Int) (h' : H), I_ i3_' i4_' h' → m_ i3_' i4_' h' < m_ i3_ i4_ h → X0 (spec_l01Number_e0 f0_ i3_' i4_') h') → spec_l01Number_b0 S K X0 f0_ i3_ i4_ h) (i3_ i4_ : Int) {h : H} (h0 : I_ i3_ i4_ h) : spec_l01Number_L0 S K f0_ i3_ i4_ h :=
  loop_rule (σ := (Int) × (Int)) (fun s_ => spec_l01Number_e0 f0_ (s_.1) (s_.2)) (fun s_ h => I_ (s_.1) (s_.2) h) (fun s_ h => m_ (s_.1) (s_.2) h)
    (fun X s_ h hi hx => (spec_l01Number_link0 S K X f0_ (s_.1) (s_.2) h).mpr (hs X (s_.1) (s_.2) h hi fun i3_' i4_' h' hi' hm' => hx (i3_', i4_') h' hi' hm')) (i3_, i4_) h0
def spec_l01Number_main (S : SatT) (K : KT) (x0 : AVal) (h : H) : Prop :=
 viaStr x0 fun t0 =>
 bif ((t0.size : Int) == (0)) then
 K (.int .i64 (-1)) h
 else
 viaStr x0 fun t1 =>
 bif (decide ((t1.size : Int) > (9))) then
 K (.int .i64 (-1)) h
 else
 viaStr x0 fun t2 =>
 bif (decide ((t2.size : Int) > (1))) then
 viaStr x0 fun t3 =>
 ixStr t3 (0) fun n4 =>
 bif (n4 == (48)) then
 K (.int .i64 (-1)) h
 else
 spec_l01Number_L0 S K x0 (0) (0) h
 else
 spec_l01Number_L0 S K x0 (0) (0) h
theorem spec_l01Number_main_link (S : SatT) (K : KT) (x0 : AVal) (h : H) : cwp S tab spec_l01Number_M [] (bodyOf Tryz.f160) (kFun tab Tryz.f160.results.toList K) (fr0 Tryz.f160 [x0]) h = spec_l01Number_main S K x0 h := by kernel_rfl
theorem spec_l01Number_call (x0 : AVal) (h : H) (K : Int → H → Prop) (hm : spec_l01Number_main (Sat Tryz.prog) (fun v h' => ∃ r, v = .int .i64 r ∧ K r h') x0 h) : callI (Sat Tryz.prog) .i64 i_spec_l01Number [x0] h K := by
  have := Sat.ex tok mixed spec_l01Number_M Tryz.func160 (c := bodyOf Tryz.f160) (by kernel_rfl) (calls_of Tryz.func160 (c := bodyOf Tryz.f160) (by kernel_rfl) (by decide)) ((spec_l01Number_main_link _ _ x0 h).mpr hm)
  obtain ⟨v, h2, h3, r, rfl, h4⟩ := this; exact ⟨r, h2, h3, h4⟩

/-! ### loop.example/g01354/spec.l03Power -/
def spec_l03Power_M : Nat → List Nat := fun i => bif i == 0 then [0, 1, 5] else []
def spec_l03Power_ks2 (S : SatT) (K : KT) : Kont := kSeq (cwp S tab spec_l03Power_M [] (sub [1, 1, 1] (bodyOf Tryz.f122)) (kFun tab (Tryz.f122).results.toList K)) (kFun tab (Tryz.f122).results.toList K)
def spec_l03Power_e0 (i0_ i1_ i5_ : Int) : Frame := [.int .i64 i0_, .int .i64 i1_, U, U, U, .int .i64 i5_, U, U, U, U, U, U, U, U]
def spec_l03Power_w0 (S : SatT) (K : KT) : (XT) → XT := fun X fr h => cwp S tab spec_l03Power_M (spec_l03Power_M 0) (sub [1, 1, 0, 0, 0] (bodyOf Tryz.f122)) (kSeq (fun fr h => X (mask (spec_l03Power_M 0) fr) h) (kBlk 0 (spec_l03Power_ks2 S K))) fr h
def spec_l03Power_L0 (S : SatT) (K : KT) (i0_ i1_ i5_ : Int) (h : H) : Prop := loopK (spec_l03Power_w0 S K) (spec_l03Power_e0 i0_ i1_ i5_) h
def spec_l03Power_C0 (S : SatT) (K : KT) (i5_ : Int) (h : H) : Prop :=
 K (.int .i64 i5_) h
def spec_l03Power_b0 (S : SatT) (K : KT) (X0 : XT) (i0_ i1_ i5_ : Int) (h : H) : Prop :=
 bif (decide (i1_ > (0))) then
 X0 (spec_l03Power_e0 i0_ (w64 (i1_ - (1))) (w64 (i5_ * i0_))) h
 else
 spec_l03Power_C0 S K i5_ h
theorem spec_l03Power_link0 (S : SatT) (K : KT) (X0 : XT) (i0_ i1_ i5_ : Int) (h : H) : spec_l03Power_w0 S K X0 (spec_l03Power_e0 i0_ i1_ i5_) h = spec_l03Power_b0 S K X0 i0_ i1_ i5_ h := by kernel_rfl
theorem spec_l03Power_rule0 (S : SatT) (K : KT) (i0_ : Int) (I_ : Int → Int → H → Prop) (m_ : Int → Int → H → Nat)
    (hs : ∀ (X0 : XT) (i1_ i5_ : Int) (h : H), I_ i1_ i5_ h → (∀ (i1_' i5_' : Int) (h' : H), I_ i1_' i5_' h' → m_ i1_' i5_' h' < m_ i1_ i5_ h → X0 (spec_l03Power_e0 i0_ i1_' i5_') h') → spec_l03Power_b0 S K X0 i0_ i1_ i5_ h) (i1_ i5_ : Int) {h : H} (h0 : I_ i1_ i5_ h) : spec_l03Power_L0 S K i0_ i1_ i5_ h :=
  loop_rule (σ := (Int) × (Int)) (fun s_ => spec_l03Power_e0 i0_ (s_.1) (s_.2)) (fun s_ h => I_ (s_.1) (s_.2) h) (fun s_ h => m_ (s_.1) (s_.2) h)
    (fun X s_ h hi hx => (spec_l03Power_link0 S K X i0_ (s_.1) (s_.2) h).mpr (hs X (s_.1) (s_.2) h hi fun i1_' i5_' h' hi' hm' => hx (i1_', i5_') h' hi' hm')) (i1_, i5_) h0
def spec_l03Power_main (S : SatT) (K : KT) (x0 x1 : Int) (h : H) : Prop :=
 spec_l03Power_L0 S K x0 x1 (1) h
theorem spec_l03Power_main_link (S : SatT) (K : KT) (x0 x1 : Int) (h : H) : cwp S tab spec_l03Power_M [] (bodyOf Tryz.f122) (kFun tab Tryz.f122.results.toList K) (fr0 Tryz.f122 [.int .i64 x0, .int .i64 x1]) h = spec_l03Power_main S K x0 x1 h := by kernel_rfl
theorem spec_l03Power_call (x0 x1 : Int) (h : H) (K : Int → H → Prop) (hm : spec_l03Power_main (Sat Tryz.prog) (fun v h' => ∃ r, v = .int .i64 r ∧ K r h') x0 x1 h) : callI (Sat Tryz.prog) .i64 i_spec_l03Power [.int .i64 x0, .int .i64 x1] h K := by
  have := Sat.ex tok mixed spec_l03Power_M Tryz.func122 (c := bodyOf Tryz.f122) (by kernel_rfl) (calls_of Tryz.func122 (c := bodyOf Tryz.f122) (by kernel_rfl) (by decide)) ((spec_l03Power_main_link _ _ x0 x1 h).mpr hm)
  obtain ⟨v, h2, h3, r, rfl, h4⟩ := this; exact ⟨r, h2, h3, h4⟩

/-! ### loop.example/g01354/spec.l01Small -/
def spec_l01Small_M : Nat → List Nat := fun i => []
def spec_l01Small_main (S : SatT) (K : KT) (x0 : Pt) (h : H) : Prop :=
 newO [.int .i64 (0), .sl Sl.nil] h fun p0 h1 =>
 callI S .i64 i_spec_l01Next [.ptr x0, .int .i64 (3)] h1 fun n3 h2 =>
 bif (n3 == (0)) then
 callS S i_spec_l01Names [] h2 fun s5 h4 =>
 callI S .i64 i_spec_l01Next [.ptr x0, .int .i64 (s5.len : Int)] h4 fun n7 h6 =>
 ixS s5 1 n7 fun p8 =>
 ldV p8 h6 fun v9 =>
 callV S i_spec_l01Named [v9] h6 fun v11 h10 =>
 viaT v11 fun vs12 =>
 exA vs12 0 fun cs13 =>
 viaT v11 fun vs14 =>
 exB vs14 1 fun b15 =>
 newO [.int .i64 (0), .sl Sl.nil] h10 fun p16 h17 =>
 stN p16 2 cs13 h17 fun h18 =>
 ldA p16 2 h18 fun cs19 =>
 isPt p16 (
 ldI .i64 (Pt.add p16 0) h18 fun n20 =>
 callS S i_spec_l01DrawOrder [.ptr x0, .int .i64 n20] h18 fun s22 h21 =>
(range h21 p16.o p16.n p16.off 2 = range h18 p16.o p16.n p16.off 2) ∧ (
 callA S i_spec_l01Renamed [.agg cs19, .sl s22] h21 fun cs24 h23 =>
 stN p0 2 cs24 h23 fun h25 =>
 ldA p0 2 h25 fun cs26 =>
 K (.agg cs26) h25))
 else
 newS 5 1 [.int .i64 (1), .int .i64 (2), .int .i64 (2), .int .i64 (2), .int .i64 (3)] h2 fun s27 h28 =>
 callI S .i64 i_spec_l01Pick [.ptr x0, .sl s27] h28 fun n30 h29 =>
 newS 3 1 [.int .i64 (3), .int .i64 (6), .int .i64 (9)] h29 fun s31 h32 =>
 callI S .i64 i_spec_l01Pick [.ptr x0, .sl s31] h32 fun n34 h33 =>
 callI S .i64 i_spec_l01Next [.ptr x0, .int .i64 n34] h33 fun n36 h35 =>
 callA S i_spec_l01DrawOf [.ptr x0, .int .i64 n30, .int .i64 n36] h35 fun cs38 h37 =>
 stN p0 2 cs38 h37 fun h39 =>
 ldA p0 2 h39 fun cs40 =>
 K (.agg cs40) h39
theorem spec_l01Small_main_link (S : SatT) (K : KT) (x0 : Pt) (h : H) : cwp S tab spec_l01Small_M [] (bodyOf Tryz.f89) (kFun tab Tryz.f89.results.toList K) (fr0 Tryz.f89 [.ptr x0]) h = spec_l01Small_main S K x0 h := by kernel_rfl
theorem spec_l01Small_call (x0 : Pt) (h : H) (K : List AVal → H → Prop) (hm : spec_l01Small_main (Sat Tryz.prog) (fun v h' => ∃ r, v = .agg r ∧ K r h') x0 h) : callA (Sat Tryz.prog) i_spec_l01Small [.ptr x0] h K := by
  have := Sat.ex tok mixed spec_l01Small_M Tryz.func89 (c := bodyOf Tryz.f89) (by kernel_rfl) (calls_of Tryz.func89 (c := bodyOf Tryz.f89) (by kernel_rfl) (by decide)) ((spec_l01Small_main_link _ _ x0 h).mpr hm)
  obtain ⟨v, h2, h3, r, rfl, h4⟩ := this; exact ⟨r, h2, h3, h4⟩

/-! ### loop.example/g01354/spec.l05Size -/
def spec_l05Size_M : Nat → List Nat := fun i => []
def spec_l05Size_main (S : SatT) (K : KT) (x0 : Sl) (h : H) : Prop :=
 newO [.int .i64 (0), .sl Sl.nil] h fun p0 h1 =>
 callP S i_spec_l01From [.sl x0] h1 fun p3 h2 =>
 callA S i_spec_l05Draw [.ptr p3] h2 fun cs5 h4 =>
 callA S i_spec_l01Bad [.ptr p3, .agg cs5] h4 fun cs7 h6 =>
 newO [.int .i64 (0), .sl Sl.nil] h6 fun p8 h9 =>
 stN p8 2 cs7 h9 fun h10 =>
 callI S .i64 i_spec_l01Near [.ptr p3, .int .i64 (3)] h10 fun n12 h11 =>
 newS 6 1 [.int .i64 (1), .int .i64 (2), .int .i64 (2), .int .i64 (3), .int .i64 (3), .int .i64 n12] h11 fun s13 h14 =>
 callI S .i64 i_spec_l01Pick [.ptr p3, .sl s13] h14 fun n16 h15 =>
 callI S .i64 i_spec_l01Near [.ptr p3, .int .i64 (3)] h15 fun n18 h17 =>
 newS 5 1 [.int .i64 (1), .int .i64 (2), .int .i64 (2), .int .i64 (3), .int .i64 n18] h17 fun s19 h20 =>
 callI S .i64 i_spec_l01Pick [.ptr p3, .sl s19] h20 fun n22 h21 =>
 ldA p8 2 h21 fun cs23 =>
 stN p0 2 cs23 h21 fun h24 =>
 ldA p0 2 h24 fun cs25 =>
 K (.tuple [.agg cs25, .int .i64 n16, .int .i64 n22]) h24
theorem spec_l05Size_main_link (S : SatT) (K : KT) (x0 : Sl) (h : H) : cwp S tab spec_l05Size_M [] (bodyOf Tryz.f72) (kFun tab Tryz.f72.results.toList K) (fr0 Tryz.f72 [.sl x0]) h = spec_l05Size_main S K x0 h := by kernel_rfl
theorem spec_l05Size_call (x0 : Sl) (h : H) (K : KT) (hm : spec_l05Size_main (Sat Tryz.prog) (fun v h' => K v h') x0 h) : callV (Sat Tryz.prog) i_spec_l05Size [.sl x0] h K := by
  have := Sat.ex tok mixed spec_l05Size_M Tryz.func72 (c := bodyOf Tryz.f72) (by kernel_rfl) (calls_of Tryz.func72 (c := bodyOf Tryz.f72) (by kernel_rfl) (by decide)) ((spec_l05Size_main_link _ _ x0 h).mpr hm)
  exact this

/-! ### loop.example/g01354/impl.CountTori -/
def impl_CountTori_M : Nat → List Nat := fun i => []
def impl_CountTori_main (S : SatT) (K : KT) (x0 : List AVal) (x1 x2 : Int) (h : H) : Prop :=
 newK 2 x0 h fun p0 h1 =>
 newO [.int .i64 x1] h1 fun p2 h3 =>
 newO [.int .i64 x2] h3 fun p4 h5 =>
 ldA p0 2 h5 fun cs6 =>
 callI S .i64 i_impl_setCode [.agg cs6, .func 84 [.ptr p2, .ptr p4]] h5 fun n8 h7 =>
 bif (n8 != (0)) then
 K (.tuple [.int .i64 (0), .int .i64 n8]) h7
 else
 ldA p0 2 h7 fun cs9 =>
 ldI .i64 p2 h7 fun n10 =>
 ldI .i64 p4 h7 fun n11 =>
 callI S .i64 i_impl_Set_countTori [.agg cs9, .int .i64 n10, .int .i64 n11] h7 fun n13 h12 =>
 K (.tuple [.int .i64 n13, .int .i64 (0)]) h12
theorem impl_CountTori_main_link (S : SatT) (K : KT) (x0 : List AVal) (x1 x2 : Int) (h : H) : cwp S tab impl_CountTori_M [] (bodyOf Tryz.f30) (kFun tab Tryz.f30.results.toList K) (fr0 Tryz.f30 [.agg x0, .int .i64 x1, .int .i64 x2]) h = impl_CountTori_main S K x0 x1 x2 h := by kernel_rfl
theorem impl_CountTori_call (x0 : List AVal) (x1 x2 : Int) (h : H) (K : KT) (hm : impl_CountTori_main (Sat Tryz.prog) (fun v h' => K v h') x0 x1 x2 h) : callV (Sat Tryz.prog) i_impl_CountTori [.agg x0, .int .i64 x1, .int .i64 x2] h K := by
  have := Sat.ex tok mixed impl_CountTori_M Tryz.func30 (c := bodyOf Tryz.f30) (by kernel_rfl) (calls_of Tryz.func30 (c := bodyOf Tryz.f30) (by kernel_rfl) (by decide)) ((impl_CountTori_main_link _ _ x0 x1 x2 h).mpr hm)
  exact this

/-! ### loop.example/g01354/impl.torusCode -/
def impl_torusCode_M : Nat → List Nat := fun i => []
def impl_torusCode_main (S : SatT) (K : KT) (x0 : List AVal) (x1 : Sl) (h : H) : Prop :=
 newK 2 x0 h fun p0 h1 =>
 newO [.sl x1] h1 fun p2 h3 =>
 ldA p0 2 h3 fun cs4 =>
 callI S .i64 i_impl_setCode [.agg cs4, .func 114 [.ptr p0, .ptr p2]] h3 fun n6 h5 =>
 bif (n6 == (0)) then
 ldA p0 2 h5 fun cs7 =>
 ldS p2 h5 fun s8 =>
 callB S i_impl_Set_isTorus [.agg cs7, .sl s8] h5 fun b10 h9 =>
 bif (!b10) then
 K (.int .i64 (5)) h9
 else
 K (.int .i64 n6) h9
 else
 K (.int .i64 n6) h5
theorem impl_torusCode_main_link (S : SatT) (K : KT) (x0 : List AVal) (x1 : Sl) (h : H) : cwp S tab impl_torusCode_M [] (bodyOf Tryz.f69) (kFun tab Tryz.f69.results.toList K) (fr0 Tryz.f69 [.agg x0, .sl x1]) h = impl_torusCode_main S K x0 x1 h := by kernel_rfl
theorem impl_torusCode_call (x0 : List AVal) (x1 : Sl) (h : H) (K : Int → H → Prop) (hm : impl_torusCode_main (Sat Tryz.prog) (fun v h' => ∃ r, v = .int .i64 r ∧ K r h') x0 x1 h) : callI (Sat Tryz.prog) .i64 i_impl_torusCode [.agg x0, .sl x1] h K := by
  have := Sat.ex tok mixed impl_torusCode_M Tryz.func69 (c := bodyOf Tryz.f69) (by kernel_rfl) (calls_of Tryz.func69 (c := bodyOf Tryz.f69) (by kernel_rfl) (by decide)) ((impl_torusCode_main_link _ _ x0 x1 h).mpr hm)
  obtain ⟨v, h2, h3, r, rfl, h4⟩ := this; exact ⟨r, h2, h3, h4⟩

/-! ### loop.example/g01354/spec.DrawLeastForm -/
def spec_DrawLeastForm_M : Nat → List Nat := fun i => []
def spec_DrawLeastForm_main (S : SatT) (K : KT) (x0 : Sl) (h : H) : Prop :=
 newO [.int .i64 (0), .sl Sl.nil] h fun p0 h1 =>
 callP S i_spec_l01From [.sl x0] h1 fun p3 h2 =>
 callV S i_spec_l05With [.ptr p3] h2 fun v5 h4 =>
 viaT v5 fun vs6 =>
 exA vs6 0 fun cs7 =>
 viaT v5 fun vs8 =>
 exS vs8 1 fun s9 =>
 newO [.int .i64 (0), .sl Sl.nil] h4 fun p10 h11 =>
 stN p10 2 cs7 h11 fun h12 =>
 ldA p10 2 h12 fun cs13 =>
 stN p0 2 cs13 h12 fun h14 =>
 ldA p0 2 h14 fun cs15 =>
 K (.tuple [.agg cs15, .sl s9]) h14
theorem spec_DrawLeastForm_main_link (S : SatT) (K : KT) (x0 : Sl) (h : H) : cwp S tab spec_DrawLeastForm_M [] (bodyOf Tryz.f31) (kFun tab Tryz.f31.results.toList K) (fr0 Tryz.f31 [.sl x0]) h = spec_DrawLeastForm_main S K x0 h := by kernel_rfl
theorem spec_DrawLeastForm_call (x0 : Sl) (h : H) (K : KT) (hm : spec_DrawLeastForm_main (Sat Tryz.prog) (fun v h' => K v h') x0 h) : callV (Sat Tryz.prog) i_spec_DrawLeastForm [.sl x0] h K := by
  have := Sat.ex tok mixed spec_DrawLeastForm_M Tryz.func31 (c := bodyOf Tryz.f31) (by kernel_rfl) (calls_of Tryz.func31 (c := bodyOf Tryz.f31) (by kernel_rfl) (by decide)) ((spec_DrawLeastForm_main_link _ _ x0 h).mpr hm)
  exact this

/-! ### loop.example/g01354/spec.l05Given -/
def spec_l05Given_M : Nat → List Nat := fun i => []
def spec_l05Given_main (S : SatT) (K : KT) (x0 : List AVal) (x1 : Sl) (h : H) : Prop :=
 newK 2 x0 h fun p0 h1 =>
 ldA p0 2 h1 fun cs2 =>
 callI S .i64 i_spec_l01Rows [.agg cs2, .sl x1] h1 fun n4 h3 =>
 bif (n4 != (0)) then
 K (.int .i64 n4) h3
 else
 ldA p0 2 h3 fun cs5 =>
 callB S i_spec_l05Torus [.agg cs5, .sl x1] h3 fun b7 h6 =>
 bif (!b7) then
 K (.int .i64 (5)) h6
 else
 K (.int .i64 (0)) h6
theorem spec_l05Given_main_link (S : SatT) (K : KT) (x0 : List AVal) (x1 : Sl) (h : H) : cwp S tab spec_l05Given_M [] (bodyOf Tryz.f66) (kFun tab Tryz.f66.results.toList K) (fr0 Tryz.f66 [.agg x0, .sl x1]) h = spec_l05Given_main S K x0 x1 h := by kernel_rfl
theorem spec_l05Given_call (x0 : List AVal) (x1 : Sl) (h : H) (K : Int → H → Prop) (hm : spec_l05Given_main (Sat Tryz.prog) (fun v h' => ∃ r, v = .int .i64 r ∧ K r h') x0 x1 h) : callI (Sat Tryz.prog) .i64 i_spec_l05Given [.agg x0, .sl x1] h K := by
  have := Sat.ex tok mixed spec_l05Given_M Tryz.func66 (c := bodyOf Tryz.f66) (by kernel_rfl) (calls_of Tryz.func66 (c := bodyOf Tryz.f66) (by kernel_rfl) (by decide)) ((spec_l05Given_main_link _ _ x0 x1 h).mpr hm)
  obtain ⟨v, h2, h3, r, rfl, h4⟩ := this; exact ⟨r, h2, h3, h4⟩

/-! ### loop.example/g01354/impl.leastForm$1 -/
def impl_leastForm_1_M : Nat → List Nat := fun i => []
def impl_leastForm_1_main (S : SatT) (K : KT) (x0 x1 : Int) (x2 : Sl) (x3 : Pt) (h : H) : Prop :=
 ldS x3 h fun s0 =>
 callI S .i64 i_impl_compareRows [.sl x2, .sl s0] h fun n2 h1 =>
 bif (decide (n2 < (0))) then
 st1 x3 (.sl x2) h1 fun h3 =>
 K (.tuple []) h3
 else
 K (.tuple []) h1
theorem impl_leastForm_1_main_link (S : SatT) (K : KT) (x0 x1 : Int) (x2 : Sl) (x3 : Pt) (h : H) : cwp S tab impl_leastForm_1_M [] (bodyOf Tryz.f116) (kFun tab Tryz.f116.results.toList K) (fr0 Tryz.f116 [.int .i64 x0, .int .i64 x1, .sl x2, .ptr x3]) h = impl_leastForm_1_main S K x0 x1 x2 x3 h := by kernel_rfl
theorem impl_leastForm_1_call (x0 x1 : Int) (x2 : Sl) (x3 : Pt) (h : H) (K : KT) (hm : impl_leastForm_1_main (Sat Tryz.prog) (fun v h' => K v h') x0 x1 x2 x3 h) : callV (Sat Tryz.prog) i_impl_leastForm_1 [.int .i64 x0, .int .i64 x1, .sl x2, .ptr x3] h K := by
  have := Sat.ex tok mixed impl_leastForm_1_M Tryz.func116 (c := bodyOf Tryz.f116) (by kernel_rfl) (calls_of Tryz.func116 (c := bodyOf Tryz.f116) (by kernel_rfl) (by decide)) ((impl_leastForm_1_main_link _ _ x0 x1 x2 x3 h).mpr hm)
  exact this

/-! ### loop.example/g01354/impl.compare -/
def impl_compare_M : Nat → List Nat := fun i => []
def impl_compare_main (S : SatT) (K : KT) (x0 x1 : List AVal) (h : H) : Prop :=
 newK 4 x0 h fun p0 h1 =>
 newK 4 x1 h1 fun p2 h3 =>
 cutA p0 4 1 (0) ((4 : Nat) : Int) fun s4 =>
 cutA p2 4 1 (0) ((4 : Nat) : Int) fun s5 =>
 callI S .i64 i_slices_Compare_s_int64_int64_ [.sl s4, .sl s5] h3 fun n7 h6 =>
 K (.int .i64 n7) h6
theorem impl_compare_main_link (S : SatT) (K : KT) (x0 x1 : List AVal) (h : H) : cwp S tab impl_compare_M [] (bodyOf Tryz.f53) (kFun tab Tryz.f53.results.toList K) (fr0 Tryz.f53 [.agg x0, .agg x1]) h = impl_compare_main S K x0 x1 h := by kernel_rfl
theorem impl_compare_call (x0 x1 : List AVal) (h : H) (K : Int → H → Prop) (hm : impl_compare_main (Sat Tryz.prog) (fun v h' => ∃ r, v = .int .i64 r ∧ K r h') x0 x1 h) : callI (Sat Tryz.prog) .i64 i_impl_compare [.agg x0, .agg x1] h K := by
  have := Sat.ex tok mixed impl_compare_M Tryz.func53 (c := bodyOf Tryz.f53) (by kernel_rfl) (calls_of Tryz.func53 (c := bodyOf Tryz.f53) (by kernel_rfl) (by decide)) ((impl_compare_main_link _ _ x0 x1 h).mpr hm)
  obtain ⟨v, h2, h3, r, rfl, h4⟩ := this; exact ⟨r, h2, h3, h4⟩

/-! ### loop.example/g01354/spec.ShiftsKept -/
def spec_ShiftsKept_M : Nat → List Nat := fun i => []
def spec_ShiftsKept_main (S : SatT) (K : KT) (x0 : List AVal) (x1 : Sl) (h : H) : Prop :=
 newK 2 x0 h fun p0 h1 =>
 ldA p0 2 h1 fun cs2 =>
 callI S .i64 i_spec_l05Given [.agg cs2, .sl x1] h1 fun n4 h3 =>
 bif (n4 != (0)) then
 K (.tuple [.sl Sl.nil, .int .i64 n4]) h3
 else
 callS S i_spec_l05Kept [.sl x1] h3 fun s6 h5 =>
 K (.tuple [.sl s6, .int .i64 (0)]) h5
theorem spec_ShiftsKept_main_link (S : SatT) (K : KT) (x0 : List AVal) (x1 : Sl) (h : H) : cwp S tab spec_ShiftsKept_M [] (bodyOf Tryz.f34) (kFun tab Tryz.f34.results.toList K) (fr0 Tryz.f34 [.agg x0, .sl x1]) h = spec_ShiftsKept_main S K x0 x1 h := by kernel_rfl
theorem spec_ShiftsKept_call (x0 : List AVal) (x1 : Sl) (h : H) (K : KT) (hm : spec_ShiftsKept_main (Sat Tryz.prog) (fun v h' => K v h') x0 x1 h) : callV (Sat Tryz.prog) i_spec_ShiftsKept [.agg x0, .sl x1] h K := by
  have := Sat.ex tok mixed spec_ShiftsKept_M Tryz.func34 (c := bodyOf Tryz.f34) (by kernel_rfl) (calls_of Tryz.func34 (c := bodyOf Tryz.f34) (by kernel_rfl) (by decide)) ((spec_ShiftsKept_main_link _ _ x0 x1 h).mpr hm)
  exact this

/-! ### loop.example/g01354/impl.keeping -/
def impl_keeping_M : Nat → List Nat := fun i => []
def impl_keeping_main (S : SatT) (K : KT) (x0 : Sl) (h : H) : Prop :=
 newO [.sl x0] h fun p0 h1 =>
 newS 0 1 [] h1 fun s2 h3 =>
 newO [.sl Sl.nil] h3 fun p4 h5 =>
 st1 p4 (.sl s2) h5 fun h6 =>
 ldS p0 h6 fun s7 =>
 callV S i_impl_shifts [.sl s7, .func 117 [.ptr p0, .ptr p4]] h6 fun v9 h8 =>
 ldS p4 h8 fun s10 =>
 K (.sl s10) h8
theorem impl_keeping_main_link (S : SatT) (K : KT) (x0 : Sl) (h : H) : cwp S tab impl_keeping_M [] (bodyOf Tryz.f71) (kFun tab Tryz.f71.results.toList K) (fr0 Tryz.f71 [.sl x0]) h = impl_keeping_main S K x0 h := by kernel_rfl
theorem impl_keeping_call (x0 : Sl) (h : H) (K : Sl → H → Prop) (hm : impl_keeping_main (Sat Tryz.prog) (fun v h' => ∃ r, v = .sl r ∧ K r h') x0 h) : callS (Sat Tryz.prog) i_impl_keeping [.sl x0] h K := by
  have := Sat.ex tok mixed impl_keeping_M Tryz.func71 (c := bodyOf Tryz.f71) (by kernel_rfl) (calls_of Tryz.func71 (c := bodyOf Tryz.f71) (by kernel_rfl) (by decide)) ((impl_keeping_main_link _ _ x0 h).mpr hm)
  obtain ⟨v, h2, h3, r, rfl, h4⟩ := this; exact ⟨r, h2, h3, h4⟩

/-! ### loop.example/g01354/impl.compareRows$1 -/
def impl_compareRows_1_M : Nat → List Nat := fun i => []
def impl_compareRows_1_main (S : SatT) (K : KT) (x0 x1 : Sl) (h : H) : Prop :=
 callI S .i64 i_slices_Compare_s_int64_int64_ [.sl x0, .sl x1] h fun n1 h0 =>
 K (.int .i64 n1) h0
theorem impl_compareRows_1_main_link (S : SatT) (K : KT) (x0 x1 : Sl) (h : H) : cwp S tab impl_compareRows_1_M [] (bodyOf Tryz.f121) (kFun tab Tryz.f121.results.toList K) (fr0 Tryz.f121 [.sl x0, .sl x1]) h = impl_compareRows_1_main S K x0 x1 h := by kernel_rfl
theorem impl_compareRows_1_call (x0 x1 : Sl) (h : H) (K : Int → H → Prop) (hm : impl_compareRows_1_main (Sat Tryz.prog) (fun v h' => ∃ r, v = .int .i64 r ∧ K r h') x0 x1 h) : callI (Sat Tryz.prog) .i64 i_impl_compareRows_1 [.sl x0, .sl x1] h K := by
  have := Sat.ex tok mixed impl_compareRows_1_M Tryz.func121 (c := bodyOf Tryz.f121) (by kernel_rfl) (calls_of Tryz.func121 (c := bodyOf Tryz.f121) (by kernel_rfl) (by decide)) ((impl_compareRows_1_main_link _ _ x0 x1 h).mpr hm)
  obtain ⟨v, h2, h3, r, rfl, h4⟩ := this; exact ⟨r, h2, h3, h4⟩

/-! ### loop.example/g01354/impl.isTile$1 -/
def impl_isTile_1_M : Nat → List Nat := fun i => []
def impl_isTile_1_main (S : SatT) (K : KT) (x0 : Int) (x1 : Pt) (h : H) : Prop :=
 ldI .i64 x1 h fun n0 =>
 callB S i_impl_within [.int .i64 x0, .int .i64 (0), .int .i64 (w64 (n0 - (1)))] h fun b2 h1 =>
 K (.bool (!b2)) h1
theorem impl_isTile_1_main_link (S : SatT) (K : KT) (x0 : Int) (x1 : Pt) (h : H) : cwp S tab impl_isTile_1_M [] (bodyOf Tryz.f106) (kFun tab Tryz.f106.results.toList K) (fr0 Tryz.f106 [.int .i64 x0, .ptr x1]) h = impl_isTile_1_main S K x0 x1 h := by kernel_rfl
theorem impl_isTile_1_call (x0 : Int) (x1 : Pt) (h : H) (K : Bool → H → Prop) (hm : impl_isTile_1_main (Sat Tryz.prog) (fun v h' => ∃ r, v = .bool r ∧ K r h') x0 x1 h) : callB (Sat Tryz.prog) i_impl_isTile_1 [.int .i64 x0, .ptr x1] h K := by
  have := Sat.ex tok mixed impl_isTile_1_M Tryz.func106 (c := bodyOf Tryz.f106) (by kernel_rfl) (calls_of Tryz.func106 (c := bodyOf Tryz.f106) (by kernel_rfl) (by decide)) ((impl_isTile_1_main_link _ _ x0 x1 h).mpr hm)
  obtain ⟨v, h2, h3, r, rfl, h4⟩ := this; exact ⟨r, h2, h3, h4⟩

/-! ### cmp.isNaN[int64] -/
def cmp_isNaN_int64__M : Nat → List Nat := fun i => []
def cmp_isNaN_int64__main (S : SatT) (K : KT) (x0 : Int) (h : H) : Prop :=
 K (.bool (x0 != x0)) h
theorem cmp_isNaN_int64__main_link (S : SatT) (K : KT) (x0 : Int) (h : H) : cwp S tab cmp_isNaN_int64__M [] (bodyOf Tryz.f158) (kFun tab Tryz.f158.results.toList K) (fr0 Tryz.f158 [.int .i64 x0]) h = cmp_isNaN_int64__main S K x0 h := by kernel_rfl
theorem cmp_isNaN_int64__call (x0 : Int) (h : H) (K : Bool → H → Prop) (hm : cmp_isNaN_int64__main (Sat Tryz.prog) (fun v h' => ∃ r, v = .bool r ∧ K r h') x0 h) : callB (Sat Tryz.prog) i_cmp_isNaN_int64_ [.int .i64 x0] h K := by
  have := Sat.ex tok mixed cmp_isNaN_int64__M Tryz.func158 (c := bodyOf Tryz.f158) (by kernel_rfl) (calls_of Tryz.func158 (c := bodyOf Tryz.f158) (by kernel_rfl) (by decide)) ((cmp_isNaN_int64__main_link _ _ x0 h).mpr hm)
  obtain ⟨v, h2, h3, r, rfl, h4⟩ := this; exact ⟨r, h2, h3, h4⟩

/-! ### loop.example/g01354/spec.l01DrawRows -/
def spec_l01DrawRows_M : Nat → List Nat := fun i => bif i == 4 then [0, 3, 5, 6, 7, 8, 9, 10, 11, 12, 13] else bif i == 2 then [0, 3, 5, 6, 7, 8, 9, 10, 11] else bif i == 0 then [0, 3, 5, 6, 7, 8, 9] else []
def spec_l01DrawRows_ks3 (S : SatT) (K : KT) : Kont := kSeq (cwp S tab spec_l01DrawRows_M [] (sub [1, 1, 1, 1] (bodyOf Tryz.f110)) (kFun tab (Tryz.f110).results.toList K)) (kFun tab (Tryz.f110).results.toList K)
def spec_l01DrawRows_e0 (p0_ p3_ : Pt) (i5_ i6_ : Int) (s7_ : Sl) (i8_ i9_ : Int) : Frame := [.ptr p0_, U, U, .ptr p3_, U, .int .i64 i5_, .int .i64 i6_, .sl s7_, .int .i64 i8_, .int .i64 i9_, U, U, U, U, U, U, U, U, U, U, U, U, U, U, U, U, U, U, U, U, U, U, U, U, U, U, U, U, U, U, U, U, U, U, U, U, U, U, U, U, U, U, U, U, U, U, U, U, U, U, U, U, U, U, U, U, U, U, U, U, U, U, U, U, U, U, U, U, U, U, U, U, U, U, U, U, U, U, U, U, U, U, U, U, U, U, U, U, U, U, U, U, U, U, U, U, U, U, U, U, U, U, U, U, U, U, U, U, U, U, U, U, U, U, U, U, U, U, U]
def spec_l01DrawRows_w0 (S : SatT) (K : KT) : (XT) → XT := fun X fr h => cwp S tab spec_l01DrawRows_M (spec_l01DrawRows_M 0) (sub [1, 1, 1, 0, 1, 0, 0] (bodyOf Tryz.f110)) (kSeq (fun fr h => X (mask (spec_l01DrawRows_M 0) fr) h) (kBlk 0 (spec_l01DrawRows_ks3 S K))) fr h
def spec_l01DrawRows_L0 (S : SatT) (K : KT) (p0_ p3_ : Pt) (i5_ i6_ : Int) (s7_ : Sl) (i8_ i9_ : Int) (h : H) : Prop := loopK (spec_l01DrawRows_w0 S K) (spec_l01DrawRows_e0 p0_ p3_ i5_ i6_ s7_ i8_ i9_) h
def spec_l01DrawRows_ks7 (S : SatT) (K : KT) (X0 : XT) : Kont := kSeq (cwp S tab spec_l01DrawRows_M (spec_l01DrawRows_M 0) (sub [1, 1, 1, 0, 1, 0, 0, 1, 1] (bodyOf Tryz.f110)) (kSeq (fun fr h => X0 (mask (spec_l01DrawRows_M 0) fr) h) (kBlk 0 (spec_l01DrawRows_ks3 S K)))) (kSeq (fun fr h => X0 (mask (spec_l01DrawRows_M 0) fr) h) (kBlk 0 (spec_l01DrawRows_ks3 S K)))
def spec_l01DrawRows_ks9 (S : SatT) (K : KT) (X0 : XT) : Kont := kSeq (cwp S tab spec_l01DrawRows_M (spec_l01DrawRows_M 1) (sub [1, 1, 1, 0, 1, 0, 0, 1, 0, 0, 1, 1] (bodyOf Tryz.f110)) (kBlk 1 (spec_l01DrawRows_ks7 S K X0))) (kBlk 1 (spec_l01DrawRows_ks7 S K X0))
def spec_l01DrawRows_e2 (p0_ p3_ : Pt) (i5_ i6_ : Int) (s7_ : Sl) (i8_ i9_ : Int) (s10_ : Sl) (i11_ : Int) : Frame := [.ptr p0_, U, U, .ptr p3_, U, .int .i64 i5_, .int .i64 i6_, .sl s7_, .int .i64 i8_, .int .i64 i9_, .sl s10_, .int .i64 i11_, U, U, U, U, U, U, U, U, U, U, U, U, U, U, U, U, U, U, U, U, U, U, U, U, U, U, U, U, U, U, U, U, U, U, U, U, U, U, U, U, U, U, U, U, U, U, U, U, U, U, U, U, U, U, U, U, U, U, U, U, U, U, U, U, U, U, U, U, U, U, U, U, U, U, U, U, U, U, U, U, U, U, U, U, U, U, U, U, U, U, U, U, U, U, U, U, U, U, U, U, U, U, U, U, U, U, U, U, U, U, U, U, U, U, U, U, U]
def spec_l01DrawRows_w2 (S : SatT) (K : KT) (X0 : XT) : (XT) → XT := fun X fr h => cwp S tab spec_l01DrawRows_M (spec_l01DrawRows_M 2) (sub [1, 1, 1, 0, 1, 0, 0, 1, 0, 0, 1, 0, 1, 0, 0] (bodyOf Tryz.f110)) (kSeq (fun fr h => X (mask (spec_l01DrawRows_M 2) fr) h) (kBlk 2 (spec_l01DrawRows_ks9 S K X0))) fr h
def spec_l01DrawRows_L2 (S : SatT) (K : KT) (X0 : XT) (p0_ p3_ : Pt) (i5_ i6_ : Int) (s7_ : Sl) (i8_ i9_ : Int) (s10_ : Sl) (i11_ : Int) (h : H) : Prop := loopK (spec_l01DrawRows_w2 S K X0) (spec_l01DrawRows_e2 p0_ p3_ i5_ i6_ s7_ i8_ i9_ s10_ i11_) h
def spec_l01DrawRows_ks13 (S : SatT) (K : KT) (X0 X2 : XT) : Kont := kSeq (cwp S tab spec_l01DrawRows_M (spec_l01DrawRows_M 2) (sub [1, 1, 1, 0, 1, 0, 0, 1, 0, 0, 1, 0, 1, 0, 0, 1, 1] (bodyOf Tryz.f110)) (kSeq (fun fr h => X2 (mask (spec_l01DrawRows_M 2) fr) h) (kBlk 2 (spec_l01DrawRows_ks9 S K X0)))) (kSeq (fun fr h => X2 (mask (spec_l01DrawRows_M 2) fr) h) (kBlk 2 (spec_l01DrawRows_ks9 S K X0)))
def spec_l01DrawRows_ks15 (S : SatT) (K : KT) (X0 X2 : XT) : Kont := kSeq (cwp S tab spec_l01DrawRows_M (spec_l01DrawRows_M 3) (sub [1, 1, 1, 0, 1, 0, 0, 1, 0, 0, 1, 0, 1, 0, 0, 1, 0, 0, 1, 1] (bodyOf Tryz.f110)) (kBlk 3 (spec_l01DrawRows_ks13 S K X0 X2))) (kBlk 3 (spec_l01DrawRows_ks13 S K X0 X2))
def spec_l01DrawRows_e4 (p0_ p3_ : Pt) (i5_ i6_ : Int) (s7_ : Sl) (i8_ i9_ : Int) (s10_ : Sl) (i11_ i12_ i13_ : Int) : Frame := [.ptr p0_, U, U, .ptr p3_, U, .int .i64 i5_, .int .i64 i6_, .sl s7_, .int .i64 i8_, .int .i64 i9_, .sl s10_, .int .i64 i11_, .int .i64 i12_, .int .i64 i13_, U, U, U, U, U, U, U, U, U, U, U, U, U, U, U, U, U, U, U, U, U, U, U, U, U, U, U, U, U, U, U, U, U, U, U, U, U, U, U, U, U, U, U, U, U, U, U, U, U, U, U, U, U, U, U, U, U, U, U, U, U, U, U, U, U, U, U, U, U, U, U, U, U, U, U, U, U, U, U, U, U, U, U, U, U, U, U, U, U, U, U, U, U, U, U, U, U, U, U, U, U, U, U, U, U, U, U, U, U, U, U, U, U, U, U]
def spec_l01DrawRows_w4 (S : SatT) (K : KT) (X0 X2 : XT) : (XT) → XT := fun X fr h => cwp S tab spec_l01DrawRows_M (spec_l01DrawRows_M 4) (sub [1, 1, 1, 0, 1, 0, 0, 1, 0, 0, 1, 0, 1, 0, 0, 1, 0, 0, 1, 0, 1, 0, 0] (bodyOf Tryz.f110)) (kSeq (fun fr h => X (mask (spec_l01DrawRows_M 4) fr) h) (kBlk 4 (spec_l01DrawRows_ks15 S K X0 X2))) fr h
def spec_l01DrawRows_L4 (S : SatT) (K : KT) (X0 X2 : XT) (p0_ p3_ : Pt) (i5_ i6_ : Int) (s7_ : Sl) (i8_ i9_ : Int) (s10_ : Sl) (i11_ i12_ i13_ : Int) (h : H) : Prop := loopK (spec_l01DrawRows_w4 S K X0 X2) (spec_l01DrawRows_e4 p0_ p3_ i5_ i6_ s7_ i8_ i9_ s10_ i11_ i12_ i13_) h
def spec_l01DrawRows_C3 (S : SatT) (K : KT) (X0 X2 : XT) (p0_ p3_ : Pt) (i5_ i6_ : Int) (s7_ : Sl) (i8_ i9_ : Int) (s10_ : Sl) (i11_ : Int) (h : H) : Prop :=
 X2 (spec_l01DrawRows_e2 p0_ p3_ i5_ i6_ s7_ i8_ i9_ s10_ (w64 (i11_ + (1)))) h
def spec_l01DrawRows_C4 (S : SatT) (K : KT) (X0 X2 : XT) (p0_ p3_ : Pt) (i5_ i6_ : Int) (s7_ : Sl) (i8_ i9_ : Int) (s10_ : Sl) (i11_ i12_ : Int) (h : H) : Prop :=
 newS 1 1 [.int .i64 i12_] h fun s0 h1 =>
 app s10_ s0 1 h1 fun s2 h3 =>
 spec_l01DrawRows_C3 S K X0 X2 p0_ p3_ i5_ i6_ s7_ i8_ i9_ s2 i11_ h3
def spec_l01DrawRows_b4 (S : SatT) (K : KT) (X0 X2 X4 : XT) (p0_ p3_ : Pt) (i5_ i6_ : Int) (s7_ : Sl) (i8_ i9_ : Int) (s10_ : Sl) (i11_ i12_ i13_ : Int) (h : H) : Prop :=
 bif (decide (i13_ < i8_)) then
 nz i8_ (
 bif (i11_ == (0)) then
 bif (i9_ == (0)) then
 spec_l01DrawRows_C4 S K X0 X2 p0_ p3_ i5_ i6_ s7_ i8_ i9_ s10_ i11_ (Int.tmod (w64 (i12_ + i13_)) i8_) h
 else
 isPt p3_ (
 ldS (Pt.add p3_ 1) h fun s0 =>
 ixS s7_ 1 (w64 (i9_ - (1))) fun p1 =>
 ldS p1 h fun s2 =>
 ixS s2 1 i11_ fun p3 =>
 ldI .i64 p3 h fun n4 =>
 ixS s0 4 n4 fun p5 =>
 ixA p5 4 1 (3) fun p6 =>
 ldI .i64 p6 h fun n7 =>
 isPt p3_ (
 ldS (Pt.add p3_ 1) h fun s8 =>
 ixS s8 4 (Int.tmod (w64 (i12_ + i13_)) i8_) fun p9 =>
 ixA p9 4 1 (1) fun p10 =>
 ldI .i64 p10 h fun n11 =>
 bif (n7 == n11) then
 spec_l01DrawRows_C4 S K X0 X2 p0_ p3_ i5_ i6_ s7_ i8_ i9_ s10_ i11_ (Int.tmod (w64 (i12_ + i13_)) i8_) h
 else
 X4 (spec_l01DrawRows_e4 p0_ p3_ i5_ i6_ s7_ i8_ i9_ s10_ i11_ i12_ (w64 (i13_ + (1)))) h))
 else
 isPt p3_ (
 ldS (Pt.add p3_ 1) h fun s12 =>
 ixS s10_ 1 (w64 (i11_ - (1))) fun p13 =>
 ldI .i64 p13 h fun n14 =>
 ixS s12 4 n14 fun p15 =>
 ixA p15 4 1 (2) fun p16 =>
 ldI .i64 p16 h fun n17 =>
 isPt p3_ (
 ldS (Pt.add p3_ 1) h fun s18 =>
 ixS s18 4 (Int.tmod (w64 (i12_ + i13_)) i8_) fun p19 =>
 ixA p19 4 1 (0) fun p20 =>
 ldI .i64 p20 h fun n21 =>
 bif (n17 == n21) then
 bif (i9_ == (0)) then
 spec_l01DrawRows_C4 S K X0 X2 p0_ p3_ i5_ i6_ s7_ i8_ i9_ s10_ i11_ (Int.tmod (w64 (i12_ + i13_)) i8_) h
 else
 isPt p3_ (
 ldS (Pt.add p3_ 1) h fun s22 =>
 ixS s7_ 1 (w64 (i9_ - (1))) fun p23 =>
 ldS p23 h fun s24 =>
 ixS s24 1 i11_ fun p25 =>
 ldI .i64 p25 h fun n26 =>
 ixS s22 4 n26 fun p27 =>
 ixA p27 4 1 (3) fun p28 =>
 ldI .i64 p28 h fun n29 =>
 isPt p3_ (
 ldS (Pt.add p3_ 1) h fun s30 =>
 ixS s30 4 (Int.tmod (w64 (i12_ + i13_)) i8_) fun p31 =>
 ixA p31 4 1 (1) fun p32 =>
 ldI .i64 p32 h fun n33 =>
 bif (n29 == n33) then
 spec_l01DrawRows_C4 S K X0 X2 p0_ p3_ i5_ i6_ s7_ i8_ i9_ s10_ i11_ (Int.tmod (w64 (i12_ + i13_)) i8_) h
 else
 X4 (spec_l01DrawRows_e4 p0_ p3_ i5_ i6_ s7_ i8_ i9_ s10_ i11_ i12_ (w64 (i13_ + (1)))) h))
 else
 X4 (spec_l01DrawRows_e4 p0_ p3_ i5_ i6_ s7_ i8_ i9_ s10_ i11_ i12_ (w64 (i13_ + (1)))) h)))
 else
 spec_l01DrawRows_C4 S K X0 X2 p0_ p3_ i5_ i6_ s7_ i8_ i9_ s10_ i11_ i12_ h
theorem spec_l01DrawRows_link4 (S : SatT) (K : KT) (X0 X2 X4 : XT) (p0_ p3_ : Pt) (i5_ i6_ : Int) (s7_ : Sl) (i8_ i9_ : Int) (s10_ : Sl) (i11_ i12_ i13_ : Int) (h : H) : spec_l01DrawRows_w4 S K X0 X2 X4 (spec_l01DrawRows_e4 p0_ p3_ i5_ i6_ s7_ i8_ i9_ s10_ i11_ i12_ i13_) h = spec_l01DrawRows_b4 S K X0 X2 X4 p0_ p3_ i5_ i6_ s7_ i8_ i9_ s10_ i11_ i12_ i13_ h := by kernel_rfl
theorem spec_l01DrawRows_rule4 (S : SatT) (K : KT) (X0 X2 : XT) (p0_ p3_ : Pt) (i5_ i6_ : Int) (s7_ : Sl) (i8_ i9_ : Int) (s10_ : Sl) (i11_ : Int) (I_ : Int → Int → H → Prop) (m_ : Int → Int → H → Nat)
    (hs : ∀ (X4 : XT) (i12_ i13_ : Int) (h : H), I_ i12_ i13_ h → (∀ (i12_' i13_' : Int) (h' : H), I_ i12_' i13_' h' → m_ i12_' i13_' h' < m_ i12_ i13_ h → X4 (spec_l01DrawRows_e4 p0_ p3_ i5_ i6_ s7_ i8_ i9_ s10_ i11_ i12_' i13_') h') → spec_l01DrawRows_b4 S K X0 X2 X4 p0_ p3_ i5_ i6_ s7_ i8_ i9_ s10_ i11_ i12_ i13_ h) (i12_ i13_ : Int) {h : H} (h0 : I_ i12_ i13_ h) : spec_l01DrawRows_L4 S K X0 X2 p0_ p3_ i5_ i6_ s7_ i8_ i9_ s10_ i11_ i12_ i13_ h :=
  loop_rule (σ := (Int) × (Int)) (fun s_ => spec_l01DrawRows_e4 p0_ p3_ i5_ i6_ s7_ i8_ i9_ s10_ i11_ (s_.1) (s_.2)) (fun s_ h => I_ (s_.1) (s_.2) h) (fun s_ h => m_ (s_.1) (s_.2) h)
    (fun X s_ h hi hx => (spec_l01DrawRows_link4 S K X0 X2 X p0_ p3_ i5_ i6_ s7_ i8_ i9_ s10_ i11_ (s_.1) (s_.2) h).mpr (hs X (s_.1) (s_.2) h hi fun i12_' i13_' h' hi' hm' => hx (i12_', i13_') h' hi' hm')) (i12_, i13_) h0
def spec_l01DrawRows_C1 (S : SatT) (K : KT) (X0 : XT) (p0_ p3_ : Pt) (i5_ i6_ : Int) (s7_ : Sl) (i8_ i9_ : Int) (h : H) : Prop :=
 X0 (spec_l01DrawRows_e0 p0_ p3_ i5_ i6_ s7_ i8_ (w64 (i9_ + (1)))) h
def spec_l01DrawRows_C2 (S : SatT) (K : KT) (X0 : XT) (p0_ p3_ : Pt) (i5_ i6_ : Int) (s7_ : Sl) (i8_ i9_ : Int) (s10_ : Sl) (h : H) : Prop :=
 newS 1 1 [.sl s10_] h fun s0 h1 =>
 app s7_ s0 1 h1 fun s2 h3 =>
 spec_l01DrawRows_C1 S K X0 p0_ p3_ i5_ i6_ s2 i8_ i9_ h3
def spec_l01DrawRows_b2 (S : SatT) (K : KT) (X0 X2 : XT) (p0_ p3_ : Pt) (i5_ i6_ : Int) (s7_ : Sl) (i8_ i9_ : Int) (s10_ : Sl) (i11_ : Int) (h : H) : Prop :=
 bif (decide (i11_ < i6_)) then
 callI S .i64 i_spec_l01Next [.ptr p0_, .int .i64 i8_] h fun n1 h0 =>
 spec_l01DrawRows_L4 S K X0 X2 p0_ p3_ i5_ i6_ s7_ i8_ i9_ s10_ i11_ n1 (0) h0
 else
 spec_l01DrawRows_C2 S K X0 p0_ p3_ i5_ i6_ s7_ i8_ i9_ s10_ h
theorem spec_l01DrawRows_link2 (S : SatT) (K : KT) (X0 X2 : XT) (p0_ p3_ : Pt) (i5_ i6_ : Int) (s7_ : Sl) (i8_ i9_ : Int) (s10_ : Sl) (i11_ : Int) (h : H) : spec_l01DrawRows_w2 S K X0 X2 (spec_l01DrawRows_e2 p0_ p3_ i5_ i6_ s7_ i8_ i9_ s10_ i11_) h = spec_l01DrawRows_b2 S K X0 X2 p0_ p3_ i5_ i6_ s7_ i8_ i9_ s10_ i11_ h := by kernel_rfl
theorem spec_l01DrawRows_rule2 (S : SatT) (K : KT) (X0 : XT) (p0_ p3_ : Pt) (i5_ i6_ : Int) (s7_ : Sl) (i8_ i9_ : Int) (I_ : Sl → Int → H → Prop) (m_ : Sl → Int → H → Nat)
    (hs : ∀ (X2 : XT) (s10_ : Sl) (i11_ : Int) (h : H), I_ s10_ i11_ h → (∀ (s10_' : Sl) (i11_' : Int) (h' : H), I_ s10_' i11_' h' → m_ s10_' i11_' h' < m_ s10_ i11_ h → X2 (spec_l01DrawRows_e2 p0_ p3_ i5_ i6_ s7_ i8_ i9_ s10_' i11_') h') → spec_l01DrawRows_b2 S K X0 X2 p0_ p3_ i5_ i6_ s7_ i8_ i9_ s10_ i11_ h) (s10_ : Sl) (i11_ : Int) {h : H} (h0 : I_ s10_ i11_ h) : spec_l01DrawRows_L2 S K X0 p0_ p3_ i5_ i6_ s7_ i8_ i9_ s10_ i11_ h :=
  loop_rule (σ := (Sl) × (Int)) (fun s_ => spec_l01DrawRows_e2 p0_ p3_ i5_ i6_ s7_ i8_ i9_ (s_.1) (s_.2)) (fun s_ h => I_ (s_.1) (s_.2) h) (fun s_ h => m_ (s_.1) (s_.2) h)
    (fun X s_ h hi hx => (spec_l01DrawRows_link2 S K X0 X p0_ p3_ i5_ i6_ s7_ i8_ i9_ (s_.1) (s_.2) h).mpr (hs X (s_.1) (s_.2) h hi fun s10_' i11_' h' hi' hm' => hx (s10_', i11_') h' hi' hm')) (s10_, i11_) h0
def spec_l01DrawRows_C0 (S : SatT) (K : KT) (p0_ : Pt) (s7_ : Sl) (i8_ : Int) (h : H) : Prop :=
 callI S .i64 i_spec_l01Next [.ptr p0_, .int .i64 (24)] h fun n1 h0 =>
 bif (n1 == (0)) then
 newS 0 1 [] h0 fun s2 h3 =>
 newS 1 1 [.sl s2] h3 fun s4 h5 =>
 app s7_ s4 1 h5 fun s6 h7 =>
 K (.sl s6) h7
 else
 bif (n1 == (1)) then
 ixS s7_ 1 (0) fun p8 =>
 ldS p8 h0 fun s9 =>
 newS 2 1 [.int .i64 (-1), .int .i64 i8_] h0 fun s10 h11 =>
 callI S .i64 i_spec_l01Pick [.ptr p0_, .sl s10] h11 fun n13 h12 =>
 ixS s9 1 (0) fun p14 =>
 st1 p14 (.int .i64 n13) h12 fun h15 =>
 K (.sl s7_) h15
 else
 bif (n1 == (2)) then
 newS 0 1 [] h0 fun s16 h17 =>
 K (.sl s16) h17
 else
 K (.sl s7_) h0
def spec_l01DrawRows_b0 (S : SatT) (K : KT) (X0 : XT) (p0_ p3_ : Pt) (i5_ i6_ : Int) (s7_ : Sl) (i8_ i9_ : Int) (h : H) : Prop :=
 bif (decide (i9_ < i5_)) then
 newS 0 1 [] h fun s0 h1 =>
 spec_l01DrawRows_L2 S K X0 p0_ p3_ i5_ i6_ s7_ i8_ i9_ s0 (0) h1
 else
 spec_l01DrawRows_C0 S K p0_ s7_ i8_ h
theorem spec_l01DrawRows_link0 (S : SatT) (K : KT) (X0 : XT) (p0_ p3_ : Pt) (i5_ i6_ : Int) (s7_ : Sl) (i8_ i9_ : Int) (h : H) : spec_l01DrawRows_w0 S K X0 (spec_l01DrawRows_e0 p0_ p3_ i5_ i6_ s7_ i8_ i9_) h = spec_l01DrawRows_b0 S K X0 p0_ p3_ i5_ i6_ s7_ i8_ i9_ h := by kernel_rfl
theorem spec_l01DrawRows_rule0 (S : SatT) (K : KT) (p0_ p3_ : Pt) (i5_ i6_ i8_ : Int) (I_ : Sl → Int → H → Prop) (m_ : Sl → Int → H → Nat)
    (hs : ∀ (X0 : XT) (s7_ : Sl) (i9_ : Int) (h : H), I_ s7_ i9_ h → (∀ (s7_' : Sl) (i9_' : Int) (h' : H), I_ s7_' i9_' h' → m_ s7_' i9_' h' < m_ s7_ i9_ h → X0 (spec_l01DrawRows_e0 p0_ p3_ i5_ i6_ s7_' i8_ i9_') h') → spec_l01DrawRows_b0 S K X0 p0_ p3_ i5_ i6_ s7_ i8_ i9_ h) (s7_ : Sl) (i9_ : Int) {h : H} (h0 : I_ s7_ i9_ h) : spec_l01DrawRows_L0 S K p0_ p3_ i5_ i6_ s7_ i8_ i9_ h :=
  loop_rule (σ := (Sl) × (Int)) (fun s_ => spec_l01DrawRows_e0 p0_ p3_ i5_ i6_ (s_.1) i8_ (s_.2)) (fun s_ h => I_ (s_.1) (s_.2) h) (fun s_ h => m_ (s_.1) (s_.2) h)
    (fun X s_ h hi hx => (spec_l01DrawRows_link0 S K X p0_ p3_ i5_ i6_ (s_.1) i8_ (s_.2) h).mpr (hs X (s_.1) (s_.2) h hi fun s7_' i9_' h' hi' hm' => hx (s7_', i9_') h' hi' hm')) (s7_, i9_) h0
def spec_l01DrawRows_main (S : SatT) (K : KT) (x0 : Pt) (x1 : List AVal) (h : H) : Prop :=
 newK 2 x1 h fun p0 h1 =>
 callI S .i64 i_spec_l01Next [.ptr x0, .int .i64 (4)] h1 fun n3 h2 =>
 callI S .i64 i_spec_l01Next [.ptr x0, .int .i64 (4)] h2 fun n5 h4 =>
 newS 0 1 [] h4 fun s6 h7 =>
 isPt p0 (
 ldS (Pt.add p0 1) h7 fun s8 =>
(cell h4 (Pt.add p0 1) = cell h7 (Pt.add p0 1)) ∧ (
 spec_l01DrawRows_L0 S K x0 p0 (w64 ((1) + n3)) (w64 ((1) + n5)) s6 (s8.len : Int) (0) h7))
theorem spec_l01DrawRows_main_link (S : SatT) (K : KT) (x0 : Pt) (x1 : List AVal) (h : H) : cwp S tab spec_l01DrawRows_M [] (bodyOf Tryz.f110) (kFun tab Tryz.f110.results.toList K) (fr0 Tryz.f110 [.ptr x0, .agg x1]) h = spec_l01DrawRows_main S K x0 x1 h := by kernel_rfl
theorem spec_l01DrawRows_call (x0 : Pt) (x1 : List AVal) (h : H) (K : Sl → H → Prop) (hm : spec_l01DrawRows_main (Sat Tryz.prog) (fun v h' => ∃ r, v = .sl r ∧ K r h') x0 x1 h) : callS (Sat Tryz.prog) i_spec_l01DrawRows [.ptr x0, .agg x1] h K := by
  have := Sat.ex tok mixed spec_l01DrawRows_M Tryz.func110 (c := bodyOf Tryz.f110) (by kernel_rfl) (calls_of Tryz.func110 (c := bodyOf Tryz.f110) (by kernel_rfl) (by decide)) ((spec_l01DrawRows_main_link _ _ x0 x1 h).mpr hm)
  obtain ⟨v, h2, h3, r, rfl, h4⟩ := this; exact ⟨r, h2, h3, h4⟩

/-! ### (loop.example/g01354/impl.Set).isFilling -/
def impl_Set_isFilling_M : Nat → List Nat := fun i => bif i == 2 then [1, 2, 5, 6, 9, 10, 11, 16, 17, 18] else bif i == 0 then [1, 2, 9, 10, 11] else []
def impl_Set_isFilling_ks1 (S : SatT) (K : KT) : Kont := kSeq (cwp S tab impl_Set_isFilling_M [] (sub [1, 1] (bodyOf Tryz.f141)) (kFun tab (Tryz.f141).results.toList K)) (kFun tab (Tryz.f141).results.toList K)
def impl_Set_isFilling_e0 (s1_ : Sl) (p2_ : Pt) (s9_ : Sl) (i10_ i11_ : Int) : Frame := [U, .sl s1_, .ptr p2_, U, U, U, U, U, U, .sl s9_, .int .i64 i10_, .int .i64 i11_, U, U, U, U, U, U, U, U, U, U, U, U, U, U, U, U, U, U, U, U, U, U, U, U, U, U, U, U, U, U, U, U, U, U, U, U, U, U, U, U, U, U, U, U, U, U, U, U, U, U, U, U, U, U, U, U, U, U, U, U]
def impl_Set_isFilling_w0 (S : SatT) (K : KT) : (XT) → XT := fun X fr h => cwp S tab impl_Set_isFilling_M (impl_Set_isFilling_M 0) (sub [1, 0, 1, 0, 0] (bodyOf Tryz.f141)) (kSeq (fun fr h => X (mask (impl_Set_isFilling_M 0) fr) h) (kBlk 0 (impl_Set_isFilling_ks1 S K))) fr h
def impl_Set_isFilling_L0 (S : SatT) (K : KT) (s1_ : Sl) (p2_ : Pt) (s9_ : Sl) (i10_ i11_ : Int) (h : H) : Prop := loopK (impl_Set_isFilling_w0 S K) (impl_Set_isFilling_e0 s1_ p2_ s9_ i10_ i11_) h
def impl_Set_isFilling_ks5 (S : SatT) (K : KT) (X0 : XT) : Kont := kSeq (cwp S tab impl_Set_isFilling_M (impl_Set_isFilling_M 0) (sub [1, 0, 1, 0, 0, 1, 1, 1] (bodyOf Tryz.f141)) (kSeq (fun fr h => X0 (mask (impl_Set_isFilling_M 0) fr) h) (kBlk 0 (impl_Set_isFilling_ks1 S K)))) (kSeq (fun fr h => X0 (mask (impl_Set_isFilling_M 0) fr) h) (kBlk 0 (impl_Set_isFilling_ks1 S K)))
def impl_Set_isFilling_e2 (s1_ : Sl) (p2_ : Pt) (i5_ : Int) (s6_ s9_ : Sl) (i10_ i11_ : Int) (s16_ : Sl) (i17_ i18_ : Int) : Frame := [U, .sl s1_, .ptr p2_, U, U, .int .i64 i5_, .sl s6_, U, U, .sl s9_, .int .i64 i10_, .int .i64 i11_, U, U, U, U, .sl s16_, .int .i64 i17_, .int .i64 i18_, U, U, U, U, U, U, U, U, U, U, U, U, U, U, U, U, U, U, U, U, U, U, U, U, U, U, U, U, U, U, U, U, U, U, U, U, U, U, U, U, U, U, U, U, U, U, U, U, U, U, U, U, U]
def impl_Set_isFilling_w2 (S : SatT) (K : KT) (X0 : XT) : (XT) → XT := fun X fr h => cwp S tab impl_Set_isFilling_M (impl_Set_isFilling_M 2) (sub [1, 0, 1, 0, 0, 1, 1, 0, 0, 1, 1, 0, 0] (bodyOf Tryz.f141)) (kSeq (fun fr h => X (mask (impl_Set_isFilling_M 2) fr) h) (kBlk 2 (kBlk 1 (impl_Set_isFilling_ks5 S K X0)))) fr h
def impl_Set_isFilling_L2 (S : SatT) (K : KT) (X0 : XT) (s1_ : Sl) (p2_ : Pt) (i5_ : Int) (s6_ s9_ : Sl) (i10_ i11_ : Int) (s16_ : Sl) (i17_ i18_ : Int) (h : H) : Prop := loopK (impl_Set_isFilling_w2 S K X0) (impl_Set_isFilling_e2 s1_ p2_ i5_ s6_ s9_ i10_ i11_ s16_ i17_ i18_) h
def impl_Set_isFilling_C1 (S : SatT) (K : KT) (X0 : XT) (s1_ : Sl) (p2_ : Pt) (s9_ : Sl) (i10_ i11_ : Int) (h : H) : Prop :=
 X0 (impl_Set_isFilling_e0 s1_ p2_ s9_ i10_ (w64 (i11_ + (1)))) h
def impl_Set_isFilling_C2 (S : SatT) (K : KT) (X0 : XT) (s1_ : Sl) (p2_ : Pt) (s9_ : Sl) (i10_ i11_ : Int) (h : H) : Prop :=
 impl_Set_isFilling_C1 S K X0 s1_ p2_ s9_ i10_ i11_ h
def impl_Set_isFilling_b2 (S : SatT) (K : KT) (X0 X2 : XT) (s1_ : Sl) (p2_ : Pt) (i5_ : Int) (s6_ s9_ : Sl) (i10_ i11_ : Int) (s16_ : Sl) (i17_ i18_ : Int) (h : H) : Prop :=
 bif (decide (i18_ < i17_)) then
 ixS s16_ 1 i18_ fun p0 =>
 ldI .i64 p0 h fun n1 =>
 bif (decide (i18_ > (0))) then
 isPt p2_ (
 ldS (Pt.add p2_ 1) h fun s2 =>
 ixS s6_ 1 (w64 (i18_ - (1))) fun p3 =>
 ldI .i64 p3 h fun n4 =>
 ixS s2 4 n4 fun p5 =>
 ixA p5 4 1 (2) fun p6 =>
 ldI .i64 p6 h fun n7 =>
 isPt p2_ (
 ldS (Pt.add p2_ 1) h fun s8 =>
 ixS s8 4 n1 fun p9 =>
 ixA p9 4 1 (0) fun p10 =>
 ldI .i64 p10 h fun n11 =>
 bif (n7 != n11) then
 K (.bool false) h
 else
 bif (decide (i5_ > (0))) then
 isPt p2_ (
 ldS (Pt.add p2_ 1) h fun s12 =>
 ixS s1_ 1 (w64 (i5_ - (1))) fun p13 =>
 ldS p13 h fun s14 =>
 ixS s14 1 i18_ fun p15 =>
 ldI .i64 p15 h fun n16 =>
 ixS s12 4 n16 fun p17 =>
 ixA p17 4 1 (3) fun p18 =>
 ldI .i64 p18 h fun n19 =>
 isPt p2_ (
 ldS (Pt.add p2_ 1) h fun s20 =>
 ixS s20 4 n1 fun p21 =>
 ixA p21 4 1 (1) fun p22 =>
 ldI .i64 p22 h fun n23 =>
 bif (n19 != n23) then
 K (.bool false) h
 else
 X2 (impl_Set_isFilling_e2 s1_ p2_ i5_ s6_ s9_ i10_ i11_ s16_ i17_ (w64 (i18_ + (1)))) h))
 else
 X2 (impl_Set_isFilling_e2 s1_ p2_ i5_ s6_ s9_ i10_ i11_ s16_ i17_ (w64 (i18_ + (1)))) h))
 else
 bif (decide (i5_ > (0))) then
 isPt p2_ (
 ldS (Pt.add p2_ 1) h fun s24 =>
 ixS s1_ 1 (w64 (i5_ - (1))) fun p25 =>
 ldS p25 h fun s26 =>
 ixS s26 1 i18_ fun p27 =>
 ldI .i64 p27 h fun n28 =>
 ixS s24 4 n28 fun p29 =>
 ixA p29 4 1 (3) fun p30 =>
 ldI .i64 p30 h fun n31 =>
 isPt p2_ (
 ldS (Pt.add p2_ 1) h fun s32 =>
 ixS s32 4 n1 fun p33 =>
 ixA p33 4 1 (1) fun p34 =>
 ldI .i64 p34 h fun n35 =>
 bif (n31 != n35) then
 K (.bool false) h
 else
 X2 (impl_Set_isFilling_e2 s1_ p2_ i5_ s6_ s9_ i10_ i11_ s16_ i17_ (w64 (i18_ + (1)))) h))
 else
 X2 (impl_Set_isFilling_e2 s1_ p2_ i5_ s6_ s9_ i10_ i11_ s16_ i17_ (w64 (i18_ + (1)))) h
 else
 impl_Set_isFilling_C2 S K X0 s1_ p2_ s9_ i10_ i11_ h
theorem impl_Set_isFilling_link2 (S : SatT) (K : KT) (X0 X2 : XT) (s1_ : Sl) (p2_ : Pt) (i5_ : Int) (s6_ s9_ : Sl) (i10_ i11_ : Int) (s16_ : Sl) (i17_ i18_ : Int) (h : H) : impl_Set_isFilling_w2 S K X0 X2 (impl_Set_isFilling_e2 s1_ p2_ i5_ s6_ s9_ i10_ i11_ s16_ i17_ i18_) h = impl_Set_isFilling_b2 S K X0 X2 s1_ p2_ i5_ s6_ s9_ i10_ i11_ s16_ i17_ i18_ h := by kernel_rfl
theorem impl_Set_isFilling_rule2 (S : SatT) (K : KT) (X0 : XT) (s1_ : Sl) (p2_ : Pt) (i5_ : Int) (s6_ s9_ : Sl) (i10_ i11_ : Int) (s16_ : Sl) (i17_ : Int) (I_ : Int → H → Prop) (m_ : Int → H → Nat)
    (hs : ∀ (X2 : XT) (i18_ : Int) (h : H), I_ i18_ h → (∀ (i18_' : Int) (h' : H), I_ i18_' h' → m_ i18_' h' < m_ i18_ h → X2 (impl_Set_isFilling_e2 s1_ p2_ i5_ s6_ s9_ i10_ i11_ s16_ i17_ i18_') h') → impl_Set_isFilling_b2 S K X0 X2 s1_ p2_ i5_ s6_ s9_ i10_ i11_ s16_ i17_ i18_ h) (i18_ : Int) {h : H} (h0 : I_ i18_ h) : impl_Set_isFilling_L2 S K X0 s1_ p2_ i5_ s6_ s9_ i10_ i11_ s16_ i17_ i18_ h :=
  loop_rule (σ := (Int)) (fun s_ => impl_Set_isFilling_e2 s1_ p2_ i5_ s6_ s9_ i10_ i11_ s16_ i17_ (s_)) (fun s_ h => I_ (s_) h) (fun s_ h => m_ (s_) h)
    (fun X s_ h hi hx => (impl_Set_isFilling_link2 S K X0 X s1_ p2_ i5_ s6_ s9_ i10_ i11_ s16_ i17_ (s_) h).mpr (hs X (s_) h hi fun i18_' h' hi' hm' => hx (i18_') h' hi' hm')) (i18_) h0
def impl_Set_isFilling_C0 (S : SatT) (K : KT) (h : H) : Prop :=
 K (.bool true) h
def impl_Set_isFilling_b0 (S : SatT) (K : KT) (X0 : XT) (s1_ : Sl) (p2_ : Pt) (s9_ : Sl) (i10_ i11_ : Int) (h : H) : Prop :=
 bif (decide (i11_ < i10_)) then
 ixS s9_ 1 i11_ fun p0 =>
 ldS p0 h fun s1 =>
 impl_Set_isFilling_L2 S K X0 s1_ p2_ i11_ s1 s9_ i10_ i11_ s1 (s1.len : Int) (0) h
 else
 impl_Set_isFilling_C0 S K h
theorem impl_Set_isFilling_link0 (S : SatT) (K : KT) (X0 : XT) (s1_ : Sl) (p2_ : Pt) (s9_ : Sl) (i10_ i11_ : Int) (h : H) : impl_Set_isFilling_w0 S K X0 (impl_Set_isFilling_e0 s1_ p2_ s9_ i10_ i11_) h = impl_Set_isFilling_b0 S K X0 s1_ p2_ s9_ i10_ i11_ h := by kernel_rfl
theorem impl_Set_isFilling_rule0 (S : SatT) (K : KT) (s1_ : Sl) (p2_ : Pt) (s9_ : Sl) (i10_ : Int) (I_ : Int → H → Prop) (m_ : Int → H → Nat)
    (hs : ∀ (X0 : XT) (i11_ : Int) (h : H), I_ i11_ h → (∀ (i11_' : Int) (h' : H), I_ i11_' h' → m_ i11_' h' < m_ i11_ h → X0 (impl_Set_isFilling_e0 s1_ p2_ s9_ i10_ i11_') h') → impl_Set_isFilling_b0 S K X0 s1_ p2_ s9_ i10_ i11_ h) (i11_ : Int) {h : H} (h0 : I_ i11_ h) : impl_Set_isFilling_L0 S K s1_ p2_ s9_ i10_ i11_ h :=
  loop_rule (σ := (Int)) (fun s_ => impl_Set_isFilling_e0 s1_ p2_ s9_ i10_ (s_)) (fun s_ h => I_ (s_) h) (fun s_ h => m_ (s_) h)
    (fun X s_ h hi hx => (impl_Set_isFilling_link0 S K X s1_ p2_ s9_ i10_ (s_) h).mpr (hs X (s_) h hi fun i11_' h' hi' hm' => hx (i11_') h' hi' hm')) (i11_) h0
def impl_Set_isFilling_main (S : SatT) (K : KT) (x0 : List AVal) (x1 : Sl) (h : H) : Prop :=
 newK 2 x0 h fun p0 h1 =>
 impl_Set_isFilling_L0 S K x1 p0 x1 (x1.len : Int) (0) h1
theorem impl_Set_isFilling_main_link (S : SatT) (K : KT) (x0 : List AVal) (x1 : Sl) (h : H) : cwp S tab impl_Set_isFilling_M [] (bodyOf Tryz.f141) (kFun tab Tryz.f141.results.toList K) (fr0 Tryz.f141 [.agg x0, .sl x1]) h = impl_Set_isFilling_main S K x0 x1 h := by kernel_rfl
theorem impl_Set_isFilling_call (x0 : List AVal) (x1 : Sl) (h : H) (K : Bool → H → Prop) (hm : impl_Set_isFilling_main (Sat Tryz.prog) (fun v h' => ∃ r, v = .bool r ∧ K r h') x0 x1 h) : callB (Sat Tryz.prog) i_impl_Set_isFilling [.agg x0, .sl x1] h K := by
  have := Sat.ex tok mixed impl_Set_isFilling_M Tryz.func141 (c := bodyOf Tryz.f141) (by kernel_rfl) (calls_of Tryz.func141 (c := bodyOf Tryz.f141) (by kernel_rfl) (by decide)) ((impl_Set_isFilling_main_link _ _ x0 x1 h).mpr hm)
  obtain ⟨v, h2, h3, r, rfl, h4⟩ := this; exact ⟨r, h2, h3, h4⟩

/-! ### loop.example/g01354/spec.l05Kept -/
def spec_l05Kept_M : Nat → List Nat := fun i => bif i == 2 then [0, 3, 4, 5] else bif i == 0 then [0, 3, 4] else []
def spec_l05Kept_ks2 (S : SatT) (K : KT) : Kont := kSeq (cwp S tab spec_l05Kept_M [] (sub [1, 1, 1] (bodyOf Tryz.f86)) (kFun tab (Tryz.f86).results.toList K)) (kFun tab (Tryz.f86).results.toList K)
def spec_l05Kept_e0 (s0_ s3_ : Sl) (i4_ : Int) : Frame := [.sl s0_, U, U, .sl s3_, .int .i64 i4_, U, U, U, U, U, U, U, U, U, U, U, U, U, U, U, U, U, U, U, U, U, U, U, U, U, U, U, U, U, U, U, U, U, U, U, U, U, U]
def spec_l05Kept_w0 (S : SatT) (K : KT) : (XT) → XT := fun X fr h => cwp S tab spec_l05Kept_M (spec_l05Kept_M 0) (sub [1, 1, 0, 1, 0, 0] (bodyOf Tryz.f86)) (kSeq (fun fr h => X (mask (spec_l05Kept_M 0) fr) h) (kBlk 0 (spec_l05Kept_ks2 S K))) fr h
def spec_l05Kept_L0 (S : SatT) (K : KT) (s0_ s3_ : Sl) (i4_ : Int) (h : H) : Prop := loopK (spec_l05Kept_w0 S K) (spec_l05Kept_e0 s0_ s3_ i4_) h
def spec_l05Kept_ks6 (S : SatT) (K : KT) (X0 : XT) : Kont := kSeq (cwp S tab spec_l05Kept_M (spec_l05Kept_M 0) (sub [1, 1, 0, 1, 0, 0, 1, 1] (bodyOf Tryz.f86)) (kSeq (fun fr h => X0 (mask (spec_l05Kept_M 0) fr) h) (kBlk 0 (spec_l05Kept_ks2 S K)))) (kSeq (fun fr h => X0 (mask (spec_l05Kept_M 0) fr) h) (kBlk 0 (spec_l05Kept_ks2 S K)))
def spec_l05Kept_e2 (s0_ s3_ : Sl) (i4_ i5_ : Int) : Frame := [.sl s0_, U, U, .sl s3_, .int .i64 i4_, .int .i64 i5_, U, U, U, U, U, U, U, U, U, U, U, U, U, U, U, U, U, U, U, U, U, U, U, U, U, U, U, U, U, U, U, U, U, U, U, U, U]
def spec_l05Kept_w2 (S : SatT) (K : KT) (X0 : XT) : (XT) → XT := fun X fr h => cwp S tab spec_l05Kept_M (spec_l05Kept_M 2) (sub [1, 1, 0, 1, 0, 0, 1, 0, 0, 1, 0, 0] (bodyOf Tryz.f86)) (kSeq (fun fr h => X (mask (spec_l05Kept_M 2) fr) h) (kBlk 2 (kBlk 1 (spec_l05Kept_ks6 S K X0)))) fr h
def spec_l05Kept_L2 (S : SatT) (K : KT) (X0 : XT) (s0_ s3_ : Sl) (i4_ i5_ : Int) (h : H) : Prop := loopK (spec_l05Kept_w2 S K X0) (spec_l05Kept_e2 s0_ s3_ i4_ i5_) h
def spec_l05Kept_C1 (S : SatT) (K : KT) (X0 : XT) (s0_ s3_ : Sl) (i4_ : Int) (h : H) : Prop :=
 X0 (spec_l05Kept_e0 s0_ s3_ (w64 (i4_ + (1)))) h
def spec_l05Kept_C2 (S : SatT) (K : KT) (X0 : XT) (s0_ s3_ : Sl) (i4_ : Int) (h : H) : Prop :=
 spec_l05Kept_C1 S K X0 s0_ s3_ i4_ h
def spec_l05Kept_b2 (S : SatT) (K : KT) (X0 X2 : XT) (s0_ s3_ : Sl) (i4_ i5_ : Int) (h : H) : Prop :=
 ixS s0_ 1 (0) fun p0 =>
 ldS p0 h fun s1 =>
 bif (decide (i5_ < (s1.len : Int))) then
 callS S i_spec_l05Shift [.sl s0_, .int .i64 i4_, .int .i64 i5_] h fun s3 h2 =>
 callB S i_spec_l05Less [.sl s3, .sl s0_] h2 fun b5 h4 =>
 bif (!b5) then
 callB S i_spec_l05Less [.sl s0_, .sl s3] h4 fun b7 h6 =>
 bif (!b7) then
 newS 2 1 [.int .i64 i4_, .int .i64 i5_] h6 fun s8 h9 =>
 newS 1 1 [.sl s8] h9 fun s10 h11 =>
 app s3_ s10 1 h11 fun s12 h13 =>
 X2 (spec_l05Kept_e2 s0_ s12 i4_ (w64 (i5_ + (1)))) h13
 else
 X2 (spec_l05Kept_e2 s0_ s3_ i4_ (w64 (i5_ + (1)))) h6
 else
 X2 (spec_l05Kept_e2 s0_ s3_ i4_ (w64 (i5_ + (1)))) h4
 else
 spec_l05Kept_C2 S K X0 s0_ s3_ i4_ h
theorem spec_l05Kept_link2 (S : SatT) (K : KT) (X0 X2 : XT) (s0_ s3_ : Sl) (i4_ i5_ : Int) (h : H) : spec_l05Kept_w2 S K X0 X2 (spec_l05Kept_e2 s0_ s3_ i4_ i5_) h = spec_l05Kept_b2 S K X0 X2 s0_ s3_ i4_ i5_ h := by kernel_rfl
theorem spec_l05Kept_rule2 (S : SatT) (K : KT) (X0 : XT) (s0_ : Sl) (i4_ : Int) (I_ : Sl → Int → H → Prop) (m_ : Sl → Int → H → Nat)
    (hs : ∀ (X2 : XT) (s3_ : Sl) (i5_ : Int) (h : H), I_ s3_ i5_ h → (∀ (s3_' : Sl) (i5_' : Int) (h' : H), I_ s3_' i5_' h' → m_ s3_' i5_' h' < m_ s3_ i5_ h → X2 (spec_l05Kept_e2 s0_ s3_' i4_ i5_') h') → spec_l05Kept_b2 S K X0 X2 s0_ s3_ i4_ i5_ h) (s3_ : Sl) (i5_ : Int) {h : H} (h0 : I_ s3_ i5_ h) : spec_l05Kept_L2 S K X0 s0_ s3_ i4_ i5_ h :=
  loop_rule (σ := (Sl) × (Int)) (fun s_ => spec_l05Kept_e2 s0_ (s_.1) i4_ (s_.2)) (fun s_ h => I_ (s_.1) (s_.2) h) (fun s_ h => m_ (s_.1) (s_.2) h)
    (fun X s_ h hi hx => (spec_l05Kept_link2 S K X0 X s0_ (s_.1) i4_ (s_.2) h).mpr (hs X (s_.1) (s_.2) h hi fun s3_' i5_' h' hi' hm' => hx (s3_', i5_') h' hi' hm')) (s3_, i5_) h0
def spec_l05Kept_C0 (S : SatT) (K : KT) (s3_ : Sl) (h : H) : Prop :=
 K (.sl s3_) h
def spec_l05Kept_b0 (S : SatT) (K : KT) (X0 : XT) (s0_ s3_ : Sl) (i4_ : Int) (h : H) : Prop :=
 bif (decide (i4_ < (s0_.len : Int))) then
 spec_l05Kept_L2 S K X0 s0_ s3_ i4_ (0) h
 else
 spec_l05Kept_C0 S K s3_ h
theorem spec_l05Kept_link0 (S : SatT) (K : KT) (X0 : XT) (s0_ s3_ : Sl) (i4_ : Int) (h : H) : spec_l05Kept_w0 S K X0 (spec_l05Kept_e0 s0_ s3_ i4_) h = spec_l05Kept_b0 S K X0 s0_ s3_ i4_ h := by kernel_rfl
theorem spec_l05Kept_rule0 (S : SatT) (K : KT) (s0_ : Sl) (I_ : Sl → Int → H → Prop) (m_ : Sl → Int → H → Nat)
    (hs : ∀ (X0 : XT) (s3_ : Sl) (i4_ : Int) (h : H), I_ s3_ i4_ h → (∀ (s3_' : Sl) (i4_' : Int) (h' : H), I_ s3_' i4_' h' → m_ s3_' i4_' h' < m_ s3_ i4_ h → X0 (spec_l05Kept_e0 s0_ s3_' i4_') h') → spec_l05Kept_b0 S K X0 s0_ s3_ i4_ h) (s3_ : Sl) (i4_ : Int) {h : H} (h0 : I_ s3_ i4_ h) : spec_l05Kept_L0 S K s0_ s3_ i4_ h :=
  loop_rule (σ := (Sl) × (Int)) (fun s_ => spec_l05Kept_e0 s0_ (s_.1) (s_.2)) (fun s_ h => I_ (s_.1) (s_.2) h) (fun s_ h => m_ (s_.1) (s_.2) h)
    (fun X s_ h hi hx => (spec_l05Kept_link0 S K X s0_ (s_.1) (s_.2) h).mpr (hs X (s_.1) (s_.2) h hi fun s3_' i4_' h' hi' hm' => hx (s3_', i4_') h' hi' hm')) (s3_, i4_) h0
def spec_l05Kept_main (S : SatT) (K : KT) (x0 : Sl) (h : H) : Prop :=
 newS 0 1 [] h fun s0 h1 =>
 spec_l05Kept_L0 S K x0 s0 (0) h1
theorem spec_l05Kept_main_link (S : SatT) (K : KT) (x0 : Sl) (h : H) : cwp S tab spec_l05Kept_M [] (bodyOf Tryz.f86) (kFun tab Tryz.f86.results.toList K) (fr0 Tryz.f86 [.sl x0]) h = spec_l05Kept_main S K x0 h := by kernel_rfl
theorem spec_l05Kept_call (x0 : Sl) (h : H) (K : Sl → H → Prop) (hm : spec_l05Kept_main (Sat Tryz.prog) (fun v h' => ∃ r, v = .sl r ∧ K r h') x0 h) : callS (Sat Tryz.prog) i_spec_l05Kept [.sl x0] h K := by
  have := Sat.ex tok mixed spec_l05Kept_M Tryz.func86 (c := bodyOf Tryz.f86) (by kernel_rfl) (calls_of Tryz.func86 (c := bodyOf Tryz.f86) (by kernel_rfl) (by decide)) ((spec_l05Kept_main_link _ _ x0 h).mpr hm)
  obtain ⟨v, h2, h3, r, rfl, h4⟩ := this; exact ⟨r, h2, h3, h4⟩

/-! ### loop.example/g01354/spec.l05All -/
def spec_l05All_M : Nat → List Nat := fun i => bif i == 0 then [1, 2, 3, 4, 5, 6, 7, 8, 17, 18] else []
def spec_l05All_ks8 (S : SatT) (K : KT) : Kont := kSeq (cwp S tab spec_l05All_M [] (sub [1, 1, 1, 1] (bodyOf Tryz.f81)) (kFun tab (Tryz.f81).results.toList K)) (kFun tab (Tryz.f81).results.toList K)
def spec_l05All_e0 (s1_ s2_ : Sl) (s3_ s4_ : Sl) (i5_ i6_ i7_ : Int) (p8_ : Pt) (s17_ : Sl) (i18_ : Int) : Frame := [U, .sl s1_, .sl s2_, .sl s3_, .sl s4_, .int .i64 i5_, .int .i64 i6_, .int .i64 i7_, .ptr p8_, U, U, U, U, U, U, U, U, .sl s17_, .int .i64 i18_, U, U, U, U, U, U, U, U, U, U, U, U, U, U, U, U, U, U, U, U, U, U, U, U, U, U, U, U, U, U, U, U, U, U, U, U, U, U, U, U, U, U, U, U, U, U, U, U, U, U, U, U, U, U, U, U, U, U, U, U, U, U, U, U, U, U, U, U, U, U, U, U]
def spec_l05All_w0 (S : SatT) (K : KT) : (XT) → XT := fun X fr h => cwp S tab spec_l05All_M (spec_l05All_M 0) (sub [1, 1, 1, 0, 1, 0, 0] (bodyOf Tryz.f81)) (kSeq (fun fr h => X (mask (spec_l05All_M 0) fr) h) (kBlk 0 (spec_l05All_ks8 S K))) fr h
def spec_l05All_L0 (S : SatT) (K : KT) (s1_ s2_ : Sl) (s3_ s4_ : Sl) (i5_ i6_ i7_ : Int) (p8_ : Pt) (s17_ : Sl) (i18_ : Int) (h : H) : Prop := loopK (spec_l05All_w0 S K) (spec_l05All_e0 s1_ s2_ s3_ s4_ i5_ i6_ i7_ p8_ s17_ i18_) h
def spec_l05All_C0 (S : SatT) (K : KT) (s17_ : Sl) (h : H) : Prop :=
 K (.sl s17_) h
def spec_l05All_b0 (S : SatT) (K : KT) (X0 : XT) (s1_ s2_ : Sl) (s3_ s4_ : Sl) (i5_ i6_ i7_ : Int) (p8_ : Pt) (s17_ : Sl) (i18_ : Int) (h : H) : Prop :=
 bif (decide (i18_ < (s1_.len : Int))) then
 bif ((s4_.len : Int) == (0)) then
 ldA p8_ 2 h fun cs0 =>
 ixS s1_ 1 i18_ fun p1 =>
 ldS p1 h fun s2 =>
 newS 1 1 [.sl s2] h fun s3 h4 =>
(range h4 p8_.o p8_.n p8_.off 2 = range h p8_.o p8_.n p8_.off 2) ∧ (
 ixS s2_ 1 i18_ fun p5 =>
 ldI .i64 p5 h4 fun n6 =>
(cell h p5 = cell h4 p5) ∧ (
 ixS s3_ 1 i18_ fun p7 =>
 ldI .i64 p7 h4 fun n8 =>
(cell h p7 = cell h4 p7) ∧ (
 callS S i_spec_l05All [.agg cs0, .sl s1_, .sl s2_, .sl s3_, .sl s3, .int .i64 n6, .int .i64 n8, .int .i64 (w64 (i7_ - (1)))] h4 fun s10 h9 =>
 app s17_ s10 1 h9 fun s11 h12 =>
 X0 (spec_l05All_e0 s1_ s2_ s3_ s4_ i5_ i6_ i7_ p8_ s11 (w64 (i18_ + (1)))) h12)))
 else
 ixS s2_ 1 i18_ fun p13 =>
 ldI .i64 p13 h fun n14 =>
 bif (n14 == i6_) then
 slotK 24 h fun h15 =>
 ldA p8_ 2 h15 fun cs16 =>
 ixS s1_ 1 i18_ fun p17 =>
 ldS p17 h15 fun s18 =>
 ixS s3_ 1 i18_ fun p19 =>
 ldI .i64 p19 h15 fun n20 =>
 newSat 0 1 [] h15 (h.length + 5) fun s21 h22 =>
(cell h22 p19 = cell h15 p19) ∧ (
(cell h22 p17 = cell h15 p17) ∧ (
(range h22 p8_.o p8_.n p8_.off 2 = range h15 p8_.o p8_.n p8_.off 2) ∧ (
 app s21 s4_ 1 h22 fun s23 h24 =>
(cell h24 p19 = cell h15 p19) ∧ (
(cell h24 p17 = cell h15 p17) ∧ (
(range h24 p8_.o p8_.n p8_.off 2 = range h15 p8_.o p8_.n p8_.off 2) ∧ (
 newSat 1 1 [.sl s18] h24 (h.length + 12) fun s25 h26 =>
(cell h26 p19 = cell h15 p19) ∧ (
(range h26 p8_.o p8_.n p8_.off 2 = range h15 p8_.o p8_.n p8_.off 2) ∧ (
 app s23 s25 1 h26 fun s27 h28 =>
(cell h28 p19 = cell h15 p19) ∧ (
(range h28 p8_.o p8_.n p8_.off 2 = range h15 p8_.o p8_.n p8_.off 2) ∧ (
 callS S i_spec_l05All [.agg cs16, .sl s1_, .sl s2_, .sl s3_, .sl s27, .int .i64 i5_, .int .i64 n20, .int .i64 (w64 (i7_ - (1)))] h28 fun s30 h29 =>
 app s17_ s30 1 h29 fun s31 h32 =>
 X0 (spec_l05All_e0 s1_ s2_ s3_ s4_ i5_ i6_ i7_ p8_ s31 (w64 (i18_ + (1)))) h32))))))))))
 else
 X0 (spec_l05All_e0 s1_ s2_ s3_ s4_ i5_ i6_ i7_ p8_ s17_ (w64 (i18_ + (1)))) h
 else
 spec_l05All_C0 S K s17_ h
theorem spec_l05All_link0 (S : SatT) (K : KT) (X0 : XT) (s1_ s2_ : Sl) (s3_ s4_ : Sl) (i5_ i6_ i7_ : Int) (p8_ : Pt) (s17_ : Sl) (i18_ : Int) (h : H) : spec_l05All_w0 S K X0 (spec_l05All_e0 s1_ s2_ s3_ s4_ i5_ i6_ i7_ p8_ s17_ i18_) h = spec_l05All_b0 S K X0 s1_ s2_ s3_ s4_ i5_ i6_ i7_ p8_ s17_ i18_ h := by kernel_rfl
theorem spec_l05All_rule0 (S : SatT) (K : KT) (s1_ s2_ : Sl) (s3_ s4_ : Sl) (i5_ i6_ i7_ : Int) (p8_ : Pt) (I_ : Sl → Int → H → Prop) (m_ : Sl → Int → H → Nat)
    (hs : ∀ (X0 : XT) (s17_ : Sl) (i18_ : Int) (h : H), I_ s17_ i18_ h → (∀ (s17_' : Sl) (i18_' : Int) (h' : H), I_ s17_' i18_' h' → m_ s17_' i18_' h' < m_ s17_ i18_ h → X0 (spec_l05All_e0 s1_ s2_ s3_ s4_ i5_ i6_ i7_ p8_ s17_' i18_') h') → spec_l05All_b0 S K X0 s1_ s2_ s3_ s4_ i5_ i6_ i7_ p8_ s17_ i18_ h) (s17_ : Sl) (i18_ : Int) {h : H} (h0 : I_ s17_ i18_ h) : spec_l05All_L0 S K s1_ s2_ s3_ s4_ i5_ i6_ i7_ p8_ s17_ i18_ h :=
  loop_rule (σ := (Sl) × (Int)) (fun s_ => spec_l05All_e0 s1_ s2_ s3_ s4_ i5_ i6_ i7_ p8_ (s_.1) (s_.2)) (fun s_ h => I_ (s_.1) (s_.2) h) (fun s_ h => m_ (s_.1) (s_.2) h)
    (fun X s_ h hi hx => (spec_l05All_link0 S K X s1_ s2_ s3_ s4_ i5_ i6_ i7_ p8_ (s_.1) (s_.2) h).mpr (hs X (s_.1) (s_.2) h hi fun s17_' i18_' h' hi' hm' => hx (s17_', i18_') h' hi' hm')) (s17_, i18_) h0
def spec_l05All_main (S : SatT) (K : KT) (x0 : List AVal) (x1 x2 : Sl) (x3 x4 : Sl) (x5 x6 x7 : Int) (h : H) : Prop :=
 newK 2 x0 h fun p0 h1 =>
 bif (x7 == (0)) then
 bif (x6 == x5) then
 newS 1 1 [.sl x4] h1 fun s2 h3 =>
 K (.sl s2) h3
 else
 newS 0 1 [] h1 fun s4 h5 =>
 K (.sl s4) h5
 else
 newS 0 1 [] h1 fun s6 h7 =>
 spec_l05All_L0 S K x1 x2 x3 x4 x5 x6 x7 p0 s6 (0) h7
theorem spec_l05All_main_link (S : SatT) (K : KT) (x0 : List AVal) (x1 x2 : Sl) (x3 x4 : Sl) (x5 x6 x7 : Int) (h : H) : cwp S tab spec_l05All_M [] (bodyOf Tryz.f81) (kFun tab Tryz.f81.results.toList K) (fr0 Tryz.f81 [.agg x0, .sl x1, .sl x2, .sl x3, .sl x4, .int .i64 x5, .int .i64 x6, .int .i64 x7]) h = spec_l05All_main S K x0 x1 x2 x3 x4 x5 x6 x7 h := by kernel_rfl
theorem spec_l05All_call (x0 : List AVal) (x1 x2 : Sl) (x3 x4 : Sl) (x5 x6 x7 : Int) (h : H) (K : Sl → H → Prop) (hm : spec_l05All_main (Sat Tryz.prog) (fun v h' => ∃ r, v = .sl r ∧ K r h') x0 x1 x2 x3 x4 x5 x6 x7 h) : callS (Sat Tryz.prog) i_spec_l05All [.agg x0, .sl x1, .sl x2, .sl x3, .sl x4, .int .i64 x5, .int .i64 x6, .int .i64 x7] h K := by
  have := Sat.ex tok mixed spec_l05All_M Tryz.func81 (c := bodyOf Tryz.f81) (by kernel_rfl) (calls_of Tryz.func81 (c := bodyOf Tryz.f81) (by kernel_rfl) (by decide)) ((spec_l05All_main_link _ _ x0 x1 x2 x3 x4 x5 x6 x7 h).mpr hm)
  obtain ⟨v, h2, h3, r, rfl, h4⟩ := this; exact ⟨r, h2, h3, h4⟩

/-! ### loop.example/g01354/spec.l05With -/
def spec_l05With_M : Nat → List Nat := fun i => bif i == 0 then [0, 2, 4, 5, 8] else []
def spec_l05With_ks6 (S : SatT) (K : KT) : Kont := kSeq (cwp S tab spec_l05With_M [] (sub [1, 1, 1, 1, 1] (bodyOf Tryz.f58)) (kFun tab (Tryz.f58).results.toList K)) (kFun tab (Tryz.f58).results.toList K)
def spec_l05With_e0 (p0_ p2_ p4_ : Pt) (s5_ : Sl) (i8_ : Int) : Frame := [.ptr p0_, U, .ptr p2_, U, .ptr p4_, .sl s5_, U, U, .int .i64 i8_, U, U, U, U, U, U, U, U, U, U, U, U, U, U, U, U, U, U, U, U, U, U, U, U, U, U, U, U, U, U, U, U, U, U, U, U, U, U, U, U, U, U, U, U, U, U, U, U, U, U, U, U, U, U, U, U, U, U, U, U, U, U, U, U, U, U, U, U, U]
def spec_l05With_w0 (S : SatT) (K : KT) : (XT) → XT := fun X fr h => cwp S tab spec_l05With_M (spec_l05With_M 0) (sub [1, 1, 1, 1, 0, 1, 1, 0, 1, 1, 0, 1, 0, 0] (bodyOf Tryz.f58)) (kSeq (fun fr h => X (mask (spec_l05With_M 0) fr) h) (kBlk 0 (spec_l05With_ks6 S K))) fr h
def spec_l05With_L0 (S : SatT) (K : KT) (p0_ p2_ p4_ : Pt) (s5_ : Sl) (i8_ : Int) (h : H) : Prop := loopK (spec_l05With_w0 S K) (spec_l05With_e0 p0_ p2_ p4_ s5_ i8_) h
def spec_l05With_C0 (S : SatT) (K : KT) (p0_ p2_ p4_ : Pt) (s5_ : Sl) (h : H) : Prop :=
 ldA p4_ 2 h fun cs0 =>
 callA S i_spec_l01Bad [.ptr p0_, .agg cs0] h fun cs2 h1 =>
 stN p2_ 2 cs2 h1 fun h3 =>
 ldA p2_ 2 h3 fun cs4 =>
 K (.tuple [.agg cs4, .sl s5_]) h3
def spec_l05With_b0 (S : SatT) (K : KT) (X0 : XT) (p0_ p2_ p4_ : Pt) (s5_ : Sl) (i8_ : Int) (h : H) : Prop :=
 bif (decide (i8_ < (s5_.len : Int))) then
 ixS s5_ 1 i8_ fun p0 =>
 ldS p0 h fun s1 =>
 ixS s5_ 1 i8_ fun p2 =>
 ldS p2 h fun s3 =>
 app s1 s3 1 h fun s4 h5 =>
 ixS s5_ 1 i8_ fun p6 =>
 st1 p6 (.sl s4) h5 fun h7 =>
 X0 (spec_l05With_e0 p0_ p2_ p4_ s5_ (w64 (i8_ + (1)))) h7
 else
 spec_l05With_C0 S K p0_ p2_ p4_ s5_ h
theorem spec_l05With_link0 (S : SatT) (K : KT) (X0 : XT) (p0_ p2_ p4_ : Pt) (s5_ : Sl) (i8_ : Int) (h : H) : spec_l05With_w0 S K X0 (spec_l05With_e0 p0_ p2_ p4_ s5_ i8_) h = spec_l05With_b0 S K X0 p0_ p2_ p4_ s5_ i8_ h := by kernel_rfl
theorem spec_l05With_rule0 (S : SatT) (K : KT) (p0_ p2_ p4_ : Pt) (s5_ : Sl) (I_ : Int → H → Prop) (m_ : Int → H → Nat)
    (hs : ∀ (X0 : XT) (i8_ : Int) (h : H), I_ i8_ h → (∀ (i8_' : Int) (h' : H), I_ i8_' h' → m_ i8_' h' < m_ i8_ h → X0 (spec_l05With_e0 p0_ p2_ p4_ s5_ i8_') h') → spec_l05With_b0 S K X0 p0_ p2_ p4_ s5_ i8_ h) (i8_ : Int) {h : H} (h0 : I_ i8_ h) : spec_l05With_L0 S K p0_ p2_ p4_ s5_ i8_ h :=
  loop_rule (σ := (Int)) (fun s_ => spec_l05With_e0 p0_ p2_ p4_ s5_ (s_)) (fun s_ h => I_ (s_) h) (fun s_ h => m_ (s_) h)
    (fun X s_ h hi hx => (spec_l05With_link0 S K X p0_ p2_ p4_ s5_ (s_) h).mpr (hs X (s_) h hi fun i8_' h' hi' hm' => hx (i8_') h' hi' hm')) (i8_) h0
def spec_l05With_main (S : SatT) (K : KT) (x0 : Pt) (h : H) : Prop :=
 newO [.int .i64 (0), .sl Sl.nil] h fun p0 h1 =>
 callA S i_spec_l05Draw [.ptr x0] h1 fun cs3 h2 =>
 newO [.int .i64 (0), .sl Sl.nil] h2 fun p4 h5 =>
 stN p4 2 cs3 h5 fun h6 =>
 isPt p4 (
 ldS (Pt.add p4 1) h6 fun s7 =>
 bif ((s7.len : Int) == (0)) then
 ldA p4 2 h6 fun cs8 =>
 callA S i_spec_l01Bad [.ptr x0, .agg cs8] h6 fun cs10 h9 =>
 newS 1 1 [.int .i64 (0)] h9 fun s11 h12 =>
 newS 1 1 [.sl s11] h12 fun s13 h14 =>
 stN p0 2 cs10 h14 fun h15 =>
 ldA p0 2 h15 fun cs16 =>
 K (.tuple [.agg cs16, .sl s13]) h15
 else
 newS 0 1 [] h6 fun s17 h18 =>
 slotK 13 h18 fun h19 =>
 ldA p4 2 h19 fun cs20 =>
 newSat 4 1 [.int .i64 (1), .int .i64 (2), .int .i64 (2), .int .i64 (3)] h19 (h18.length + 2) fun s21 h22 =>
(range h22 p4.o p4.n p4.off 2 = range h19 p4.o p4.n p4.off 2) ∧ (
 callI S .i64 i_spec_l01Pick [.ptr x0, .sl s21] h22 fun n24 h23 =>
(range h23 p4.o p4.n p4.off 2 = range h19 p4.o p4.n p4.off 2) ∧ (
 newSat 4 1 [.int .i64 (1), .int .i64 (2), .int .i64 (3), .int .i64 (3)] h23 (h18.length + 5) fun s25 h26 =>
(range h26 p4.o p4.n p4.off 2 = range h19 p4.o p4.n p4.off 2) ∧ (
 callI S .i64 i_spec_l01Pick [.ptr x0, .sl s25] h26 fun n28 h27 =>
(range h27 p4.o p4.n p4.off 2 = range h19 p4.o p4.n p4.off 2) ∧ (
 callV S i_spec_l05First [.agg cs20, .int .i64 n24, .int .i64 n28] h27 fun v30 h29 =>
 viaT v30 fun vs31 =>
 exS vs31 0 fun s32 =>
 viaT v30 fun vs33 =>
 exB vs33 1 fun b34 =>
 bif b34 then
 callI S .i64 i_spec_l01Next [.ptr x0, .int .i64 (6)] h29 fun n36 h35 =>
 bif (decide (n36 > (0))) then
 callI S .i64 i_spec_l01Next [.ptr x0, .int .i64 (s32.len : Int)] h35 fun n38 h37 =>
 ixS s32 1 (0) fun p39 =>
 ldS p39 h37 fun s40 =>
(cell h35 p39 = cell h37 p39) ∧ (
 callI S .i64 i_spec_l01Next [.ptr x0, .int .i64 (s40.len : Int)] h37 fun n42 h41 =>
 callS S i_spec_l05Shift [.sl s32, .int .i64 n38, .int .i64 n42] h41 fun s44 h43 =>
 callI S .i64 i_spec_l01Next [.ptr x0, .int .i64 (4)] h43 fun n46 h45 =>
 bif (n46 == (0)) then
 spec_l05With_L0 S K x0 p0 p4 s44 (0) h45
 else
 ldA p4 2 h45 fun cs47 =>
 callA S i_spec_l01Bad [.ptr x0, .agg cs47] h45 fun cs49 h48 =>
 stN p0 2 cs49 h48 fun h50 =>
 ldA p0 2 h50 fun cs51 =>
 K (.tuple [.agg cs51, .sl s44]) h50)
 else
 ldA p4 2 h35 fun cs52 =>
 callS S i_spec_l01DrawRows [.ptr x0, .agg cs52] h35 fun s54 h53 =>
 ldA p4 2 h53 fun cs55 =>
 callA S i_spec_l01Bad [.ptr x0, .agg cs55] h53 fun cs57 h56 =>
 stN p0 2 cs57 h56 fun h58 =>
 ldA p0 2 h58 fun cs59 =>
 K (.tuple [.agg cs59, .sl s54]) h58
 else
 ldA p4 2 h29 fun cs60 =>
 callS S i_spec_l01DrawRows [.ptr x0, .agg cs60] h29 fun s62 h61 =>
 ldA p4 2 h61 fun cs63 =>
 callA S i_spec_l01Bad [.ptr x0, .agg cs63] h61 fun cs65 h64 =>
 stN p0 2 cs65 h64 fun h66 =>
 ldA p0 2 h66 fun cs67 =>
 K (.tuple [.agg cs67, .sl s62]) h66)))))
theorem spec_l05With_main_link (S : SatT) (K : KT) (x0 : Pt) (h : H) : cwp S tab spec_l05With_M [] (bodyOf Tryz.f58) (kFun tab Tryz.f58.results.toList K) (fr0 Tryz.f58 [.ptr x0]) h = spec_l05With_main S K x0 h := by kernel_rfl
theorem spec_l05With_call (x0 : Pt) (h : H) (K : KT) (hm : spec_l05With_main (Sat Tryz.prog) (fun v h' => K v h') x0 h) : callV (Sat Tryz.prog) i_spec_l05With [.ptr x0] h K := by
  have := Sat.ex tok mixed spec_l05With_M Tryz.func58 (c := bodyOf Tryz.f58) (by kernel_rfl) (calls_of Tryz.func58 (c := bodyOf Tryz.f58) (by kernel_rfl) (by decide)) ((spec_l05With_main_link _ _ x0 h).mpr hm)
  exact this

/-! ### loop.example/g01354/spec.CountForms -/
def spec_CountForms_M : Nat → List Nat := fun i => bif i == 0 then [12, 13, 14] else []
def spec_CountForms_ks10 (S : SatT) (K : KT) : Kont := kSeq (cwp S tab spec_CountForms_M [] (sub [1, 1, 1, 1, 1, 1] (bodyOf Tryz.f29)) (kFun tab (Tryz.f29).results.toList K)) (kFun tab (Tryz.f29).results.toList K)
def spec_CountForms_e0 (s12_ : Sl) (i13_ i14_ : Int) : Frame := [U, U, U, U, U, U, U, U, U, U, U, U, .sl s12_, .int .i64 i13_, .int .i64 i14_, U, U, U, U, U, U, U, U, U, U, U, U, U, U, U, U, U, U, U, U, U, U, U, U, U, U, U, U, U, U, U, U, U, U, U, U, U, U, U, U, U, U, U, U, U, U, U, U]
def spec_CountForms_w0 (S : SatT) (K : KT) : (XT) → XT := fun X fr h => cwp S tab spec_CountForms_M (spec_CountForms_M 0) (sub [1, 1, 1, 1, 1, 0, 1, 0, 0] (bodyOf Tryz.f29)) (kSeq (fun fr h => X (mask (spec_CountForms_M 0) fr) h) (kBlk 0 (spec_CountForms_ks10 S K))) fr h
def spec_CountForms_L0 (S : SatT) (K : KT) (s12_ : Sl) (i13_ i14_ : Int) (h : H) : Prop := loopK (spec_CountForms_w0 S K) (spec_CountForms_e0 s12_ i13_ i14_) h
def spec_CountForms_C0 (S : SatT) (K : KT) (i13_ : Int) (h : H) : Prop :=
 K (.tuple [.int .i64 i13_, .int .i64 (0)]) h
def spec_CountForms_b0 (S : SatT) (K : KT) (X0 : XT) (s12_ : Sl) (i13_ i14_ : Int) (h : H) : Prop :=
 bif (decide (i14_ < (s12_.len : Int))) then
 ixS s12_ 1 i14_ fun p0 =>
 ldS p0 h fun s1 =>
 callS S i_spec_l05Least [.sl s1] h fun s3 h2 =>
 ixS s12_ 1 i14_ fun p4 =>
 ldS p4 h2 fun s5 =>
 callB S i_spec_l05Less [.sl s3, .sl s5] h2 fun b7 h6 =>
 bif (!b7) then
 X0 (spec_CountForms_e0 s12_ (w64 (i13_ + (1))) (w64 (i14_ + (1)))) h6
 else
 X0 (spec_CountForms_e0 s12_ i13_ (w64 (i14_ + (1)))) h6
 else
 spec_CountForms_C0 S K i13_ h
theorem spec_CountForms_link0 (S : SatT) (K : KT) (X0 : XT) (s12_ : Sl) (i13_ i14_ : Int) (h : H) : spec_CountForms_w0 S K X0 (spec_CountForms_e0 s12_ i13_ i14_) h = spec_CountForms_b0 S K X0 s12_ i13_ i14_ h := by kernel_rfl
theorem spec_CountForms_rule0 (S : SatT) (K : KT) (s12_ : Sl) (I_ : Int → Int → H → Prop) (m_ : Int → Int → H → Nat)
    (hs : ∀ (X0 : XT) (i13_ i14_ : Int) (h : H), I_ i13_ i14_ h → (∀ (i13_' i14_' : Int) (h' : H), I_ i13_' i14_' h' → m_ i13_' i14_' h' < m_ i13_ i14_ h → X0 (spec_CountForms_e0 s12_ i13_' i14_') h') → spec_CountForms_b0 S K X0 s12_ i13_ i14_ h) (i13_ i14_ : Int) {h : H} (h0 : I_ i13_ i14_ h) : spec_CountForms_L0 S K s12_ i13_ i14_ h :=
  loop_rule (σ := (Int) × (Int)) (fun s_ => spec_CountForms_e0 s12_ (s_.1) (s_.2)) (fun s_ h => I_ (s_.1) (s_.2) h) (fun s_ h => m_ (s_.1) (s_.2) h)
    (fun X s_ h hi hx => (spec_CountForms_link0 S K X s12_ (s_.1) (s_.2) h).mpr (hs X (s_.1) (s_.2) h hi fun i13_' i14_' h' hi' hm' => hx (i13_', i14_') h' hi' hm')) (i13_, i14_) h0
def spec_CountForms_main (S : SatT) (K : KT) (x0 : List AVal) (x1 x2 : Int) (h : H) : Prop :=
 newK 2 x0 h fun p0 h1 =>
 ldA p0 2 h1 fun cs2 =>
 callI S .i64 i_spec_l05Code [.agg cs2, .int .i64 x1, .int .i64 x2, .int .i64 (3)] h1 fun n4 h3 =>
 bif (n4 != (0)) then
 K (.tuple [.int .i64 (0), .int .i64 n4]) h3
 else
 ldA p0 2 h3 fun cs5 =>
 callI S .i64 i_spec_l05Count [.agg cs5, .int .i64 x1, .int .i64 x2] h3 fun n7 h6 =>
 bif (decide (n7 > (4000))) then
 K (.tuple [.int .i64 (0), .int .i64 (3)]) h6
 else
 ldA p0 2 h6 fun cs8 =>
 callV S i_spec_l05Words [.agg cs8, .int .i64 x2] h6 fun v10 h9 =>
 viaT v10 fun vs11 =>
 exS vs11 0 fun s12 =>
 viaT v10 fun vs13 =>
 exS vs13 1 fun s14 =>
 viaT v10 fun vs15 =>
 exS vs15 2 fun s16 =>
 ldA p0 2 h9 fun cs17 =>
 newS 0 1 [] h9 fun s18 h19 =>
 callS S i_spec_l05All [.agg cs17, .sl s12, .sl s14, .sl s16, .sl s18, .int .i64 (0), .int .i64 (0), .int .i64 x1] h19 fun s21 h20 =>
 spec_CountForms_L0 S K s21 (0) (0) h20
theorem spec_CountForms_main_link (S : SatT) (K : KT) (x0 : List AVal) (x1 x2 : Int) (h : H) : cwp S tab spec_CountForms_M [] (bodyOf Tryz.f29) (kFun tab Tryz.f29.results.toList K) (fr0 Tryz.f29 [.agg x0, .int .i64 x1, .int .i64 x2]) h = spec_CountForms_main S K x0 x1 x2 h := by kernel_rfl
theorem spec_CountForms_call (x0 : List AVal) (x1 x2 : Int) (h : H) (K : KT) (hm : spec_CountForms_main (Sat Tryz.prog) (fun v h' => K v h') x0 x1 x2 h) : callV (Sat Tryz.prog) i_spec_CountForms [.agg x0, .int .i64 x1, .int .i64 x2] h K := by
  have := Sat.ex tok mixed spec_CountForms_M Tryz.func29 (c := bodyOf Tryz.f29) (by kernel_rfl) (calls_of Tryz.func29 (c := bodyOf Tryz.f29) (by kernel_rfl) (by decide)) ((spec_CountForms_main_link _ _ x0 x1 x2 h).mpr hm)
  exact this

/-! ### (loop.example/g01354/impl.Set).isTorus -/
def impl_Set_isTorus_M : Nat → List Nat := fun i => bif i == 0 then [1, 2, 9, 10, 11] else []
def impl_Set_isTorus_ks1 (S : SatT) (K : KT) : Kont := kSeq (cwp S tab impl_Set_isTorus_M [] (sub [1, 1] (bodyOf Tryz.f62)) (kFun tab (Tryz.f62).results.toList K)) (kFun tab (Tryz.f62).results.toList K)
def impl_Set_isTorus_e0 (s1_ : Sl) (p2_ : Pt) (s9_ : Sl) (i10_ i11_ : Int) : Frame := [U, .sl s1_, .ptr p2_, U, U, U, U, U, U, .sl s9_, .int .i64 i10_, .int .i64 i11_, U, U, U, U, U, U, U, U, U, U, U, U, U, U, U, U, U, U, U, U, U, U, U, U, U, U, U, U, U]
def impl_Set_isTorus_w0 (S : SatT) (K : KT) : (XT) → XT := fun X fr h => cwp S tab impl_Set_isTorus_M (impl_Set_isTorus_M 0) (sub [1, 0, 1, 0, 0] (bodyOf Tryz.f62)) (kSeq (fun fr h => X (mask (impl_Set_isTorus_M 0) fr) h) (kBlk 0 (impl_Set_isTorus_ks1 S K))) fr h
def impl_Set_isTorus_L0 (S : SatT) (K : KT) (s1_ : Sl) (p2_ : Pt) (s9_ : Sl) (i10_ i11_ : Int) (h : H) : Prop := loopK (impl_Set_isTorus_w0 S K) (impl_Set_isTorus_e0 s1_ p2_ s9_ i10_ i11_) h
def impl_Set_isTorus_C0 (S : SatT) (K : KT) (s1_ : Sl) (p2_ : Pt) (h : H) : Prop :=
 ldA p2_ 2 h fun cs0 =>
 callB S i_impl_Set_isCylinder [.agg cs0, .sl s1_] h fun b2 h1 =>
 K (.bool b2) h1
def impl_Set_isTorus_b0 (S : SatT) (K : KT) (X0 : XT) (s1_ : Sl) (p2_ : Pt) (s9_ : Sl) (i10_ i11_ : Int) (h : H) : Prop :=
 bif (decide (i11_ < i10_)) then
 ixS s9_ 1 i11_ fun p0 =>
 ldI .i64 p0 h fun n1 =>
 isPt p2_ (
 ldS (Pt.add p2_ 1) h fun s2 =>
 ixS s1_ 1 (w64 ((s1_.len : Int) - (1))) fun p3 =>
 ldS p3 h fun s4 =>
 ixS s4 1 i11_ fun p5 =>
 ldI .i64 p5 h fun n6 =>
 ixS s2 4 n6 fun p7 =>
 ixA p7 4 1 (3) fun p8 =>
 ldI .i64 p8 h fun n9 =>
 isPt p2_ (
 ldS (Pt.add p2_ 1) h fun s10 =>
 ixS s10 4 n1 fun p11 =>
 ixA p11 4 1 (1) fun p12 =>
 ldI .i64 p12 h fun n13 =>
 bif (n9 != n13) then
 K (.bool false) h
 else
 X0 (impl_Set_isTorus_e0 s1_ p2_ s9_ i10_ (w64 (i11_ + (1)))) h))
 else
 impl_Set_isTorus_C0 S K s1_ p2_ h
theorem impl_Set_isTorus_link0 (S : SatT) (K : KT) (X0 : XT) (s1_ : Sl) (p2_ : Pt) (s9_ : Sl) (i10_ i11_ : Int) (h : H) : impl_Set_isTorus_w0 S K X0 (impl_Set_isTorus_e0 s1_ p2_ s9_ i10_ i11_) h = impl_Set_isTorus_b0 S K X0 s1_ p2_ s9_ i10_ i11_ h := by kernel_rfl
theorem impl_Set_isTorus_rule0 (S : SatT) (K : KT) (s1_ : Sl) (p2_ : Pt) (s9_ : Sl) (i10_ : Int) (I_ : Int → H → Prop) (m_ : Int → H → Nat)
    (hs : ∀ (X0 : XT) (i11_ : Int) (h : H), I_ i11_ h → (∀ (i11_' : Int) (h' : H), I_ i11_' h' → m_ i11_' h' < m_ i11_ h → X0 (impl_Set_isTorus_e0 s1_ p2_ s9_ i10_ i11_') h') → impl_Set_isTorus_b0 S K X0 s1_ p2_ s9_ i10_ i11_ h) (i11_ : Int) {h : H} (h0 : I_ i11_ h) : impl_Set_isTorus_L0 S K s1_ p2_ s9_ i10_ i11_ h :=
  loop_rule (σ := (Int)) (fun s_ => impl_Set_isTorus_e0 s1_ p2_ s9_ i10_ (s_)) (fun s_ h => I_ (s_) h) (fun s_ h => m_ (s_) h)
    (fun X s_ h hi hx => (impl_Set_isTorus_link0 S K X s1_ p2_ s9_ i10_ (s_) h).mpr (hs X (s_) h hi fun i11_' h' hi' hm' => hx (i11_') h' hi' hm')) (i11_) h0
def impl_Set_isTorus_main (S : SatT) (K : KT) (x0 : List AVal) (x1 : Sl) (h : H) : Prop :=
 newK 2 x0 h fun p0 h1 =>
 ixS x1 1 (0) fun p2 =>
 ldS p2 h1 fun s3 =>
 impl_Set_isTorus_L0 S K x1 p0 s3 (s3.len : Int) (0) h1
theorem impl_Set_isTorus_main_link (S : SatT) (K : KT) (x0 : List AVal) (x1 : Sl) (h : H) : cwp S tab impl_Set_isTorus_M [] (bodyOf Tryz.f62) (kFun tab Tryz.f62.results.toList K) (fr0 Tryz.f62 [.agg x0, .sl x1]) h = impl_Set_isTorus_main S K x0 x1 h := by kernel_rfl
theorem impl_Set_isTorus_call (x0 : List AVal) (x1 : Sl) (h : H) (K : Bool → H → Prop) (hm : impl_Set_isTorus_main (Sat Tryz.prog) (fun v h' => ∃ r, v = .bool r ∧ K r h') x0 x1 h) : callB (Sat Tryz.prog) i_impl_Set_isTorus [.agg x0, .sl x1] h K := by
  have := Sat.ex tok mixed impl_Set_isTorus_M Tryz.func62 (c := bodyOf Tryz.f62) (by kernel_rfl) (calls_of Tryz.func62 (c := bodyOf Tryz.f62) (by kernel_rfl) (by decide)) ((impl_Set_isTorus_main_link _ _ x0 x1 h).mpr hm)
  obtain ⟨v, h2, h3, r, rfl, h4⟩ := this; exact ⟨r, h2, h3, h4⟩

/-! ### loop.example/g01354/spec.l01DrawOrder -/
def spec_l01DrawOrder_M : Nat → List Nat := fun i => bif i == 0 then [0, 1, 5, 6] else []
def spec_l01DrawOrder_ks2 (S : SatT) (K : KT) : Kont := kSeq (cwp S tab spec_l01DrawOrder_M [] (sub [1, 1, 1] (bodyOf Tryz.f131)) (kFun tab (Tryz.f131).results.toList K)) (kFun tab (Tryz.f131).results.toList K)
def spec_l01DrawOrder_e0 (p0_ : Pt) (i1_ : Int) (s5_ : Sl) (i6_ : Int) : Frame := [.ptr p0_, .int .i64 i1_, U, U, U, .sl s5_, .int .i64 i6_, U, U, U, U, U, U, U, U, U, U, U, U, U, U, U, U, U, U, U, U, U, U, U]
def spec_l01DrawOrder_w0 (S : SatT) (K : KT) : (XT) → XT := fun X fr h => cwp S tab spec_l01DrawOrder_M (spec_l01DrawOrder_M 0) (sub [1, 1, 0, 1, 0, 0] (bodyOf Tryz.f131)) (kSeq (fun fr h => X (mask (spec_l01DrawOrder_M 0) fr) h) (kBlk 0 (spec_l01DrawOrder_ks2 S K))) fr h
def spec_l01DrawOrder_L0 (S : SatT) (K : KT) (p0_ : Pt) (i1_ : Int) (s5_ : Sl) (i6_ : Int) (h : H) : Prop := loopK (spec_l01DrawOrder_w0 S K) (spec_l01DrawOrder_e0 p0_ i1_ s5_ i6_) h
def spec_l01DrawOrder_C0 (S : SatT) (K : KT) (s5_ : Sl) (h : H) : Prop :=
 K (.sl s5_) h
def spec_l01DrawOrder_b0 (S : SatT) (K : KT) (X0 : XT) (p0_ : Pt) (i1_ : Int) (s5_ : Sl) (i6_ : Int) (h : H) : Prop :=
 bif (decide (i6_ < i1_)) then
 callI S .i64 i_spec_l01Next [.ptr p0_, .int .i64 (w64 (i6_ + (1)))] h fun n1 h0 =>
 slotK 12 h0 fun h2 =>
 cut s5_ 1 (0) n1 h2 fun s3 =>
 callS S i_spec_l01Own [.sl s3] h2 fun s5 h4 =>
 cut s5_ 1 n1 (s5_.len : Int) h4 fun s6 =>
 okS h2 s5_ ∧ (
 newSat 1 1 [.int .i64 i6_] h4 (h0.length + 5) fun s7 h8 =>
 okS h4 s5_ ∧ (
 okS h8 s5_ ∧ (
 okS h8 s5_ ∧ (
 app s5 s7 1 h8 fun s9 h10 =>
 okS h10 s5_ ∧ (
 app s9 s6 1 h10 fun s11 h12 =>
 X0 (spec_l01DrawOrder_e0 p0_ i1_ s11 (w64 (i6_ + (1)))) h12)))))
 else
 spec_l01DrawOrder_C0 S K s5_ h
theorem spec_l01DrawOrder_link0 (S : SatT) (K : KT) (X0 : XT) (p0_ : Pt) (i1_ : Int) (s5_ : Sl) (i6_ : Int) (h : H) : spec_l01DrawOrder_w0 S K X0 (spec_l01DrawOrder_e0 p0_ i1_ s5_ i6_) h = spec_l01DrawOrder_b0 S K X0 p0_ i1_ s5_ i6_ h := by kernel_rfl
theorem spec_l01DrawOrder_rule0 (S : SatT) (K : KT) (p0_ : Pt) (i1_ : Int) (I_ : Sl → Int → H → Prop) (m_ : Sl → Int → H → Nat)
    (hs : ∀ (X0 : XT) (s5_ : Sl) (i6_ : Int) (h : H), I_ s5_ i6_ h → (∀ (s5_' : Sl) (i6_' : Int) (h' : H), I_ s5_' i6_' h' → m_ s5_' i6_' h' < m_ s5_ i6_ h → X0 (spec_l01DrawOrder_e0 p0_ i1_ s5_' i6_') h') → spec_l01DrawOrder_b0 S K X0 p0_ i1_ s5_ i6_ h) (s5_ : Sl) (i6_ : Int) {h : H} (h0 : I_ s5_ i6_ h) : spec_l01DrawOrder_L0 S K p0_ i1_ s5_ i6_ h :=
  loop_rule (σ := (Sl) × (Int)) (fun s_ => spec_l01DrawOrder_e0 p0_ i1_ (s_.1) (s_.2)) (fun s_ h => I_ (s_.1) (s_.2) h) (fun s_ h => m_ (s_.1) (s_.2) h)
    (fun X s_ h hi hx => (spec_l01DrawOrder_link0 S K X p0_ i1_ (s_.1) (s_.2) h).mpr (hs X (s_.1) (s_.2) h hi fun s5_' i6_' h' hi' hm' => hx (s5_', i6_') h' hi' hm')) (s5_, i6_) h0
def spec_l01DrawOrder_main (S : SatT) (K : KT) (x0 : Pt) (x1 : Int) (h : H) : Prop :=
 newS 0 1 [] h fun s0 h1 =>
 spec_l01DrawOrder_L0 S K x0 x1 s0 (0) h1
theorem spec_l01DrawOrder_main_link (S : SatT) (K : KT) (x0 : Pt) (x1 : Int) (h : H) : cwp S tab spec_l01DrawOrder_M [] (bodyOf Tryz.f131) (kFun tab Tryz.f131.results.toList K) (fr0 Tryz.f131 [.ptr x0, .int .i64 x1]) h = spec_l01DrawOrder_main S K x0 x1 h := by kernel_rfl
theorem spec_l01DrawOrder_call (x0 : Pt) (x1 : Int) (h : H) (K : Sl → H → Prop) (hm : spec_l01DrawOrder_main (Sat Tryz.prog) (fun v h' => ∃ r, v = .sl r ∧ K r h') x0 x1 h) : callS (Sat Tryz.prog) i_spec_l01DrawOrder [.ptr x0, .int .i64 x1] h K := by
  have := Sat.ex tok mixed spec_l01DrawOrder_M Tryz.func131 (c := bodyOf Tryz.f131) (by kernel_rfl) (calls_of Tryz.func131 (c := bodyOf Tryz.f131) (by kernel_rfl) (by decide)) ((spec_l01DrawOrder_main_link _ _ x0 x1 h).mpr hm)
  obtain ⟨v, h2, h3, r, rfl, h4⟩ := this; exact ⟨r, h2, h3, h4⟩

/-! ### loop.example/g01354/spec.l05Torus -/
def spec_l05Torus_M : Nat → List Nat := fun i => bif i == 0 then [1, 2, 5] else []
def spec_l05Torus_ks1 (S : SatT) (K : KT) : Kont := kSeq (cwp S tab spec_l05Torus_M [] (sub [1, 1] (bodyOf Tryz.f113)) (kFun tab (Tryz.f113).results.toList K)) (kFun tab (Tryz.f113).results.toList K)
def spec_l05Torus_e0 (s1_ : Sl) (p2_ : Pt) (i5_ : Int) : Frame := [U, .sl s1_, .ptr p2_, U, U, .int .i64 i5_, U, U, U, U, U, U, U, U, U, U, U, U, U, U, U, U, U, U, U, U, U, U, U, U, U, U, U, U, U, U, U, U, U, U, U, U, U, U, U, U, U, U]
def spec_l05Torus_w0 (S : SatT) (K : KT) : (XT) → XT := fun X fr h => cwp S tab spec_l05Torus_M (spec_l05Torus_M 0) (sub [1, 0, 1, 0, 0] (bodyOf Tryz.f113)) (kSeq (fun fr h => X (mask (spec_l05Torus_M 0) fr) h) (kBlk 0 (spec_l05Torus_ks1 S K))) fr h
def spec_l05Torus_L0 (S : SatT) (K : KT) (s1_ : Sl) (p2_ : Pt) (i5_ : Int) (h : H) : Prop := loopK (spec_l05Torus_w0 S K) (spec_l05Torus_e0 s1_ p2_ i5_) h
def spec_l05Torus_C0 (S : SatT) (K : KT) (s1_ : Sl) (p2_ : Pt) (h : H) : Prop :=
 ldA p2_ 2 h fun cs0 =>
 callB S i_spec_l01Good [.agg cs0, .sl s1_] h fun b2 h1 =>
 bif b2 then
 ldA p2_ 2 h1 fun cs3 =>
 callB S i_spec_l05Cylinder [.agg cs3, .sl s1_] h1 fun b5 h4 =>
 K (.bool b5) h4
 else
 K (.bool false) h1
def spec_l05Torus_b0 (S : SatT) (K : KT) (X0 : XT) (s1_ : Sl) (p2_ : Pt) (i5_ : Int) (h : H) : Prop :=
 ixS s1_ 1 (0) fun p0 =>
 ldS p0 h fun s1 =>
 bif (decide (i5_ < (s1.len : Int))) then
 isPt p2_ (
 ldS (Pt.add p2_ 1) h fun s2 =>
 ixS s1_ 1 (w64 ((s1_.len : Int) - (1))) fun p3 =>
 ldS p3 h fun s4 =>
 ixS s4 1 i5_ fun p5 =>
 ldI .i64 p5 h fun n6 =>
 ixS s2 4 n6 fun p7 =>
 ixA p7 4 1 (3) fun p8 =>
 ldI .i64 p8 h fun n9 =>
 isPt p2_ (
 ldS (Pt.add p2_ 1) h fun s10 =>
 ixS s1_ 1 (0) fun p11 =>
 ldS p11 h fun s12 =>
 ixS s12 1 i5_ fun p13 =>
 ldI .i64 p13 h fun n14 =>
 ixS s10 4 n14 fun p15 =>
 ixA p15 4 1 (1) fun p16 =>
 ldI .i64 p16 h fun n17 =>
 bif (n9 != n17) then
 K (.bool false) h
 else
 X0 (spec_l05Torus_e0 s1_ p2_ (w64 (i5_ + (1)))) h))
 else
 spec_l05Torus_C0 S K s1_ p2_ h
theorem spec_l05Torus_link0 (S : SatT) (K : KT) (X0 : XT) (s1_ : Sl) (p2_ : Pt) (i5_ : Int) (h : H) : spec_l05Torus_w0 S K X0 (spec_l05Torus_e0 s1_ p2_ i5_) h = spec_l05Torus_b0 S K X0 s1_ p2_ i5_ h := by kernel_rfl
theorem spec_l05Torus_rule0 (S : SatT) (K : KT) (s1_ : Sl) (p2_ : Pt) (I_ : Int → H → Prop) (m_ : Int → H → Nat)
    (hs : ∀ (X0 : XT) (i5_ : Int) (h : H), I_ i5_ h → (∀ (i5_' : Int) (h' : H), I_ i5_' h' → m_ i5_' h' < m_ i5_ h → X0 (spec_l05Torus_e0 s1_ p2_ i5_') h') → spec_l05Torus_b0 S K X0 s1_ p2_ i5_ h) (i5_ : Int) {h : H} (h0 : I_ i5_ h) : spec_l05Torus_L0 S K s1_ p2_ i5_ h :=
  loop_rule (σ := (Int)) (fun s_ => spec_l05Torus_e0 s1_ p2_ (s_)) (fun s_ h => I_ (s_) h) (fun s_ h => m_ (s_) h)
    (fun X s_ h hi hx => (spec_l05Torus_link0 S K X s1_ p2_ (s_) h).mpr (hs X (s_) h hi fun i5_' h' hi' hm' => hx (i5_') h' hi' hm')) (i5_) h0
def spec_l05Torus_main (S : SatT) (K : KT) (x0 : List AVal) (x1 : Sl) (h : H) : Prop :=
 newK 2 x0 h fun p0 h1 =>
 spec_l05Torus_L0 S K x1 p0 (0) h1
theorem spec_l05Torus_main_link (S : SatT) (K : KT) (x0 : List AVal) (x1 : Sl) (h : H) : cwp S tab spec_l05Torus_M [] (bodyOf Tryz.f113) (kFun tab Tryz.f113.results.toList K) (fr0 Tryz.f113 [.agg x0, .sl x1]) h = spec_l05Torus_main S K x0 x1 h := by kernel_rfl
theorem spec_l05Torus_call (x0 : List AVal) (x1 : Sl) (h : H) (K : Bool → H → Prop) (hm : spec_l05Torus_main (Sat Tryz.prog) (fun v h' => ∃ r, v = .bool r ∧ K r h') x0 x1 h) : callB (Sat Tryz.prog) i_spec_l05Torus [.agg x0, .sl x1] h K := by
  have := Sat.ex tok mixed spec_l05Torus_M Tryz.func113 (c := bodyOf Tryz.f113) (by kernel_rfl) (calls_of Tryz.func113 (c := bodyOf Tryz.f113) (by kernel_rfl) (by decide)) ((spec_l05Torus_main_link _ _ x0 x1 h).mpr hm)
  obtain ⟨v, h2, h3, r, rfl, h4⟩ := this; exact ⟨r, h2, h3, h4⟩

/-! ### loop.example/g01354/spec.l01From -/
def spec_l01From_M : Nat → List Nat := fun i => bif i == 0 then [0, 3, 4] else []
def spec_l01From_ks2 (S : SatT) (K : KT) : Kont := kSeq (cwp S tab spec_l01From_M [] (sub [1, 1, 1] (bodyOf Tryz.f37)) (kFun tab (Tryz.f37).results.toList K)) (kFun tab (Tryz.f37).results.toList K)
def spec_l01From_e0 (s0_ : Sl) (p3_ : Pt) (i4_ : Int) : Frame := [.sl s0_, U, U, .ptr p3_, .int .i64 i4_, U, U, U, U, U, U, U, U, U, U, U, U, U, U, U, U, U, U, U, U, U, U, U, U, U, U, U, U, U, U, U, U, U]
def spec_l01From_w0 (S : SatT) (K : KT) : (XT) → XT := fun X fr h => cwp S tab spec_l01From_M (spec_l01From_M 0) (sub [1, 1, 0, 1, 0, 0] (bodyOf Tryz.f37)) (kSeq (fun fr h => X (mask (spec_l01From_M 0) fr) h) (kBlk 0 (spec_l01From_ks2 S K))) fr h
def spec_l01From_L0 (S : SatT) (K : KT) (s0_ : Sl) (p3_ : Pt) (i4_ : Int) (h : H) : Prop := loopK (spec_l01From_w0 S K) (spec_l01From_e0 s0_ p3_ i4_) h
def spec_l01From_C0 (S : SatT) (K : KT) (p3_ : Pt) (h : H) : Prop :=
 K (.ptr p3_) h
def spec_l01From_b0 (S : SatT) (K : KT) (X0 : XT) (s0_ : Sl) (p3_ : Pt) (i4_ : Int) (h : H) : Prop :=
 bif (decide (i4_ < (s0_.len : Int))) then
 bif (decide (i4_ < (4096))) then
 nilC (.ptr p3_) (
 isPt p3_ (
 ldI .u64 (Pt.add p3_ 2) h fun n0 =>
 ixS s0_ 1 i4_ fun p1 =>
 ldI .u8 p1 h fun n2 =>
 nilC (.ptr p3_) (
 isPt p3_ (
 st1 (Pt.add p3_ 2) (.int .u64 (IntKind.wrap .u64 ((IntKind.wrap .u64 ((IntKind.wrap .u64 (n0 * (1099511628211))) + (IntKind.wrap .u64 (n2)))) + (191)))) h fun h3 =>
 X0 (spec_l01From_e0 s0_ p3_ (w64 (i4_ + (1)))) h3))))
 else
 spec_l01From_C0 S K p3_ h
 else
 spec_l01From_C0 S K p3_ h
theorem spec_l01From_link0 (S : SatT) (K : KT) (X0 : XT) (s0_ : Sl) (p3_ : Pt) (i4_ : Int) (h : H) : spec_l01From_w0 S K X0 (spec_l01From_e0 s0_ p3_ i4_) h = spec_l01From_b0 S K X0 s0_ p3_ i4_ h := by kernel_rfl
theorem spec_l01From_rule0 (S : SatT) (K : KT) (s0_ : Sl) (p3_ : Pt) (I_ : Int → H → Prop) (m_ : Int → H → Nat)
    (hs : ∀ (X0 : XT) (i4_ : Int) (h : H), I_ i4_ h → (∀ (i4_' : Int) (h' : H), I_ i4_' h' → m_ i4_' h' < m_ i4_ h → X0 (spec_l01From_e0 s0_ p3_ i4_') h') → spec_l01From_b0 S K X0 s0_ p3_ i4_ h) (i4_ : Int) {h : H} (h0 : I_ i4_ h) : spec_l01From_L0 S K s0_ p3_ i4_ h :=
  loop_rule (σ := (Int)) (fun s_ => spec_l01From_e0 s0_ p3_ (s_)) (fun s_ h => I_ (s_) h) (fun s_ h => m_ (s_) h)
    (fun X s_ h hi hx => (spec_l01From_link0 S K X s0_ p3_ (s_) h).mpr (hs X (s_) h hi fun i4_' h' hi' hm' => hx (i4_') h' hi' hm')) (i4_) h0
def spec_l01From_main (S : SatT) (K : KT) (x0 : Sl) (h : H) : Prop :=
 newK 3 [.sl x0, .int .i64 (0), .int .u64 (IntKind.wrap .u64 ((13541) + (IntKind.wrap .u64 ((x0.len : Int)))))] h fun p0 h1 =>
 spec_l01From_L0 S K x0 p0 (0) h1
theorem spec_l01From_main_link (S : SatT) (K : KT) (x0 : Sl) (h : H) : cwp S tab spec_l01From_M [] (bodyOf Tryz.f37) (kFun tab Tryz.f37.results.toList K) (fr0 Tryz.f37 [.sl x0]) h = spec_l01From_main S K x0 h := by kernel_rfl
theorem spec_l01From_call (x0 : Sl) (h : H) (K : Pt → H → Prop) (hm : spec_l01From_main (Sat Tryz.prog) (fun v h' => ∃ r, v = .ptr r ∧ K r h') x0 h) : callP (Sat Tryz.prog) i_spec_l01From [.sl x0] h K := by
  have := Sat.ex tok mixed spec_l01From_M Tryz.func37 (c := bodyOf Tryz.f37) (by kernel_rfl) (calls_of Tryz.func37 (c := bodyOf Tryz.f37) (by kernel_rfl) (by decide)) ((spec_l01From_main_link _ _ x0 h).mpr hm)
  obtain ⟨v, h2, h3, r, rfl, h4⟩ := this; exact ⟨r, h2, h3, h4⟩

/-! ### loop.example/g01354/laws.rows5 -/
def laws_rows5_M : Nat → List Nat := fun i => bif i == 0 then [0, 1, 5] else []
def laws_rows5_ks4 (S : SatT) (K : KT) : Kont := kSeq (cwp S tab laws_rows5_M [] (sub [1, 1, 1] (bodyOf Tryz.f22)) (kFun tab (Tryz.f22).results.toList K)) (kFun tab (Tryz.f22).results.toList K)
def laws_rows5_e0 (s0_ s1_ : Sl) (i5_ : Int) : Frame := [.sl s0_, .sl s1_, U, U, U, .int .i64 i5_, U, U, U, U, U, U, U, U, U, U, U, U, U, U, U, U, U, U, U, U, U]
def laws_rows5_w0 (S : SatT) (K : KT) : (XT) → XT := fun X fr h => cwp S tab laws_rows5_M (laws_rows5_M 0) (sub [1, 1, 0, 1, 0, 0] (bodyOf Tryz.f22)) (kSeq (fun fr h => X (mask (laws_rows5_M 0) fr) h) (kBlk 0 (laws_rows5_ks4 S K))) fr h
def laws_rows5_L0 (S : SatT) (K : KT) (s0_ s1_ : Sl) (i5_ : Int) (h : H) : Prop := loopK (laws_rows5_w0 S K) (laws_rows5_e0 s0_ s1_ i5_) h
def laws_rows5_C0 (S : SatT) (K : KT) (h : H) : Prop :=
 K (.bool true) h
def laws_rows5_b0 (S : SatT) (K : KT) (X0 : XT) (s0_ s1_ : Sl) (i5_ : Int) (h : H) : Prop :=
 bif (decide (i5_ < (s0_.len : Int))) then
 ixS s0_ 1 i5_ fun p0 =>
 ldS p0 h fun s1 =>
 ixS s1_ 1 i5_ fun p2 =>
 ldS p2 h fun s3 =>
 callB S i_laws_likeInts [.sl s1, .sl s3] h fun b5 h4 =>
 bif (!b5) then
 K (.bool false) h4
 else
 X0 (laws_rows5_e0 s0_ s1_ (w64 (i5_ + (1)))) h4
 else
 laws_rows5_C0 S K h
theorem laws_rows5_link0 (S : SatT) (K : KT) (X0 : XT) (s0_ s1_ : Sl) (i5_ : Int) (h : H) : laws_rows5_w0 S K X0 (laws_rows5_e0 s0_ s1_ i5_) h = laws_rows5_b0 S K X0 s0_ s1_ i5_ h := by kernel_rfl
theorem laws_rows5_rule0 (S : SatT) (K : KT) (s0_ s1_ : Sl) (I_ : Int → H → Prop) (m_ : Int → H → Nat)
    (hs : ∀ (X0 : XT) (i5_ : Int) (h : H), I_ i5_ h → (∀ (i5_' : Int) (h' : H), I_ i5_' h' → m_ i5_' h' < m_ i5_ h → X0 (laws_rows5_e0 s0_ s1_ i5_') h') → laws_rows5_b0 S K X0 s0_ s1_ i5_ h) (i5_ : Int) {h : H} (h0 : I_ i5_ h) : laws_rows5_L0 S K s0_ s1_ i5_ h :=
  loop_rule (σ := (Int)) (fun s_ => laws_rows5_e0 s0_ s1_ (s_)) (fun s_ h => I_ (s_) h) (fun s_ h => m_ (s_) h)
    (fun X s_ h hi hx => (laws_rows5_link0 S K X s0_ s1_ (s_) h).mpr (hs X (s_) h hi fun i5_' h' hi' hm' => hx (i5_') h' hi' hm')) (i5_) h0
def laws_rows5_main (S : SatT) (K : KT) (x0 x1 : Sl) (h : H) : Prop :=
 bif ((x0.len : Int) != (x1.len : Int)) then
 K (.bool false) h
 else
 laws_rows5_L0 S K x0 x1 (0) h
theorem laws_rows5_main_link (S : SatT) (K : KT) (x0 x1 : Sl) (h : H) : cwp S tab laws_rows5_M [] (bodyOf Tryz.f22) (kFun tab Tryz.f22.results.toList K) (fr0 Tryz.f22 [.sl x0, .sl x1]) h = laws_rows5_main S K x0 x1 h := by kernel_rfl
theorem laws_rows5_call (x0 x1 : Sl) (h : H) (K : Bool → H → Prop) (hm : laws_rows5_main (Sat Tryz.prog) (fun v h' => ∃ r, v = .bool r ∧ K r h') x0 x1 h) : callB (Sat Tryz.prog) i_laws_rows5 [.sl x0, .sl x1] h K := by
  have := Sat.ex tok mixed laws_rows5_M Tryz.func22 (c := bodyOf Tryz.f22) (by kernel_rfl) (calls_of Tryz.func22 (c := bodyOf Tryz.f22) (by kernel_rfl) (by decide)) ((laws_rows5_main_link _ _ x0 x1 h).mpr hm)
  obtain ⟨v, h2, h3, r, rfl, h4⟩ := this; exact ⟨r, h2, h3, h4⟩

/-! ### loop.example/g01354/spec.l05Draw -/
def spec_l05Draw_M : Nat → List Nat := fun i => []
def spec_l05Draw_main (S : SatT) (K : KT) (x0 : Pt) (h : H) : Prop :=
 newO [.int .i64 (0), .sl Sl.nil] h fun p0 h1 =>
 callA S i_spec_l01Small [.ptr x0] h1 fun cs3 h2 =>
 newO [.int .i64 (0), .sl Sl.nil] h2 fun p4 h5 =>
 stN p4 2 cs3 h5 fun h6 =>
 callI S .i64 i_spec_l01Next [.ptr x0, .int .i64 (3)] h6 fun n8 h7 =>
 bif (n8 == (0)) then
 callA S i_spec_l01Draw [.ptr x0] h7 fun cs10 h9 =>
 stN p4 2 cs10 h9 fun h11 =>
 isPt p4 (
 ldS (Pt.add p4 1) h11 fun s12 =>
 bif (decide ((s12.len : Int) > (10))) then
 callI S .i64 i_spec_l01Next [.ptr x0, .int .i64 (4)] h11 fun n14 h13 =>
 bif (decide (n14 > (0))) then
 isPt p4 (
 ldI .i64 (Pt.add p4 0) h13 fun n15 =>
 newS 0 4 [] h13 fun s16 h17 =>
(cell h17 (Pt.add p4 0) = cell h13 (Pt.add p4 0)) ∧ (
 isPt p4 (
 ldS (Pt.add p4 1) h17 fun s18 =>
(cell h13 (Pt.add p4 1) = cell h17 (Pt.add p4 1)) ∧ (
 cut s18 4 (0) (8) h17 fun s19 =>
 okS h13 s18 ∧ (
 app s16 s19 4 h17 fun s20 h21 =>
(cell h21 (Pt.add p4 0) = cell h13 (Pt.add p4 0)) ∧ (
 stN p4 2 [.int .i64 n15, .sl s20] h21 fun h22 =>
 ldA p4 2 h22 fun cs23 =>
 stN p0 2 cs23 h22 fun h24 =>
 ldA p0 2 h24 fun cs25 =>
 K (.agg cs25) h24))))))
 else
 ldA p4 2 h13 fun cs26 =>
 stN p0 2 cs26 h13 fun h27 =>
 ldA p0 2 h27 fun cs28 =>
 K (.agg cs28) h27
 else
 ldA p4 2 h11 fun cs29 =>
 stN p0 2 cs29 h11 fun h30 =>
 ldA p0 2 h30 fun cs31 =>
 K (.agg cs31) h30)
 else
 isPt p4 (
 ldS (Pt.add p4 1) h7 fun s32 =>
 bif (decide ((s32.len : Int) > (10))) then
 callI S .i64 i_spec_l01Next [.ptr x0, .int .i64 (4)] h7 fun n34 h33 =>
 bif (decide (n34 > (0))) then
 isPt p4 (
 ldI .i64 (Pt.add p4 0) h33 fun n35 =>
 newS 0 4 [] h33 fun s36 h37 =>
(cell h37 (Pt.add p4 0) = cell h33 (Pt.add p4 0)) ∧ (
 isPt p4 (
 ldS (Pt.add p4 1) h37 fun s38 =>
(cell h33 (Pt.add p4 1) = cell h37 (Pt.add p4 1)) ∧ (
 cut s38 4 (0) (8) h37 fun s39 =>
 okS h33 s38 ∧ (
 app s36 s39 4 h37 fun s40 h41 =>
(cell h41 (Pt.add p4 0) = cell h33 (Pt.add p4 0)) ∧ (
 stN p4 2 [.int .i64 n35, .sl s40] h41 fun h42 =>
 ldA p4 2 h42 fun cs43 =>
 stN p0 2 cs43 h42 fun h44 =>
 ldA p0 2 h44 fun cs45 =>
 K (.agg cs45) h44))))))
 else
 ldA p4 2 h33 fun cs46 =>
 stN p0 2 cs46 h33 fun h47 =>
 ldA p0 2 h47 fun cs48 =>
 K (.agg cs48) h47
 else
 ldA p4 2 h7 fun cs49 =>
 stN p0 2 cs49 h7 fun h50 =>
 ldA p0 2 h50 fun cs51 =>
 K (.agg cs51) h50)
theorem spec_l05Draw_main_link (S : SatT) (K : KT) (x0 : Pt) (h : H) : cwp S tab spec_l05Draw_M [] (bodyOf Tryz.f107) (kFun tab Tryz.f107.results.toList K) (fr0 Tryz.f107 [.ptr x0]) h = spec_l05Draw_main S K x0 h := by kernel_rfl
theorem spec_l05Draw_call (x0 : Pt) (h : H) (K : List AVal → H → Prop) (hm : spec_l05Draw_main (Sat Tryz.prog) (fun v h' => ∃ r, v = .agg r ∧ K r h') x0 h) : callA (Sat Tryz.prog) i_spec_l05Draw [.ptr x0] h K := by
  have := Sat.ex tok mixed spec_l05Draw_M Tryz.func107 (c := bodyOf Tryz.f107) (by kernel_rfl) (calls_of Tryz.func107 (c := bodyOf Tryz.f107) (by kernel_rfl) (by decide)) ((spec_l05Draw_main_link _ _ x0 h).mpr hm)
  obtain ⟨v, h2, h3, r, rfl, h4⟩ := this; exact ⟨r, h2, h3, h4⟩

/-! ### loop.example/g01354/impl.CountForms -/
def impl_CountForms_M : Nat → List Nat := fun i => []
def impl_CountForms_main (S : SatT) (K : KT) (x0 : List AVal) (x1 x2 : Int) (h : H) : Prop :=
 newK 2 x0 h fun p0 h1 =>
 newO [.int .i64 x1] h1 fun p2 h3 =>
 newO [.int .i64 x2] h3 fun p4 h5 =>
 ldA p0 2 h5 fun cs6 =>
 callI S .i64 i_impl_setCode [.agg cs6, .func 73 [.ptr p2, .ptr p4]] h5 fun n8 h7 =>
 bif (n8 != (0)) then
 K (.tuple [.int .i64 (0), .int .i64 n8]) h7
 else
 newO [.int .i64 (0)] h7 fun p9 h10 =>
 newO [.int .i64 (0)] h10 fun p11 h12 =>
 st1 p9 (.int .i64 (0)) h12 fun h13 =>
 st1 p11 (.int .i64 (0)) h13 fun h14 =>
 ldA p0 2 h14 fun cs15 =>
 ldI .i64 p2 h14 fun n16 =>
 ldI .i64 p4 h14 fun n17 =>
 callV S i_impl_Set_tori [.agg cs15, .int .i64 n16, .int .i64 n17, .func 76 [.ptr p9, .ptr p11]] h14 fun v19 h18 =>
 ldI .i64 p9 h18 fun n20 =>
 bif (decide (n20 > (4000))) then
 K (.tuple [.int .i64 (0), .int .i64 (3)]) h18
 else
 ldI .i64 p11 h18 fun n21 =>
 K (.tuple [.int .i64 n21, .int .i64 (0)]) h18
theorem impl_CountForms_main_link (S : SatT) (K : KT) (x0 : List AVal) (x1 x2 : Int) (h : H) : cwp S tab impl_CountForms_M [] (bodyOf Tryz.f28) (kFun tab Tryz.f28.results.toList K) (fr0 Tryz.f28 [.agg x0, .int .i64 x1, .int .i64 x2]) h = impl_CountForms_main S K x0 x1 x2 h := by kernel_rfl
theorem impl_CountForms_call (x0 : List AVal) (x1 x2 : Int) (h : H) (K : KT) (hm : impl_CountForms_main (Sat Tryz.prog) (fun v h' => K v h') x0 x1 x2 h) : callV (Sat Tryz.prog) i_impl_CountForms [.agg x0, .int .i64 x1, .int .i64 x2] h K := by
  have := Sat.ex tok mixed impl_CountForms_M Tryz.func28 (c := bodyOf Tryz.f28) (by kernel_rfl) (calls_of Tryz.func28 (c := bodyOf Tryz.f28) (by kernel_rfl) (by decide)) ((impl_CountForms_main_link _ _ x0 x1 x2 h).mpr hm)
  exact this

/-! ### loop.example/g01354/impl.CountForms$2 -/
def impl_CountForms_2_M : Nat → List Nat := fun i => []
def impl_CountForms_2_main (S : SatT) (K : KT) (x0 : Sl) (x1 x2 : Pt) (h : H) : Prop :=
 ldI .i64 x1 h fun n0 =>
 st1 x1 (.int .i64 (w64 (n0 + (1)))) h fun h1 =>
 ldI .i64 x1 h1 fun n2 =>
 bif (decide (n2 ≤ (4000))) then
 callS S i_impl_leastForm [.sl x0] h1 fun s4 h3 =>
 callI S .i64 i_impl_compareRows [.sl x0, .sl s4] h3 fun n6 h5 =>
 bif (n6 == (0)) then
 ldI .i64 x2 h5 fun n7 =>
 st1 x2 (.int .i64 (w64 (n7 + (1)))) h5 fun h8 =>
 ldI .i64 x1 h8 fun n9 =>
 K (.bool (decide (n9 ≤ (4000)))) h8
 else
 ldI .i64 x1 h5 fun n10 =>
 K (.bool (decide (n10 ≤ (4000)))) h5
 else
 ldI .i64 x1 h1 fun n11 =>
 K (.bool (decide (n11 ≤ (4000)))) h1
theorem impl_CountForms_2_main_link (S : SatT) (K : KT) (x0 : Sl) (x1 x2 : Pt) (h : H) : cwp S tab impl_CountForms_2_M [] (bodyOf Tryz.f76) (kFun tab Tryz.f76.results.toList K) (fr0 Tryz.f76 [.sl x0, .ptr x1, .ptr x2]) h = impl_CountForms_2_main S K x0 x1 x2 h := by kernel_rfl
theorem impl_CountForms_2_call (x0 : Sl) (x1 x2 : Pt) (h : H) (K : Bool → H → Prop) (hm : impl_CountForms_2_main (Sat Tryz.prog) (fun v h' => ∃ r, v = .bool r ∧ K r h') x0 x1 x2 h) : callB (Sat Tryz.prog) i_impl_CountForms_2 [.sl x0, .ptr x1, .ptr x2] h K := by
  have := Sat.ex tok mixed impl_CountForms_2_M Tryz.func76 (c := bodyOf Tryz.f76) (by kernel_rfl) (calls_of Tryz.func76 (c := bodyOf Tryz.f76) (by kernel_rfl) (by decide)) ((impl_CountForms_2_main_link _ _ x0 x1 x2 h).mpr hm)
  obtain ⟨v, h2, h3, r, rfl, h4⟩ := this; exact ⟨r, h2, h3, h4⟩

/-! ### loop.example/g01354/spec.l05Code -/
def spec_l05Code_M : Nat → List Nat := fun i => []
def spec_l05Code_main (S : SatT) (K : KT) (x0 : List AVal) (x1 x2 x3 : Int) (h : H) : Prop :=
 newK 2 x0 h fun p0 h1 =>
 ldA p0 2 h1 fun cs2 =>
 callB S i_spec_l01Is [.agg cs2] h1 fun b4 h3 =>
 bif (!b4) then
 K (.int .i64 (1)) h3
 else
 callB S i_spec_l01In [.int .i64 x1, .int .i64 (1), .int .i64 x3] h3 fun b6 h5 =>
 bif (!b6) then
 K (.int .i64 (2)) h5
 else
 callB S i_spec_l01In [.int .i64 x2, .int .i64 (1), .int .i64 (3)] h5 fun b8 h7 =>
 bif (!b8) then
 K (.int .i64 (2)) h7
 else
 K (.int .i64 (0)) h7
theorem spec_l05Code_main_link (S : SatT) (K : KT) (x0 : List AVal) (x1 x2 x3 : Int) (h : H) : cwp S tab spec_l05Code_M [] (bodyOf Tryz.f78) (kFun tab Tryz.f78.results.toList K) (fr0 Tryz.f78 [.agg x0, .int .i64 x1, .int .i64 x2, .int .i64 x3]) h = spec_l05Code_main S K x0 x1 x2 x3 h := by kernel_rfl
theorem spec_l05Code_call (x0 : List AVal) (x1 x2 x3 : Int) (h : H) (K : Int → H → Prop) (hm : spec_l05Code_main (Sat Tryz.prog) (fun v h' => ∃ r, v = .int .i64 r ∧ K r h') x0 x1 x2 x3 h) : callI (Sat Tryz.prog) .i64 i_spec_l05Code [.agg x0, .int .i64 x1, .int .i64 x2, .int .i64 x3] h K := by
  have := Sat.ex tok mixed spec_l05Code_M Tryz.func78 (c := bodyOf Tryz.f78) (by kernel_rfl) (calls_of Tryz.func78 (c := bodyOf Tryz.f78) (by kernel_rfl) (by decide)) ((spec_l05Code_main_link _ _ x0 x1 x2 x3 h).mpr hm)
  obtain ⟨v, h2, h3, r, rfl, h4⟩ := this; exact ⟨r, h2, h3, h4⟩

/-! ### (loop.example/g01354/impl.Set).countTori -/
def impl_Set_countTori_M : Nat → List Nat := fun i => []
def impl_Set_countTori_main (S : SatT) (K : KT) (x0 : List AVal) (x1 x2 : Int) (h : H) : Prop :=
 newK 2 x0 h fun p0 h1 =>
 newO [.int .i64 (0)] h1 fun p2 h3 =>
 st1 p2 (.int .i64 (0)) h3 fun h4 =>
 ldA p0 2 h4 fun cs5 =>
 callV S i_impl_Set_tori [.agg cs5, .int .i64 x1, .int .i64 x2, .func 126 [.ptr p2]] h4 fun v7 h6 =>
 ldI .i64 p2 h6 fun n8 =>
 K (.int .i64 n8) h6
theorem impl_Set_countTori_main_link (S : SatT) (K : KT) (x0 : List AVal) (x1 x2 : Int) (h : H) : cwp S tab impl_Set_countTori_M [] (bodyOf Tryz.f85) (kFun tab Tryz.f85.results.toList K) (fr0 Tryz.f85 [.agg x0, .int .i64 x1, .int .i64 x2]) h = impl_Set_countTori_main S K x0 x1 x2 h := by kernel_rfl
theorem impl_Set_countTori_call (x0 : List AVal) (x1 x2 : Int) (h : H) (K : Int → H → Prop) (hm : impl_Set_countTori_main (Sat Tryz.prog) (fun v h' => ∃ r, v = .int .i64 r ∧ K r h') x0 x1 x2 h) : callI (Sat Tryz.prog) .i64 i_impl_Set_countTori [.agg x0, .int .i64 x1, .int .i64 x2] h K := by
  have := Sat.ex tok mixed impl_Set_countTori_M Tryz.func85 (c := bodyOf Tryz.f85) (by kernel_rfl) (calls_of Tryz.func85 (c := bodyOf Tryz.f85) (by kernel_rfl) (by decide)) ((impl_Set_countTori_main_link _ _ x0 x1 x2 h).mpr hm)
  obtain ⟨v, h2, h3, r, rfl, h4⟩ := this; exact ⟨r, h2, h3, h4⟩

/-! ### loop.example/g01354/spec.l01Near -/
def spec_l01Near_M : Nat → List Nat := fun i => []
def spec_l01Near_main (S : SatT) (K : KT) (x0 : Pt) (x1 : Int) (h : H) : Prop :=
 callI S .i64 i_spec_l01Next [.ptr x0, .int .i64 (14)] h fun n1 h0 =>
 bif (n1 == (0)) then
 newS 4 1 [.int .i64 (-1), .int .i64 (w64 (x1 + (1))), .int .i64 (1099511627776), .int .i64 (-4611686018427387904)] h0 fun s2 h3 =>
 callI S .i64 i_spec_l01Pick [.ptr x0, .sl s2] h3 fun n5 h4 =>
 K (.int .i64 n5) h4
 else
 callI S .i64 i_spec_l01Next [.ptr x0, .int .i64 (w64 (x1 + (1)))] h0 fun n7 h6 =>
 K (.int .i64 n7) h6
theorem spec_l01Near_main_link (S : SatT) (K : KT) (x0 : Pt) (x1 : Int) (h : H) : cwp S tab spec_l01Near_M [] (bodyOf Tryz.f59) (kFun tab Tryz.f59.results.toList K) (fr0 Tryz.f59 [.ptr x0, .int .i64 x1]) h = spec_l01Near_main S K x0 x1 h := by kernel_rfl
theorem spec_l01Near_call (x0 : Pt) (x1 : Int) (h : H) (K : Int → H → Prop) (hm : spec_l01Near_main (Sat Tryz.prog) (fun v h' => ∃ r, v = .int .i64 r ∧ K r h') x0 x1 h) : callI (Sat Tryz.prog) .i64 i_spec_l01Near [.ptr x0, .int .i64 x1] h K := by
  have := Sat.ex tok mixed spec_l01Near_M Tryz.func59 (c := bodyOf Tryz.f59) (by kernel_rfl) (calls_of Tryz.func59 (c := bodyOf Tryz.f59) (by kernel_rfl) (by decide)) ((spec_l01Near_main_link _ _ x0 x1 h).mpr hm)
  obtain ⟨v, h2, h3, r, rfl, h4⟩ := this; exact ⟨r, h2, h3, h4⟩

/-! ### loop.example/g01354/spec.DrawCountForms -/
def spec_DrawCountForms_M : Nat → List Nat := fun i => []
def spec_DrawCountForms_main (S : SatT) (K : KT) (x0 : Sl) (h : H) : Prop :=
 newO [.int .i64 (0), .sl Sl.nil] h fun p0 h1 =>
 callV S i_spec_l05Size [.sl x0] h1 fun v3 h2 =>
 viaT v3 fun vs4 =>
 exA vs4 0 fun cs5 =>
 viaT v3 fun vs6 =>
 exI .i64 vs6 1 fun n7 =>
 viaT v3 fun vs8 =>
 exI .i64 vs8 2 fun n9 =>
 newO [.int .i64 (0), .sl Sl.nil] h2 fun p10 h11 =>
 stN p10 2 cs5 h11 fun h12 =>
 ldA p10 2 h12 fun cs13 =>
 stN p0 2 cs13 h12 fun h14 =>
 ldA p0 2 h14 fun cs15 =>
 K (.tuple [.agg cs15, .int .i64 n7, .int .i64 n9]) h14
theorem spec_DrawCountForms_main_link (S : SatT) (K : KT) (x0 : Sl) (h : H) : cwp S tab spec_DrawCountForms_M [] (bodyOf Tryz.f27) (kFun tab Tryz.f27.results.toList K) (fr0 Tryz.f27 [.sl x0]) h = spec_DrawCountForms_main S K x0 h := by kernel_rfl
theorem spec_DrawCountForms_call (x0 : Sl) (h : H) (K : KT) (hm : spec_DrawCountForms_main (Sat Tryz.prog) (fun v h' => K v h') x0 h) : callV (Sat Tryz.prog) i_spec_DrawCountForms [.sl x0] h K := by
  have := Sat.ex tok mixed spec_DrawCountForms_M Tryz.func27 (c := bodyOf Tryz.f27) (by kernel_rfl) (calls_of Tryz.func27 (c := bodyOf Tryz.f27) (by kernel_rfl) (by decide)) ((spec_DrawCountForms_main_link _ _ x0 h).mpr hm)
  exact this

/-! ### loop.example/g01354/spec.l01Names -/
def spec_l01Names_M : Nat → List Nat := fun i => []
def spec_l01Names_main (S : SatT) (K : KT) (h : H) : Prop :=
 newS 8 1 [.str (⟨#[112, 108, 97, 105, 110]⟩ : ByteArray), .str (⟨#[99, 104, 101, 115, 115]⟩ : ByteArray), .str (⟨#[119, 105, 114, 101, 115]⟩ : ByteArray), .str (⟨#[98, 101, 110, 100, 115]⟩ : ByteArray), .str (⟨#[115, 117, 109, 115]⟩ : ByteArray), .str (⟨#[99, 97, 114, 114, 121]⟩ : ByteArray), .str (⟨#[119, 97, 108, 108]⟩ : ByteArray), .str (⟨#[119, 104, 101, 101, 108]⟩ : ByteArray)] h fun s0 h1 =>
 K (.sl s0) h1
theorem spec_l01Names_main_link (S : SatT) (K : KT) (h : H) : cwp S tab spec_l01Names_M [] (bodyOf Tryz.f128) (kFun tab Tryz.f128.results.toList K) (fr0 Tryz.f128 []) h = spec_l01Names_main S K h := by kernel_rfl
theorem spec_l01Names_call (h : H) (K : Sl → H → Prop) (hm : spec_l01Names_main (Sat Tryz.prog) (fun v h' => ∃ r, v = .sl r ∧ K r h') h) : callS (Sat Tryz.prog) i_spec_l01Names [] h K := by
  have := Sat.ex tok mixed spec_l01Names_M Tryz.func128 (c := bodyOf Tryz.f128) (by kernel_rfl) (calls_of Tryz.func128 (c := bodyOf Tryz.f128) (by kernel_rfl) (by decide)) ((spec_l01Names_main_link _ _ h).mpr hm)
  obtain ⟨v, h2, h3, r, rfl, h4⟩ := this; exact ⟨r, h2, h3, h4⟩

/-! ### loop.example/g01354/impl.areSizes -/
def impl_areSizes_M : Nat → List Nat := fun i => []
def impl_areSizes_main (S : SatT) (K : KT) (x0 x1 : Int) (h : H) : Prop :=
 callB S i_impl_within [.int .i64 x0, .int .i64 (1), .int .i64 (3)] h fun b1 h0 =>
 bif b1 then
 callB S i_impl_within [.int .i64 x1, .int .i64 (1), .int .i64 (3)] h0 fun b3 h2 =>
 K (.bool b3) h2
 else
 K (.bool false) h0
theorem impl_areSizes_main_link (S : SatT) (K : KT) (x0 x1 : Int) (h : H) : cwp S tab impl_areSizes_M [] (bodyOf Tryz.f74) (kFun tab Tryz.f74.results.toList K) (fr0 Tryz.f74 [.int .i64 x0, .int .i64 x1]) h = impl_areSizes_main S K x0 x1 h := by kernel_rfl
theorem impl_areSizes_call (x0 x1 : Int) (h : H) (K : Bool → H → Prop) (hm : impl_areSizes_main (Sat Tryz.prog) (fun v h' => ∃ r, v = .bool r ∧ K r h') x0 x1 h) : callB (Sat Tryz.prog) i_impl_areSizes [.int .i64 x0, .int .i64 x1] h K := by
  have := Sat.ex tok mixed impl_areSizes_M Tryz.func74 (c := bodyOf Tryz.f74) (by kernel_rfl) (calls_of Tryz.func74 (c := bodyOf Tryz.f74) (by kernel_rfl) (by decide)) ((impl_areSizes_main_link _ _ x0 x1 h).mpr hm)
  obtain ⟨v, h2, h3, r, rfl, h4⟩ := this; exact ⟨r, h2, h3, h4⟩

/-! ### loop.example/g01354/impl.isTile -/
def impl_isTile_M : Nat → List Nat := fun i => []
def impl_isTile_main (S : SatT) (K : KT) (x0 : List AVal) (x1 : Int) (h : H) : Prop :=
 newK 4 x0 h fun p0 h1 =>
 newO [.int .i64 x1] h1 fun p2 h3 =>
 cutA p0 4 1 (0) ((4 : Nat) : Int) fun s4 =>
 callB S i_slices_ContainsFunc_s_int64_int64_ [.sl s4, .func 106 [.ptr p2]] h3 fun b6 h5 =>
 K (.bool (!b6)) h5
theorem impl_isTile_main_link (S : SatT) (K : KT) (x0 : List AVal) (x1 : Int) (h : H) : cwp S tab impl_isTile_M [] (bodyOf Tryz.f52) (kFun tab Tryz.f52.results.toList K) (fr0 Tryz.f52 [.agg x0, .int .i64 x1]) h = impl_isTile_main S K x0 x1 h := by kernel_rfl
theorem impl_isTile_call (x0 : List AVal) (x1 : Int) (h : H) (K : Bool → H → Prop) (hm : impl_isTile_main (Sat Tryz.prog) (fun v h' => ∃ r, v = .bool r ∧ K r h') x0 x1 h) : callB (Sat Tryz.prog) i_impl_isTile [.agg x0, .int .i64 x1] h K := by
  have := Sat.ex tok mixed impl_isTile_M Tryz.func52 (c := bodyOf Tryz.f52) (by kernel_rfl) (calls_of Tryz.func52 (c := bodyOf Tryz.f52) (by kernel_rfl) (by decide)) ((impl_isTile_main_link _ _ x0 x1 h).mpr hm)
  obtain ⟨v, h2, h3, r, rfl, h4⟩ := this; exact ⟨r, h2, h3, h4⟩

/-! ### loop.example/g01354/impl.leastForm -/
def impl_leastForm_M : Nat → List Nat := fun i => []
def impl_leastForm_main (S : SatT) (K : KT) (x0 : Sl) (h : H) : Prop :=
 callS S i_impl_shifted [.sl x0, .int .i64 (0), .int .i64 (0)] h fun s1 h0 =>
 newO [.sl Sl.nil] h0 fun p2 h3 =>
 st1 p2 (.sl s1) h3 fun h4 =>
 callV S i_impl_shifts [.sl x0, .func 116 [.ptr p2]] h4 fun v6 h5 =>
 ldS p2 h5 fun s7 =>
 K (.sl s7) h5
theorem impl_leastForm_main_link (S : SatT) (K : KT) (x0 : Sl) (h : H) : cwp S tab impl_leastForm_M [] (bodyOf Tryz.f70) (kFun tab Tryz.f70.results.toList K) (fr0 Tryz.f70 [.sl x0]) h = impl_leastForm_main S K x0 h := by kernel_rfl
theorem impl_leastForm_call (x0 : Sl) (h : H) (K : Sl → H → Prop) (hm : impl_leastForm_main (Sat Tryz.prog) (fun v h' => ∃ r, v = .sl r ∧ K r h') x0 h) : callS (Sat Tryz.prog) i_impl_leastForm [.sl x0] h K := by
  have := Sat.ex tok mixed impl_leastForm_M Tryz.func70 (c := bodyOf Tryz.f70) (by kernel_rfl) (calls_of Tryz.func70 (c := bodyOf Tryz.f70) (by kernel_rfl) (by decide)) ((impl_leastForm_main_link _ _ x0 h).mpr hm)
  obtain ⟨v, h2, h3, r, rfl, h4⟩ := this; exact ⟨r, h2, h3, h4⟩

/-! ### (loop.example/g01354/impl.Set).countTori$1 -/
def impl_Set_countTori_1_M : Nat → List Nat := fun i => []
def impl_Set_countTori_1_main (S : SatT) (K : KT) (x0 : Sl) (x1 : Pt) (h : H) : Prop :=
 ldI .i64 x1 h fun n0 =>
 st1 x1 (.int .i64 (w64 (n0 + (1)))) h fun h1 =>
 K (.bool true) h1
theorem impl_Set_countTori_1_main_link (S : SatT) (K : KT) (x0 : Sl) (x1 : Pt) (h : H) : cwp S tab impl_Set_countTori_1_M [] (bodyOf Tryz.f126) (kFun tab Tryz.f126.results.toList K) (fr0 Tryz.f126 [.sl x0, .ptr x1]) h = impl_Set_countTori_1_main S K x0 x1 h := by kernel_rfl
theorem impl_Set_countTori_1_call (x0 : Sl) (x1 : Pt) (h : H) (K : Bool → H → Prop) (hm : impl_Set_countTori_1_main (Sat Tryz.prog) (fun v h' => ∃ r, v = .bool r ∧ K r h') x0 x1 h) : callB (Sat Tryz.prog) i_impl_Set_countTori_1 [.sl x0, .ptr x1] h K := by
  have := Sat.ex tok mixed impl_Set_countTori_1_M Tryz.func126 (c := bodyOf Tryz.f126) (by kernel_rfl) (calls_of Tryz.func126 (c := bodyOf Tryz.f126) (by kernel_rfl) (by decide)) ((impl_Set_countTori_1_main_link _ _ x0 x1 h).mpr hm)
  obtain ⟨v, h2, h3, r, rfl, h4⟩ := this; exact ⟨r, h2, h3, h4⟩

/-! ### loop.example/g01354/impl.CountTori$1 -/
def impl_CountTori_1_M : Nat → List Nat := fun i => []
def impl_CountTori_1_main (S : SatT) (K : KT) (x0 x1 : Pt) (h : H) : Prop :=
 ldI .i64 x0 h fun n0 =>
 ldI .i64 x1 h fun n1 =>
 callB S i_impl_areSizes [.int .i64 n0, .int .i64 n1] h fun b3 h2 =>
 K (.bool b3) h2
theorem impl_CountTori_1_main_link (S : SatT) (K : KT) (x0 x1 : Pt) (h : H) : cwp S tab impl_CountTori_1_M [] (bodyOf Tryz.f84) (kFun tab Tryz.f84.results.toList K) (fr0 Tryz.f84 [.ptr x0, .ptr x1]) h = impl_CountTori_1_main S K x0 x1 h := by kernel_rfl
theorem impl_CountTori_1_call (x0 x1 : Pt) (h : H) (K : Bool → H → Prop) (hm : impl_CountTori_1_main (Sat Tryz.prog) (fun v h' => ∃ r, v = .bool r ∧ K r h') x0 x1 h) : callB (Sat Tryz.prog) i_impl_CountTori_1 [.ptr x0, .ptr x1] h K := by
  have := Sat.ex tok mixed impl_CountTori_1_M Tryz.func84 (c := bodyOf Tryz.f84) (by kernel_rfl) (calls_of Tryz.func84 (c := bodyOf Tryz.f84) (by kernel_rfl) (by decide)) ((impl_CountTori_1_main_link _ _ x0 x1 h).mpr hm)
  obtain ⟨v, h2, h3, r, rfl, h4⟩ := this; exact ⟨r, h2, h3, h4⟩

/-! ### loop.example/g01354/spec.l01Pick -/
def spec_l01Pick_M : Nat → List Nat := fun i => []
def spec_l01Pick_main (S : SatT) (K : KT) (x0 : Pt) (x1 : Sl) (h : H) : Prop :=
 callI S .i64 i_spec_l01Next [.ptr x0, .int .i64 (x1.len : Int)] h fun n1 h0 =>
 ixS x1 1 n1 fun p2 =>
 ldI .i64 p2 h0 fun n3 =>
 K (.int .i64 n3) h0
theorem spec_l01Pick_main_link (S : SatT) (K : KT) (x0 : Pt) (x1 : Sl) (h : H) : cwp S tab spec_l01Pick_M [] (bodyOf Tryz.f90) (kFun tab Tryz.f90.results.toList K) (fr0 Tryz.f90 [.ptr x0, .sl x1]) h = spec_l01Pick_main S K x0 x1 h := by kernel_rfl
theorem spec_l01Pick_call (x0 : Pt) (x1 : Sl) (h : H) (K : Int → H → Prop) (hm : spec_l01Pick_main (Sat Tryz.prog) (fun v h' => ∃ r, v = .int .i64 r ∧ K r h') x0 x1 h) : callI (Sat Tryz.prog) .i64 i_spec_l01Pick [.ptr x0, .sl x1] h K := by
  have := Sat.ex tok mixed spec_l01Pick_M Tryz.func90 (c := bodyOf Tryz.f90) (by kernel_rfl) (calls_of Tryz.func90 (c := bodyOf Tryz.f90) (by kernel_rfl) (by decide)) ((spec_l01Pick_main_link _ _ x0 x1 h).mpr hm)
  obtain ⟨v, h2, h3, r, rfl, h4⟩ := this; exact ⟨r, h2, h3, h4⟩

/-! ### loop.example/g01354/spec.l01Own -/
def spec_l01Own_M : Nat → List Nat := fun i => []
def spec_l01Own_main (S : SatT) (K : KT) (x0 : Sl) (h : H) : Prop :=
 newS 0 1 [] h fun s0 h1 =>
 app s0 x0 1 h1 fun s2 h3 =>
 K (.sl s2) h3
theorem spec_l01Own_main_link (S : SatT) (K : KT) (x0 : Sl) (h : H) : cwp S tab spec_l01Own_M [] (bodyOf Tryz.f140) (kFun tab Tryz.f140.results.toList K) (fr0 Tryz.f140 [.sl x0]) h = spec_l01Own_main S K x0 h := by kernel_rfl
theorem spec_l01Own_call (x0 : Sl) (h : H) (K : Sl → H → Prop) (hm : spec_l01Own_main (Sat Tryz.prog) (fun v h' => ∃ r, v = .sl r ∧ K r h') x0 h) : callS (Sat Tryz.prog) i_spec_l01Own [.sl x0] h K := by
  have := Sat.ex tok mixed spec_l01Own_M Tryz.func140 (c := bodyOf Tryz.f140) (by kernel_rfl) (calls_of Tryz.func140 (c := bodyOf Tryz.f140) (by kernel_rfl) (by decide)) ((spec_l01Own_main_link _ _ x0 h).mpr hm)
  obtain ⟨v, h2, h3, r, rfl, h4⟩ := this; exact ⟨r, h2, h3, h4⟩

end Go.Proofs.YtcoampecbpiecaaGreat.Cl
