/- Typed forms of functions, and their links. No claim is stated here. -/
import Derived.Test.YtcoampecbpiecaaFT
/- Typed forms of functions of the program, and their links. Printed by program. No claim is stated here. -/
set_option linter.unusedVariables false
namespace Go.Proofs.Ytcoampecbpiecaa.Cl
open Go
/-! ### loop.example/g01354/laws.FnColumns -/
def laws_FnColumns_M : Nat → List Nat := fun i => bif i == 0 then [5, 9, 10, 13, 14, 28, 29] else []
def laws_FnColumns_ks47 (S : SatT) (K : AVal → H → Prop) : Kont := kSeq (cwp S tab laws_FnColumns_M [] (sub [1, 1, 1, 1, 1, 1, 1, 1, 1, 1, 1, 1, 1, 1, 1, 1] (bodyOf Try.f3)) (kFun tab (Try.f3).results.toList K)) (kFun tab (Try.f3).results.toList K)
def laws_FnColumns_e0 (s5_ : Sl) (s9_ : Sl) (i10_ : Int) (i13_ : Int) (i14_ : Int) (i28_ : Int) (i29_ : Int) : Frame := [U, U, U, U, U, .sl s5_, U, U, U, .sl s9_, .int .i64 i10_, U, U, .int .i64 i13_, .int .i64 i14_, U, U, U, U, U, U, U, U, U, U, U, U, U, .int .i64 i28_, .int .i64 i29_, U, U, U, U, U, U, U, U, U, U, U, U, U, U, U, U, U, U, U, U, U, U, U, U, U, U, U, U, U, U, U, U, U, U, U, U, U, U, U, U, U, U, U, U, U, U, U, U, U, U, U, U, U, U, U, U, U, U, U, U, U, U, U, U, U, U, U, U, U, U, U, U, U, U, U, U, U, U, U, U, U, U, U, U, U, U, U, U, U, U, U, U, U, U, U, U, U, U, U, U, U, U, U, U, U, U, U, U, U, U, U, U, U, U, U, U, U, U, U, U, U, U, U, U, U, U, U, U, U, U, U, U, U, U, U, U, U, U, U, U, U, U, U, U, U, U, U, U, U, U, U, U, U, U, U, U, U, U, U, U, U, U, U, U, U, U, U, U, U, U, U, U, U, U, U, U, U, U, U, U, U, U, U, U]
def laws_FnColumns_w0 (S : SatT) (K : AVal → H → Prop) : (Frame → H → Prop) → Frame → H → Prop := fun X fr h => cwp S tab laws_FnColumns_M (laws_FnColumns_M 0) (sub [1, 1, 1, 1, 1, 1, 1, 1, 1, 1, 1, 1, 1, 1, 1, 0, 1, 0, 0] (bodyOf Try.f3)) (kSeq (fun fr h => X (mask (laws_FnColumns_M 0) fr) h) (kBlk 0 (laws_FnColumns_ks47 S K))) fr h
def laws_FnColumns_L0 (S : SatT) (K : AVal → H → Prop) (s5_ : Sl) (s9_ : Sl) (i10_ : Int) (i13_ : Int) (i14_ : Int) (i28_ : Int) (i29_ : Int) (h : H) : Prop := loopK (laws_FnColumns_w0 S K) (laws_FnColumns_e0 s5_ s9_ i10_ i13_ i14_ i28_ i29_) h
def laws_FnColumns_C0 (S : SatT) (K : AVal → H → Prop) (s5_ : Sl) (s9_ : Sl) (i10_ : Int) (i13_ : Int) (i14_ : Int) (i28_ : Int) (h : H) : Prop :=
 bif (i10_ == (0)) then
 bif ((s9_.len : Int) == (s5_.len : Int)) then
 bif (i14_ == (0)) then
 K (.bool (decide (i28_ ≤ i13_))) h
 else
 K (.bool false) h
 else
 K (.bool false) h
 else
 K (.bool false) h
def laws_FnColumns_b0 (S : SatT) (K : AVal → H → Prop) (X0 : Frame → H → Prop) (s5_ : Sl) (s9_ : Sl) (i10_ : Int) (i13_ : Int) (i14_ : Int) (i28_ : Int) (i29_ : Int) (h : H) : Prop :=
 bif (decide (i29_ < (s5_.len : Int))) then
 ixS s5_ 1 i29_ fun p0 =>
 ldS p0 h fun s1 =>
 bif ((s1.len : Int) != (s5_.len : Int)) then
 K (.bool false) h
 else
 ixS s5_ 1 i29_ fun p2 =>
 ldS p2 h fun s3 =>
 callI S .i64 i_laws_sum [.sl s3] h fun n5 h4 =>
 X0 (laws_FnColumns_e0 s5_ s9_ i10_ i13_ i14_ (w64 (i28_ + n5)) (w64 (i29_ + (1)))) h4
 else
 laws_FnColumns_C0 S K s5_ s9_ i10_ i13_ i14_ i28_ h
theorem laws_FnColumns_link0 (S : SatT) (K : AVal → H → Prop) (X0 : Frame → H → Prop) (s5_ : Sl) (s9_ : Sl) (i10_ : Int) (i13_ : Int) (i14_ : Int) (i28_ : Int) (i29_ : Int) (h : H) : laws_FnColumns_w0 S K X0 (laws_FnColumns_e0 s5_ s9_ i10_ i13_ i14_ i28_ i29_) h = laws_FnColumns_b0 S K X0 s5_ s9_ i10_ i13_ i14_ i28_ i29_ h := by kernel_rfl
theorem laws_FnColumns_rule0 (S : SatT) (K : AVal → H → Prop) (s5_ : Sl) (s9_ : Sl) (i10_ : Int) (i13_ : Int) (i14_ : Int) (I_ : Int → Int → H → Prop) (m_ : Int → Int → H → Nat)
    (hs : ∀ (X0 : Frame → H → Prop) (i28_ : Int) (i29_ : Int) (h : H), I_ i28_ i29_ h → (∀ (i28_' : Int) (i29_' : Int) (h' : H), I_ i28_' i29_' h' → m_ i28_' i29_' h' < m_ i28_ i29_ h → X0 (laws_FnColumns_e0 s5_ s9_ i10_ i13_ i14_ i28_' i29_') h') → laws_FnColumns_b0 S K X0 s5_ s9_ i10_ i13_ i14_ i28_ i29_ h) (i28_ : Int) (i29_ : Int) {h : H} (h0 : I_ i28_ i29_ h) : laws_FnColumns_L0 S K s5_ s9_ i10_ i13_ i14_ i28_ i29_ h :=
  loop_rule (σ := (Int) × (Int)) (fun s_ => laws_FnColumns_e0 s5_ s9_ i10_ i13_ i14_ (s_.1) (s_.2)) (fun s_ h => I_ (s_.1) (s_.2) h) (fun s_ h => m_ (s_.1) (s_.2) h)
    (fun X s_ h hi hx => (laws_FnColumns_link0 S K X s5_ s9_ i10_ i13_ i14_ (s_.1) (s_.2) h).mpr (hs X (s_.1) (s_.2) h hi fun i28_' i29_' h' hi' hm' => hx (i28_', i29_') h' hi' hm')) (i28_, i29_) h0
def laws_FnColumns_main (S : SatT) (K : AVal → H → Prop) (x0 : Sl) (h : H) : Prop :=
 callB S i_laws_big [.sl x0] h fun b1 h0 =>
 bif b1 then
 K (.bool true) h0
 else
 callV S i_spec_DrawColumnTable [.sl x0] h0 fun v3 h2 =>
 viaT v3 fun vs4 =>
 exA vs4 0 fun cs5 =>
 viaT v3 fun vs6 =>
 exI .i64 vs6 1 fun n7 =>
 newO [.int .i64 (0), .sl Sl.nil] h2 fun p8 h9 =>
 stN p8 2 cs5 h9 fun h10 =>
 ldA p8 2 h10 fun cs11 =>
 callV S i_impl_ColumnTable [.agg cs11, .int .i64 n7] h10 fun v13 h12 =>
 viaT v13 fun vs14 =>
 exS vs14 0 fun s15 =>
 viaT v13 fun vs16 =>
 exI .i64 vs16 1 fun n17 =>
 ldA p8 2 h12 fun cs18 =>
 callV S i_spec_ColumnTable [.agg cs18, .int .i64 n7] h12 fun v20 h19 =>
 viaT v20 fun vs21 =>
 exS vs21 0 fun s22 =>
 viaT v20 fun vs23 =>
 exI .i64 vs23 1 fun n24 =>
 bif (n17 != n24) then
 K (.bool false) h19
 else
 callB S i_laws_rows9 [.sl s15, .sl s22] h19 fun b26 h25 =>
 bif (!b26) then
 K (.bool false) h25
 else
 ldA p8 2 h25 fun cs27 =>
 callV S i_impl_ColumnWords [.agg cs27, .int .i64 n7] h25 fun v29 h28 =>
 viaT v29 fun vs30 =>
 exS vs30 0 fun s31 =>
 viaT v29 fun vs32 =>
 exI .i64 vs32 1 fun n33 =>
 ldA p8 2 h28 fun cs34 =>
 callV S i_spec_ColumnWords [.agg cs34, .int .i64 n7] h28 fun v36 h35 =>
 viaT v36 fun vs37 =>
 exS vs37 0 fun s38 =>
 viaT v36 fun vs39 =>
 exI .i64 vs39 1 fun n40 =>
 bif (n33 != n40) then
 K (.bool false) h35
 else
 callB S i_laws_rows9 [.sl s31, .sl s38] h35 fun b42 h41 =>
 bif (!b42) then
 K (.bool false) h41
 else
 ldA p8 2 h41 fun cs43 =>
 callV S i_impl_CountColumns [.agg cs43, .int .i64 n7] h41 fun v45 h44 =>
 viaT v45 fun vs46 =>
 exI .i64 vs46 0 fun n47 =>
 viaT v45 fun vs48 =>
 exI .i64 vs48 1 fun n49 =>
 ldA p8 2 h44 fun cs50 =>
 callV S i_spec_CountColumns [.agg cs50, .int .i64 n7] h44 fun v52 h51 =>
 viaT v52 fun vs53 =>
 exI .i64 vs53 0 fun n54 =>
 viaT v52 fun vs55 =>
 exI .i64 vs55 1 fun n56 =>
 bif (n49 != n56) then
 K (.bool false) h51
 else
 bif (n47 != n54) then
 K (.bool false) h51
 else
 callV S i_spec_DrawStripSequence [.sl x0] h51 fun v58 h57 =>
 viaT v58 fun vs59 =>
 exA vs59 0 fun cs60 =>
 viaT v58 fun vs61 =>
 exI .i64 vs61 1 fun n62 =>
 viaT v58 fun vs63 =>
 exI .i64 vs63 2 fun n64 =>
 newO [.int .i64 (0), .sl Sl.nil] h57 fun p65 h66 =>
 stN p65 2 cs60 h66 fun h67 =>
 ldA p65 2 h67 fun cs68 =>
 callV S i_impl_StripSequence [.agg cs68, .int .i64 n62, .int .i64 n64] h67 fun v70 h69 =>
 viaT v70 fun vs71 =>
 exS vs71 0 fun s72 =>
 viaT v70 fun vs73 =>
 exI .i64 vs73 1 fun n74 =>
 ldA p65 2 h69 fun cs75 =>
 callV S i_spec_StripSequence [.agg cs75, .int .i64 n62, .int .i64 n64] h69 fun v77 h76 =>
 viaT v77 fun vs78 =>
 exS vs78 0 fun s79 =>
 viaT v77 fun vs80 =>
 exI .i64 vs80 1 fun n81 =>
 bif (n74 != n81) then
 K (.bool false) h76
 else
 callB S i_laws_likeInts [.sl s72, .sl s79] h76 fun b83 h82 =>
 bif (!b83) then
 K (.bool false) h82
 else
 bif (n74 == (0)) then
 ldA p65 2 h82 fun cs84 =>
 callV S i_impl_CountColumns [.agg cs84, .int .i64 n62] h82 fun v86 h85 =>
 viaT v86 fun vs87 =>
 exI .i64 vs87 0 fun n88 =>
 viaT v86 fun vs89 =>
 exI .i64 vs89 1 fun n90 =>
 bif (n90 != (0)) then
 K (.bool false) h85
 else
 bif ((s72.len : Int) != n64) then
 K (.bool false) h85
 else
 ixS s72 1 (0) fun p91 =>
 ldI .i64 p91 h85 fun n92 =>
 bif (n92 != n88) then
 K (.bool false) h85
 else
 bif (n62 == (1)) then
 ldA p65 2 h85 fun cs93 =>
 callV S i_impl_CountRows [.agg cs93, .int .i64 n64] h85 fun v95 h94 =>
 viaT v95 fun vs96 =>
 exI .i64 vs96 0 fun n97 =>
 viaT v95 fun vs98 =>
 exI .i64 vs98 1 fun n99 =>
 bif (n99 != (0)) then
 K (.bool false) h94
 else
 ixS s72 1 (w64 (n64 - (1))) fun p100 =>
 ldI .i64 p100 h94 fun n101 =>
 bif (n97 != n101) then
 K (.bool false) h94
 else
 bif (n17 != (0)) then
 K (.bool ((s15.len : Int) == (0))) h94
 else
 laws_FnColumns_L0 S K s15 s31 n33 n47 n49 (0) (0) h94
 else
 bif (n17 != (0)) then
 K (.bool ((s15.len : Int) == (0))) h85
 else
 laws_FnColumns_L0 S K s15 s31 n33 n47 n49 (0) (0) h85
 else
 bif (n17 != (0)) then
 K (.bool ((s15.len : Int) == (0))) h82
 else
 laws_FnColumns_L0 S K s15 s31 n33 n47 n49 (0) (0) h82
theorem laws_FnColumns_main_link (S : SatT) (K : AVal → H → Prop) (x0 : Sl) (h : H) : cwp S tab laws_FnColumns_M [] (bodyOf Try.f3) (kFun tab Try.f3.results.toList K) (fr0 Try.f3 [.sl x0]) h = laws_FnColumns_main S K x0 h := by kernel_rfl
theorem laws_FnColumns_call (x0 : Sl) (h : H) (K : Bool → H → Prop) (hm : laws_FnColumns_main (Sat Try.prog) (fun v h' => ∃ r, v = .bool r ∧ K r h') x0 h) : callB (Sat Try.prog) i_laws_FnColumns [.sl x0] h K := by
  have := Sat.ex tok mixed laws_FnColumns_M Try.func3 (c := bodyOf Try.f3) (by kernel_rfl) (calls_of Try.func3 (c := bodyOf Try.f3) (by kernel_rfl) (by decide)) ((laws_FnColumns_main_link _ _ x0 h).mpr hm)
  obtain ⟨v, h2, h3, r, rfl, h4⟩ := this; exact ⟨r, h2, h3, h4⟩

/-! ### loop.example/g01354/impl.CountRows -/
def impl_CountRows_M : Nat → List Nat := fun i => bif i == 2 then [7, 20, 21, 22, 26, 27, 28] else bif i == 0 then [7, 20, 21, 22] else []
def impl_CountRows_ks6 (S : SatT) (K : AVal → H → Prop) : Kont := kSeq (cwp S tab impl_CountRows_M [] (sub [1, 1, 1, 1] (bodyOf Try.f18)) (kFun tab (Try.f18).results.toList K)) (kFun tab (Try.f18).results.toList K)
def impl_CountRows_e0 (i7_ : Int) (s20_ : Sl) (i21_ : Int) (i22_ : Int) : Frame := [U, U, U, U, U, U, U, .int .i64 i7_, U, U, U, U, U, U, U, U, U, U, U, U, .sl s20_, .int .i64 i21_, .int .i64 i22_, U, U, U, U, U, U, U, U, U, U, U, U, U, U, U, U, U, U]
def impl_CountRows_w0 (S : SatT) (K : AVal → H → Prop) : (Frame → H → Prop) → Frame → H → Prop := fun X fr h => cwp S tab impl_CountRows_M (impl_CountRows_M 0) (sub [1, 1, 1, 0, 1, 0, 0] (bodyOf Try.f18)) (kSeq (fun fr h => X (mask (impl_CountRows_M 0) fr) h) (kBlk 0 (impl_CountRows_ks6 S K))) fr h
def impl_CountRows_L0 (S : SatT) (K : AVal → H → Prop) (i7_ : Int) (s20_ : Sl) (i21_ : Int) (i22_ : Int) (h : H) : Prop := loopK (impl_CountRows_w0 S K) (impl_CountRows_e0 i7_ s20_ i21_ i22_) h
def impl_CountRows_ks10 (S : SatT) (K : AVal → H → Prop) (X0 : Frame → H → Prop) : Kont := kSeq (cwp S tab impl_CountRows_M (impl_CountRows_M 0) (sub [1, 1, 1, 0, 1, 0, 0, 1, 1, 1] (bodyOf Try.f18)) (kSeq (fun fr h => X0 (mask (impl_CountRows_M 0) fr) h) (kBlk 0 (impl_CountRows_ks6 S K)))) (kSeq (fun fr h => X0 (mask (impl_CountRows_M 0) fr) h) (kBlk 0 (impl_CountRows_ks6 S K)))
def impl_CountRows_e2 (i7_ : Int) (s20_ : Sl) (i21_ : Int) (i22_ : Int) (s26_ : Sl) (i27_ : Int) (i28_ : Int) : Frame := [U, U, U, U, U, U, U, .int .i64 i7_, U, U, U, U, U, U, U, U, U, U, U, U, .sl s20_, .int .i64 i21_, .int .i64 i22_, U, U, U, .sl s26_, .int .i64 i27_, .int .i64 i28_, U, U, U, U, U, U, U, U, U, U, U, U]
def impl_CountRows_w2 (S : SatT) (K : AVal → H → Prop) (X0 : Frame → H → Prop) : (Frame → H → Prop) → Frame → H → Prop := fun X fr h => cwp S tab impl_CountRows_M (impl_CountRows_M 2) (sub [1, 1, 1, 0, 1, 0, 0, 1, 1, 0, 0, 1, 1, 0, 0] (bodyOf Try.f18)) (kSeq (fun fr h => X (mask (impl_CountRows_M 2) fr) h) (kBlk 2 (kBlk 1 (impl_CountRows_ks10 S K X0)))) fr h
def impl_CountRows_L2 (S : SatT) (K : AVal → H → Prop) (X0 : Frame → H → Prop) (i7_ : Int) (s20_ : Sl) (i21_ : Int) (i22_ : Int) (s26_ : Sl) (i27_ : Int) (i28_ : Int) (h : H) : Prop := loopK (impl_CountRows_w2 S K X0) (impl_CountRows_e2 i7_ s20_ i21_ i22_ s26_ i27_ i28_) h
def impl_CountRows_C1 (S : SatT) (K : AVal → H → Prop) (X0 : Frame → H → Prop) (i7_ : Int) (s20_ : Sl) (i21_ : Int) (i22_ : Int) (h : H) : Prop :=
 X0 (impl_CountRows_e0 i7_ s20_ i21_ (w64 (i22_ + (1)))) h
def impl_CountRows_C2 (S : SatT) (K : AVal → H → Prop) (X0 : Frame → H → Prop) (i7_ : Int) (s20_ : Sl) (i21_ : Int) (i22_ : Int) (h : H) : Prop :=
 impl_CountRows_C1 S K X0 i7_ s20_ i21_ i22_ h
def impl_CountRows_b2 (S : SatT) (K : AVal → H → Prop) (X0 : Frame → H → Prop) (X2 : Frame → H → Prop) (i7_ : Int) (s20_ : Sl) (i21_ : Int) (i22_ : Int) (s26_ : Sl) (i27_ : Int) (i28_ : Int) (h : H) : Prop :=
 bif (decide (i28_ < i27_)) then
 ixS s26_ 1 i28_ fun p0 =>
 ldI .i64 p0 h fun n1 =>
 X2 (impl_CountRows_e2 (w64 (i7_ + n1)) s20_ i21_ i22_ s26_ i27_ (w64 (i28_ + (1)))) h
 else
 impl_CountRows_C2 S K X0 i7_ s20_ i21_ i22_ h
theorem impl_CountRows_link2 (S : SatT) (K : AVal → H → Prop) (X0 : Frame → H → Prop) (X2 : Frame → H → Prop) (i7_ : Int) (s20_ : Sl) (i21_ : Int) (i22_ : Int) (s26_ : Sl) (i27_ : Int) (i28_ : Int) (h : H) : impl_CountRows_w2 S K X0 X2 (impl_CountRows_e2 i7_ s20_ i21_ i22_ s26_ i27_ i28_) h = impl_CountRows_b2 S K X0 X2 i7_ s20_ i21_ i22_ s26_ i27_ i28_ h := by kernel_rfl
theorem impl_CountRows_rule2 (S : SatT) (K : AVal → H → Prop) (X0 : Frame → H → Prop) (s20_ : Sl) (i21_ : Int) (i22_ : Int) (s26_ : Sl) (i27_ : Int) (I_ : Int → Int → H → Prop) (m_ : Int → Int → H → Nat)
    (hs : ∀ (X2 : Frame → H → Prop) (i7_ : Int) (i28_ : Int) (h : H), I_ i7_ i28_ h → (∀ (i7_' : Int) (i28_' : Int) (h' : H), I_ i7_' i28_' h' → m_ i7_' i28_' h' < m_ i7_ i28_ h → X2 (impl_CountRows_e2 i7_' s20_ i21_ i22_ s26_ i27_ i28_') h') → impl_CountRows_b2 S K X0 X2 i7_ s20_ i21_ i22_ s26_ i27_ i28_ h) (i7_ : Int) (i28_ : Int) {h : H} (h0 : I_ i7_ i28_ h) : impl_CountRows_L2 S K X0 i7_ s20_ i21_ i22_ s26_ i27_ i28_ h :=
  loop_rule (σ := (Int) × (Int)) (fun s_ => impl_CountRows_e2 (s_.1) s20_ i21_ i22_ s26_ i27_ (s_.2)) (fun s_ h => I_ (s_.1) (s_.2) h) (fun s_ h => m_ (s_.1) (s_.2) h)
    (fun X s_ h hi hx => (impl_CountRows_link2 S K X0 X (s_.1) s20_ i21_ i22_ s26_ i27_ (s_.2) h).mpr (hs X (s_.1) (s_.2) h hi fun i7_' i28_' h' hi' hm' => hx (i7_', i28_') h' hi' hm')) (i7_, i28_) h0
def impl_CountRows_C0 (S : SatT) (K : AVal → H → Prop) (i7_ : Int) (h : H) : Prop :=
 callV S i_impl_counted [.int .i64 i7_] h fun v1 h0 =>
 viaT v1 fun vs2 =>
 exI .i64 vs2 0 fun n3 =>
 viaT v1 fun vs4 =>
 exI .i64 vs4 1 fun n5 =>
 K (.tuple [.int .i64 n3, .int .i64 n5]) h0
def impl_CountRows_b0 (S : SatT) (K : AVal → H → Prop) (X0 : Frame → H → Prop) (i7_ : Int) (s20_ : Sl) (i21_ : Int) (i22_ : Int) (h : H) : Prop :=
 bif (decide (i22_ < i21_)) then
 ixS s20_ 1 i22_ fun p0 =>
 ldS p0 h fun s1 =>
 impl_CountRows_L2 S K X0 i7_ s20_ i21_ i22_ s1 (s1.len : Int) (0) h
 else
 impl_CountRows_C0 S K i7_ h
theorem impl_CountRows_link0 (S : SatT) (K : AVal → H → Prop) (X0 : Frame → H → Prop) (i7_ : Int) (s20_ : Sl) (i21_ : Int) (i22_ : Int) (h : H) : impl_CountRows_w0 S K X0 (impl_CountRows_e0 i7_ s20_ i21_ i22_) h = impl_CountRows_b0 S K X0 i7_ s20_ i21_ i22_ h := by kernel_rfl
theorem impl_CountRows_rule0 (S : SatT) (K : AVal → H → Prop) (s20_ : Sl) (i21_ : Int) (I_ : Int → Int → H → Prop) (m_ : Int → Int → H → Nat)
    (hs : ∀ (X0 : Frame → H → Prop) (i7_ : Int) (i22_ : Int) (h : H), I_ i7_ i22_ h → (∀ (i7_' : Int) (i22_' : Int) (h' : H), I_ i7_' i22_' h' → m_ i7_' i22_' h' < m_ i7_ i22_ h → X0 (impl_CountRows_e0 i7_' s20_ i21_ i22_') h') → impl_CountRows_b0 S K X0 i7_ s20_ i21_ i22_ h) (i7_ : Int) (i22_ : Int) {h : H} (h0 : I_ i7_ i22_ h) : impl_CountRows_L0 S K i7_ s20_ i21_ i22_ h :=
  loop_rule (σ := (Int) × (Int)) (fun s_ => impl_CountRows_e0 (s_.1) s20_ i21_ (s_.2)) (fun s_ h => I_ (s_.1) (s_.2) h) (fun s_ h => m_ (s_.1) (s_.2) h)
    (fun X s_ h hi hx => (impl_CountRows_link0 S K X (s_.1) s20_ i21_ (s_.2) h).mpr (hs X (s_.1) (s_.2) h hi fun i7_' i22_' h' hi' hm' => hx (i7_', i22_') h' hi' hm')) (i7_, i22_) h0
def impl_CountRows_main (S : SatT) (K : AVal → H → Prop) (x0 : List AVal) (x1 : Int) (h : H) : Prop :=
 newK 2 x0 h fun p0 h1 =>
 newO [.int .i64 x1] h1 fun p2 h3 =>
 ldA p0 2 h3 fun cs4 =>
 callI S .i64 i_impl_setCode [.agg cs4, .func 48 [.ptr p2]] h3 fun n6 h5 =>
 bif (n6 != (0)) then
 K (.tuple [.int .i64 (0), .int .i64 n6]) h5
 else
 ldA p0 2 h5 fun cs7 =>
 ldI .i64 p2 h5 fun n8 =>
 callS S i_impl_Set_ways [.agg cs7, .int .i64 n8] h5 fun s10 h9 =>
 impl_CountRows_L0 S K (0) s10 (s10.len : Int) (0) h9
theorem impl_CountRows_main_link (S : SatT) (K : AVal → H → Prop) (x0 : List AVal) (x1 : Int) (h : H) : cwp S tab impl_CountRows_M [] (bodyOf Try.f18) (kFun tab Try.f18.results.toList K) (fr0 Try.f18 [.agg x0, .int .i64 x1]) h = impl_CountRows_main S K x0 x1 h := by kernel_rfl
theorem impl_CountRows_call (x0 : List AVal) (x1 : Int) (h : H) (K : AVal → H → Prop) (hm : impl_CountRows_main (Sat Try.prog) (fun v h' => K v h') x0 x1 h) : callV (Sat Try.prog) i_impl_CountRows [.agg x0, .int .i64 x1] h K := by
  have := Sat.ex tok mixed impl_CountRows_M Try.func18 (c := bodyOf Try.f18) (by kernel_rfl) (calls_of Try.func18 (c := bodyOf Try.f18) (by kernel_rfl) (by decide)) ((impl_CountRows_main_link _ _ x0 x1 h).mpr hm)
  exact this

/-! ### loop.example/g01354/spec.l01Draw -/
def spec_l01Draw_M : Nat → List Nat := fun i => []
def spec_l01Draw_main (S : SatT) (K : AVal → H → Prop) (x0 : Pt) (h : H) : Prop :=
 newO [.int .i64 (0), .sl Sl.nil] h fun p0 h1 =>
 callI S .i64 i_spec_l01Next [.ptr x0, .int .i64 (4)] h1 fun n3 h2 =>
 bif (n3 == (0)) then
 bif (n3 == (0)) then
 callA S i_spec_l01Small [.ptr x0] h2 fun cs5 h4 =>
 stN p0 2 cs5 h4 fun h6 =>
 ldA p0 2 h6 fun cs7 =>
 K (.agg cs7) h6
 else
 bif (n3 == (2)) then
 newS 3 1 [.int .i64 (2), .int .i64 (3), .int .i64 (4)] h2 fun s8 h9 =>
 callI S .i64 i_spec_l01Pick [.ptr x0, .sl s8] h9 fun n11 h10 =>
 callI S .i64 i_spec_l01Next [.ptr x0, .int .i64 (10)] h10 fun n13 h12 =>
 callA S i_spec_l01DrawOf [.ptr x0, .int .i64 n11, .int .i64 n13] h12 fun cs15 h14 =>
 newO [.int .i64 (0), .sl Sl.nil] h14 fun p16 h17 =>
 stN p16 2 cs15 h17 fun h18 =>
 isPt p16 (
 ldI .i64 (Pt.add p16 0) h18 fun n19 =>
 callI S .i64 i_spec_l01Next [.ptr x0, .int .i64 n19] h18 fun n21 h20 =>
 isPt p16 (
 ldI .i64 (Pt.add p16 0) h20 fun n22 =>
(cell h18 (Pt.add p16 0) = cell h20 (Pt.add p16 0)) ∧ (
 callI S .i64 i_spec_l01Next [.ptr x0, .int .i64 n22] h20 fun n24 h23 =>
 slotK 15 h23 fun h25 =>
 isPt p16 (
 ldI .i64 (Pt.add p16 0) h25 fun n26 =>
 isPt p16 (
 ldS (Pt.add p16 1) h25 fun s27 =>
 newSat 0 4 [] h25 (h23.length + 2) fun s28 h29 =>
(cell h29 (Pt.add p16 1) = cell h25 (Pt.add p16 1)) ∧ (
(cell h29 (Pt.add p16 0) = cell h25 (Pt.add p16 0)) ∧ (
 app s28 s27 4 h29 fun s30 h31 =>
(cell h31 (Pt.add p16 0) = cell h25 (Pt.add p16 0)) ∧ (
 lenA [.int .i64 n21, .int .i64 n24, .int .i64 n21, .int .i64 n24] 4 (
 newSat 1 4 (spl [.int .i64 (0), .int .i64 (0), .int .i64 (0), .int .i64 (0)] 0 4 [.int .i64 n21, .int .i64 n24, .int .i64 n21, .int .i64 n24]) h31 (h23.length + 11) fun s32 h33 =>
(cell h31 (Pt.add p16 1) = cell h25 (Pt.add p16 1)) ∧ (
(cell h33 (Pt.add p16 1) = cell h25 (Pt.add p16 1)) ∧ (
(cell h33 (Pt.add p16 0) = cell h25 (Pt.add p16 0)) ∧ (
 app s30 s32 4 h33 fun s34 h35 =>
(cell h35 (Pt.add p16 0) = cell h25 (Pt.add p16 0)) ∧ (
 callA S i_spec_l01Made [.int .i64 n26, .sl s34] h35 fun cs37 h36 =>
 stN p0 2 cs37 h36 fun h38 =>
 ldA p0 2 h38 fun cs39 =>
 K (.agg cs39) h38)))))))))))))
 else
 callI S .i64 i_spec_l01Next [.ptr x0, .int .i64 (6)] h2 fun n41 h40 =>
 callI S .i64 i_spec_l01Next [.ptr x0, .int .i64 (17)] h40 fun n43 h42 =>
 callA S i_spec_l01DrawOf [.ptr x0, .int .i64 (w64 ((1) + n41)), .int .i64 n43] h42 fun cs45 h44 =>
 stN p0 2 cs45 h44 fun h46 =>
 ldA p0 2 h46 fun cs47 =>
 K (.agg cs47) h46
 else
 bif (n3 == (1)) then
 callA S i_spec_l01Small [.ptr x0] h2 fun cs49 h48 =>
 stN p0 2 cs49 h48 fun h50 =>
 ldA p0 2 h50 fun cs51 =>
 K (.agg cs51) h50
 else
 bif (n3 == (2)) then
 newS 3 1 [.int .i64 (2), .int .i64 (3), .int .i64 (4)] h2 fun s52 h53 =>
 callI S .i64 i_spec_l01Pick [.ptr x0, .sl s52] h53 fun n55 h54 =>
 callI S .i64 i_spec_l01Next [.ptr x0, .int .i64 (10)] h54 fun n57 h56 =>
 callA S i_spec_l01DrawOf [.ptr x0, .int .i64 n55, .int .i64 n57] h56 fun cs59 h58 =>
 newO [.int .i64 (0), .sl Sl.nil] h58 fun p60 h61 =>
 stN p60 2 cs59 h61 fun h62 =>
 isPt p60 (
 ldI .i64 (Pt.add p60 0) h62 fun n63 =>
 callI S .i64 i_spec_l01Next [.ptr x0, .int .i64 n63] h62 fun n65 h64 =>
 isPt p60 (
 ldI .i64 (Pt.add p60 0) h64 fun n66 =>
(cell h62 (Pt.add p60 0) = cell h64 (Pt.add p60 0)) ∧ (
 callI S .i64 i_spec_l01Next [.ptr x0, .int .i64 n66] h64 fun n68 h67 =>
 slotK 15 h67 fun h69 =>
 isPt p60 (
 ldI .i64 (Pt.add p60 0) h69 fun n70 =>
 isPt p60 (
 ldS (Pt.add p60 1) h69 fun s71 =>
 newSat 0 4 [] h69 (h67.length + 2) fun s72 h73 =>
(cell h73 (Pt.add p60 1) = cell h69 (Pt.add p60 1)) ∧ (
(cell h73 (Pt.add p60 0) = cell h69 (Pt.add p60 0)) ∧ (
 app s72 s71 4 h73 fun s74 h75 =>
(cell h75 (Pt.add p60 0) = cell h69 (Pt.add p60 0)) ∧ (
 lenA [.int .i64 n65, .int .i64 n68, .int .i64 n65, .int .i64 n68] 4 (
 newSat 1 4 (spl [.int .i64 (0), .int .i64 (0), .int .i64 (0), .int .i64 (0)] 0 4 [.int .i64 n65, .int .i64 n68, .int .i64 n65, .int .i64 n68]) h75 (h67.length + 11) fun s76 h77 =>
(cell h75 (Pt.add p60 1) = cell h69 (Pt.add p60 1)) ∧ (
(cell h77 (Pt.add p60 1) = cell h69 (Pt.add p60 1)) ∧ (
(cell h77 (Pt.add p60 0) = cell h69 (Pt.add p60 0)) ∧ (
 app s74 s76 4 h77 fun s78 h79 =>
(cell h79 (Pt.add p60 0) = cell h69 (Pt.add p60 0)) ∧ (
 callA S i_spec_l01Made [.int .i64 n70, .sl s78] h79 fun cs81 h80 =>
 stN p0 2 cs81 h80 fun h82 =>
 ldA p0 2 h82 fun cs83 =>
 K (.agg cs83) h82)))))))))))))
 else
 callI S .i64 i_spec_l01Next [.ptr x0, .int .i64 (6)] h2 fun n85 h84 =>
 callI S .i64 i_spec_l01Next [.ptr x0, .int .i64 (17)] h84 fun n87 h86 =>
 callA S i_spec_l01DrawOf [.ptr x0, .int .i64 (w64 ((1) + n85)), .int .i64 n87] h86 fun cs89 h88 =>
 stN p0 2 cs89 h88 fun h90 =>
 ldA p0 2 h90 fun cs91 =>
 K (.agg cs91) h90
theorem spec_l01Draw_main_link (S : SatT) (K : AVal → H → Prop) (x0 : Pt) (h : H) : cwp S tab spec_l01Draw_M [] (bodyOf Try.f93) (kFun tab Try.f93.results.toList K) (fr0 Try.f93 [.ptr x0]) h = spec_l01Draw_main S K x0 h := by kernel_rfl
theorem spec_l01Draw_call (x0 : Pt) (h : H) (K : List AVal → H → Prop) (hm : spec_l01Draw_main (Sat Try.prog) (fun v h' => ∃ r, v = .agg r ∧ K r h') x0 h) : callA (Sat Try.prog) i_spec_l01Draw [.ptr x0] h K := by
  have := Sat.ex tok mixed spec_l01Draw_M Try.func93 (c := bodyOf Try.f93) (by kernel_rfl) (calls_of Try.func93 (c := bodyOf Try.f93) (by kernel_rfl) (by decide)) ((spec_l01Draw_main_link _ _ x0 h).mpr hm)
  obtain ⟨v, h2, h3, r, rfl, h4⟩ := this; exact ⟨r, h2, h3, h4⟩

/-! ### loop.example/g01354/spec.l01Named -/
def spec_l01Named_M : Nat → List Nat := fun i => bif i == 0 then [0, 2, 4, 5, 6] else []
def spec_l01Named_ks3 (S : SatT) (K : AVal → H → Prop) : Kont := kSeq (cwp S tab spec_l01Named_M [] (sub [1, 1, 1, 1] (bodyOf Try.f95)) (kFun tab (Try.f95).results.toList K)) (kFun tab (Try.f95).results.toList K)
def spec_l01Named_e0 (f0_ : AVal) (p2_ : Pt) (s4_ : Sl) (s5_ : Sl) (i6_ : Int) : Frame := [f0_, U, .ptr p2_, U, .sl s4_, .sl s5_, .int .i64 i6_, U, U, U, U, U, U, U, U, U, U, U, U, U, U, U, U, U, U, U, U, U, U, U, U, U, U]
def spec_l01Named_w0 (S : SatT) (K : AVal → H → Prop) : (Frame → H → Prop) → Frame → H → Prop := fun X fr h => cwp S tab spec_l01Named_M (spec_l01Named_M 0) (sub [1, 1, 1, 0, 1, 0, 0] (bodyOf Try.f95)) (kSeq (fun fr h => X (mask (spec_l01Named_M 0) fr) h) (kBlk 0 (spec_l01Named_ks3 S K))) fr h
def spec_l01Named_L0 (S : SatT) (K : AVal → H → Prop) (f0_ : AVal) (p2_ : Pt) (s4_ : Sl) (s5_ : Sl) (i6_ : Int) (h : H) : Prop := loopK (spec_l01Named_w0 S K) (spec_l01Named_e0 f0_ p2_ s4_ s5_ i6_) h
def spec_l01Named_C0 (S : SatT) (K : AVal → H → Prop) (p2_ : Pt) (h : H) : Prop :=
 stN p2_ 2 [.int .i64 (0), .sl Sl.nil] h fun h0 =>
 ldA p2_ 2 h0 fun cs1 =>
 K (.tuple [.agg cs1, .bool false]) h0
def spec_l01Named_b0 (S : SatT) (K : AVal → H → Prop) (X0 : Frame → H → Prop) (f0_ : AVal) (p2_ : Pt) (s4_ : Sl) (s5_ : Sl) (i6_ : Int) (h : H) : Prop :=
 bif (decide (i6_ < (s4_.len : Int))) then
 ixS s4_ 1 i6_ fun p0 =>
 ldV p0 h fun v1 =>
 strEq v1 f0_ fun b2 =>
 bif b2 then
 ixS s5_ 1 i6_ fun p3 =>
 ldV p3 h fun v4 =>
 callV S i_spec_l01Read [v4] h fun v6 h5 =>
 viaT v6 fun vs7 =>
 exA vs7 0 fun cs8 =>
 viaT v6 fun vs9 =>
 exB vs9 1 fun b10 =>
 newO [.int .i64 (0), .sl Sl.nil] h5 fun p11 h12 =>
 stN p11 2 cs8 h12 fun h13 =>
 ldA p11 2 h13 fun cs14 =>
 stN p2_ 2 cs14 h13 fun h15 =>
 ldA p2_ 2 h15 fun cs16 =>
 K (.tuple [.agg cs16, .bool true]) h15
 else
 X0 (spec_l01Named_e0 f0_ p2_ s4_ s5_ (w64 (i6_ + (1)))) h
 else
 spec_l01Named_C0 S K p2_ h
theorem spec_l01Named_link0 (S : SatT) (K : AVal → H → Prop) (X0 : Frame → H → Prop) (f0_ : AVal) (p2_ : Pt) (s4_ : Sl) (s5_ : Sl) (i6_ : Int) (h : H) : spec_l01Named_w0 S K X0 (spec_l01Named_e0 f0_ p2_ s4_ s5_ i6_) h = spec_l01Named_b0 S K X0 f0_ p2_ s4_ s5_ i6_ h := by kernel_rfl
theorem spec_l01Named_rule0 (S : SatT) (K : AVal → H → Prop) (f0_ : AVal) (p2_ : Pt) (s4_ : Sl) (s5_ : Sl) (I_ : Int → H → Prop) (m_ : Int → H → Nat)
    (hs : ∀ (X0 : Frame → H → Prop) (i6_ : Int) (h : H), I_ i6_ h → (∀ (i6_' : Int) (h' : H), I_ i6_' h' → m_ i6_' h' < m_ i6_ h → X0 (spec_l01Named_e0 f0_ p2_ s4_ s5_ i6_') h') → spec_l01Named_b0 S K X0 f0_ p2_ s4_ s5_ i6_ h) (i6_ : Int) {h : H} (h0 : I_ i6_ h) : spec_l01Named_L0 S K f0_ p2_ s4_ s5_ i6_ h :=
  loop_rule (σ := (Int)) (fun s_ => spec_l01Named_e0 f0_ p2_ s4_ s5_ (s_)) (fun s_ h => I_ (s_) h) (fun s_ h => m_ (s_) h)
    (fun X s_ h hi hx => (spec_l01Named_link0 S K X f0_ p2_ s4_ s5_ (s_) h).mpr (hs X (s_) h hi fun i6_' h' hi' hm' => hx (i6_') h' hi' hm')) (i6_) h0
def spec_l01Named_main (S : SatT) (K : AVal → H → Prop) (x0 : AVal) (h : H) : Prop :=
 newO [.int .i64 (0), .sl Sl.nil] h fun p0 h1 =>
 callS S i_spec_l01Names [] h1 fun s3 h2 =>
 newS 8 1 [.str (⟨#[49, 58, 48, 48, 48, 48]⟩ : ByteArray), .str (⟨#[50, 58, 48, 48, 49, 49, 44, 49, 49, 48, 48]⟩ : ByteArray), .str (⟨#[50, 58, 48, 48, 48, 48, 44, 48, 49, 48, 49, 44, 49, 48, 49, 48, 44, 49, 49, 49, 49]⟩ : ByteArray), .str (⟨#[50, 58, 48, 48, 48, 48, 44, 48, 49, 49, 48, 44, 49, 48, 48, 49, 44, 49, 49, 49, 49]⟩ : ByteArray), .str (⟨#[50, 58, 48, 48, 48, 48, 44, 48, 49, 49, 49, 44, 49, 48, 49, 49, 44, 49, 49, 48, 48]⟩ : ByteArray), .str (⟨#[50, 58, 48, 48, 48, 48, 44, 48, 48, 49, 49, 44, 48, 49, 48, 49, 44, 49, 49, 49, 48]⟩ : ByteArray), .str (⟨#[50, 58, 48, 48, 48, 49]⟩ : ByteArray), .str (⟨#[51, 58, 48, 49, 50, 48, 44, 49, 50, 48, 49, 44, 50, 48, 49, 50]⟩ : ByteArray)] h2 fun s4 h5 =>
 spec_l01Named_L0 S K x0 p0 s3 s4 (0) h5
theorem spec_l01Named_main_link (S : SatT) (K : AVal → H → Prop) (x0 : AVal) (h : H) : cwp S tab spec_l01Named_M [] (bodyOf Try.f95) (kFun tab Try.f95.results.toList K) (fr0 Try.f95 [x0]) h = spec_l01Named_main S K x0 h := by kernel_rfl
theorem spec_l01Named_call (x0 : AVal) (h : H) (K : AVal → H → Prop) (hm : spec_l01Named_main (Sat Try.prog) (fun v h' => K v h') x0 h) : callV (Sat Try.prog) i_spec_l01Named [x0] h K := by
  have := Sat.ex tok mixed spec_l01Named_M Try.func95 (c := bodyOf Try.f95) (by kernel_rfl) (calls_of Try.func95 (c := bodyOf Try.f95) (by kernel_rfl) (by decide)) ((spec_l01Named_main_link _ _ x0 h).mpr hm)
  exact this

/-! ### slices.Repeat[[]int64,int64] -/
def slices_Repeat_s_int64_int64__M : Nat → List Nat := fun i => bif i == 0 then [7, 8] else []
def slices_Repeat_s_int64_int64__ks8 (S : SatT) (K : AVal → H → Prop) : Kont := kSeq (cwp S tab slices_Repeat_s_int64_int64__M [] (sub [1, 1, 1, 1, 1, 1, 1] (bodyOf Try.f72)) (kFun tab (Try.f72).results.toList K)) (kFun tab (Try.f72).results.toList K)
def slices_Repeat_s_int64_int64__e0 (s7_ : Sl) (i8_ : Int) : Frame := [U, U, U, U, U, U, U, .sl s7_, .int .i64 i8_, U, U, U, U, U, U, U, U, U, U, U, U, U, U, U, U, U, U, U, U, U, U, U, U, U, U, U, U, U, U, U, U, U, U, U, U, U, U, U]
def slices_Repeat_s_int64_int64__w0 (S : SatT) (K : AVal → H → Prop) : (Frame → H → Prop) → Frame → H → Prop := fun X fr h => cwp S tab slices_Repeat_s_int64_int64__M (slices_Repeat_s_int64_int64__M 0) (sub [1, 1, 1, 1, 1, 1, 0, 0, 0] (bodyOf Try.f72)) (kSeq (fun fr h => X (mask (slices_Repeat_s_int64_int64__M 0) fr) h) (kBlk 0 (slices_Repeat_s_int64_int64__ks8 S K))) fr h
def slices_Repeat_s_int64_int64__L0 (S : SatT) (K : AVal → H → Prop) (s7_ : Sl) (i8_ : Int) (h : H) : Prop := loopK (slices_Repeat_s_int64_int64__w0 S K) (slices_Repeat_s_int64_int64__e0 s7_ i8_) h
def slices_Repeat_s_int64_int64__C0 (S : SatT) (K : AVal → H → Prop) (s7_ : Sl) (h : H) : Prop :=
 K (.sl s7_) h
def slices_Repeat_s_int64_int64__b0 (S : SatT) (K : AVal → H → Prop) (X0 : Frame → H → Prop) (s7_ : Sl) (i8_ : Int) (h : H) : Prop :=
 bif (decide (i8_ < (s7_.len : Int))) then
 cut s7_ 1 i8_ (s7_.len : Int) h fun s0 =>
 cut s7_ 1 (0) i8_ h fun s1 =>
 copyS s0 s1 1 h fun n2 h3 =>
 X0 (slices_Repeat_s_int64_int64__e0 s7_ (w64 (i8_ + n2))) h3
 else
 slices_Repeat_s_int64_int64__C0 S K s7_ h
theorem slices_Repeat_s_int64_int64__link0 (S : SatT) (K : AVal → H → Prop) (X0 : Frame → H → Prop) (s7_ : Sl) (i8_ : Int) (h : H) : slices_Repeat_s_int64_int64__w0 S K X0 (slices_Repeat_s_int64_int64__e0 s7_ i8_) h = slices_Repeat_s_int64_int64__b0 S K X0 s7_ i8_ h := by kernel_rfl
theorem slices_Repeat_s_int64_int64__rule0 (S : SatT) (K : AVal → H → Prop) (s7_ : Sl) (I_ : Int → H → Prop) (m_ : Int → H → Nat)
    (hs : ∀ (X0 : Frame → H → Prop) (i8_ : Int) (h : H), I_ i8_ h → (∀ (i8_' : Int) (h' : H), I_ i8_' h' → m_ i8_' h' < m_ i8_ h → X0 (slices_Repeat_s_int64_int64__e0 s7_ i8_') h') → slices_Repeat_s_int64_int64__b0 S K X0 s7_ i8_ h) (i8_ : Int) {h : H} (h0 : I_ i8_ h) : slices_Repeat_s_int64_int64__L0 S K s7_ i8_ h :=
  loop_rule (σ := (Int)) (fun s_ => slices_Repeat_s_int64_int64__e0 s7_ (s_)) (fun s_ h => I_ (s_) h) (fun s_ h => m_ (s_) h)
    (fun X s_ h hi hx => (slices_Repeat_s_int64_int64__link0 S K X s7_ (s_) h).mpr (hs X (s_) h hi fun i8_' h' hi' hm' => hx (i8_') h' hi' hm')) (i8_) h0
def slices_Repeat_s_int64_int64__main (S : SatT) (K : AVal → H → Prop) (x0 : Sl) (x1 : Int) (h : H) : Prop :=
 bif (decide (x1 < (0))) then
 False
 else
 callV S i_math_bits_Mul [.int .u64 (IntKind.wrap .u64 ((x0.len : Int))), .int .u64 (IntKind.wrap .u64 (x1))] h fun v1 h0 =>
 viaT v1 fun vs2 =>
 exI .u64 vs2 0 fun n3 =>
 viaT v1 fun vs4 =>
 exI .u64 vs4 1 fun n5 =>
 bif (decide (n3 > (0))) then
 False
 else
 bif (decide (n5 > (9223372036854775807))) then
 False
 else
 mkS (w64 (n5)) [.int .i64 (0)] h0 fun s6 h7 =>
 copyS s6 x0 1 h7 fun n8 h9 =>
 slices_Repeat_s_int64_int64__L0 S K s6 n8 h9
theorem slices_Repeat_s_int64_int64__main_link (S : SatT) (K : AVal → H → Prop) (x0 : Sl) (x1 : Int) (h : H) : cwp S tab slices_Repeat_s_int64_int64__M [] (bodyOf Try.f72) (kFun tab Try.f72.results.toList K) (fr0 Try.f72 [.sl x0, .int .i64 x1]) h = slices_Repeat_s_int64_int64__main S K x0 x1 h := by kernel_rfl
theorem slices_Repeat_s_int64_int64__call (x0 : Sl) (x1 : Int) (h : H) (K : Sl → H → Prop) (hm : slices_Repeat_s_int64_int64__main (Sat Try.prog) (fun v h' => ∃ r, v = .sl r ∧ K r h') x0 x1 h) : callS (Sat Try.prog) i_slices_Repeat_s_int64_int64_ [.sl x0, .int .i64 x1] h K := by
  have := Sat.ex tok mixed slices_Repeat_s_int64_int64__M Try.func72 (c := bodyOf Try.f72) (by kernel_rfl) (calls_of Try.func72 (c := bodyOf Try.f72) (by kernel_rfl) (by decide)) ((slices_Repeat_s_int64_int64__main_link _ _ x0 x1 h).mpr hm)
  obtain ⟨v, h2, h3, r, rfl, h4⟩ := this; exact ⟨r, h2, h3, h4⟩

/-! ### loop.example/g01354/impl.IsSet -/
def impl_IsSet_M : Nat → List Nat := fun i => bif i == 0 then [1, 6, 7, 8] else []
def impl_IsSet_ks1 (S : SatT) (K : AVal → H → Prop) : Kont := kSeq (cwp S tab impl_IsSet_M [] (sub [1, 1] (bodyOf Try.f71)) (kFun tab (Try.f71).results.toList K)) (kFun tab (Try.f71).results.toList K)
def impl_IsSet_e0 (p1_ : Pt) (s6_ : Sl) (i7_ : Int) (i8_ : Int) : Frame := [U, .ptr p1_, U, U, U, U, .sl s6_, .int .i64 i7_, .int .i64 i8_, U, U, U, U, U, U, U, U, U, U, U, U, U, U, U, U, U, U, U, U, U, U, U, U, U, U, U, U, U, U, U, U, U, U]
def impl_IsSet_w0 (S : SatT) (K : AVal → H → Prop) : (Frame → H → Prop) → Frame → H → Prop := fun X fr h => cwp S tab impl_IsSet_M (impl_IsSet_M 0) (sub [1, 0, 1, 0, 0] (bodyOf Try.f71)) (kSeq (fun fr h => X (mask (impl_IsSet_M 0) fr) h) (kBlk 0 (impl_IsSet_ks1 S K))) fr h
def impl_IsSet_L0 (S : SatT) (K : AVal → H → Prop) (p1_ : Pt) (s6_ : Sl) (i7_ : Int) (i8_ : Int) (h : H) : Prop := loopK (impl_IsSet_w0 S K) (impl_IsSet_e0 p1_ s6_ i7_ i8_) h
def impl_IsSet_C0 (S : SatT) (K : AVal → H → Prop) (p1_ : Pt) (h : H) : Prop :=
 isPt p1_ (
 ldI .i64 (Pt.add p1_ 0) h fun n0 =>
 callB S i_impl_within [.int .i64 n0, .int .i64 (1), .int .i64 (6)] h fun b2 h1 =>
 bif b2 then
 isPt p1_ (
 ldS (Pt.add p1_ 1) h1 fun s3 =>
 K (.bool (decide ((s3.len : Int) ≤ (16)))) h1)
 else
 K (.bool false) h1)
def impl_IsSet_b0 (S : SatT) (K : AVal → H → Prop) (X0 : Frame → H → Prop) (p1_ : Pt) (s6_ : Sl) (i7_ : Int) (i8_ : Int) (h : H) : Prop :=
 bif (decide (i8_ < i7_)) then
 ixS s6_ 4 i8_ fun p0 =>
 ldA p0 4 h fun cs1 =>
 newO [.int .i64 (0), .int .i64 (0), .int .i64 (0), .int .i64 (0)] h fun p2 h3 =>
 stN p2 4 cs1 h3 fun h4 =>
 ldA p2 4 h4 fun cs5 =>
 isPt p1_ (
 ldI .i64 (Pt.add p1_ 0) h4 fun n6 =>
 callB S i_impl_isTile [.agg cs5, .int .i64 n6] h4 fun b8 h7 =>
 bif (!b8) then
 K (.bool false) h7
 else
 bif (decide (i8_ > (0))) then
 isPt p1_ (
 ldS (Pt.add p1_ 1) h7 fun s9 =>
 ixS s9 4 (w64 (i8_ - (1))) fun p10 =>
 ldA p10 4 h7 fun cs11 =>
 ldA p2 4 h7 fun cs12 =>
 callI S .i64 i_impl_compare [.agg cs11, .agg cs12] h7 fun n14 h13 =>
 bif (decide (n14 ≥ (0))) then
 K (.bool false) h13
 else
 X0 (impl_IsSet_e0 p1_ s6_ i7_ (w64 (i8_ + (1)))) h13)
 else
 X0 (impl_IsSet_e0 p1_ s6_ i7_ (w64 (i8_ + (1)))) h7)
 else
 impl_IsSet_C0 S K p1_ h
theorem impl_IsSet_link0 (S : SatT) (K : AVal → H → Prop) (X0 : Frame → H → Prop) (p1_ : Pt) (s6_ : Sl) (i7_ : Int) (i8_ : Int) (h : H) : impl_IsSet_w0 S K X0 (impl_IsSet_e0 p1_ s6_ i7_ i8_) h = impl_IsSet_b0 S K X0 p1_ s6_ i7_ i8_ h := by kernel_rfl
theorem impl_IsSet_rule0 (S : SatT) (K : AVal → H → Prop) (p1_ : Pt) (s6_ : Sl) (i7_ : Int) (I_ : Int → H → Prop) (m_ : Int → H → Nat)
    (hs : ∀ (X0 : Frame → H → Prop) (i8_ : Int) (h : H), I_ i8_ h → (∀ (i8_' : Int) (h' : H), I_ i8_' h' → m_ i8_' h' < m_ i8_ h → X0 (impl_IsSet_e0 p1_ s6_ i7_ i8_') h') → impl_IsSet_b0 S K X0 p1_ s6_ i7_ i8_ h) (i8_ : Int) {h : H} (h0 : I_ i8_ h) : impl_IsSet_L0 S K p1_ s6_ i7_ i8_ h :=
  loop_rule (σ := (Int)) (fun s_ => impl_IsSet_e0 p1_ s6_ i7_ (s_)) (fun s_ h => I_ (s_) h) (fun s_ h => m_ (s_) h)
    (fun X s_ h hi hx => (impl_IsSet_link0 S K X p1_ s6_ i7_ (s_) h).mpr (hs X (s_) h hi fun i8_' h' hi' hm' => hx (i8_') h' hi' hm')) (i8_) h0
def impl_IsSet_main (S : SatT) (K : AVal → H → Prop) (x0 : List AVal) (h : H) : Prop :=
 newK 2 x0 h fun p0 h1 =>
 isPt p0 (
 ldS (Pt.add p0 1) h1 fun s2 =>
 impl_IsSet_L0 S K p0 s2 (s2.len : Int) (0) h1)
theorem impl_IsSet_main_link (S : SatT) (K : AVal → H → Prop) (x0 : List AVal) (h : H) : cwp S tab impl_IsSet_M [] (bodyOf Try.f71) (kFun tab Try.f71.results.toList K) (fr0 Try.f71 [.agg x0]) h = impl_IsSet_main S K x0 h := by kernel_rfl
theorem impl_IsSet_call (x0 : List AVal) (h : H) (K : Bool → H → Prop) (hm : impl_IsSet_main (Sat Try.prog) (fun v h' => ∃ r, v = .bool r ∧ K r h') x0 h) : callB (Sat Try.prog) i_impl_IsSet [.agg x0] h K := by
  have := Sat.ex tok mixed impl_IsSet_M Try.func71 (c := bodyOf Try.f71) (by kernel_rfl) (calls_of Try.func71 (c := bodyOf Try.f71) (by kernel_rfl) (by decide)) ((impl_IsSet_main_link _ _ x0 h).mpr hm)
  obtain ⟨v, h2, h3, r, rfl, h4⟩ := this; exact ⟨r, h2, h3, h4⟩

/-! ### loop.example/g01354/spec.l04Find -/
def spec_l04Find_M : Nat → List Nat := fun i => bif i == 0 then [0, 1, 5, 6] else []
def spec_l04Find_ks2 (S : SatT) (K : AVal → H → Prop) : Kont := kSeq (cwp S tab spec_l04Find_M [] (sub [1, 1, 1] (bodyOf Try.f64)) (kFun tab (Try.f64).results.toList K)) (kFun tab (Try.f64).results.toList K)
def spec_l04Find_e0 (s0_ : Sl) (i1_ : Int) (i5_ : Int) (i6_ : Int) : Frame := [.sl s0_, .int .i64 i1_, U, U, U, .int .i64 i5_, .int .i64 i6_, U, U, U, U, U, U, U, U, U, U, U, U, U, U, U, U, U, U, U, U, U, U, U, U, U, U, U, U, U, U, U, U]
def spec_l04Find_w0 (S : SatT) (K : AVal → H → Prop) : (Frame → H → Prop) → Frame → H → Prop := fun X fr h => cwp S tab spec_l04Find_M (spec_l04Find_M 0) (sub [1, 1, 0, 0, 0] (bodyOf Try.f64)) (kSeq (fun fr h => X (mask (spec_l04Find_M 0) fr) h) (kBlk 0 (spec_l04Find_ks2 S K))) fr h
def spec_l04Find_L0 (S : SatT) (K : AVal → H → Prop) (s0_ : Sl) (i1_ : Int) (i5_ : Int) (i6_ : Int) (h : H) : Prop := loopK (spec_l04Find_w0 S K) (spec_l04Find_e0 s0_ i1_ i5_ i6_) h
def spec_l04Find_C0 (S : SatT) (K : AVal → H → Prop) (s0_ : Sl) (i1_ : Int) (i5_ : Int) (h : H) : Prop :=
 bif (decide (i5_ < (s0_.len : Int))) then
 ixS s0_ 1 i5_ fun p0 =>
 ldI .i64 p0 h fun n1 =>
 bif (n1 == i1_) then
 K (.int .i64 i5_) h
 else
 K (.int .i64 (-1)) h
 else
 K (.int .i64 (-1)) h
def spec_l04Find_b0 (S : SatT) (K : AVal → H → Prop) (X0 : Frame → H → Prop) (s0_ : Sl) (i1_ : Int) (i5_ : Int) (i6_ : Int) (h : H) : Prop :=
 bif (decide (i5_ < i6_)) then
 nz (2) (
 ixS s0_ 1 (w64 (Int.tdiv (w64 (i5_ + i6_)) (2))) fun p0 =>
 ldI .i64 p0 h fun n1 =>
 bif (decide (n1 < i1_)) then
 X0 (spec_l04Find_e0 s0_ i1_ (w64 ((w64 (Int.tdiv (w64 (i5_ + i6_)) (2))) + (1))) i6_) h
 else
 X0 (spec_l04Find_e0 s0_ i1_ i5_ (w64 (Int.tdiv (w64 (i5_ + i6_)) (2)))) h)
 else
 spec_l04Find_C0 S K s0_ i1_ i5_ h
theorem spec_l04Find_link0 (S : SatT) (K : AVal → H → Prop) (X0 : Frame → H → Prop) (s0_ : Sl) (i1_ : Int) (i5_ : Int) (i6_ : Int) (h : H) : spec_l04Find_w0 S K X0 (spec_l04Find_e0 s0_ i1_ i5_ i6_) h = spec_l04Find_b0 S K X0 s0_ i1_ i5_ i6_ h := by kernel_rfl
theorem spec_l04Find_rule0 (S : SatT) (K : AVal → H → Prop) (s0_ : Sl) (i1_ : Int) (I_ : Int → Int → H → Prop) (m_ : Int → Int → H → Nat)
    (hs : ∀ (X0 : Frame → H → Prop) (i5_ : Int) (i6_ : Int) (h : H), I_ i5_ i6_ h → (∀ (i5_' : Int) (i6_' : Int) (h' : H), I_ i5_' i6_' h' → m_ i5_' i6_' h' < m_ i5_ i6_ h → X0 (spec_l04Find_e0 s0_ i1_ i5_' i6_') h') → spec_l04Find_b0 S K X0 s0_ i1_ i5_ i6_ h) (i5_ : Int) (i6_ : Int) {h : H} (h0 : I_ i5_ i6_ h) : spec_l04Find_L0 S K s0_ i1_ i5_ i6_ h :=
  loop_rule (σ := (Int) × (Int)) (fun s_ => spec_l04Find_e0 s0_ i1_ (s_.1) (s_.2)) (fun s_ h => I_ (s_.1) (s_.2) h) (fun s_ h => m_ (s_.1) (s_.2) h)
    (fun X s_ h hi hx => (spec_l04Find_link0 S K X s0_ i1_ (s_.1) (s_.2) h).mpr (hs X (s_.1) (s_.2) h hi fun i5_' i6_' h' hi' hm' => hx (i5_', i6_') h' hi' hm')) (i5_, i6_) h0
def spec_l04Find_main (S : SatT) (K : AVal → H → Prop) (x0 : Sl) (x1 : Int) (h : H) : Prop :=
 spec_l04Find_L0 S K x0 x1 (0) (x0.len : Int) h
theorem spec_l04Find_main_link (S : SatT) (K : AVal → H → Prop) (x0 : Sl) (x1 : Int) (h : H) : cwp S tab spec_l04Find_M [] (bodyOf Try.f64) (kFun tab Try.f64.results.toList K) (fr0 Try.f64 [.sl x0, .int .i64 x1]) h = spec_l04Find_main S K x0 x1 h := by kernel_rfl
theorem spec_l04Find_call (x0 : Sl) (x1 : Int) (h : H) (K : Int → H → Prop) (hm : spec_l04Find_main (Sat Try.prog) (fun v h' => ∃ r, v = .int .i64 r ∧ K r h') x0 x1 h) : callI (Sat Try.prog) .i64 i_spec_l04Find [.sl x0, .int .i64 x1] h K := by
  have := Sat.ex tok mixed spec_l04Find_M Try.func64 (c := bodyOf Try.f64) (by kernel_rfl) (calls_of Try.func64 (c := bodyOf Try.f64) (by kernel_rfl) (by decide)) ((spec_l04Find_main_link _ _ x0 x1 h).mpr hm)
  obtain ⟨v, h2, h3, r, rfl, h4⟩ := this; exact ⟨r, h2, h3, h4⟩

/-! ### loop.example/g01354/spec.l06Word -/
def spec_l06Word_M : Nat → List Nat := fun i => bif i == 0 then [0, 1, 7, 8] else []
def spec_l06Word_ks2 (S : SatT) (K : AVal → H → Prop) : Kont := kSeq (cwp S tab spec_l06Word_M [] (sub [1, 1, 1] (bodyOf Try.f33)) (kFun tab (Try.f33).results.toList K)) (kFun tab (Try.f33).results.toList K)
def spec_l06Word_e0 (i0_ : Int) (i1_ : Int) (s7_ : Sl) (i8_ : Int) : Frame := [.int .i64 i0_, .int .i64 i1_, U, U, U, U, U, .sl s7_, .int .i64 i8_, U, U, U, U, U, U, U, U, U, U, U, U, U, U, U, U, U, U]
def spec_l06Word_w0 (S : SatT) (K : AVal → H → Prop) : (Frame → H → Prop) → Frame → H → Prop := fun X fr h => cwp S tab spec_l06Word_M (spec_l06Word_M 0) (sub [1, 1, 0, 1, 0, 0] (bodyOf Try.f33)) (kSeq (fun fr h => X (mask (spec_l06Word_M 0) fr) h) (kBlk 0 (spec_l06Word_ks2 S K))) fr h
def spec_l06Word_L0 (S : SatT) (K : AVal → H → Prop) (i0_ : Int) (i1_ : Int) (s7_ : Sl) (i8_ : Int) (h : H) : Prop := loopK (spec_l06Word_w0 S K) (spec_l06Word_e0 i0_ i1_ s7_ i8_) h
def spec_l06Word_C0 (S : SatT) (K : AVal → H → Prop) (s7_ : Sl) (h : H) : Prop :=
 K (.sl s7_) h
def spec_l06Word_b0 (S : SatT) (K : AVal → H → Prop) (X0 : Frame → H → Prop) (i0_ : Int) (i1_ : Int) (s7_ : Sl) (i8_ : Int) (h : H) : Prop :=
 bif (decide (i8_ ≥ (0))) then
 nz i1_ (
 ixS s7_ 1 i8_ fun p0 =>
 st1 p0 (.int .i64 (Int.tmod i0_ i1_)) h fun h1 =>
 nz i1_ (
 X0 (spec_l06Word_e0 (w64 (Int.tdiv i0_ i1_)) i1_ s7_ (w64 (i8_ - (1)))) h1))
 else
 spec_l06Word_C0 S K s7_ h
theorem spec_l06Word_link0 (S : SatT) (K : AVal → H → Prop) (X0 : Frame → H → Prop) (i0_ : Int) (i1_ : Int) (s7_ : Sl) (i8_ : Int) (h : H) : spec_l06Word_w0 S K X0 (spec_l06Word_e0 i0_ i1_ s7_ i8_) h = spec_l06Word_b0 S K X0 i0_ i1_ s7_ i8_ h := by kernel_rfl
theorem spec_l06Word_rule0 (S : SatT) (K : AVal → H → Prop) (i1_ : Int) (s7_ : Sl) (I_ : Int → Int → H → Prop) (m_ : Int → Int → H → Nat)
    (hs : ∀ (X0 : Frame → H → Prop) (i0_ : Int) (i8_ : Int) (h : H), I_ i0_ i8_ h → (∀ (i0_' : Int) (i8_' : Int) (h' : H), I_ i0_' i8_' h' → m_ i0_' i8_' h' < m_ i0_ i8_ h → X0 (spec_l06Word_e0 i0_' i1_ s7_ i8_') h') → spec_l06Word_b0 S K X0 i0_ i1_ s7_ i8_ h) (i0_ : Int) (i8_ : Int) {h : H} (h0 : I_ i0_ i8_ h) : spec_l06Word_L0 S K i0_ i1_ s7_ i8_ h :=
  loop_rule (σ := (Int) × (Int)) (fun s_ => spec_l06Word_e0 (s_.1) i1_ s7_ (s_.2)) (fun s_ h => I_ (s_.1) (s_.2) h) (fun s_ h => m_ (s_.1) (s_.2) h)
    (fun X s_ h hi hx => (spec_l06Word_link0 S K X (s_.1) i1_ s7_ (s_.2) h).mpr (hs X (s_.1) (s_.2) h hi fun i0_' i8_' h' hi' hm' => hx (i0_', i8_') h' hi' hm')) (i0_, i8_) h0
def spec_l06Word_main (S : SatT) (K : AVal → H → Prop) (x0 : Int) (x1 : Int) (x2 : Int) (h : H) : Prop :=
 mkS x2 [.int .i64 (0)] h fun s0 h1 =>
 spec_l06Word_L0 S K x0 x1 s0 (w64 (x2 - (1))) h1
theorem spec_l06Word_main_link (S : SatT) (K : AVal → H → Prop) (x0 : Int) (x1 : Int) (x2 : Int) (h : H) : cwp S tab spec_l06Word_M [] (bodyOf Try.f33) (kFun tab Try.f33.results.toList K) (fr0 Try.f33 [.int .i64 x0, .int .i64 x1, .int .i64 x2]) h = spec_l06Word_main S K x0 x1 x2 h := by kernel_rfl
theorem spec_l06Word_call (x0 : Int) (x1 : Int) (x2 : Int) (h : H) (K : Sl → H → Prop) (hm : spec_l06Word_main (Sat Try.prog) (fun v h' => ∃ r, v = .sl r ∧ K r h') x0 x1 x2 h) : callS (Sat Try.prog) i_spec_l06Word [.int .i64 x0, .int .i64 x1, .int .i64 x2] h K := by
  have := Sat.ex tok mixed spec_l06Word_M Try.func33 (c := bodyOf Try.f33) (by kernel_rfl) (calls_of Try.func33 (c := bodyOf Try.f33) (by kernel_rfl) (by decide)) ((spec_l06Word_main_link _ _ x0 x1 x2 h).mpr hm)
  obtain ⟨v, h2, h3, r, rfl, h4⟩ := this; exact ⟨r, h2, h3, h4⟩

/-! ### loop.example/g01354/spec.l01Before -/
def spec_l01Before_M : Nat → List Nat := fun i => bif i == 0 then [2, 3, 5] else []
def spec_l01Before_ks1 (S : SatT) (K : AVal → H → Prop) : Kont := kSeq (cwp S tab spec_l01Before_M [] (sub [1, 1] (bodyOf Try.f88)) (kFun tab (Try.f88).results.toList K)) (kFun tab (Try.f88).results.toList K)
def spec_l01Before_e0 (p2_ : Pt) (p3_ : Pt) (i5_ : Int) : Frame := [U, U, .ptr p2_, .ptr p3_, U, .int .i64 i5_, U, U, U, U, U, U, U, U, U, U, U, U, U, U, U, U, U, U]
def spec_l01Before_w0 (S : SatT) (K : AVal → H → Prop) : (Frame → H → Prop) → Frame → H → Prop := fun X fr h => cwp S tab spec_l01Before_M (spec_l01Before_M 0) (sub [1, 0, 1, 0, 0] (bodyOf Try.f88)) (kSeq (fun fr h => X (mask (spec_l01Before_M 0) fr) h) (kBlk 0 (spec_l01Before_ks1 S K))) fr h
def spec_l01Before_L0 (S : SatT) (K : AVal → H → Prop) (p2_ : Pt) (p3_ : Pt) (i5_ : Int) (h : H) : Prop := loopK (spec_l01Before_w0 S K) (spec_l01Before_e0 p2_ p3_ i5_) h
def spec_l01Before_C0 (S : SatT) (K : AVal → H → Prop) (h : H) : Prop :=
 K (.bool false) h
def spec_l01Before_b0 (S : SatT) (K : AVal → H → Prop) (X0 : Frame → H → Prop) (p2_ : Pt) (p3_ : Pt) (i5_ : Int) (h : H) : Prop :=
 bif (decide (i5_ < (4))) then
 ixA p2_ 4 1 i5_ fun p0 =>
 ldI .i64 p0 h fun n1 =>
 ixA p3_ 4 1 i5_ fun p2 =>
 ldI .i64 p2 h fun n3 =>
 bif (n1 != n3) then
 ixA p2_ 4 1 i5_ fun p4 =>
 ldI .i64 p4 h fun n5 =>
 ixA p3_ 4 1 i5_ fun p6 =>
 ldI .i64 p6 h fun n7 =>
 K (.bool (decide (n5 < n7))) h
 else
 X0 (spec_l01Before_e0 p2_ p3_ (w64 (i5_ + (1)))) h
 else
 spec_l01Before_C0 S K h
theorem spec_l01Before_link0 (S : SatT) (K : AVal → H → Prop) (X0 : Frame → H → Prop) (p2_ : Pt) (p3_ : Pt) (i5_ : Int) (h : H) : spec_l01Before_w0 S K X0 (spec_l01Before_e0 p2_ p3_ i5_) h = spec_l01Before_b0 S K X0 p2_ p3_ i5_ h := by kernel_rfl
theorem spec_l01Before_rule0 (S : SatT) (K : AVal → H → Prop) (p2_ : Pt) (p3_ : Pt) (I_ : Int → H → Prop) (m_ : Int → H → Nat)
    (hs : ∀ (X0 : Frame → H → Prop) (i5_ : Int) (h : H), I_ i5_ h → (∀ (i5_' : Int) (h' : H), I_ i5_' h' → m_ i5_' h' < m_ i5_ h → X0 (spec_l01Before_e0 p2_ p3_ i5_') h') → spec_l01Before_b0 S K X0 p2_ p3_ i5_ h) (i5_ : Int) {h : H} (h0 : I_ i5_ h) : spec_l01Before_L0 S K p2_ p3_ i5_ h :=
  loop_rule (σ := (Int)) (fun s_ => spec_l01Before_e0 p2_ p3_ (s_)) (fun s_ h => I_ (s_) h) (fun s_ h => m_ (s_) h)
    (fun X s_ h hi hx => (spec_l01Before_link0 S K X p2_ p3_ (s_) h).mpr (hs X (s_) h hi fun i5_' h' hi' hm' => hx (i5_') h' hi' hm')) (i5_) h0
def spec_l01Before_main (S : SatT) (K : AVal → H → Prop) (x0 : List AVal) (x1 : List AVal) (h : H) : Prop :=
 newK 4 x0 h fun p0 h1 =>
 newK 4 x1 h1 fun p2 h3 =>
 spec_l01Before_L0 S K p0 p2 (0) h3
theorem spec_l01Before_main_link (S : SatT) (K : AVal → H → Prop) (x0 : List AVal) (x1 : List AVal) (h : H) : cwp S tab spec_l01Before_M [] (bodyOf Try.f88) (kFun tab Try.f88.results.toList K) (fr0 Try.f88 [.agg x0, .agg x1]) h = spec_l01Before_main S K x0 x1 h := by kernel_rfl
theorem spec_l01Before_call (x0 : List AVal) (x1 : List AVal) (h : H) (K : Bool → H → Prop) (hm : spec_l01Before_main (Sat Try.prog) (fun v h' => ∃ r, v = .bool r ∧ K r h') x0 x1 h) : callB (Sat Try.prog) i_spec_l01Before [.agg x0, .agg x1] h K := by
  have := Sat.ex tok mixed spec_l01Before_M Try.func88 (c := bodyOf Try.f88) (by kernel_rfl) (calls_of Try.func88 (c := bodyOf Try.f88) (by kernel_rfl) (by decide)) ((spec_l01Before_main_link _ _ x0 x1 h).mpr hm)
  obtain ⟨v, h2, h3, r, rfl, h4⟩ := this; exact ⟨r, h2, h3, h4⟩

/-! ### loop.example/g01354/spec.l02Each -/
def spec_l02Each_M : Nat → List Nat := fun i => bif i == 0 then [0, 3, 4] else []
def spec_l02Each_ks2 (S : SatT) (K : AVal → H → Prop) : Kont := kSeq (cwp S tab spec_l02Each_M [] (sub [1, 1, 1] (bodyOf Try.f44)) (kFun tab (Try.f44).results.toList K)) (kFun tab (Try.f44).results.toList K)
def spec_l02Each_e0 (i0_ : Int) (s3_ : Sl) (i4_ : Int) : Frame := [.int .i64 i0_, U, U, .sl s3_, .int .i64 i4_, U, U, U, U, U, U, U, U, U, U]
def spec_l02Each_w0 (S : SatT) (K : AVal → H → Prop) : (Frame → H → Prop) → Frame → H → Prop := fun X fr h => cwp S tab spec_l02Each_M (spec_l02Each_M 0) (sub [1, 1, 0, 1, 0, 0] (bodyOf Try.f44)) (kSeq (fun fr h => X (mask (spec_l02Each_M 0) fr) h) (kBlk 0 (spec_l02Each_ks2 S K))) fr h
def spec_l02Each_L0 (S : SatT) (K : AVal → H → Prop) (i0_ : Int) (s3_ : Sl) (i4_ : Int) (h : H) : Prop := loopK (spec_l02Each_w0 S K) (spec_l02Each_e0 i0_ s3_ i4_) h
def spec_l02Each_C0 (S : SatT) (K : AVal → H → Prop) (s3_ : Sl) (h : H) : Prop :=
 K (.sl s3_) h
def spec_l02Each_b0 (S : SatT) (K : AVal → H → Prop) (X0 : Frame → H → Prop) (i0_ : Int) (s3_ : Sl) (i4_ : Int) (h : H) : Prop :=
 bif (decide (i4_ < i0_)) then
 newS 1 1 [.int .i64 (1)] h fun s0 h1 =>
 app s3_ s0 1 h1 fun s2 h3 =>
 X0 (spec_l02Each_e0 i0_ s2 (w64 (i4_ + (1)))) h3
 else
 spec_l02Each_C0 S K s3_ h
theorem spec_l02Each_link0 (S : SatT) (K : AVal → H → Prop) (X0 : Frame → H → Prop) (i0_ : Int) (s3_ : Sl) (i4_ : Int) (h : H) : spec_l02Each_w0 S K X0 (spec_l02Each_e0 i0_ s3_ i4_) h = spec_l02Each_b0 S K X0 i0_ s3_ i4_ h := by kernel_rfl
theorem spec_l02Each_rule0 (S : SatT) (K : AVal → H → Prop) (i0_ : Int) (I_ : Sl → Int → H → Prop) (m_ : Sl → Int → H → Nat)
    (hs : ∀ (X0 : Frame → H → Prop) (s3_ : Sl) (i4_ : Int) (h : H), I_ s3_ i4_ h → (∀ (s3_' : Sl) (i4_' : Int) (h' : H), I_ s3_' i4_' h' → m_ s3_' i4_' h' < m_ s3_ i4_ h → X0 (spec_l02Each_e0 i0_ s3_' i4_') h') → spec_l02Each_b0 S K X0 i0_ s3_ i4_ h) (s3_ : Sl) (i4_ : Int) {h : H} (h0 : I_ s3_ i4_ h) : spec_l02Each_L0 S K i0_ s3_ i4_ h :=
  loop_rule (σ := (Sl) × (Int)) (fun s_ => spec_l02Each_e0 i0_ (s_.1) (s_.2)) (fun s_ h => I_ (s_.1) (s_.2) h) (fun s_ h => m_ (s_.1) (s_.2) h)
    (fun X s_ h hi hx => (spec_l02Each_link0 S K X i0_ (s_.1) (s_.2) h).mpr (hs X (s_.1) (s_.2) h hi fun s3_' i4_' h' hi' hm' => hx (s3_', i4_') h' hi' hm')) (s3_, i4_) h0
def spec_l02Each_main (S : SatT) (K : AVal → H → Prop) (x0 : Int) (h : H) : Prop :=
 newS 0 1 [] h fun s0 h1 =>
 spec_l02Each_L0 S K x0 s0 (0) h1
theorem spec_l02Each_main_link (S : SatT) (K : AVal → H → Prop) (x0 : Int) (h : H) : cwp S tab spec_l02Each_M [] (bodyOf Try.f44) (kFun tab Try.f44.results.toList K) (fr0 Try.f44 [.int .i64 x0]) h = spec_l02Each_main S K x0 h := by kernel_rfl
theorem spec_l02Each_call (x0 : Int) (h : H) (K : Sl → H → Prop) (hm : spec_l02Each_main (Sat Try.prog) (fun v h' => ∃ r, v = .sl r ∧ K r h') x0 h) : callS (Sat Try.prog) i_spec_l02Each [.int .i64 x0] h K := by
  have := Sat.ex tok mixed spec_l02Each_M Try.func44 (c := bodyOf Try.f44) (by kernel_rfl) (calls_of Try.func44 (c := bodyOf Try.f44) (by kernel_rfl) (by decide)) ((spec_l02Each_main_link _ _ x0 h).mpr hm)
  obtain ⟨v, h2, h3, r, rfl, h4⟩ := this; exact ⟨r, h2, h3, h4⟩

/-! ### loop.example/g01354/spec.l01Small -/
def spec_l01Small_M : Nat → List Nat := fun i => []
def spec_l01Small_main (S : SatT) (K : AVal → H → Prop) (x0 : Pt) (h : H) : Prop :=
 newO [.int .i64 (0), .sl Sl.nil] h fun p0 h1 =>
 callI S .i64 i_spec_l01Next [.ptr x0, .int .i64 (3)] h1 fun n3 h2 =>
 bif (n3 == (0)) then
 callS S i_spec_l01Names [] h2 fun s5 h4 =>
 callI S .i64 i_spec_l01Next [.ptr x0, .int .i64 (s5.len : Int)] h4 fun n7 h6 =>
 ixS s5 1 n7 fun p8 =>
 ldV p8 h6 fun v9 =>
 callV S i_spec_l01Named [v9] h6 fun v11 h10 =>
 viaT v11 fun vs12 =>
 exA vs12 0 fun cs13 =>
 viaT v11 fun vs14 =>
 exB vs14 1 fun b15 =>
 newO [.int .i64 (0), .sl Sl.nil] h10 fun p16 h17 =>
 stN p16 2 cs13 h17 fun h18 =>
 ldA p16 2 h18 fun cs19 =>
 isPt p16 (
 ldI .i64 (Pt.add p16 0) h18 fun n20 =>
 callS S i_spec_l01DrawOrder [.ptr x0, .int .i64 n20] h18 fun s22 h21 =>
(range h21 p16.o p16.n p16.off 2 = range h18 p16.o p16.n p16.off 2) ∧ (
 callA S i_spec_l01Renamed [.agg cs19, .sl s22] h21 fun cs24 h23 =>
 stN p0 2 cs24 h23 fun h25 =>
 ldA p0 2 h25 fun cs26 =>
 K (.agg cs26) h25))
 else
 newS 5 1 [.int .i64 (1), .int .i64 (2), .int .i64 (2), .int .i64 (2), .int .i64 (3)] h2 fun s27 h28 =>
 callI S .i64 i_spec_l01Pick [.ptr x0, .sl s27] h28 fun n30 h29 =>
 newS 3 1 [.int .i64 (3), .int .i64 (6), .int .i64 (9)] h29 fun s31 h32 =>
 callI S .i64 i_spec_l01Pick [.ptr x0, .sl s31] h32 fun n34 h33 =>
 callI S .i64 i_spec_l01Next [.ptr x0, .int .i64 n34] h33 fun n36 h35 =>
 callA S i_spec_l01DrawOf [.ptr x0, .int .i64 n30, .int .i64 n36] h35 fun cs38 h37 =>
 stN p0 2 cs38 h37 fun h39 =>
 ldA p0 2 h39 fun cs40 =>
 K (.agg cs40) h39
theorem spec_l01Small_main_link (S : SatT) (K : AVal → H → Prop) (x0 : Pt) (h : H) : cwp S tab spec_l01Small_M [] (bodyOf Try.f84) (kFun tab Try.f84.results.toList K) (fr0 Try.f84 [.ptr x0]) h = spec_l01Small_main S K x0 h := by kernel_rfl
theorem spec_l01Small_call (x0 : Pt) (h : H) (K : List AVal → H → Prop) (hm : spec_l01Small_main (Sat Try.prog) (fun v h' => ∃ r, v = .agg r ∧ K r h') x0 h) : callA (Sat Try.prog) i_spec_l01Small [.ptr x0] h K := by
  have := Sat.ex tok mixed spec_l01Small_M Try.func84 (c := bodyOf Try.f84) (by kernel_rfl) (calls_of Try.func84 (c := bodyOf Try.f84) (by kernel_rfl) (by decide)) ((spec_l01Small_main_link _ _ x0 h).mpr hm)
  obtain ⟨v, h2, h3, r, rfl, h4⟩ := this; exact ⟨r, h2, h3, h4⟩

/-! ### loop.example/g01354/spec.l01Next -/
def spec_l01Next_M : Nat → List Nat := fun i => []
def spec_l01Next_main (S : SatT) (K : AVal → H → Prop) (x0 : Pt) (x1 : Int) (h : H) : Prop :=
 bif (decide (x1 < (1))) then
 K (.int .i64 (0)) h
 else
 nilC (.ptr x0) (
 isPt x0 (
 ldI .u64 (Pt.add x0 2) h fun n0 =>
 nilC (.ptr x0) (
 isPt x0 (
 st1 (Pt.add x0 2) (.int .u64 (IntKind.wrap .u64 ((IntKind.wrap .u64 (n0 * (6364136223846793005))) + (1442695040888963407)))) h fun h1 =>
 nilC (.ptr x0) (
 isPt x0 (
 ldI .u64 (Pt.add x0 2) h1 fun n2 =>
 nn (33) (
 nilC (.ptr x0) (
 isPt x0 (
 ldI .i64 (Pt.add x0 1) h1 fun n3 =>
 nilC (.ptr x0) (
 isPt x0 (
 ldS (Pt.add x0 0) h1 fun s4 =>
 bif (decide (n3 < (s4.len : Int))) then
 nilC (.ptr x0) (
 isPt x0 (
 ldS (Pt.add x0 0) h1 fun s5 =>
 nilC (.ptr x0) (
 isPt x0 (
 ldI .i64 (Pt.add x0 1) h1 fun n6 =>
 ixS s5 1 n6 fun p7 =>
 ldI .u8 p7 h1 fun n8 =>
 nilC (.ptr x0) (
 isPt x0 (
 ldI .i64 (Pt.add x0 1) h1 fun n9 =>
 nilC (.ptr x0) (
 isPt x0 (
 st1 (Pt.add x0 1) (.int .i64 (w64 (n9 + (1)))) h1 fun h10 =>
 nz x1 (
 K (.int .i64 (Int.tmod (w64 ((w64 ((bitsOp .and .u64 (shrI .u64 n2 (33)) (16777215)))) + (w64 (n8)))) x1)) h10)))))))))
 else
 nz x1 (
 K (.int .i64 (Int.tmod (w64 ((bitsOp .and .u64 (shrI .u64 n2 (33)) (16777215)))) x1)) h1))))))))))))
theorem spec_l01Next_main_link (S : SatT) (K : AVal → H → Prop) (x0 : Pt) (x1 : Int) (h : H) : cwp S tab spec_l01Next_M [] (bodyOf Try.f82) (kFun tab Try.f82.results.toList K) (fr0 Try.f82 [.ptr x0, .int .i64 x1]) h = spec_l01Next_main S K x0 x1 h := by kernel_rfl
theorem spec_l01Next_call (x0 : Pt) (x1 : Int) (h : H) (K : Int → H → Prop) (hm : spec_l01Next_main (Sat Try.prog) (fun v h' => ∃ r, v = .int .i64 r ∧ K r h') x0 x1 h) : callI (Sat Try.prog) .i64 i_spec_l01Next [.ptr x0, .int .i64 x1] h K := by
  have := Sat.ex tok mixed spec_l01Next_M Try.func82 (c := bodyOf Try.f82) (by kernel_rfl) (calls_of Try.func82 (c := bodyOf Try.f82) (by kernel_rfl) (by decide)) ((spec_l01Next_main_link _ _ x0 x1 h).mpr hm)
  obtain ⟨v, h2, h3, r, rfl, h4⟩ := this; exact ⟨r, h2, h3, h4⟩

/-! ### math/bits.Mul64 -/
def math_bits_Mul64_M : Nat → List Nat := fun i => []
def math_bits_Mul64_main (S : SatT) (K : AVal → H → Prop) (x0 : Int) (x1 : Int) (h : H) : Prop :=
 nn (32) (
 nn (32) (
 nn (32) (
 nn (32) (
 nn (32) (
 K (.tuple [.int .u64 (IntKind.wrap .u64 ((IntKind.wrap .u64 ((IntKind.wrap .u64 ((shrI .u64 x0 (32)) * (shrI .u64 x1 (32)))) + (shrI .u64 (IntKind.wrap .u64 ((IntKind.wrap .u64 ((shrI .u64 x0 (32)) * (bitsOp .and .u64 x1 (4294967295)))) + (shrI .u64 (IntKind.wrap .u64 ((bitsOp .and .u64 x0 (4294967295)) * (bitsOp .and .u64 x1 (4294967295)))) (32)))) (32)))) + (shrI .u64 (IntKind.wrap .u64 ((bitsOp .and .u64 (IntKind.wrap .u64 ((IntKind.wrap .u64 ((shrI .u64 x0 (32)) * (bitsOp .and .u64 x1 (4294967295)))) + (shrI .u64 (IntKind.wrap .u64 ((bitsOp .and .u64 x0 (4294967295)) * (bitsOp .and .u64 x1 (4294967295)))) (32)))) (4294967295)) + (IntKind.wrap .u64 ((bitsOp .and .u64 x0 (4294967295)) * (shrI .u64 x1 (32)))))) (32)))), .int .u64 (IntKind.wrap .u64 (x0 * x1))]) h)))))
theorem math_bits_Mul64_main_link (S : SatT) (K : AVal → H → Prop) (x0 : Int) (x1 : Int) (h : H) : cwp S tab math_bits_Mul64_M [] (bodyOf Try.f105) (kFun tab Try.f105.results.toList K) (fr0 Try.f105 [.int .u64 x0, .int .u64 x1]) h = math_bits_Mul64_main S K x0 x1 h := by kernel_rfl
theorem math_bits_Mul64_call (x0 : Int) (x1 : Int) (h : H) (K : AVal → H → Prop) (hm : math_bits_Mul64_main (Sat Try.prog) (fun v h' => K v h') x0 x1 h) : callV (Sat Try.prog) i_math_bits_Mul64 [.int .u64 x0, .int .u64 x1] h K := by
  have := Sat.ex tok mixed math_bits_Mul64_M Try.func105 (c := bodyOf Try.f105) (by kernel_rfl) (calls_of Try.func105 (c := bodyOf Try.f105) (by kernel_rfl) (by decide)) ((math_bits_Mul64_main_link _ _ x0 x1 h).mpr hm)
  exact this

/-! ### loop.example/g01354/impl.lastingOf -/
def impl_lastingOf_M : Nat → List Nat := fun i => []
def impl_lastingOf_main (S : SatT) (K : AVal → H → Prop) (x0 : List AVal) (x1 : Int) (h : H) : Prop :=
 newK 2 x0 h fun p0 h1 =>
 ldA p0 2 h1 fun cs2 =>
 callV S i_impl_stripOf [.agg cs2, .int .i64 x1] h1 fun v4 h3 =>
 viaT v4 fun vs5 =>
 exP vs5 0 fun p6 =>
 viaT v4 fun vs7 =>
 exI .i64 vs7 1 fun n8 =>
 bif (n8 != (0)) then
 K (.tuple [.ptr Pt.nil, .sl Sl.nil, .sl Sl.nil, .int .i64 n8]) h3
 else
 callV S i_impl_strip_lasting [.ptr p6] h3 fun v10 h9 =>
 viaT v10 fun vs11 =>
 exS vs11 0 fun s12 =>
 viaT v10 fun vs13 =>
 exS vs13 1 fun s14 =>
 bif (decide ((s12.len : Int) > (40))) then
 K (.tuple [.ptr Pt.nil, .sl Sl.nil, .sl Sl.nil, .int .i64 (3)]) h9
 else
 K (.tuple [.ptr p6, .sl s12, .sl s14, .int .i64 (0)]) h9
theorem impl_lastingOf_main_link (S : SatT) (K : AVal → H → Prop) (x0 : List AVal) (x1 : Int) (h : H) : cwp S tab impl_lastingOf_M [] (bodyOf Try.f31) (kFun tab Try.f31.results.toList K) (fr0 Try.f31 [.agg x0, .int .i64 x1]) h = impl_lastingOf_main S K x0 x1 h := by kernel_rfl
theorem impl_lastingOf_call (x0 : List AVal) (x1 : Int) (h : H) (K : AVal → H → Prop) (hm : impl_lastingOf_main (Sat Try.prog) (fun v h' => K v h') x0 x1 h) : callV (Sat Try.prog) i_impl_lastingOf [.agg x0, .int .i64 x1] h K := by
  have := Sat.ex tok mixed impl_lastingOf_M Try.func31 (c := bodyOf Try.f31) (by kernel_rfl) (calls_of Try.func31 (c := bodyOf Try.f31) (by kernel_rfl) (by decide)) ((impl_lastingOf_main_link _ _ x0 x1 h).mpr hm)
  exact this

/-! ### loop.example/g01354/impl.stripOf -/
def impl_stripOf_M : Nat → List Nat := fun i => []
def impl_stripOf_main (S : SatT) (K : AVal → H → Prop) (x0 : List AVal) (x1 : Int) (h : H) : Prop :=
 newK 2 x0 h fun p0 h1 =>
 newO [.int .i64 x1] h1 fun p2 h3 =>
 ldA p0 2 h3 fun cs4 =>
 callI S .i64 i_impl_setCode [.agg cs4, .func 65 [.ptr p2]] h3 fun n6 h5 =>
 bif (n6 != (0)) then
 K (.tuple [.ptr Pt.nil, .int .i64 n6]) h5
 else
 ldA p0 2 h5 fun cs7 =>
 ldI .i64 p2 h5 fun n8 =>
 callV S i_impl_newStrip [.agg cs7, .int .i64 n8] h5 fun v10 h9 =>
 viaT v10 fun vs11 =>
 exP vs11 0 fun p12 =>
 viaT v10 fun vs13 =>
 exB vs13 1 fun b14 =>
 bif (!b14) then
 K (.tuple [.ptr Pt.nil, .int .i64 (3)]) h9
 else
 K (.tuple [.ptr p12, .int .i64 (0)]) h9
theorem impl_stripOf_main_link (S : SatT) (K : AVal → H → Prop) (x0 : List AVal) (x1 : Int) (h : H) : cwp S tab impl_stripOf_M [] (bodyOf Try.f34) (kFun tab Try.f34.results.toList K) (fr0 Try.f34 [.agg x0, .int .i64 x1]) h = impl_stripOf_main S K x0 x1 h := by kernel_rfl
theorem impl_stripOf_call (x0 : List AVal) (x1 : Int) (h : H) (K : AVal → H → Prop) (hm : impl_stripOf_main (Sat Try.prog) (fun v h' => K v h') x0 x1 h) : callV (Sat Try.prog) i_impl_stripOf [.agg x0, .int .i64 x1] h K := by
  have := Sat.ex tok mixed impl_stripOf_M Try.func34 (c := bodyOf Try.f34) (by kernel_rfl) (calls_of Try.func34 (c := bodyOf Try.f34) (by kernel_rfl) (by decide)) ((impl_stripOf_main_link _ _ x0 x1 h).mpr hm)
  exact this

/-! ### loop.example/g01354/spec.CountColumns -/
def spec_CountColumns_M : Nat → List Nat := fun i => []
def spec_CountColumns_main (S : SatT) (K : AVal → H → Prop) (x0 : List AVal) (x1 : Int) (h : H) : Prop :=
 newK 2 x0 h fun p0 h1 =>
 ldA p0 2 h1 fun cs2 =>
 callV S i_spec_l06Code [.agg cs2, .int .i64 x1] h1 fun v4 h3 =>
 viaT v4 fun vs5 =>
 exS vs5 0 fun s6 =>
 viaT v4 fun vs7 =>
 exI .i64 vs7 1 fun n8 =>
 bif (n8 != (0)) then
 K (.tuple [.int .i64 (0), .int .i64 n8]) h3
 else
 K (.tuple [.int .i64 (s6.len : Int), .int .i64 (0)]) h3
theorem spec_CountColumns_main_link (S : SatT) (K : AVal → H → Prop) (x0 : List AVal) (x1 : Int) (h : H) : cwp S tab spec_CountColumns_M [] (bodyOf Try.f13) (kFun tab Try.f13.results.toList K) (fr0 Try.f13 [.agg x0, .int .i64 x1]) h = spec_CountColumns_main S K x0 x1 h := by kernel_rfl
theorem spec_CountColumns_call (x0 : List AVal) (x1 : Int) (h : H) (K : AVal → H → Prop) (hm : spec_CountColumns_main (Sat Try.prog) (fun v h' => K v h') x0 x1 h) : callV (Sat Try.prog) i_spec_CountColumns [.agg x0, .int .i64 x1] h K := by
  have := Sat.ex tok mixed spec_CountColumns_M Try.func13 (c := bodyOf Try.f13) (by kernel_rfl) (calls_of Try.func13 (c := bodyOf Try.f13) (by kernel_rfl) (by decide)) ((spec_CountColumns_main_link _ _ x0 x1 h).mpr hm)
  exact this

/-! ### loop.example/g01354/impl.compare -/
def impl_compare_M : Nat → List Nat := fun i => []
def impl_compare_main (S : SatT) (K : AVal → H → Prop) (x0 : List AVal) (x1 : List AVal) (h : H) : Prop :=
 newK 4 x0 h fun p0 h1 =>
 newK 4 x1 h1 fun p2 h3 =>
 cutA p0 4 1 (0) ((4 : Nat) : Int) fun s4 =>
 cutA p2 4 1 (0) ((4 : Nat) : Int) fun s5 =>
 callI S .i64 i_slices_Compare_s_int64_int64_ [.sl s4, .sl s5] h3 fun n7 h6 =>
 K (.int .i64 n7) h6
theorem impl_compare_main_link (S : SatT) (K : AVal → H → Prop) (x0 : List AVal) (x1 : List AVal) (h : H) : cwp S tab impl_compare_M [] (bodyOf Try.f90) (kFun tab Try.f90.results.toList K) (fr0 Try.f90 [.agg x0, .agg x1]) h = impl_compare_main S K x0 x1 h := by kernel_rfl
theorem impl_compare_call (x0 : List AVal) (x1 : List AVal) (h : H) (K : Int → H → Prop) (hm : impl_compare_main (Sat Try.prog) (fun v h' => ∃ r, v = .int .i64 r ∧ K r h') x0 x1 h) : callI (Sat Try.prog) .i64 i_impl_compare [.agg x0, .agg x1] h K := by
  have := Sat.ex tok mixed impl_compare_M Try.func90 (c := bodyOf Try.f90) (by kernel_rfl) (calls_of Try.func90 (c := bodyOf Try.f90) (by kernel_rfl) (by decide)) ((impl_compare_main_link _ _ x0 x1 h).mpr hm)
  obtain ⟨v, h2, h3, r, rfl, h4⟩ := this; exact ⟨r, h2, h3, h4⟩

/-! ### loop.example/g01354/spec.l01In -/
def spec_l01In_M : Nat → List Nat := fun i => []
def spec_l01In_main (S : SatT) (K : AVal → H → Prop) (x0 : Int) (x1 : Int) (x2 : Int) (h : H) : Prop :=
 bif (decide (x0 ≥ x1)) then
 K (.bool (decide (x0 ≤ x2))) h
 else
 K (.bool false) h
theorem spec_l01In_main_link (S : SatT) (K : AVal → H → Prop) (x0 : Int) (x1 : Int) (x2 : Int) (h : H) : cwp S tab spec_l01In_M [] (bodyOf Try.f43) (kFun tab Try.f43.results.toList K) (fr0 Try.f43 [.int .i64 x0, .int .i64 x1, .int .i64 x2]) h = spec_l01In_main S K x0 x1 x2 h := by kernel_rfl
theorem spec_l01In_call (x0 : Int) (x1 : Int) (x2 : Int) (h : H) (K : Bool → H → Prop) (hm : spec_l01In_main (Sat Try.prog) (fun v h' => ∃ r, v = .bool r ∧ K r h') x0 x1 x2 h) : callB (Sat Try.prog) i_spec_l01In [.int .i64 x0, .int .i64 x1, .int .i64 x2] h K := by
  have := Sat.ex tok mixed spec_l01In_M Try.func43 (c := bodyOf Try.f43) (by kernel_rfl) (calls_of Try.func43 (c := bodyOf Try.f43) (by kernel_rfl) (by decide)) ((spec_l01In_main_link _ _ x0 x1 x2 h).mpr hm)
  obtain ⟨v, h2, h3, r, rfl, h4⟩ := this; exact ⟨r, h2, h3, h4⟩

/-! ### loop.example/g01354/impl.StripSequence$2 -/
def impl_StripSequence_2_M : Nat → List Nat := fun i => []
def impl_StripSequence_2_main (S : SatT) (K : AVal → H → Prop) (x0 : Int) (h : H) : Prop :=
 K (.int .i64 (mnI x0 (1000000000000001))) h
theorem impl_StripSequence_2_main_link (S : SatT) (K : AVal → H → Prop) (x0 : Int) (h : H) : cwp S tab impl_StripSequence_2_M [] (bodyOf Try.f41) (kFun tab Try.f41.results.toList K) (fr0 Try.f41 [.int .i64 x0]) h = impl_StripSequence_2_main S K x0 h := by kernel_rfl
theorem impl_StripSequence_2_call (x0 : Int) (h : H) (K : Int → H → Prop) (hm : impl_StripSequence_2_main (Sat Try.prog) (fun v h' => ∃ r, v = .int .i64 r ∧ K r h') x0 h) : callI (Sat Try.prog) .i64 i_impl_StripSequence_2 [.int .i64 x0] h K := by
  have := Sat.ex tok mixed impl_StripSequence_2_M Try.func41 (c := bodyOf Try.f41) (by kernel_rfl) (calls_of Try.func41 (c := bodyOf Try.f41) (by kernel_rfl) (by decide)) ((impl_StripSequence_2_main_link _ _ x0 h).mpr hm)
  obtain ⟨v, h2, h3, r, rfl, h4⟩ := this; exact ⟨r, h2, h3, h4⟩

/-! ### loop.example/g01354/impl.counted -/
def impl_counted_M : Nat → List Nat := fun i => []
def impl_counted_main (S : SatT) (K : AVal → H → Prop) (x0 : Int) (h : H) : Prop :=
 bif (decide (x0 > (1000000000000000))) then
 K (.tuple [.int .i64 (0), .int .i64 (3)]) h
 else
 K (.tuple [.int .i64 x0, .int .i64 (0)]) h
theorem impl_counted_main_link (S : SatT) (K : AVal → H → Prop) (x0 : Int) (h : H) : cwp S tab impl_counted_M [] (bodyOf Try.f50) (kFun tab Try.f50.results.toList K) (fr0 Try.f50 [.int .i64 x0]) h = impl_counted_main S K x0 h := by kernel_rfl
theorem impl_counted_call (x0 : Int) (h : H) (K : AVal → H → Prop) (hm : impl_counted_main (Sat Try.prog) (fun v h' => K v h') x0 h) : callV (Sat Try.prog) i_impl_counted [.int .i64 x0] h K := by
  have := Sat.ex tok mixed impl_counted_M Try.func50 (c := bodyOf Try.f50) (by kernel_rfl) (calls_of Try.func50 (c := bodyOf Try.f50) (by kernel_rfl) (by decide)) ((impl_counted_main_link _ _ x0 h).mpr hm)
  exact this

end Go.Proofs.Ytcoampecbpiecaa.Cl
