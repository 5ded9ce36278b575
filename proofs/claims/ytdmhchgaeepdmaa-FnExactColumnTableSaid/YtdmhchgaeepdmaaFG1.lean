/- Typed forms of functions, and their links. No claim is stated here. -/
import Derived.Test.YtdmhchgaeepdmaaFT
/- Typed forms of functions of the program, and their links. Printed by program. No claim is stated here. -/
set_option linter.unusedVariables false
namespace Go.Proofs.Ytdmhchgaeepdmaa.Cl
open Go
/-! ### slices.Equal[[]bool,bool] -/
def slices_Equal_s_bool_bool__M : Nat → List Nat := fun i => bif i == 0 then [0, 1, 12, 13] else []
def slices_Equal_s_bool_bool__ks4 (S : SatT) (K : AVal → H → Prop) : Kont := kSeq (cwp S tab slices_Equal_s_bool_bool__M [] (sub [1, 1, 1] (bodyOf Try.f129)) (kFun tab (Try.f129).results.toList K)) (kFun tab (Try.f129).results.toList K)
def slices_Equal_s_bool_bool__e0 (s0_ : Sl) (s1_ : Sl) (i12_ : Int) (i13_ : Int) : Frame := [.sl s0_, .sl s1_, U, U, U, U, U, U, U, U, U, U, .int .i64 i12_, .int .i64 i13_, U, U, U, U, U, U, U, U, U, U, U, U]
def slices_Equal_s_bool_bool__w0 (S : SatT) (K : AVal → H → Prop) : (Frame → H → Prop) → Frame → H → Prop := fun X fr h => cwp S tab slices_Equal_s_bool_bool__M (slices_Equal_s_bool_bool__M 0) (sub [1, 1, 0, 1, 0, 0] (bodyOf Try.f129)) (kSeq (fun fr h => X (mask (slices_Equal_s_bool_bool__M 0) fr) h) (kBlk 0 (slices_Equal_s_bool_bool__ks4 S K))) fr h
def slices_Equal_s_bool_bool__L0 (S : SatT) (K : AVal → H → Prop) (s0_ : Sl) (s1_ : Sl) (i12_ : Int) (i13_ : Int) (h : H) : Prop := loopK (slices_Equal_s_bool_bool__w0 S K) (slices_Equal_s_bool_bool__e0 s0_ s1_ i12_ i13_) h
def slices_Equal_s_bool_bool__C0 (S : SatT) (K : AVal → H → Prop) (h : H) : Prop :=
 K (.bool true) h
def slices_Equal_s_bool_bool__b0 (S : SatT) (K : AVal → H → Prop) (X0 : Frame → H → Prop) (s0_ : Sl) (s1_ : Sl) (i12_ : Int) (i13_ : Int) (h : H) : Prop :=
 bif (decide (i13_ < i12_)) then
 ixS s0_ 1 i13_ fun p0 =>
 ldB p0 h fun b1 =>
 ixS s1_ 1 i13_ fun p2 =>
 ldB p2 h fun b3 =>
 bif (b1 != b3) then
 K (.bool false) h
 else
 X0 (slices_Equal_s_bool_bool__e0 s0_ s1_ i12_ (w64 (i13_ + (1)))) h
 else
 slices_Equal_s_bool_bool__C0 S K h
theorem slices_Equal_s_bool_bool__link0 (S : SatT) (K : AVal → H → Prop) (X0 : Frame → H → Prop) (s0_ : Sl) (s1_ : Sl) (i12_ : Int) (i13_ : Int) (h : H) : slices_Equal_s_bool_bool__w0 S K X0 (slices_Equal_s_bool_bool__e0 s0_ s1_ i12_ i13_) h = slices_Equal_s_bool_bool__b0 S K X0 s0_ s1_ i12_ i13_ h := by kernel_rfl
theorem slices_Equal_s_bool_bool__rule0 (S : SatT) (K : AVal → H → Prop) (s0_ : Sl) (s1_ : Sl) (i12_ : Int) (I_ : Int → H → Prop) (m_ : Int → H → Nat)
    (hs : ∀ (X0 : Frame → H → Prop) (i13_ : Int) (h : H), I_ i13_ h → (∀ (i13_' : Int) (h' : H), I_ i13_' h' → m_ i13_' h' < m_ i13_ h → X0 (slices_Equal_s_bool_bool__e0 s0_ s1_ i12_ i13_') h') → slices_Equal_s_bool_bool__b0 S K X0 s0_ s1_ i12_ i13_ h) (i13_ : Int) {h : H} (h0 : I_ i13_ h) : slices_Equal_s_bool_bool__L0 S K s0_ s1_ i12_ i13_ h :=
  loop_rule (σ := (Int)) (fun s_ => slices_Equal_s_bool_bool__e0 s0_ s1_ i12_ (s_)) (fun s_ h => I_ (s_) h) (fun s_ h => m_ (s_) h)
    (fun X s_ h hi hx => (slices_Equal_s_bool_bool__link0 S K X s0_ s1_ i12_ (s_) h).mpr (hs X (s_) h hi fun i13_' h' hi' hm' => hx (i13_') h' hi' hm')) (i13_) h0
theorem slices_Equal_s_bool_bool__unroll0 (S : SatT) (K : AVal → H → Prop) (s0_ : Sl) (s1_ : Sl) (i12_ : Int) (i13_ : Int) (h : H) (hb : slices_Equal_s_bool_bool__b0 S K (fun fr h => loopK (slices_Equal_s_bool_bool__w0 S K) fr h) s0_ s1_ i12_ i13_ h) : slices_Equal_s_bool_bool__L0 S K s0_ s1_ i12_ i13_ h := loop_unroll ((slices_Equal_s_bool_bool__link0 S K _ s0_ s1_ i12_ i13_ h).mpr hb)
def slices_Equal_s_bool_bool__main (S : SatT) (K : AVal → H → Prop) (x0 : Sl) (x1 : Sl) (h : H) : Prop :=
 bif ((x0.len : Int) != (x1.len : Int)) then
 K (.bool false) h
 else
 slices_Equal_s_bool_bool__L0 S K x0 x1 (x0.len : Int) (0) h
theorem slices_Equal_s_bool_bool__main_link (S : SatT) (K : AVal → H → Prop) (x0 : Sl) (x1 : Sl) (h : H) : cwp S tab slices_Equal_s_bool_bool__M [] (bodyOf Try.f129) (kFun tab Try.f129.results.toList K) (fr0 Try.f129 [.sl x0, .sl x1]) h = slices_Equal_s_bool_bool__main S K x0 x1 h := by kernel_rfl
theorem slices_Equal_s_bool_bool__call (x0 : Sl) (x1 : Sl) (h : H) (K : Bool → H → Prop) (hm : slices_Equal_s_bool_bool__main (Sat Try.prog) (fun v h' => ∃ r, v = .bool r ∧ K r h') x0 x1 h) : callB (Sat Try.prog) i_slices_Equal_s_bool_bool_ [.sl x0, .sl x1] h K := by
  have := Sat.ex tok mixed slices_Equal_s_bool_bool__M Try.func129 (c := bodyOf Try.f129) (by kernel_rfl) (calls_of Try.func129 (c := bodyOf Try.f129) (by kernel_rfl) (by decide)) ((slices_Equal_s_bool_bool__main_link _ _ x0 x1 h).mpr hm)
  obtain ⟨v, h2, h3, r, rfl, h4⟩ := this; exact ⟨r, h2, h3, h4⟩

/-! ### loop.example/g01354/spec.l01Before -/
def spec_l01Before_M : Nat → List Nat := fun i => bif i == 0 then [2, 3, 5] else []
def spec_l01Before_ks1 (S : SatT) (K : AVal → H → Prop) : Kont := kSeq (cwp S tab spec_l01Before_M [] (sub [1, 1] (bodyOf Try.f95)) (kFun tab (Try.f95).results.toList K)) (kFun tab (Try.f95).results.toList K)
def spec_l01Before_e0 (p2_ : Pt) (p3_ : Pt) (i5_ : Int) : Frame := [U, U, .ptr p2_, .ptr p3_, U, .int .i64 i5_, U, U, U, U, U, U, U, U, U, U, U, U, U, U, U, U, U, U]
def spec_l01Before_w0 (S : SatT) (K : AVal → H → Prop) : (Frame → H → Prop) → Frame → H → Prop := fun X fr h => cwp S tab spec_l01Before_M (spec_l01Before_M 0) (sub [1, 0, 1, 0, 0] (bodyOf Try.f95)) (kSeq (fun fr h => X (mask (spec_l01Before_M 0) fr) h) (kBlk 0 (spec_l01Before_ks1 S K))) fr h
def spec_l01Before_L0 (S : SatT) (K : AVal → H → Prop) (p2_ : Pt) (p3_ : Pt) (i5_ : Int) (h : H) : Prop := loopK (spec_l01Before_w0 S K) (spec_l01Before_e0 p2_ p3_ i5_) h
def spec_l01Before_C0 (S : SatT) (K : AVal → H → Prop) (h : H) : Prop :=
 K (.bool false) h
def spec_l01Before_b0 (S : SatT) (K : AVal → H → Prop) (X0 : Frame → H → Prop) (p2_ : Pt) (p3_ : Pt) (i5_ : Int) (h : H) : Prop :=
 bif (decide (i5_ < (4))) then
 ixA p2_ 4 1 i5_ fun p0 =>
 ldI .i64 p0 h fun n1 =>
 ixA p3_ 4 1 i5_ fun p2 =>
 ldI .i64 p2 h fun n3 =>
 bif (n1 != n3) then
 ixA p2_ 4 1 i5_ fun p4 =>
 ldI .i64 p4 h fun n5 =>
 ixA p3_ 4 1 i5_ fun p6 =>
 ldI .i64 p6 h fun n7 =>
 K (.bool (decide (n5 < n7))) h
 else
 X0 (spec_l01Before_e0 p2_ p3_ (w64 (i5_ + (1)))) h
 else
 spec_l01Before_C0 S K h
theorem spec_l01Before_link0 (S : SatT) (K : AVal → H → Prop) (X0 : Frame → H → Prop) (p2_ : Pt) (p3_ : Pt) (i5_ : Int) (h : H) : spec_l01Before_w0 S K X0 (spec_l01Before_e0 p2_ p3_ i5_) h = spec_l01Before_b0 S K X0 p2_ p3_ i5_ h := by kernel_rfl
theorem spec_l01Before_rule0 (S : SatT) (K : AVal → H → Prop) (p2_ : Pt) (p3_ : Pt) (I_ : Int → H → Prop) (m_ : Int → H → Nat)
    (hs : ∀ (X0 : Frame → H → Prop) (i5_ : Int) (h : H), I_ i5_ h → (∀ (i5_' : Int) (h' : H), I_ i5_' h' → m_ i5_' h' < m_ i5_ h → X0 (spec_l01Before_e0 p2_ p3_ i5_') h') → spec_l01Before_b0 S K X0 p2_ p3_ i5_ h) (i5_ : Int) {h : H} (h0 : I_ i5_ h) : spec_l01Before_L0 S K p2_ p3_ i5_ h :=
  loop_rule (σ := (Int)) (fun s_ => spec_l01Before_e0 p2_ p3_ (s_)) (fun s_ h => I_ (s_) h) (fun s_ h => m_ (s_) h)
    (fun X s_ h hi hx => (spec_l01Before_link0 S K X p2_ p3_ (s_) h).mpr (hs X (s_) h hi fun i5_' h' hi' hm' => hx (i5_') h' hi' hm')) (i5_) h0
theorem spec_l01Before_unroll0 (S : SatT) (K : AVal → H → Prop) (p2_ : Pt) (p3_ : Pt) (i5_ : Int) (h : H) (hb : spec_l01Before_b0 S K (fun fr h => loopK (spec_l01Before_w0 S K) fr h) p2_ p3_ i5_ h) : spec_l01Before_L0 S K p2_ p3_ i5_ h := loop_unroll ((spec_l01Before_link0 S K _ p2_ p3_ i5_ h).mpr hb)
def spec_l01Before_main (S : SatT) (K : AVal → H → Prop) (x0 : List AVal) (x1 : List AVal) (h : H) : Prop :=
 newK 4 x0 h fun p0 h1 =>
 newK 4 x1 h1 fun p2 h3 =>
 spec_l01Before_L0 S K p0 p2 (0) h3
theorem spec_l01Before_main_link (S : SatT) (K : AVal → H → Prop) (x0 : List AVal) (x1 : List AVal) (h : H) : cwp S tab spec_l01Before_M [] (bodyOf Try.f95) (kFun tab Try.f95.results.toList K) (fr0 Try.f95 [.agg x0, .agg x1]) h = spec_l01Before_main S K x0 x1 h := by kernel_rfl
theorem spec_l01Before_call (x0 : List AVal) (x1 : List AVal) (h : H) (K : Bool → H → Prop) (hm : spec_l01Before_main (Sat Try.prog) (fun v h' => ∃ r, v = .bool r ∧ K r h') x0 x1 h) : callB (Sat Try.prog) i_spec_l01Before [.agg x0, .agg x1] h K := by
  have := Sat.ex tok mixed spec_l01Before_M Try.func95 (c := bodyOf Try.f95) (by kernel_rfl) (calls_of Try.func95 (c := bodyOf Try.f95) (by kernel_rfl) (by decide)) ((spec_l01Before_main_link _ _ x0 x1 h).mpr hm)
  obtain ⟨v, h2, h3, r, rfl, h4⟩ := this; exact ⟨r, h2, h3, h4⟩

/-! ### loop.example/g01354/laws.eqInt64SS -/
def laws_eqInt64SS_M : Nat → List Nat := fun i => bif i == 0 then [0, 1, 5] else []
def laws_eqInt64SS_ks4 (S : SatT) (K : AVal → H → Prop) : Kont := kSeq (cwp S tab laws_eqInt64SS_M [] (sub [1, 1, 1] (bodyOf Try.f29)) (kFun tab (Try.f29).results.toList K)) (kFun tab (Try.f29).results.toList K)
def laws_eqInt64SS_e0 (s0_ : Sl) (s1_ : Sl) (i5_ : Int) : Frame := [.sl s0_, .sl s1_, U, U, U, .int .i64 i5_, U, U, U, U, U, U, U, U, U, U, U, U, U, U, U, U, U, U, U, U, U]
def laws_eqInt64SS_w0 (S : SatT) (K : AVal → H → Prop) : (Frame → H → Prop) → Frame → H → Prop := fun X fr h => cwp S tab laws_eqInt64SS_M (laws_eqInt64SS_M 0) (sub [1, 1, 0, 1, 0, 0] (bodyOf Try.f29)) (kSeq (fun fr h => X (mask (laws_eqInt64SS_M 0) fr) h) (kBlk 0 (laws_eqInt64SS_ks4 S K))) fr h
def laws_eqInt64SS_L0 (S : SatT) (K : AVal → H → Prop) (s0_ : Sl) (s1_ : Sl) (i5_ : Int) (h : H) : Prop := loopK (laws_eqInt64SS_w0 S K) (laws_eqInt64SS_e0 s0_ s1_ i5_) h
def laws_eqInt64SS_C0 (S : SatT) (K : AVal → H → Prop) (h : H) : Prop :=
 K (.bool true) h
def laws_eqInt64SS_b0 (S : SatT) (K : AVal → H → Prop) (X0 : Frame → H → Prop) (s0_ : Sl) (s1_ : Sl) (i5_ : Int) (h : H) : Prop :=
 bif (decide (i5_ < (s0_.len : Int))) then
 ixS s0_ 1 i5_ fun p0 =>
 ldS p0 h fun s1 =>
 ixS s1_ 1 i5_ fun p2 =>
 ldS p2 h fun s3 =>
 callB S i_laws_eqInt64S [.sl s1, .sl s3] h fun b5 h4 =>
 bif (!b5) then
 K (.bool false) h4
 else
 X0 (laws_eqInt64SS_e0 s0_ s1_ (w64 (i5_ + (1)))) h4
 else
 laws_eqInt64SS_C0 S K h
theorem laws_eqInt64SS_link0 (S : SatT) (K : AVal → H → Prop) (X0 : Frame → H → Prop) (s0_ : Sl) (s1_ : Sl) (i5_ : Int) (h : H) : laws_eqInt64SS_w0 S K X0 (laws_eqInt64SS_e0 s0_ s1_ i5_) h = laws_eqInt64SS_b0 S K X0 s0_ s1_ i5_ h := by kernel_rfl
theorem laws_eqInt64SS_rule0 (S : SatT) (K : AVal → H → Prop) (s0_ : Sl) (s1_ : Sl) (I_ : Int → H → Prop) (m_ : Int → H → Nat)
    (hs : ∀ (X0 : Frame → H → Prop) (i5_ : Int) (h : H), I_ i5_ h → (∀ (i5_' : Int) (h' : H), I_ i5_' h' → m_ i5_' h' < m_ i5_ h → X0 (laws_eqInt64SS_e0 s0_ s1_ i5_') h') → laws_eqInt64SS_b0 S K X0 s0_ s1_ i5_ h) (i5_ : Int) {h : H} (h0 : I_ i5_ h) : laws_eqInt64SS_L0 S K s0_ s1_ i5_ h :=
  loop_rule (σ := (Int)) (fun s_ => laws_eqInt64SS_e0 s0_ s1_ (s_)) (fun s_ h => I_ (s_) h) (fun s_ h => m_ (s_) h)
    (fun X s_ h hi hx => (laws_eqInt64SS_link0 S K X s0_ s1_ (s_) h).mpr (hs X (s_) h hi fun i5_' h' hi' hm' => hx (i5_') h' hi' hm')) (i5_) h0
theorem laws_eqInt64SS_unroll0 (S : SatT) (K : AVal → H → Prop) (s0_ : Sl) (s1_ : Sl) (i5_ : Int) (h : H) (hb : laws_eqInt64SS_b0 S K (fun fr h => loopK (laws_eqInt64SS_w0 S K) fr h) s0_ s1_ i5_ h) : laws_eqInt64SS_L0 S K s0_ s1_ i5_ h := loop_unroll ((laws_eqInt64SS_link0 S K _ s0_ s1_ i5_ h).mpr hb)
def laws_eqInt64SS_main (S : SatT) (K : AVal → H → Prop) (x0 : Sl) (x1 : Sl) (h : H) : Prop :=
 bif ((x0.len : Int) != (x1.len : Int)) then
 K (.bool false) h
 else
 laws_eqInt64SS_L0 S K x0 x1 (0) h
theorem laws_eqInt64SS_main_link (S : SatT) (K : AVal → H → Prop) (x0 : Sl) (x1 : Sl) (h : H) : cwp S tab laws_eqInt64SS_M [] (bodyOf Try.f29) (kFun tab Try.f29.results.toList K) (fr0 Try.f29 [.sl x0, .sl x1]) h = laws_eqInt64SS_main S K x0 x1 h := by kernel_rfl
theorem laws_eqInt64SS_call (x0 : Sl) (x1 : Sl) (h : H) (K : Bool → H → Prop) (hm : laws_eqInt64SS_main (Sat Try.prog) (fun v h' => ∃ r, v = .bool r ∧ K r h') x0 x1 h) : callB (Sat Try.prog) i_laws_eqInt64SS [.sl x0, .sl x1] h K := by
  have := Sat.ex tok mixed laws_eqInt64SS_M Try.func29 (c := bodyOf Try.f29) (by kernel_rfl) (calls_of Try.func29 (c := bodyOf Try.f29) (by kernel_rfl) (by decide)) ((laws_eqInt64SS_main_link _ _ x0 x1 h).mpr hm)
  obtain ⟨v, h2, h3, r, rfl, h4⟩ := this; exact ⟨r, h2, h3, h4⟩

/-! ### loop.example/g01354/spec.l01Tile -/
def spec_l01Tile_M : Nat → List Nat := fun i => bif i == 0 then [0, 3, 5] else []
def spec_l01Tile_ks1 (S : SatT) (K : AVal → H → Prop) : Kont := kSeq (cwp S tab spec_l01Tile_M [] (sub [1, 1] (bodyOf Try.f94)) (kFun tab (Try.f94).results.toList K)) (kFun tab (Try.f94).results.toList K)
def spec_l01Tile_e0 (i0_ : Int) (p3_ : Pt) (i5_ : Int) : Frame := [.int .i64 i0_, U, U, .ptr p3_, U, .int .i64 i5_, U, U, U, U, U, U, U, U, U, U, U]
def spec_l01Tile_w0 (S : SatT) (K : AVal → H → Prop) : (Frame → H → Prop) → Frame → H → Prop := fun X fr h => cwp S tab spec_l01Tile_M (spec_l01Tile_M 0) (sub [1, 0, 1, 0, 0] (bodyOf Try.f94)) (kSeq (fun fr h => X (mask (spec_l01Tile_M 0) fr) h) (kBlk 0 (spec_l01Tile_ks1 S K))) fr h
def spec_l01Tile_L0 (S : SatT) (K : AVal → H → Prop) (i0_ : Int) (p3_ : Pt) (i5_ : Int) (h : H) : Prop := loopK (spec_l01Tile_w0 S K) (spec_l01Tile_e0 i0_ p3_ i5_) h
def spec_l01Tile_C0 (S : SatT) (K : AVal → H → Prop) (h : H) : Prop :=
 K (.bool true) h
def spec_l01Tile_b0 (S : SatT) (K : AVal → H → Prop) (X0 : Frame → H → Prop) (i0_ : Int) (p3_ : Pt) (i5_ : Int) (h : H) : Prop :=
 bif (decide (i5_ < (4))) then
 ixA p3_ 4 1 i5_ fun p0 =>
 ldI .i64 p0 h fun n1 =>
 callB S i_spec_l01In [.int .i64 n1, .int .i64 (0), .int .i64 (w64 (i0_ - (1)))] h fun b3 h2 =>
 bif (!b3) then
 K (.bool false) h2
 else
 X0 (spec_l01Tile_e0 i0_ p3_ (w64 (i5_ + (1)))) h2
 else
 spec_l01Tile_C0 S K h
theorem spec_l01Tile_link0 (S : SatT) (K : AVal → H → Prop) (X0 : Frame → H → Prop) (i0_ : Int) (p3_ : Pt) (i5_ : Int) (h : H) : spec_l01Tile_w0 S K X0 (spec_l01Tile_e0 i0_ p3_ i5_) h = spec_l01Tile_b0 S K X0 i0_ p3_ i5_ h := by kernel_rfl
theorem spec_l01Tile_rule0 (S : SatT) (K : AVal → H → Prop) (i0_ : Int) (p3_ : Pt) (I_ : Int → H → Prop) (m_ : Int → H → Nat)
    (hs : ∀ (X0 : Frame → H → Prop) (i5_ : Int) (h : H), I_ i5_ h → (∀ (i5_' : Int) (h' : H), I_ i5_' h' → m_ i5_' h' < m_ i5_ h → X0 (spec_l01Tile_e0 i0_ p3_ i5_') h') → spec_l01Tile_b0 S K X0 i0_ p3_ i5_ h) (i5_ : Int) {h : H} (h0 : I_ i5_ h) : spec_l01Tile_L0 S K i0_ p3_ i5_ h :=
  loop_rule (σ := (Int)) (fun s_ => spec_l01Tile_e0 i0_ p3_ (s_)) (fun s_ h => I_ (s_) h) (fun s_ h => m_ (s_) h)
    (fun X s_ h hi hx => (spec_l01Tile_link0 S K X i0_ p3_ (s_) h).mpr (hs X (s_) h hi fun i5_' h' hi' hm' => hx (i5_') h' hi' hm')) (i5_) h0
theorem spec_l01Tile_unroll0 (S : SatT) (K : AVal → H → Prop) (i0_ : Int) (p3_ : Pt) (i5_ : Int) (h : H) (hb : spec_l01Tile_b0 S K (fun fr h => loopK (spec_l01Tile_w0 S K) fr h) i0_ p3_ i5_ h) : spec_l01Tile_L0 S K i0_ p3_ i5_ h := loop_unroll ((spec_l01Tile_link0 S K _ i0_ p3_ i5_ h).mpr hb)
def spec_l01Tile_main (S : SatT) (K : AVal → H → Prop) (x0 : Int) (x1 : List AVal) (h : H) : Prop :=
 newK 4 x1 h fun p0 h1 =>
 spec_l01Tile_L0 S K x0 p0 (0) h1
theorem spec_l01Tile_main_link (S : SatT) (K : AVal → H → Prop) (x0 : Int) (x1 : List AVal) (h : H) : cwp S tab spec_l01Tile_M [] (bodyOf Try.f94) (kFun tab Try.f94.results.toList K) (fr0 Try.f94 [.int .i64 x0, .agg x1]) h = spec_l01Tile_main S K x0 x1 h := by kernel_rfl
theorem spec_l01Tile_call (x0 : Int) (x1 : List AVal) (h : H) (K : Bool → H → Prop) (hm : spec_l01Tile_main (Sat Try.prog) (fun v h' => ∃ r, v = .bool r ∧ K r h') x0 x1 h) : callB (Sat Try.prog) i_spec_l01Tile [.int .i64 x0, .agg x1] h K := by
  have := Sat.ex tok mixed spec_l01Tile_M Try.func94 (c := bodyOf Try.f94) (by kernel_rfl) (calls_of Try.func94 (c := bodyOf Try.f94) (by kernel_rfl) (by decide)) ((spec_l01Tile_main_link _ _ x0 x1 h).mpr hm)
  obtain ⟨v, h2, h3, r, rfl, h4⟩ := this; exact ⟨r, h2, h3, h4⟩

/-! ### loop.example/g01354/laws.FnExactColumnTable -/
def laws_FnExactColumnTable_M : Nat → List Nat := fun i => []
def laws_FnExactColumnTable_main (S : SatT) (K : AVal → H → Prop) (x0 : List AVal) (x1 : Int) (h : H) : Prop :=
 newK 2 x0 h fun p0 h1 =>
 ldA p0 2 h1 fun cs2 =>
 callI S .i64 i_laws_szSet [.agg cs2, .int .i64 (1048576)] h1 fun n4 h3 =>
 bif (decide (n4 < (0))) then
 K (.bool true) h3
 else
 ldA p0 2 h3 fun cs5 =>
 callA S i_laws_toSet [.agg cs5] h3 fun cs7 h6 =>
 callV S i_spec_ColumnTable [.agg cs7, .int .i64 x1] h6 fun v9 h8 =>
 viaT v9 fun vs10 =>
 exS vs10 0 fun s11 =>
 viaT v9 fun vs12 =>
 exI .i64 vs12 1 fun n13 =>
 ldA p0 2 h8 fun cs14 =>
 callA S i_laws_toSet [.agg cs14] h8 fun cs16 h15 =>
 newO [.int .i64 (0), .sl Sl.nil] h15 fun p17 h18 =>
 stN p17 2 cs16 h18 fun h19 =>
 ldA p17 2 h19 fun cs20 =>
 callV S i_impl_ColumnTable [.agg cs20, .int .i64 x1] h19 fun v22 h21 =>
 viaT v22 fun vs23 =>
 exS vs23 0 fun s24 =>
 viaT v22 fun vs25 =>
 exI .i64 vs25 1 fun n26 =>
 callB S i_laws_eqInt64SS [.sl s24, .sl s11] h21 fun b28 h27 =>
 bif (!b28) then
 K (.bool false) h27
 else
 bif (n26 != n13) then
 K (.bool false) h27
 else
 ldA p17 2 h27 fun cs29 =>
 ldA p0 2 h27 fun cs30 =>
 callA S i_laws_toSet [.agg cs30] h27 fun cs32 h31 =>
(range h31 p17.o p17.n p17.off 2 = range h27 p17.o p17.n p17.off 2) ∧ (
 callB S i_laws_eqSet [.agg cs29, .agg cs32] h31 fun b34 h33 =>
 bif (!b34) then
 K (.bool false) h33
 else
 ldA p17 2 h33 fun cs35 =>
 callI S .i64 i_laws_markSet [.agg cs35, .int .i64 (1)] h33 fun n37 h36 =>
 bif (decide (n37 < (0))) then
 K (.bool false) h36
 else
 callB S i_laws_eqInt64SS [.sl s24, .sl s11] h36 fun b39 h38 =>
 bif (!b39) then
 K (.bool false) h38
 else
 bif (n26 != n13) then
 K (.bool false) h38
 else
 callI S .i64 i_laws_markInt64SS [.sl s24, .int .i64 (1)] h38 fun n41 h40 =>
 callI S .i64 i_laws_heldInt64SS [.sl s24, .int .i64 (1)] h40 fun n43 h42 =>
 bif (decide (n43 < (0))) then
 K (.bool false) h42
 else
 bif (n43 != n41) then
 K (.bool false) h42
 else
 ldA p0 2 h42 fun cs44 =>
 callA S i_laws_toSet [.agg cs44] h42 fun cs46 h45 =>
 callV S i_impl_ColumnTable [.agg cs46, .int .i64 x1] h45 fun v48 h47 =>
 viaT v48 fun vs49 =>
 exS vs49 0 fun s50 =>
 viaT v48 fun vs51 =>
 exI .i64 vs51 1 fun n52 =>
 callB S i_laws_eqInt64SS [.sl s50, .sl s11] h47 fun b54 h53 =>
 bif (!b54) then
 K (.bool false) h53
 else
 bif (n52 != n13) then
 K (.bool false) h53
 else
 callI S .i64 i_laws_heldInt64SS [.sl s24, .int .i64 (1)] h53 fun n56 h55 =>
 bif (decide (n56 < (0))) then
 K (.bool false) h55
 else
 bif (n56 != n41) then
 K (.bool false) h55
 else
 K (.bool true) h55)
theorem laws_FnExactColumnTable_main_link (S : SatT) (K : AVal → H → Prop) (x0 : List AVal) (x1 : Int) (h : H) : cwp S tab laws_FnExactColumnTable_M [] (bodyOf Try.f6) (kFun tab Try.f6.results.toList K) (fr0 Try.f6 [.agg x0, .int .i64 x1]) h = laws_FnExactColumnTable_main S K x0 x1 h := by kernel_rfl
theorem laws_FnExactColumnTable_call (x0 : List AVal) (x1 : Int) (h : H) (K : Bool → H → Prop) (hm : laws_FnExactColumnTable_main (Sat Try.prog) (fun v h' => ∃ r, v = .bool r ∧ K r h') x0 x1 h) : callB (Sat Try.prog) i_laws_FnExactColumnTable [.agg x0, .int .i64 x1] h K := by
  have := Sat.ex tok mixed laws_FnExactColumnTable_M Try.func6 (c := bodyOf Try.f6) (by kernel_rfl) (calls_of Try.func6 (c := bodyOf Try.f6) (by kernel_rfl) (by decide)) ((laws_FnExactColumnTable_main_link _ _ x0 x1 h).mpr hm)
  obtain ⟨v, h2, h3, r, rfl, h4⟩ := this; exact ⟨r, h2, h3, h4⟩

/-! ### math/bits.Mul64 -/
def math_bits_Mul64_M : Nat → List Nat := fun i => []
def math_bits_Mul64_main (S : SatT) (K : AVal → H → Prop) (x0 : Int) (x1 : Int) (h : H) : Prop :=
 nn (32) (
 nn (32) (
 nn (32) (
 nn (32) (
 nn (32) (
 K (.tuple [.int .u64 (IntKind.wrap .u64 ((IntKind.wrap .u64 ((IntKind.wrap .u64 ((shrI .u64 x0 (32)) * (shrI .u64 x1 (32)))) + (shrI .u64 (IntKind.wrap .u64 ((IntKind.wrap .u64 ((shrI .u64 x0 (32)) * (bitsOp .and .u64 x1 (4294967295)))) + (shrI .u64 (IntKind.wrap .u64 ((bitsOp .and .u64 x0 (4294967295)) * (bitsOp .and .u64 x1 (4294967295)))) (32)))) (32)))) + (shrI .u64 (IntKind.wrap .u64 ((bitsOp .and .u64 (IntKind.wrap .u64 ((IntKind.wrap .u64 ((shrI .u64 x0 (32)) * (bitsOp .and .u64 x1 (4294967295)))) + (shrI .u64 (IntKind.wrap .u64 ((bitsOp .and .u64 x0 (4294967295)) * (bitsOp .and .u64 x1 (4294967295)))) (32)))) (4294967295)) + (IntKind.wrap .u64 ((bitsOp .and .u64 x0 (4294967295)) * (shrI .u64 x1 (32)))))) (32)))), .int .u64 (IntKind.wrap .u64 (x0 * x1))]) h)))))
theorem math_bits_Mul64_main_link (S : SatT) (K : AVal → H → Prop) (x0 : Int) (x1 : Int) (h : H) : cwp S tab math_bits_Mul64_M [] (bodyOf Try.f128) (kFun tab Try.f128.results.toList K) (fr0 Try.f128 [.int .u64 x0, .int .u64 x1]) h = math_bits_Mul64_main S K x0 x1 h := by kernel_rfl
theorem math_bits_Mul64_call (x0 : Int) (x1 : Int) (h : H) (K : AVal → H → Prop) (hm : math_bits_Mul64_main (Sat Try.prog) (fun v h' => K v h') x0 x1 h) : callV (Sat Try.prog) i_math_bits_Mul64 [.int .u64 x0, .int .u64 x1] h K := by
  have := Sat.ex tok mixed math_bits_Mul64_M Try.func128 (c := bodyOf Try.f128) (by kernel_rfl) (calls_of Try.func128 (c := bodyOf Try.f128) (by kernel_rfl) (by decide)) ((math_bits_Mul64_main_link _ _ x0 x1 h).mpr hm)
  exact this

/-! ### loop.example/g01354/impl.lastingOf -/
def impl_lastingOf_M : Nat → List Nat := fun i => []
def impl_lastingOf_main (S : SatT) (K : AVal → H → Prop) (x0 : List AVal) (x1 : Int) (h : H) : Prop :=
 newK 2 x0 h fun p0 h1 =>
 ldA p0 2 h1 fun cs2 =>
 callV S i_impl_stripOf [.agg cs2, .int .i64 x1] h1 fun v4 h3 =>
 viaT v4 fun vs5 =>
 exP vs5 0 fun p6 =>
 viaT v4 fun vs7 =>
 exI .i64 vs7 1 fun n8 =>
 bif (n8 != (0)) then
 K (.tuple [.ptr Pt.nil, .sl Sl.nil, .sl Sl.nil, .int .i64 n8]) h3
 else
 callV S i_impl_strip_lasting [.ptr p6] h3 fun v10 h9 =>
 viaT v10 fun vs11 =>
 exS vs11 0 fun s12 =>
 viaT v10 fun vs13 =>
 exS vs13 1 fun s14 =>
 bif (decide ((s12.len : Int) > (40))) then
 K (.tuple [.ptr Pt.nil, .sl Sl.nil, .sl Sl.nil, .int .i64 (3)]) h9
 else
 K (.tuple [.ptr p6, .sl s12, .sl s14, .int .i64 (0)]) h9
theorem impl_lastingOf_main_link (S : SatT) (K : AVal → H → Prop) (x0 : List AVal) (x1 : Int) (h : H) : cwp S tab impl_lastingOf_M [] (bodyOf Try.f73) (kFun tab Try.f73.results.toList K) (fr0 Try.f73 [.agg x0, .int .i64 x1]) h = impl_lastingOf_main S K x0 x1 h := by kernel_rfl
theorem impl_lastingOf_call (x0 : List AVal) (x1 : Int) (h : H) (K : AVal → H → Prop) (hm : impl_lastingOf_main (Sat Try.prog) (fun v h' => K v h') x0 x1 h) : callV (Sat Try.prog) i_impl_lastingOf [.agg x0, .int .i64 x1] h K := by
  have := Sat.ex tok mixed impl_lastingOf_M Try.func73 (c := bodyOf Try.f73) (by kernel_rfl) (calls_of Try.func73 (c := bodyOf Try.f73) (by kernel_rfl) (by decide)) ((impl_lastingOf_main_link _ _ x0 x1 h).mpr hm)
  exact this

/-! ### loop.example/g01354/impl.stripOf -/
def impl_stripOf_M : Nat → List Nat := fun i => []
def impl_stripOf_main (S : SatT) (K : AVal → H → Prop) (x0 : List AVal) (x1 : Int) (h : H) : Prop :=
 newK 2 x0 h fun p0 h1 =>
 newO [.int .i64 x1] h1 fun p2 h3 =>
 ldA p0 2 h3 fun cs4 =>
 callI S .i64 i_impl_setCode [.agg cs4, .func 91 [.ptr p2]] h3 fun n6 h5 =>
 bif (n6 != (0)) then
 K (.tuple [.ptr Pt.nil, .int .i64 n6]) h5
 else
 ldA p0 2 h5 fun cs7 =>
 ldI .i64 p2 h5 fun n8 =>
 callV S i_impl_newStrip [.agg cs7, .int .i64 n8] h5 fun v10 h9 =>
 viaT v10 fun vs11 =>
 exP vs11 0 fun p12 =>
 viaT v10 fun vs13 =>
 exB vs13 1 fun b14 =>
 bif (!b14) then
 K (.tuple [.ptr Pt.nil, .int .i64 (3)]) h9
 else
 K (.tuple [.ptr p12, .int .i64 (0)]) h9
theorem impl_stripOf_main_link (S : SatT) (K : AVal → H → Prop) (x0 : List AVal) (x1 : Int) (h : H) : cwp S tab impl_stripOf_M [] (bodyOf Try.f54) (kFun tab Try.f54.results.toList K) (fr0 Try.f54 [.agg x0, .int .i64 x1]) h = impl_stripOf_main S K x0 x1 h := by kernel_rfl
theorem impl_stripOf_call (x0 : List AVal) (x1 : Int) (h : H) (K : AVal → H → Prop) (hm : impl_stripOf_main (Sat Try.prog) (fun v h' => K v h') x0 x1 h) : callV (Sat Try.prog) i_impl_stripOf [.agg x0, .int .i64 x1] h K := by
  have := Sat.ex tok mixed impl_stripOf_M Try.func54 (c := bodyOf Try.f54) (by kernel_rfl) (calls_of Try.func54 (c := bodyOf Try.f54) (by kernel_rfl) (by decide)) ((impl_stripOf_main_link _ _ x0 x1 h).mpr hm)
  exact this

/-! ### loop.example/g01354/laws.eqSet -/
def laws_eqSet_M : Nat → List Nat := fun i => []
def laws_eqSet_main (S : SatT) (K : AVal → H → Prop) (x0 : List AVal) (x1 : List AVal) (h : H) : Prop :=
 newK 2 x0 h fun p0 h1 =>
 newK 2 x1 h1 fun p2 h3 =>
 isPt p0 (
 ldI .i64 (Pt.add p0 0) h3 fun n4 =>
 isPt p2 (
 ldI .i64 (Pt.add p2 0) h3 fun n5 =>
 bif (n4 != n5) then
 K (.bool false) h3
 else
 isPt p0 (
 ldS (Pt.add p0 1) h3 fun s6 =>
 isPt p2 (
 ldS (Pt.add p2 1) h3 fun s7 =>
 callB S i_laws_eqTileS [.sl s6, .sl s7] h3 fun b9 h8 =>
 bif (!b9) then
 K (.bool false) h8
 else
 K (.bool true) h8))))
theorem laws_eqSet_main_link (S : SatT) (K : AVal → H → Prop) (x0 : List AVal) (x1 : List AVal) (h : H) : cwp S tab laws_eqSet_M [] (bodyOf Try.f18) (kFun tab Try.f18.results.toList K) (fr0 Try.f18 [.agg x0, .agg x1]) h = laws_eqSet_main S K x0 x1 h := by kernel_rfl
theorem laws_eqSet_call (x0 : List AVal) (x1 : List AVal) (h : H) (K : Bool → H → Prop) (hm : laws_eqSet_main (Sat Try.prog) (fun v h' => ∃ r, v = .bool r ∧ K r h') x0 x1 h) : callB (Sat Try.prog) i_laws_eqSet [.agg x0, .agg x1] h K := by
  have := Sat.ex tok mixed laws_eqSet_M Try.func18 (c := bodyOf Try.f18) (by kernel_rfl) (calls_of Try.func18 (c := bodyOf Try.f18) (by kernel_rfl) (by decide)) ((laws_eqSet_main_link _ _ x0 x1 h).mpr hm)
  obtain ⟨v, h2, h3, r, rfl, h4⟩ := this; exact ⟨r, h2, h3, h4⟩

/-! ### loop.example/g01354/impl.ColumnTable -/
def impl_ColumnTable_M : Nat → List Nat := fun i => []
def impl_ColumnTable_main (S : SatT) (K : AVal → H → Prop) (x0 : List AVal) (x1 : Int) (h : H) : Prop :=
 newK 2 x0 h fun p0 h1 =>
 ldA p0 2 h1 fun cs2 =>
 callV S i_impl_lastingOf [.agg cs2, .int .i64 x1] h1 fun v4 h3 =>
 viaT v4 fun vs5 =>
 exP vs5 0 fun p6 =>
 viaT v4 fun vs7 =>
 exS vs7 1 fun s8 =>
 viaT v4 fun vs9 =>
 exS vs9 2 fun s10 =>
 viaT v4 fun vs11 =>
 exI .i64 vs11 3 fun n12 =>
 bif (n12 != (0)) then
 K (.tuple [.sl Sl.nil, .int .i64 n12]) h3
 else
 K (.tuple [.sl s10, .int .i64 (0)]) h3
theorem impl_ColumnTable_main_link (S : SatT) (K : AVal → H → Prop) (x0 : List AVal) (x1 : Int) (h : H) : cwp S tab impl_ColumnTable_M [] (bodyOf Try.f28) (kFun tab Try.f28.results.toList K) (fr0 Try.f28 [.agg x0, .int .i64 x1]) h = impl_ColumnTable_main S K x0 x1 h := by kernel_rfl
theorem impl_ColumnTable_call (x0 : List AVal) (x1 : Int) (h : H) (K : AVal → H → Prop) (hm : impl_ColumnTable_main (Sat Try.prog) (fun v h' => K v h') x0 x1 h) : callV (Sat Try.prog) i_impl_ColumnTable [.agg x0, .int .i64 x1] h K := by
  have := Sat.ex tok mixed impl_ColumnTable_M Try.func28 (c := bodyOf Try.f28) (by kernel_rfl) (calls_of Try.func28 (c := bodyOf Try.f28) (by kernel_rfl) (by decide)) ((impl_ColumnTable_main_link _ _ x0 x1 h).mpr hm)
  exact this

/-! ### slices.ContainsFunc[[]int64,int64] -/
def slices_ContainsFunc_s_int64_int64__M : Nat → List Nat := fun i => []
def slices_ContainsFunc_s_int64_int64__main (S : SatT) (K : AVal → H → Prop) (x0 : Sl) (x1 : AVal) (h : H) : Prop :=
 callI S .i64 i_slices_IndexFunc_s_int64_int64_ [.sl x0, x1] h fun n1 h0 =>
 K (.bool (decide (n1 ≥ (0)))) h0
theorem slices_ContainsFunc_s_int64_int64__main_link (S : SatT) (K : AVal → H → Prop) (x0 : Sl) (x1 : AVal) (h : H) : cwp S tab slices_ContainsFunc_s_int64_int64__M [] (bodyOf Try.f117) (kFun tab Try.f117.results.toList K) (fr0 Try.f117 [.sl x0, x1]) h = slices_ContainsFunc_s_int64_int64__main S K x0 x1 h := by kernel_rfl
theorem slices_ContainsFunc_s_int64_int64__call (x0 : Sl) (x1 : AVal) (h : H) (K : Bool → H → Prop) (hm : slices_ContainsFunc_s_int64_int64__main (Sat Try.prog) (fun v h' => ∃ r, v = .bool r ∧ K r h') x0 x1 h) : callB (Sat Try.prog) i_slices_ContainsFunc_s_int64_int64_ [.sl x0, x1] h K := by
  have := Sat.ex tok mixed slices_ContainsFunc_s_int64_int64__M Try.func117 (c := bodyOf Try.f117) (by kernel_rfl) (calls_of Try.func117 (c := bodyOf Try.f117) (by kernel_rfl) (by decide)) ((slices_ContainsFunc_s_int64_int64__main_link _ _ x0 x1 h).mpr hm)
  obtain ⟨v, h2, h3, r, rfl, h4⟩ := this; exact ⟨r, h2, h3, h4⟩

/-! ### loop.example/g01354/impl.within -/
def impl_within_M : Nat → List Nat := fun i => []
def impl_within_main (S : SatT) (K : AVal → H → Prop) (x0 : Int) (x1 : Int) (x2 : Int) (h : H) : Prop :=
 bif (decide (x0 ≥ x1)) then
 K (.bool (decide (x0 ≤ x2))) h
 else
 K (.bool false) h
theorem impl_within_main_link (S : SatT) (K : AVal → H → Prop) (x0 : Int) (x1 : Int) (x2 : Int) (h : H) : cwp S tab impl_within_M [] (bodyOf Try.f68) (kFun tab Try.f68.results.toList K) (fr0 Try.f68 [.int .i64 x0, .int .i64 x1, .int .i64 x2]) h = impl_within_main S K x0 x1 x2 h := by kernel_rfl
theorem impl_within_call (x0 : Int) (x1 : Int) (x2 : Int) (h : H) (K : Bool → H → Prop) (hm : impl_within_main (Sat Try.prog) (fun v h' => ∃ r, v = .bool r ∧ K r h') x0 x1 x2 h) : callB (Sat Try.prog) i_impl_within [.int .i64 x0, .int .i64 x1, .int .i64 x2] h K := by
  have := Sat.ex tok mixed impl_within_M Try.func68 (c := bodyOf Try.f68) (by kernel_rfl) (calls_of Try.func68 (c := bodyOf Try.f68) (by kernel_rfl) (by decide)) ((impl_within_main_link _ _ x0 x1 x2 h).mpr hm)
  obtain ⟨v, h2, h3, r, rfl, h4⟩ := this; exact ⟨r, h2, h3, h4⟩

/-! ### math/bits.Mul -/
def math_bits_Mul_M : Nat → List Nat := fun i => []
def math_bits_Mul_main (S : SatT) (K : AVal → H → Prop) (x0 : Int) (x1 : Int) (h : H) : Prop :=
 callV S i_math_bits_Mul64 [.int .u64 x0, .int .u64 x1] h fun v1 h0 =>
 viaT v1 fun vs2 =>
 exI .u64 vs2 0 fun n3 =>
 viaT v1 fun vs4 =>
 exI .u64 vs4 1 fun n5 =>
 K (.tuple [.int .u64 n3, .int .u64 n5]) h0
theorem math_bits_Mul_main_link (S : SatT) (K : AVal → H → Prop) (x0 : Int) (x1 : Int) (h : H) : cwp S tab math_bits_Mul_M [] (bodyOf Try.f120) (kFun tab Try.f120.results.toList K) (fr0 Try.f120 [.int .u64 x0, .int .u64 x1]) h = math_bits_Mul_main S K x0 x1 h := by kernel_rfl
theorem math_bits_Mul_call (x0 : Int) (x1 : Int) (h : H) (K : AVal → H → Prop) (hm : math_bits_Mul_main (Sat Try.prog) (fun v h' => K v h') x0 x1 h) : callV (Sat Try.prog) i_math_bits_Mul [.int .u64 x0, .int .u64 x1] h K := by
  have := Sat.ex tok mixed math_bits_Mul_M Try.func120 (c := bodyOf Try.f120) (by kernel_rfl) (calls_of Try.func120 (c := bodyOf Try.f120) (by kernel_rfl) (by decide)) ((math_bits_Mul_main_link _ _ x0 x1 h).mpr hm)
  exact this

/-! ### cmp.isNaN[int64] -/
def cmp_isNaN_int64__M : Nat → List Nat := fun i => []
def cmp_isNaN_int64__main (S : SatT) (K : AVal → H → Prop) (x0 : Int) (h : H) : Prop :=
 K (.bool (x0 != x0)) h
theorem cmp_isNaN_int64__main_link (S : SatT) (K : AVal → H → Prop) (x0 : Int) (h : H) : cwp S tab cmp_isNaN_int64__M [] (bodyOf Try.f137) (kFun tab Try.f137.results.toList K) (fr0 Try.f137 [.int .i64 x0]) h = cmp_isNaN_int64__main S K x0 h := by kernel_rfl
theorem cmp_isNaN_int64__call (x0 : Int) (h : H) (K : Bool → H → Prop) (hm : cmp_isNaN_int64__main (Sat Try.prog) (fun v h' => ∃ r, v = .bool r ∧ K r h') x0 h) : callB (Sat Try.prog) i_cmp_isNaN_int64_ [.int .i64 x0] h K := by
  have := Sat.ex tok mixed cmp_isNaN_int64__M Try.func137 (c := bodyOf Try.f137) (by kernel_rfl) (calls_of Try.func137 (c := bodyOf Try.f137) (by kernel_rfl) (by decide)) ((cmp_isNaN_int64__main_link _ _ x0 h).mpr hm)
  obtain ⟨v, h2, h3, r, rfl, h4⟩ := this; exact ⟨r, h2, h3, h4⟩

end Go.Proofs.Ytdmhchgaeepdmaa.Cl
