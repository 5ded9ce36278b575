/- Typed forms of functions, and their links. No claim is stated here. -/
import Derived.Test.YtlbglfgienklfaaFT
/- Typed forms of functions of the program, and their links. Printed by program. No claim is stated here. -/
set_option linter.unusedVariables false
namespace Go.Proofs.Ytlbglfgienklfaa.Cl
open Go
/-! ### (loop.example/g01354/impl.Set).isRow -/
def impl_Set_isRow_M : Nat → List Nat := fun i => bif i == 0 then [1, 2, 7, 8, 9] else []
def impl_Set_isRow_ks1 (S : SatT) (K : AVal → H → Prop) : Kont := kSeq (cwp S tab impl_Set_isRow_M [] (sub [1, 1] (bodyOf Try.f39)) (kFun tab (Try.f39).results.toList K)) (kFun tab (Try.f39).results.toList K)
def impl_Set_isRow_e0 (s1_ : Sl) (p2_ : Pt) (s7_ : Sl) (i8_ : Int) (i9_ : Int) : Frame := [U, .sl s1_, .ptr p2_, U, U, U, U, .sl s7_, .int .i64 i8_, .int .i64 i9_, U, U, U, U, U, U, U, U, U, U, U, U, U, U, U, U, U, U, U, U, U, U, U, U, U, U, U, U, U, U, U, U, U, U, U]
def impl_Set_isRow_w0 (S : SatT) (K : AVal → H → Prop) : (Frame → H → Prop) → Frame → H → Prop := fun X fr h => cwp S tab impl_Set_isRow_M (impl_Set_isRow_M 0) (sub [1, 0, 1, 0, 0] (bodyOf Try.f39)) (kSeq (fun fr h => X (mask (impl_Set_isRow_M 0) fr) h) (kBlk 0 (impl_Set_isRow_ks1 S K))) fr h
def impl_Set_isRow_L0 (S : SatT) (K : AVal → H → Prop) (s1_ : Sl) (p2_ : Pt) (s7_ : Sl) (i8_ : Int) (i9_ : Int) (h : H) : Prop := loopK (impl_Set_isRow_w0 S K) (impl_Set_isRow_e0 s1_ p2_ s7_ i8_ i9_) h
def impl_Set_isRow_C0 (S : SatT) (K : AVal → H → Prop) (s1_ : Sl) (h : H) : Prop :=
 callB S i_impl_within [.int .i64 (s1_.len : Int), .int .i64 (1), .int .i64 (20)] h fun b1 h0 =>
 K (.bool b1) h0
def impl_Set_isRow_b0 (S : SatT) (K : AVal → H → Prop) (X0 : Frame → H → Prop) (s1_ : Sl) (p2_ : Pt) (s7_ : Sl) (i8_ : Int) (i9_ : Int) (h : H) : Prop :=
 bif (decide (i9_ < i8_)) then
 ixS s7_ 1 i9_ fun p0 =>
 ldI .i64 p0 h fun n1 =>
 ldA p2_ 2 h fun cs2 =>
 callB S i_impl_Set_isNumber [.agg cs2, .int .i64 n1] h fun b4 h3 =>
 bif (!b4) then
 K (.bool false) h3
 else
 bif (decide (i9_ > (0))) then
 isPt p2_ (
 ldS (Pt.add p2_ 1) h3 fun s5 =>
 ixS s1_ 1 (w64 (i9_ - (1))) fun p6 =>
 ldI .i64 p6 h3 fun n7 =>
 ixS s5 4 n7 fun p8 =>
 ixA p8 4 1 (2) fun p9 =>
 ldI .i64 p9 h3 fun n10 =>
 isPt p2_ (
 ldS (Pt.add p2_ 1) h3 fun s11 =>
 ixS s11 4 n1 fun p12 =>
 ixA p12 4 1 (0) fun p13 =>
 ldI .i64 p13 h3 fun n14 =>
 bif (n10 != n14) then
 K (.bool false) h3
 else
 X0 (impl_Set_isRow_e0 s1_ p2_ s7_ i8_ (w64 (i9_ + (1)))) h3))
 else
 X0 (impl_Set_isRow_e0 s1_ p2_ s7_ i8_ (w64 (i9_ + (1)))) h3
 else
 impl_Set_isRow_C0 S K s1_ h
theorem impl_Set_isRow_link0 (S : SatT) (K : AVal → H → Prop) (X0 : Frame → H → Prop) (s1_ : Sl) (p2_ : Pt) (s7_ : Sl) (i8_ : Int) (i9_ : Int) (h : H) : impl_Set_isRow_w0 S K X0 (impl_Set_isRow_e0 s1_ p2_ s7_ i8_ i9_) h = impl_Set_isRow_b0 S K X0 s1_ p2_ s7_ i8_ i9_ h := by kernel_rfl
theorem impl_Set_isRow_rule0 (S : SatT) (K : AVal → H → Prop) (s1_ : Sl) (p2_ : Pt) (s7_ : Sl) (i8_ : Int) (I_ : Int → H → Prop) (m_ : Int → H → Nat)
    (hs : ∀ (X0 : Frame → H → Prop) (i9_ : Int) (h : H), I_ i9_ h → (∀ (i9_' : Int) (h' : H), I_ i9_' h' → m_ i9_' h' < m_ i9_ h → X0 (impl_Set_isRow_e0 s1_ p2_ s7_ i8_ i9_') h') → impl_Set_isRow_b0 S K X0 s1_ p2_ s7_ i8_ i9_ h) (i9_ : Int) {h : H} (h0 : I_ i9_ h) : impl_Set_isRow_L0 S K s1_ p2_ s7_ i8_ i9_ h :=
  loop_rule (σ := (Int)) (fun s_ => impl_Set_isRow_e0 s1_ p2_ s7_ i8_ (s_)) (fun s_ h => I_ (s_) h) (fun s_ h => m_ (s_) h)
    (fun X s_ h hi hx => (impl_Set_isRow_link0 S K X s1_ p2_ s7_ i8_ (s_) h).mpr (hs X (s_) h hi fun i9_' h' hi' hm' => hx (i9_') h' hi' hm')) (i9_) h0
theorem impl_Set_isRow_unroll0 (S : SatT) (K : AVal → H → Prop) (s1_ : Sl) (p2_ : Pt) (s7_ : Sl) (i8_ : Int) (i9_ : Int) (h : H) (hb : impl_Set_isRow_b0 S K (fun fr h => loopK (impl_Set_isRow_w0 S K) fr h) s1_ p2_ s7_ i8_ i9_ h) : impl_Set_isRow_L0 S K s1_ p2_ s7_ i8_ i9_ h := loop_unroll ((impl_Set_isRow_link0 S K _ s1_ p2_ s7_ i8_ i9_ h).mpr hb)
def impl_Set_isRow_main (S : SatT) (K : AVal → H → Prop) (x0 : List AVal) (x1 : Sl) (h : H) : Prop :=
 newK 2 x0 h fun p0 h1 =>
 impl_Set_isRow_L0 S K x1 p0 x1 (x1.len : Int) (0) h1
theorem impl_Set_isRow_main_link (S : SatT) (K : AVal → H → Prop) (x0 : List AVal) (x1 : Sl) (h : H) : cwp S tab impl_Set_isRow_M [] (bodyOf Try.f39) (kFun tab Try.f39.results.toList K) (fr0 Try.f39 [.agg x0, .sl x1]) h = impl_Set_isRow_main S K x0 x1 h := by kernel_rfl
theorem impl_Set_isRow_call (x0 : List AVal) (x1 : Sl) (h : H) (K : Bool → H → Prop) (hm : impl_Set_isRow_main (Sat Try.prog) (fun v h' => ∃ r, v = .bool r ∧ K r h') x0 x1 h) : callB (Sat Try.prog) i_impl_Set_isRow [.agg x0, .sl x1] h K := by
  have := Sat.ex tok mixed impl_Set_isRow_M Try.func39 (c := bodyOf Try.f39) (by kernel_rfl) (calls_of Try.func39 (c := bodyOf Try.f39) (by kernel_rfl) (by decide)) ((impl_Set_isRow_main_link _ _ x0 x1 h).mpr hm)
  obtain ⟨v, h2, h3, r, rfl, h4⟩ := this; exact ⟨r, h2, h3, h4⟩

/-! ### loop.example/g01354/laws.heldInt64S -/
def laws_heldInt64S_M : Nat → List Nat := fun i => bif i == 0 then [0, 1, 5] else []
def laws_heldInt64S_ks1 (S : SatT) (K : AVal → H → Prop) : Kont := kSeq (cwp S tab laws_heldInt64S_M [] (sub [1, 1] (bodyOf Try.f20)) (kFun tab (Try.f20).results.toList K)) (kFun tab (Try.f20).results.toList K)
def laws_heldInt64S_e0 (s0_ : Sl) (i1_ : Int) (i5_ : Int) : Frame := [.sl s0_, .int .i64 i1_, U, U, U, .int .i64 i5_, U, U, U, U, U, U, U, U, U, U, U, U, U, U, U]
def laws_heldInt64S_w0 (S : SatT) (K : AVal → H → Prop) : (Frame → H → Prop) → Frame → H → Prop := fun X fr h => cwp S tab laws_heldInt64S_M (laws_heldInt64S_M 0) (sub [1, 0, 1, 0, 0] (bodyOf Try.f20)) (kSeq (fun fr h => X (mask (laws_heldInt64S_M 0) fr) h) (kBlk 0 (laws_heldInt64S_ks1 S K))) fr h
def laws_heldInt64S_L0 (S : SatT) (K : AVal → H → Prop) (s0_ : Sl) (i1_ : Int) (i5_ : Int) (h : H) : Prop := loopK (laws_heldInt64S_w0 S K) (laws_heldInt64S_e0 s0_ i1_ i5_) h
def laws_heldInt64S_C0 (S : SatT) (K : AVal → H → Prop) (i1_ : Int) (h : H) : Prop :=
 K (.int .i64 i1_) h
def laws_heldInt64S_b0 (S : SatT) (K : AVal → H → Prop) (X0 : Frame → H → Prop) (s0_ : Sl) (i1_ : Int) (i5_ : Int) (h : H) : Prop :=
 bif (decide (i5_ < (s0_.len : Int))) then
 ixS s0_ 1 i5_ fun p0 =>
 ldI .i64 p0 h fun n1 =>
 bif (n1 != i1_) then
 K (.int .i64 (-1)) h
 else
 X0 (laws_heldInt64S_e0 s0_ (w64 (i1_ + (1))) (w64 (i5_ + (1)))) h
 else
 laws_heldInt64S_C0 S K i1_ h
theorem laws_heldInt64S_link0 (S : SatT) (K : AVal → H → Prop) (X0 : Frame → H → Prop) (s0_ : Sl) (i1_ : Int) (i5_ : Int) (h : H) : laws_heldInt64S_w0 S K X0 (laws_heldInt64S_e0 s0_ i1_ i5_) h = laws_heldInt64S_b0 S K X0 s0_ i1_ i5_ h := by kernel_rfl
theorem laws_heldInt64S_rule0 (S : SatT) (K : AVal → H → Prop) (s0_ : Sl) (I_ : Int → Int → H → Prop) (m_ : Int → Int → H → Nat)
    (hs : ∀ (X0 : Frame → H → Prop) (i1_ : Int) (i5_ : Int) (h : H), I_ i1_ i5_ h → (∀ (i1_' : Int) (i5_' : Int) (h' : H), I_ i1_' i5_' h' → m_ i1_' i5_' h' < m_ i1_ i5_ h → X0 (laws_heldInt64S_e0 s0_ i1_' i5_') h') → laws_heldInt64S_b0 S K X0 s0_ i1_ i5_ h) (i1_ : Int) (i5_ : Int) {h : H} (h0 : I_ i1_ i5_ h) : laws_heldInt64S_L0 S K s0_ i1_ i5_ h :=
  loop_rule (σ := (Int) × (Int)) (fun s_ => laws_heldInt64S_e0 s0_ (s_.1) (s_.2)) (fun s_ h => I_ (s_.1) (s_.2) h) (fun s_ h => m_ (s_.1) (s_.2) h)
    (fun X s_ h hi hx => (laws_heldInt64S_link0 S K X s0_ (s_.1) (s_.2) h).mpr (hs X (s_.1) (s_.2) h hi fun i1_' i5_' h' hi' hm' => hx (i1_', i5_') h' hi' hm')) (i1_, i5_) h0
theorem laws_heldInt64S_unroll0 (S : SatT) (K : AVal → H → Prop) (s0_ : Sl) (i1_ : Int) (i5_ : Int) (h : H) (hb : laws_heldInt64S_b0 S K (fun fr h => loopK (laws_heldInt64S_w0 S K) fr h) s0_ i1_ i5_ h) : laws_heldInt64S_L0 S K s0_ i1_ i5_ h := loop_unroll ((laws_heldInt64S_link0 S K _ s0_ i1_ i5_ h).mpr hb)
def laws_heldInt64S_main (S : SatT) (K : AVal → H → Prop) (x0 : Sl) (x1 : Int) (h : H) : Prop :=
 laws_heldInt64S_L0 S K x0 x1 (0) h
theorem laws_heldInt64S_main_link (S : SatT) (K : AVal → H → Prop) (x0 : Sl) (x1 : Int) (h : H) : cwp S tab laws_heldInt64S_M [] (bodyOf Try.f20) (kFun tab Try.f20.results.toList K) (fr0 Try.f20 [.sl x0, .int .i64 x1]) h = laws_heldInt64S_main S K x0 x1 h := by kernel_rfl
theorem laws_heldInt64S_call (x0 : Sl) (x1 : Int) (h : H) (K : Int → H → Prop) (hm : laws_heldInt64S_main (Sat Try.prog) (fun v h' => ∃ r, v = .int .i64 r ∧ K r h') x0 x1 h) : callI (Sat Try.prog) .i64 i_laws_heldInt64S [.sl x0, .int .i64 x1] h K := by
  have := Sat.ex tok mixed laws_heldInt64S_M Try.func20 (c := bodyOf Try.f20) (by kernel_rfl) (calls_of Try.func20 (c := bodyOf Try.f20) (by kernel_rfl) (by decide)) ((laws_heldInt64S_main_link _ _ x0 x1 h).mpr hm)
  obtain ⟨v, h2, h3, r, rfl, h4⟩ := this; exact ⟨r, h2, h3, h4⟩

/-! ### loop.example/g01354/spec.l01Tile -/
def spec_l01Tile_M : Nat → List Nat := fun i => bif i == 0 then [0, 3, 5] else []
def spec_l01Tile_ks1 (S : SatT) (K : AVal → H → Prop) : Kont := kSeq (cwp S tab spec_l01Tile_M [] (sub [1, 1] (bodyOf Try.f58)) (kFun tab (Try.f58).results.toList K)) (kFun tab (Try.f58).results.toList K)
def spec_l01Tile_e0 (i0_ : Int) (p3_ : Pt) (i5_ : Int) : Frame := [.int .i64 i0_, U, U, .ptr p3_, U, .int .i64 i5_, U, U, U, U, U, U, U, U, U, U, U]
def spec_l01Tile_w0 (S : SatT) (K : AVal → H → Prop) : (Frame → H → Prop) → Frame → H → Prop := fun X fr h => cwp S tab spec_l01Tile_M (spec_l01Tile_M 0) (sub [1, 0, 1, 0, 0] (bodyOf Try.f58)) (kSeq (fun fr h => X (mask (spec_l01Tile_M 0) fr) h) (kBlk 0 (spec_l01Tile_ks1 S K))) fr h
def spec_l01Tile_L0 (S : SatT) (K : AVal → H → Prop) (i0_ : Int) (p3_ : Pt) (i5_ : Int) (h : H) : Prop := loopK (spec_l01Tile_w0 S K) (spec_l01Tile_e0 i0_ p3_ i5_) h
def spec_l01Tile_C0 (S : SatT) (K : AVal → H → Prop) (h : H) : Prop :=
 K (.bool true) h
def spec_l01Tile_b0 (S : SatT) (K : AVal → H → Prop) (X0 : Frame → H → Prop) (i0_ : Int) (p3_ : Pt) (i5_ : Int) (h : H) : Prop :=
 bif (decide (i5_ < (4))) then
 ixA p3_ 4 1 i5_ fun p0 =>
 ldI .i64 p0 h fun n1 =>
 callB S i_spec_l01In [.int .i64 n1, .int .i64 (0), .int .i64 (w64 (i0_ - (1)))] h fun b3 h2 =>
 bif (!b3) then
 K (.bool false) h2
 else
 X0 (spec_l01Tile_e0 i0_ p3_ (w64 (i5_ + (1)))) h2
 else
 spec_l01Tile_C0 S K h
theorem spec_l01Tile_link0 (S : SatT) (K : AVal → H → Prop) (X0 : Frame → H → Prop) (i0_ : Int) (p3_ : Pt) (i5_ : Int) (h : H) : spec_l01Tile_w0 S K X0 (spec_l01Tile_e0 i0_ p3_ i5_) h = spec_l01Tile_b0 S K X0 i0_ p3_ i5_ h := by kernel_rfl
theorem spec_l01Tile_rule0 (S : SatT) (K : AVal → H → Prop) (i0_ : Int) (p3_ : Pt) (I_ : Int → H → Prop) (m_ : Int → H → Nat)
    (hs : ∀ (X0 : Frame → H → Prop) (i5_ : Int) (h : H), I_ i5_ h → (∀ (i5_' : Int) (h' : H), I_ i5_' h' → m_ i5_' h' < m_ i5_ h → X0 (spec_l01Tile_e0 i0_ p3_ i5_') h') → spec_l01Tile_b0 S K X0 i0_ p3_ i5_ h) (i5_ : Int) {h : H} (h0 : I_ i5_ h) : spec_l01Tile_L0 S K i0_ p3_ i5_ h :=
  loop_rule (σ := (Int)) (fun s_ => spec_l01Tile_e0 i0_ p3_ (s_)) (fun s_ h => I_ (s_) h) (fun s_ h => m_ (s_) h)
    (fun X s_ h hi hx => (spec_l01Tile_link0 S K X i0_ p3_ (s_) h).mpr (hs X (s_) h hi fun i5_' h' hi' hm' => hx (i5_') h' hi' hm')) (i5_) h0
theorem spec_l01Tile_unroll0 (S : SatT) (K : AVal → H → Prop) (i0_ : Int) (p3_ : Pt) (i5_ : Int) (h : H) (hb : spec_l01Tile_b0 S K (fun fr h => loopK (spec_l01Tile_w0 S K) fr h) i0_ p3_ i5_ h) : spec_l01Tile_L0 S K i0_ p3_ i5_ h := loop_unroll ((spec_l01Tile_link0 S K _ i0_ p3_ i5_ h).mpr hb)
def spec_l01Tile_main (S : SatT) (K : AVal → H → Prop) (x0 : Int) (x1 : List AVal) (h : H) : Prop :=
 newK 4 x1 h fun p0 h1 =>
 spec_l01Tile_L0 S K x0 p0 (0) h1
theorem spec_l01Tile_main_link (S : SatT) (K : AVal → H → Prop) (x0 : Int) (x1 : List AVal) (h : H) : cwp S tab spec_l01Tile_M [] (bodyOf Try.f58) (kFun tab Try.f58.results.toList K) (fr0 Try.f58 [.int .i64 x0, .agg x1]) h = spec_l01Tile_main S K x0 x1 h := by kernel_rfl
theorem spec_l01Tile_call (x0 : Int) (x1 : List AVal) (h : H) (K : Bool → H → Prop) (hm : spec_l01Tile_main (Sat Try.prog) (fun v h' => ∃ r, v = .bool r ∧ K r h') x0 x1 h) : callB (Sat Try.prog) i_spec_l01Tile [.int .i64 x0, .agg x1] h K := by
  have := Sat.ex tok mixed spec_l01Tile_M Try.func58 (c := bodyOf Try.f58) (by kernel_rfl) (calls_of Try.func58 (c := bodyOf Try.f58) (by kernel_rfl) (by decide)) ((spec_l01Tile_main_link _ _ x0 x1 h).mpr hm)
  obtain ⟨v, h2, h3, r, rfl, h4⟩ := this; exact ⟨r, h2, h3, h4⟩

/-! ### loop.example/g01354/impl.StackSets -/
def impl_StackSets_M : Nat → List Nat := fun i => []
def impl_StackSets_main (S : SatT) (K : AVal → H → Prop) (x0 : List AVal) (x1 : List AVal) (h : H) : Prop :=
 newK 2 x0 h fun p0 h1 =>
 newK 2 x1 h1 fun p2 h3 =>
 newO [.int .i64 (0), .sl Sl.nil] h3 fun p4 h5 =>
 ldA p0 2 h5 fun cs6 =>
 ldA p2 2 h5 fun cs7 =>
 lenA cs6 2 (
 lenA cs7 2 (
 newS 2 2 (spl (spl [.int .i64 (0), .sl Sl.nil, .int .i64 (0), .sl Sl.nil] 0 2 cs6) 2 2 cs7) h5 fun s8 h9 =>
 callB S i_impl_areSets [.sl s8] h9 fun b11 h10 =>
 bif (!b11) then
 stN p4 2 [.int .i64 (0), .sl Sl.nil] h10 fun h12 =>
 ldA p4 2 h12 fun cs13 =>
 K (.tuple [.agg cs13, .int .i64 (1)]) h12
 else
 ldA p0 2 h10 fun cs14 =>
 ldA p2 2 h10 fun cs15 =>
 callV S i_impl_stack [.agg cs14, .agg cs15] h10 fun v17 h16 =>
 viaT v17 fun vs18 =>
 exA vs18 0 fun cs19 =>
 viaT v17 fun vs20 =>
 exI .i64 vs20 1 fun n21 =>
 stN p4 2 cs19 h16 fun h22 =>
 ldA p4 2 h22 fun cs23 =>
 K (.tuple [.agg cs23, .int .i64 n21]) h22))
theorem impl_StackSets_main_link (S : SatT) (K : AVal → H → Prop) (x0 : List AVal) (x1 : List AVal) (h : H) : cwp S tab impl_StackSets_M [] (bodyOf Try.f11) (kFun tab Try.f11.results.toList K) (fr0 Try.f11 [.agg x0, .agg x1]) h = impl_StackSets_main S K x0 x1 h := by kernel_rfl
theorem impl_StackSets_call (x0 : List AVal) (x1 : List AVal) (h : H) (K : AVal → H → Prop) (hm : impl_StackSets_main (Sat Try.prog) (fun v h' => K v h') x0 x1 h) : callV (Sat Try.prog) i_impl_StackSets [.agg x0, .agg x1] h K := by
  have := Sat.ex tok mixed impl_StackSets_M Try.func11 (c := bodyOf Try.f11) (by kernel_rfl) (calls_of Try.func11 (c := bodyOf Try.f11) (by kernel_rfl) (by decide)) ((impl_StackSets_main_link _ _ x0 x1 h).mpr hm)
  exact this

/-! ### loop.example/g01354/laws.toSet -/
def laws_toSet_M : Nat → List Nat := fun i => []
def laws_toSet_main (S : SatT) (K : AVal → H → Prop) (x0 : List AVal) (h : H) : Prop :=
 newK 2 x0 h fun p0 h1 =>
 newO [.int .i64 (0), .sl Sl.nil] h1 fun p2 h3 =>
 newO [.int .i64 (0), .sl Sl.nil] h3 fun p4 h5 =>
 isPt p0 (
 ldI .i64 (Pt.add p0 0) h5 fun n6 =>
 isPt p4 (
 st1 (Pt.add p4 0) (.int .i64 n6) h5 fun h7 =>
 isPt p0 (
 ldS (Pt.add p0 1) h7 fun s8 =>
 callS S i_laws_toTileS [.sl s8] h7 fun s10 h9 =>
 isPt p4 (
 st1 (Pt.add p4 1) (.sl s10) h9 fun h11 =>
 ldA p4 2 h11 fun cs12 =>
 stN p2 2 cs12 h11 fun h13 =>
 ldA p2 2 h13 fun cs14 =>
 K (.agg cs14) h13))))
theorem laws_toSet_main_link (S : SatT) (K : AVal → H → Prop) (x0 : List AVal) (h : H) : cwp S tab laws_toSet_M [] (bodyOf Try.f10) (kFun tab Try.f10.results.toList K) (fr0 Try.f10 [.agg x0]) h = laws_toSet_main S K x0 h := by kernel_rfl
theorem laws_toSet_call (x0 : List AVal) (h : H) (K : List AVal → H → Prop) (hm : laws_toSet_main (Sat Try.prog) (fun v h' => ∃ r, v = .agg r ∧ K r h') x0 h) : callA (Sat Try.prog) i_laws_toSet [.agg x0] h K := by
  have := Sat.ex tok mixed laws_toSet_M Try.func10 (c := bodyOf Try.f10) (by kernel_rfl) (calls_of Try.func10 (c := bodyOf Try.f10) (by kernel_rfl) (by decide)) ((laws_toSet_main_link _ _ x0 h).mpr hm)
  obtain ⟨v, h2, h3, r, rfl, h4⟩ := this; exact ⟨r, h2, h3, h4⟩

/-! ### slices.SortedFunc[loop.example/g01354/impl.Tile] -/
def slices_SortedFunc_impl_Tile__M : Nat → List Nat := fun i => []
def slices_SortedFunc_impl_Tile__main (S : SatT) (K : AVal → H → Prop) (x0 : AVal) (x1 : AVal) (h : H) : Prop :=
 callS S i_slices_Collect_impl_Tile_ [x0] h fun s1 h0 =>
 callV S i_slices_SortFunc_s_impl_Tile_impl_Tile_ [.sl s1, x1] h0 fun v3 h2 =>
 K (.sl s1) h2
theorem slices_SortedFunc_impl_Tile__main_link (S : SatT) (K : AVal → H → Prop) (x0 : AVal) (x1 : AVal) (h : H) : cwp S tab slices_SortedFunc_impl_Tile__M [] (bodyOf Try.f53) (kFun tab Try.f53.results.toList K) (fr0 Try.f53 [x0, x1]) h = slices_SortedFunc_impl_Tile__main S K x0 x1 h := by kernel_rfl
theorem slices_SortedFunc_impl_Tile__call (x0 : AVal) (x1 : AVal) (h : H) (K : Sl → H → Prop) (hm : slices_SortedFunc_impl_Tile__main (Sat Try.prog) (fun v h' => ∃ r, v = .sl r ∧ K r h') x0 x1 h) : callS (Sat Try.prog) i_slices_SortedFunc_impl_Tile_ [x0, x1] h K := by
  have := Sat.ex tok mixed slices_SortedFunc_impl_Tile__M Try.func53 (c := bodyOf Try.f53) (by kernel_rfl) (calls_of Try.func53 (c := bodyOf Try.f53) (by kernel_rfl) (by decide)) ((slices_SortedFunc_impl_Tile__main_link _ _ x0 x1 h).mpr hm)
  obtain ⟨v, h2, h3, r, rfl, h4⟩ := this; exact ⟨r, h2, h3, h4⟩

/-! ### (loop.example/g01354/impl.Set).isNumber -/
def impl_Set_isNumber_M : Nat → List Nat := fun i => []
def impl_Set_isNumber_main (S : SatT) (K : AVal → H → Prop) (x0 : List AVal) (x1 : Int) (h : H) : Prop :=
 newK 2 x0 h fun p0 h1 =>
 isPt p0 (
 ldS (Pt.add p0 1) h1 fun s2 =>
 callB S i_impl_within [.int .i64 x1, .int .i64 (0), .int .i64 (w64 ((s2.len : Int) - (1)))] h1 fun b4 h3 =>
 K (.bool b4) h3)
theorem impl_Set_isNumber_main_link (S : SatT) (K : AVal → H → Prop) (x0 : List AVal) (x1 : Int) (h : H) : cwp S tab impl_Set_isNumber_M [] (bodyOf Try.f69) (kFun tab Try.f69.results.toList K) (fr0 Try.f69 [.agg x0, .int .i64 x1]) h = impl_Set_isNumber_main S K x0 x1 h := by kernel_rfl
theorem impl_Set_isNumber_call (x0 : List AVal) (x1 : Int) (h : H) (K : Bool → H → Prop) (hm : impl_Set_isNumber_main (Sat Try.prog) (fun v h' => ∃ r, v = .bool r ∧ K r h') x0 x1 h) : callB (Sat Try.prog) i_impl_Set_isNumber [.agg x0, .int .i64 x1] h K := by
  have := Sat.ex tok mixed impl_Set_isNumber_M Try.func69 (c := bodyOf Try.f69) (by kernel_rfl) (calls_of Try.func69 (c := bodyOf Try.f69) (by kernel_rfl) (by decide)) ((impl_Set_isNumber_main_link _ _ x0 x1 h).mpr hm)
  obtain ⟨v, h2, h3, r, rfl, h4⟩ := this; exact ⟨r, h2, h3, h4⟩

/-! ### loop.example/g01354/laws.szSet -/
def laws_szSet_M : Nat → List Nat := fun i => []
def laws_szSet_main (S : SatT) (K : AVal → H → Prop) (x0 : List AVal) (x1 : Int) (h : H) : Prop :=
 newK 2 x0 h fun p0 h1 =>
 isPt p0 (
 ldS (Pt.add p0 1) h1 fun s2 =>
 callI S .i64 i_laws_szTileS [.sl s2, .int .i64 x1] h1 fun n4 h3 =>
 bif (decide (n4 < (0))) then
 K (.int .i64 (-1)) h3
 else
 K (.int .i64 n4) h3)
theorem laws_szSet_main_link (S : SatT) (K : AVal → H → Prop) (x0 : List AVal) (x1 : Int) (h : H) : cwp S tab laws_szSet_M [] (bodyOf Try.f8) (kFun tab Try.f8.results.toList K) (fr0 Try.f8 [.agg x0, .int .i64 x1]) h = laws_szSet_main S K x0 x1 h := by kernel_rfl
theorem laws_szSet_call (x0 : List AVal) (x1 : Int) (h : H) (K : Int → H → Prop) (hm : laws_szSet_main (Sat Try.prog) (fun v h' => ∃ r, v = .int .i64 r ∧ K r h') x0 x1 h) : callI (Sat Try.prog) .i64 i_laws_szSet [.agg x0, .int .i64 x1] h K := by
  have := Sat.ex tok mixed laws_szSet_M Try.func8 (c := bodyOf Try.f8) (by kernel_rfl) (calls_of Try.func8 (c := bodyOf Try.f8) (by kernel_rfl) (by decide)) ((laws_szSet_main_link _ _ x0 x1 h).mpr hm)
  obtain ⟨v, h2, h3, r, rfl, h4⟩ := this; exact ⟨r, h2, h3, h4⟩

/-! ### loop.example/g01354/impl.isTile$1 -/
def impl_isTile_1_M : Nat → List Nat := fun i => []
def impl_isTile_1_main (S : SatT) (K : AVal → H → Prop) (x0 : Int) (x1 : Pt) (h : H) : Prop :=
 ldI .i64 x1 h fun n0 =>
 callB S i_impl_within [.int .i64 x0, .int .i64 (0), .int .i64 (w64 (n0 - (1)))] h fun b2 h1 =>
 K (.bool (!b2)) h1
theorem impl_isTile_1_main_link (S : SatT) (K : AVal → H → Prop) (x0 : Int) (x1 : Pt) (h : H) : cwp S tab impl_isTile_1_M [] (bodyOf Try.f93) (kFun tab Try.f93.results.toList K) (fr0 Try.f93 [.int .i64 x0, .ptr x1]) h = impl_isTile_1_main S K x0 x1 h := by kernel_rfl
theorem impl_isTile_1_call (x0 : Int) (x1 : Pt) (h : H) (K : Bool → H → Prop) (hm : impl_isTile_1_main (Sat Try.prog) (fun v h' => ∃ r, v = .bool r ∧ K r h') x0 x1 h) : callB (Sat Try.prog) i_impl_isTile_1 [.int .i64 x0, .ptr x1] h K := by
  have := Sat.ex tok mixed impl_isTile_1_M Try.func93 (c := bodyOf Try.f93) (by kernel_rfl) (calls_of Try.func93 (c := bodyOf Try.f93) (by kernel_rfl) (by decide)) ((impl_isTile_1_main_link _ _ x0 x1 h).mpr hm)
  obtain ⟨v, h2, h3, r, rfl, h4⟩ := this; exact ⟨r, h2, h3, h4⟩

/-! ### loop.example/g01354/impl.areSets$1 -/
def impl_areSets_1_M : Nat → List Nat := fun i => []
def impl_areSets_1_main (S : SatT) (K : AVal → H → Prop) (x0 : List AVal) (h : H) : Prop :=
 newK 2 x0 h fun p0 h1 =>
 ldA p0 2 h1 fun cs2 =>
 callB S i_impl_IsSet [.agg cs2] h1 fun b4 h3 =>
 K (.bool (!b4)) h3
theorem impl_areSets_1_main_link (S : SatT) (K : AVal → H → Prop) (x0 : List AVal) (h : H) : cwp S tab impl_areSets_1_M [] (bodyOf Try.f63) (kFun tab Try.f63.results.toList K) (fr0 Try.f63 [.agg x0]) h = impl_areSets_1_main S K x0 h := by kernel_rfl
theorem impl_areSets_1_call (x0 : List AVal) (h : H) (K : Bool → H → Prop) (hm : impl_areSets_1_main (Sat Try.prog) (fun v h' => ∃ r, v = .bool r ∧ K r h') x0 h) : callB (Sat Try.prog) i_impl_areSets_1 [.agg x0] h K := by
  have := Sat.ex tok mixed impl_areSets_1_M Try.func63 (c := bodyOf Try.f63) (by kernel_rfl) (calls_of Try.func63 (c := bodyOf Try.f63) (by kernel_rfl) (by decide)) ((impl_areSets_1_main_link _ _ x0 h).mpr hm)
  obtain ⟨v, h2, h3, r, rfl, h4⟩ := this; exact ⟨r, h2, h3, h4⟩

/-! ### cmp.isNaN[int64] -/
def cmp_isNaN_int64__M : Nat → List Nat := fun i => []
def cmp_isNaN_int64__main (S : SatT) (K : AVal → H → Prop) (x0 : Int) (h : H) : Prop :=
 K (.bool (x0 != x0)) h
theorem cmp_isNaN_int64__main_link (S : SatT) (K : AVal → H → Prop) (x0 : Int) (h : H) : cwp S tab cmp_isNaN_int64__M [] (bodyOf Try.f105) (kFun tab Try.f105.results.toList K) (fr0 Try.f105 [.int .i64 x0]) h = cmp_isNaN_int64__main S K x0 h := by kernel_rfl
theorem cmp_isNaN_int64__call (x0 : Int) (h : H) (K : Bool → H → Prop) (hm : cmp_isNaN_int64__main (Sat Try.prog) (fun v h' => ∃ r, v = .bool r ∧ K r h') x0 h) : callB (Sat Try.prog) i_cmp_isNaN_int64_ [.int .i64 x0] h K := by
  have := Sat.ex tok mixed cmp_isNaN_int64__M Try.func105 (c := bodyOf Try.f105) (by kernel_rfl) (calls_of Try.func105 (c := bodyOf Try.f105) (by kernel_rfl) (by decide)) ((cmp_isNaN_int64__main_link _ _ x0 h).mpr hm)
  obtain ⟨v, h2, h3, r, rfl, h4⟩ := this; exact ⟨r, h2, h3, h4⟩

end Go.Proofs.Ytlbglfgienklfaa.Cl
