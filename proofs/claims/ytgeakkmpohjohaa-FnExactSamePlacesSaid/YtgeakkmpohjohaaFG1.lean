/- Typed forms of functions, and their links. No claim is stated here. -/
import Derived.Test.YtgeakkmpohjohaaFT
/- Typed forms of functions of the program, and their links. Printed by program. No claim is stated here. -/
set_option linter.unusedVariables false
namespace Go.Proofs.Ytgeakkmpohjohaa.Cl
open Go
/-! ### loop.example/g01354/laws.markTileS -/
def laws_markTileS_M : Nat → List Nat := fun i => bif i == 2 then [0, 1, 5, 6] else bif i == 0 then [0, 1, 5] else []
def laws_markTileS_ks1 (S : SatT) (K : AVal → H → Prop) : Kont := kSeq (cwp S tab laws_markTileS_M [] (sub [1, 1] (bodyOf Try.f33)) (kFun tab (Try.f33).results.toList K)) (kFun tab (Try.f33).results.toList K)
def laws_markTileS_e0 (s0_ : Sl) (i1_ : Int) (i5_ : Int) : Frame := [.sl s0_, .int .i64 i1_, U, U, U, .int .i64 i5_, U, U, U, U, U, U, U, U, U, U, U, U, U, U, U, U, U, U, U, U]
def laws_markTileS_w0 (S : SatT) (K : AVal → H → Prop) : (Frame → H → Prop) → Frame → H → Prop := fun X fr h => cwp S tab laws_markTileS_M (laws_markTileS_M 0) (sub [1, 0, 1, 0, 0] (bodyOf Try.f33)) (kSeq (fun fr h => X (mask (laws_markTileS_M 0) fr) h) (kBlk 0 (laws_markTileS_ks1 S K))) fr h
def laws_markTileS_L0 (S : SatT) (K : AVal → H → Prop) (s0_ : Sl) (i1_ : Int) (i5_ : Int) (h : H) : Prop := loopK (laws_markTileS_w0 S K) (laws_markTileS_e0 s0_ i1_ i5_) h
def laws_markTileS_ks5 (S : SatT) (K : AVal → H → Prop) (X0 : Frame → H → Prop) : Kont := kSeq (cwp S tab laws_markTileS_M (laws_markTileS_M 0) (sub [1, 0, 1, 0, 0, 1, 1] (bodyOf Try.f33)) (kSeq (fun fr h => X0 (mask (laws_markTileS_M 0) fr) h) (kBlk 0 (laws_markTileS_ks1 S K)))) (kSeq (fun fr h => X0 (mask (laws_markTileS_M 0) fr) h) (kBlk 0 (laws_markTileS_ks1 S K)))
def laws_markTileS_e2 (s0_ : Sl) (i1_ : Int) (i5_ : Int) (i6_ : Int) : Frame := [.sl s0_, .int .i64 i1_, U, U, U, .int .i64 i5_, .int .i64 i6_, U, U, U, U, U, U, U, U, U, U, U, U, U, U, U, U, U, U, U]
def laws_markTileS_w2 (S : SatT) (K : AVal → H → Prop) (X0 : Frame → H → Prop) : (Frame → H → Prop) → Frame → H → Prop := fun X fr h => cwp S tab laws_markTileS_M (laws_markTileS_M 2) (sub [1, 0, 1, 0, 0, 1, 0, 0, 1, 0, 0] (bodyOf Try.f33)) (kSeq (fun fr h => X (mask (laws_markTileS_M 2) fr) h) (kBlk 2 (kBlk 1 (laws_markTileS_ks5 S K X0)))) fr h
def laws_markTileS_L2 (S : SatT) (K : AVal → H → Prop) (X0 : Frame → H → Prop) (s0_ : Sl) (i1_ : Int) (i5_ : Int) (i6_ : Int) (h : H) : Prop := loopK (laws_markTileS_w2 S K X0) (laws_markTileS_e2 s0_ i1_ i5_ i6_) h
def laws_markTileS_C1 (S : SatT) (K : AVal → H → Prop) (X0 : Frame → H → Prop) (s0_ : Sl) (i1_ : Int) (i5_ : Int) (h : H) : Prop :=
 X0 (laws_markTileS_e0 s0_ i1_ (w64 (i5_ + (1)))) h
def laws_markTileS_C2 (S : SatT) (K : AVal → H → Prop) (X0 : Frame → H → Prop) (s0_ : Sl) (i1_ : Int) (i5_ : Int) (h : H) : Prop :=
 laws_markTileS_C1 S K X0 s0_ i1_ i5_ h
def laws_markTileS_b2 (S : SatT) (K : AVal → H → Prop) (X0 : Frame → H → Prop) (X2 : Frame → H → Prop) (s0_ : Sl) (i1_ : Int) (i5_ : Int) (i6_ : Int) (h : H) : Prop :=
 bif (decide (i6_ < (4))) then
 ixS s0_ 4 i5_ fun p0 =>
 ixA p0 4 1 i6_ fun p1 =>
 st1 p1 (.int .i64 i1_) h fun h2 =>
 X2 (laws_markTileS_e2 s0_ (w64 (i1_ + (1))) i5_ (w64 (i6_ + (1)))) h2
 else
 laws_markTileS_C2 S K X0 s0_ i1_ i5_ h
theorem laws_markTileS_link2 (S : SatT) (K : AVal → H → Prop) (X0 : Frame → H → Prop) (X2 : Frame → H → Prop) (s0_ : Sl) (i1_ : Int) (i5_ : Int) (i6_ : Int) (h : H) : laws_markTileS_w2 S K X0 X2 (laws_markTileS_e2 s0_ i1_ i5_ i6_) h = laws_markTileS_b2 S K X0 X2 s0_ i1_ i5_ i6_ h := by kernel_rfl
theorem laws_markTileS_rule2 (S : SatT) (K : AVal → H → Prop) (X0 : Frame → H → Prop) (s0_ : Sl) (i5_ : Int) (I_ : Int → Int → H → Prop) (m_ : Int → Int → H → Nat)
    (hs : ∀ (X2 : Frame → H → Prop) (i1_ : Int) (i6_ : Int) (h : H), I_ i1_ i6_ h → (∀ (i1_' : Int) (i6_' : Int) (h' : H), I_ i1_' i6_' h' → m_ i1_' i6_' h' < m_ i1_ i6_ h → X2 (laws_markTileS_e2 s0_ i1_' i5_ i6_') h') → laws_markTileS_b2 S K X0 X2 s0_ i1_ i5_ i6_ h) (i1_ : Int) (i6_ : Int) {h : H} (h0 : I_ i1_ i6_ h) : laws_markTileS_L2 S K X0 s0_ i1_ i5_ i6_ h :=
  loop_rule (σ := (Int) × (Int)) (fun s_ => laws_markTileS_e2 s0_ (s_.1) i5_ (s_.2)) (fun s_ h => I_ (s_.1) (s_.2) h) (fun s_ h => m_ (s_.1) (s_.2) h)
    (fun X s_ h hi hx => (laws_markTileS_link2 S K X0 X s0_ (s_.1) i5_ (s_.2) h).mpr (hs X (s_.1) (s_.2) h hi fun i1_' i6_' h' hi' hm' => hx (i1_', i6_') h' hi' hm')) (i1_, i6_) h0
theorem laws_markTileS_unroll2 (S : SatT) (K : AVal → H → Prop) (X0 : Frame → H → Prop) (s0_ : Sl) (i1_ : Int) (i5_ : Int) (i6_ : Int) (h : H) (hb : laws_markTileS_b2 S K X0 (fun fr h => loopK (laws_markTileS_w2 S K X0) fr h) s0_ i1_ i5_ i6_ h) : laws_markTileS_L2 S K X0 s0_ i1_ i5_ i6_ h := loop_unroll ((laws_markTileS_link2 S K X0 _ s0_ i1_ i5_ i6_ h).mpr hb)
def laws_markTileS_C0 (S : SatT) (K : AVal → H → Prop) (i1_ : Int) (h : H) : Prop :=
 K (.int .i64 i1_) h
def laws_markTileS_b0 (S : SatT) (K : AVal → H → Prop) (X0 : Frame → H → Prop) (s0_ : Sl) (i1_ : Int) (i5_ : Int) (h : H) : Prop :=
 bif (decide (i5_ < (s0_.len : Int))) then
 laws_markTileS_L2 S K X0 s0_ i1_ i5_ (0) h
 else
 laws_markTileS_C0 S K i1_ h
theorem laws_markTileS_link0 (S : SatT) (K : AVal → H → Prop) (X0 : Frame → H → Prop) (s0_ : Sl) (i1_ : Int) (i5_ : Int) (h : H) : laws_markTileS_w0 S K X0 (laws_markTileS_e0 s0_ i1_ i5_) h = laws_markTileS_b0 S K X0 s0_ i1_ i5_ h := by kernel_rfl
theorem laws_markTileS_rule0 (S : SatT) (K : AVal → H → Prop) (s0_ : Sl) (I_ : Int → Int → H → Prop) (m_ : Int → Int → H → Nat)
    (hs : ∀ (X0 : Frame → H → Prop) (i1_ : Int) (i5_ : Int) (h : H), I_ i1_ i5_ h → (∀ (i1_' : Int) (i5_' : Int) (h' : H), I_ i1_' i5_' h' → m_ i1_' i5_' h' < m_ i1_ i5_ h → X0 (laws_markTileS_e0 s0_ i1_' i5_') h') → laws_markTileS_b0 S K X0 s0_ i1_ i5_ h) (i1_ : Int) (i5_ : Int) {h : H} (h0 : I_ i1_ i5_ h) : laws_markTileS_L0 S K s0_ i1_ i5_ h :=
  loop_rule (σ := (Int) × (Int)) (fun s_ => laws_markTileS_e0 s0_ (s_.1) (s_.2)) (fun s_ h => I_ (s_.1) (s_.2) h) (fun s_ h => m_ (s_.1) (s_.2) h)
    (fun X s_ h hi hx => (laws_markTileS_link0 S K X s0_ (s_.1) (s_.2) h).mpr (hs X (s_.1) (s_.2) h hi fun i1_' i5_' h' hi' hm' => hx (i1_', i5_') h' hi' hm')) (i1_, i5_) h0
theorem laws_markTileS_unroll0 (S : SatT) (K : AVal → H → Prop) (s0_ : Sl) (i1_ : Int) (i5_ : Int) (h : H) (hb : laws_markTileS_b0 S K (fun fr h => loopK (laws_markTileS_w0 S K) fr h) s0_ i1_ i5_ h) : laws_markTileS_L0 S K s0_ i1_ i5_ h := loop_unroll ((laws_markTileS_link0 S K _ s0_ i1_ i5_ h).mpr hb)
def laws_markTileS_main (S : SatT) (K : AVal → H → Prop) (x0 : Sl) (x1 : Int) (h : H) : Prop :=
 laws_markTileS_L0 S K x0 x1 (0) h
theorem laws_markTileS_main_link (S : SatT) (K : AVal → H → Prop) (x0 : Sl) (x1 : Int) (h : H) : cwp S tab laws_markTileS_M [] (bodyOf Try.f33) (kFun tab Try.f33.results.toList K) (fr0 Try.f33 [.sl x0, .int .i64 x1]) h = laws_markTileS_main S K x0 x1 h := by kernel_rfl
theorem laws_markTileS_call (x0 : Sl) (x1 : Int) (h : H) (K : Int → H → Prop) (hm : laws_markTileS_main (Sat Try.prog) (fun v h' => ∃ r, v = .int .i64 r ∧ K r h') x0 x1 h) : callI (Sat Try.prog) .i64 i_laws_markTileS [.sl x0, .int .i64 x1] h K := by
  have := Sat.ex tok mixed laws_markTileS_M Try.func33 (c := bodyOf Try.f33) (by kernel_rfl) (calls_of Try.func33 (c := bodyOf Try.f33) (by kernel_rfl) (by decide)) ((laws_markTileS_main_link _ _ x0 x1 h).mpr hm)
  obtain ⟨v, h2, h3, r, rfl, h4⟩ := this; exact ⟨r, h2, h3, h4⟩

/-! ### loop.example/g01354/impl.IsSet -/
def impl_IsSet_M : Nat → List Nat := fun i => bif i == 0 then [1, 6, 7, 8] else []
def impl_IsSet_ks1 (S : SatT) (K : AVal → H → Prop) : Kont := kSeq (cwp S tab impl_IsSet_M [] (sub [1, 1] (bodyOf Try.f54)) (kFun tab (Try.f54).results.toList K)) (kFun tab (Try.f54).results.toList K)
def impl_IsSet_e0 (p1_ : Pt) (s6_ : Sl) (i7_ : Int) (i8_ : Int) : Frame := [U, .ptr p1_, U, U, U, U, .sl s6_, .int .i64 i7_, .int .i64 i8_, U, U, U, U, U, U, U, U, U, U, U, U, U, U, U, U, U, U, U, U, U, U, U, U, U, U, U, U, U, U, U, U, U, U]
def impl_IsSet_w0 (S : SatT) (K : AVal → H → Prop) : (Frame → H → Prop) → Frame → H → Prop := fun X fr h => cwp S tab impl_IsSet_M (impl_IsSet_M 0) (sub [1, 0, 1, 0, 0] (bodyOf Try.f54)) (kSeq (fun fr h => X (mask (impl_IsSet_M 0) fr) h) (kBlk 0 (impl_IsSet_ks1 S K))) fr h
def impl_IsSet_L0 (S : SatT) (K : AVal → H → Prop) (p1_ : Pt) (s6_ : Sl) (i7_ : Int) (i8_ : Int) (h : H) : Prop := loopK (impl_IsSet_w0 S K) (impl_IsSet_e0 p1_ s6_ i7_ i8_) h
def impl_IsSet_C0 (S : SatT) (K : AVal → H → Prop) (p1_ : Pt) (h : H) : Prop :=
 isPt p1_ (
 ldI .i64 (Pt.add p1_ 0) h fun n0 =>
 callB S i_impl_within [.int .i64 n0, .int .i64 (1), .int .i64 (6)] h fun b2 h1 =>
 bif b2 then
 isPt p1_ (
 ldS (Pt.add p1_ 1) h1 fun s3 =>
 K (.bool (decide ((s3.len : Int) ≤ (16)))) h1)
 else
 K (.bool false) h1)
def impl_IsSet_b0 (S : SatT) (K : AVal → H → Prop) (X0 : Frame → H → Prop) (p1_ : Pt) (s6_ : Sl) (i7_ : Int) (i8_ : Int) (h : H) : Prop :=
 bif (decide (i8_ < i7_)) then
 ixS s6_ 4 i8_ fun p0 =>
 ldA p0 4 h fun cs1 =>
 newO [.int .i64 (0), .int .i64 (0), .int .i64 (0), .int .i64 (0)] h fun p2 h3 =>
 stN p2 4 cs1 h3 fun h4 =>
 ldA p2 4 h4 fun cs5 =>
 isPt p1_ (
 ldI .i64 (Pt.add p1_ 0) h4 fun n6 =>
 callB S i_impl_isTile [.agg cs5, .int .i64 n6] h4 fun b8 h7 =>
 bif (!b8) then
 K (.bool false) h7
 else
 bif (decide (i8_ > (0))) then
 isPt p1_ (
 ldS (Pt.add p1_ 1) h7 fun s9 =>
 ixS s9 4 (w64 (i8_ - (1))) fun p10 =>
 ldA p10 4 h7 fun cs11 =>
 ldA p2 4 h7 fun cs12 =>
 callI S .i64 i_impl_compare [.agg cs11, .agg cs12] h7 fun n14 h13 =>
 bif (decide (n14 ≥ (0))) then
 K (.bool false) h13
 else
 X0 (impl_IsSet_e0 p1_ s6_ i7_ (w64 (i8_ + (1)))) h13)
 else
 X0 (impl_IsSet_e0 p1_ s6_ i7_ (w64 (i8_ + (1)))) h7)
 else
 impl_IsSet_C0 S K p1_ h
theorem impl_IsSet_link0 (S : SatT) (K : AVal → H → Prop) (X0 : Frame → H → Prop) (p1_ : Pt) (s6_ : Sl) (i7_ : Int) (i8_ : Int) (h : H) : impl_IsSet_w0 S K X0 (impl_IsSet_e0 p1_ s6_ i7_ i8_) h = impl_IsSet_b0 S K X0 p1_ s6_ i7_ i8_ h := by kernel_rfl
theorem impl_IsSet_rule0 (S : SatT) (K : AVal → H → Prop) (p1_ : Pt) (s6_ : Sl) (i7_ : Int) (I_ : Int → H → Prop) (m_ : Int → H → Nat)
    (hs : ∀ (X0 : Frame → H → Prop) (i8_ : Int) (h : H), I_ i8_ h → (∀ (i8_' : Int) (h' : H), I_ i8_' h' → m_ i8_' h' < m_ i8_ h → X0 (impl_IsSet_e0 p1_ s6_ i7_ i8_') h') → impl_IsSet_b0 S K X0 p1_ s6_ i7_ i8_ h) (i8_ : Int) {h : H} (h0 : I_ i8_ h) : impl_IsSet_L0 S K p1_ s6_ i7_ i8_ h :=
  loop_rule (σ := (Int)) (fun s_ => impl_IsSet_e0 p1_ s6_ i7_ (s_)) (fun s_ h => I_ (s_) h) (fun s_ h => m_ (s_) h)
    (fun X s_ h hi hx => (impl_IsSet_link0 S K X p1_ s6_ i7_ (s_) h).mpr (hs X (s_) h hi fun i8_' h' hi' hm' => hx (i8_') h' hi' hm')) (i8_) h0
theorem impl_IsSet_unroll0 (S : SatT) (K : AVal → H → Prop) (p1_ : Pt) (s6_ : Sl) (i7_ : Int) (i8_ : Int) (h : H) (hb : impl_IsSet_b0 S K (fun fr h => loopK (impl_IsSet_w0 S K) fr h) p1_ s6_ i7_ i8_ h) : impl_IsSet_L0 S K p1_ s6_ i7_ i8_ h := loop_unroll ((impl_IsSet_link0 S K _ p1_ s6_ i7_ i8_ h).mpr hb)
def impl_IsSet_main (S : SatT) (K : AVal → H → Prop) (x0 : List AVal) (h : H) : Prop :=
 newK 2 x0 h fun p0 h1 =>
 isPt p0 (
 ldS (Pt.add p0 1) h1 fun s2 =>
 impl_IsSet_L0 S K p0 s2 (s2.len : Int) (0) h1)
theorem impl_IsSet_main_link (S : SatT) (K : AVal → H → Prop) (x0 : List AVal) (h : H) : cwp S tab impl_IsSet_M [] (bodyOf Try.f54) (kFun tab Try.f54.results.toList K) (fr0 Try.f54 [.agg x0]) h = impl_IsSet_main S K x0 h := by kernel_rfl
theorem impl_IsSet_call (x0 : List AVal) (h : H) (K : Bool → H → Prop) (hm : impl_IsSet_main (Sat Try.prog) (fun v h' => ∃ r, v = .bool r ∧ K r h') x0 h) : callB (Sat Try.prog) i_impl_IsSet [.agg x0] h K := by
  have := Sat.ex tok mixed impl_IsSet_M Try.func54 (c := bodyOf Try.f54) (by kernel_rfl) (calls_of Try.func54 (c := bodyOf Try.f54) (by kernel_rfl) (by decide)) ((impl_IsSet_main_link _ _ x0 h).mpr hm)
  obtain ⟨v, h2, h3, r, rfl, h4⟩ := this; exact ⟨r, h2, h3, h4⟩

/-! ### loop.example/g01354/laws.heldInt64SS -/
def laws_heldInt64SS_M : Nat → List Nat := fun i => bif i == 0 then [0, 1, 5] else []
def laws_heldInt64SS_ks1 (S : SatT) (K : AVal → H → Prop) : Kont := kSeq (cwp S tab laws_heldInt64SS_M [] (sub [1, 1] (bodyOf Try.f20)) (kFun tab (Try.f20).results.toList K)) (kFun tab (Try.f20).results.toList K)
def laws_heldInt64SS_e0 (s0_ : Sl) (i1_ : Int) (i5_ : Int) : Frame := [.sl s0_, .int .i64 i1_, U, U, U, .int .i64 i5_, U, U, U, U, U, U, U, U, U, U, U, U, U, U, U]
def laws_heldInt64SS_w0 (S : SatT) (K : AVal → H → Prop) : (Frame → H → Prop) → Frame → H → Prop := fun X fr h => cwp S tab laws_heldInt64SS_M (laws_heldInt64SS_M 0) (sub [1, 0, 1, 0, 0] (bodyOf Try.f20)) (kSeq (fun fr h => X (mask (laws_heldInt64SS_M 0) fr) h) (kBlk 0 (laws_heldInt64SS_ks1 S K))) fr h
def laws_heldInt64SS_L0 (S : SatT) (K : AVal → H → Prop) (s0_ : Sl) (i1_ : Int) (i5_ : Int) (h : H) : Prop := loopK (laws_heldInt64SS_w0 S K) (laws_heldInt64SS_e0 s0_ i1_ i5_) h
def laws_heldInt64SS_C0 (S : SatT) (K : AVal → H → Prop) (i1_ : Int) (h : H) : Prop :=
 K (.int .i64 i1_) h
def laws_heldInt64SS_b0 (S : SatT) (K : AVal → H → Prop) (X0 : Frame → H → Prop) (s0_ : Sl) (i1_ : Int) (i5_ : Int) (h : H) : Prop :=
 bif (decide (i5_ < (s0_.len : Int))) then
 ixS s0_ 1 i5_ fun p0 =>
 ldS p0 h fun s1 =>
 callI S .i64 i_laws_heldInt64S [.sl s1, .int .i64 i1_] h fun n3 h2 =>
 bif (decide (n3 < (0))) then
 K (.int .i64 (-1)) h2
 else
 X0 (laws_heldInt64SS_e0 s0_ n3 (w64 (i5_ + (1)))) h2
 else
 laws_heldInt64SS_C0 S K i1_ h
theorem laws_heldInt64SS_link0 (S : SatT) (K : AVal → H → Prop) (X0 : Frame → H → Prop) (s0_ : Sl) (i1_ : Int) (i5_ : Int) (h : H) : laws_heldInt64SS_w0 S K X0 (laws_heldInt64SS_e0 s0_ i1_ i5_) h = laws_heldInt64SS_b0 S K X0 s0_ i1_ i5_ h := by kernel_rfl
theorem laws_heldInt64SS_rule0 (S : SatT) (K : AVal → H → Prop) (s0_ : Sl) (I_ : Int → Int → H → Prop) (m_ : Int → Int → H → Nat)
    (hs : ∀ (X0 : Frame → H → Prop) (i1_ : Int) (i5_ : Int) (h : H), I_ i1_ i5_ h → (∀ (i1_' : Int) (i5_' : Int) (h' : H), I_ i1_' i5_' h' → m_ i1_' i5_' h' < m_ i1_ i5_ h → X0 (laws_heldInt64SS_e0 s0_ i1_' i5_') h') → laws_heldInt64SS_b0 S K X0 s0_ i1_ i5_ h) (i1_ : Int) (i5_ : Int) {h : H} (h0 : I_ i1_ i5_ h) : laws_heldInt64SS_L0 S K s0_ i1_ i5_ h :=
  loop_rule (σ := (Int) × (Int)) (fun s_ => laws_heldInt64SS_e0 s0_ (s_.1) (s_.2)) (fun s_ h => I_ (s_.1) (s_.2) h) (fun s_ h => m_ (s_.1) (s_.2) h)
    (fun X s_ h hi hx => (laws_heldInt64SS_link0 S K X s0_ (s_.1) (s_.2) h).mpr (hs X (s_.1) (s_.2) h hi fun i1_' i5_' h' hi' hm' => hx (i1_', i5_') h' hi' hm')) (i1_, i5_) h0
theorem laws_heldInt64SS_unroll0 (S : SatT) (K : AVal → H → Prop) (s0_ : Sl) (i1_ : Int) (i5_ : Int) (h : H) (hb : laws_heldInt64SS_b0 S K (fun fr h => loopK (laws_heldInt64SS_w0 S K) fr h) s0_ i1_ i5_ h) : laws_heldInt64SS_L0 S K s0_ i1_ i5_ h := loop_unroll ((laws_heldInt64SS_link0 S K _ s0_ i1_ i5_ h).mpr hb)
def laws_heldInt64SS_main (S : SatT) (K : AVal → H → Prop) (x0 : Sl) (x1 : Int) (h : H) : Prop :=
 laws_heldInt64SS_L0 S K x0 x1 (0) h
theorem laws_heldInt64SS_main_link (S : SatT) (K : AVal → H → Prop) (x0 : Sl) (x1 : Int) (h : H) : cwp S tab laws_heldInt64SS_M [] (bodyOf Try.f20) (kFun tab Try.f20.results.toList K) (fr0 Try.f20 [.sl x0, .int .i64 x1]) h = laws_heldInt64SS_main S K x0 x1 h := by kernel_rfl
theorem laws_heldInt64SS_call (x0 : Sl) (x1 : Int) (h : H) (K : Int → H → Prop) (hm : laws_heldInt64SS_main (Sat Try.prog) (fun v h' => ∃ r, v = .int .i64 r ∧ K r h') x0 x1 h) : callI (Sat Try.prog) .i64 i_laws_heldInt64SS [.sl x0, .int .i64 x1] h K := by
  have := Sat.ex tok mixed laws_heldInt64SS_M Try.func20 (c := bodyOf Try.f20) (by kernel_rfl) (calls_of Try.func20 (c := bodyOf Try.f20) (by kernel_rfl) (by decide)) ((laws_heldInt64SS_main_link _ _ x0 x1 h).mpr hm)
  obtain ⟨v, h2, h3, r, rfl, h4⟩ := this; exact ⟨r, h2, h3, h4⟩

/-! ### loop.example/g01354/spec.l03Cut -/
def spec_l03Cut_M : Nat → List Nat := fun i => bif i == 0 then [0, 1, 5, 6] else []
def spec_l03Cut_ks2 (S : SatT) (K : AVal → H → Prop) : Kont := kSeq (cwp S tab spec_l03Cut_M [] (sub [1, 1, 1] (bodyOf Try.f34)) (kFun tab (Try.f34).results.toList K)) (kFun tab (Try.f34).results.toList K)
def spec_l03Cut_e0 (s0_ : Sl) (i1_ : Int) (s5_ : Sl) (i6_ : Int) : Frame := [.sl s0_, .int .i64 i1_, U, U, U, .sl s5_, .int .i64 i6_, U, U, U, U, U, U, U, U, U, U, U, U, U, U, U, U, U, U, U]
def spec_l03Cut_w0 (S : SatT) (K : AVal → H → Prop) : (Frame → H → Prop) → Frame → H → Prop := fun X fr h => cwp S tab spec_l03Cut_M (spec_l03Cut_M 0) (sub [1, 1, 0, 1, 0, 0] (bodyOf Try.f34)) (kSeq (fun fr h => X (mask (spec_l03Cut_M 0) fr) h) (kBlk 0 (spec_l03Cut_ks2 S K))) fr h
def spec_l03Cut_L0 (S : SatT) (K : AVal → H → Prop) (s0_ : Sl) (i1_ : Int) (s5_ : Sl) (i6_ : Int) (h : H) : Prop := loopK (spec_l03Cut_w0 S K) (spec_l03Cut_e0 s0_ i1_ s5_ i6_) h
def spec_l03Cut_C0 (S : SatT) (K : AVal → H → Prop) (s5_ : Sl) (h : H) : Prop :=
 K (.sl s5_) h
def spec_l03Cut_b0 (S : SatT) (K : AVal → H → Prop) (X0 : Frame → H → Prop) (s0_ : Sl) (i1_ : Int) (s5_ : Sl) (i6_ : Int) (h : H) : Prop :=
 bif (decide (i6_ < (s0_.len : Int))) then
 cut s0_ 1 i6_ (w64 (i6_ + i1_)) h fun s0 =>
 callS S i_spec_l01Own [.sl s0] h fun s2 h1 =>
 newS 1 1 [.sl s2] h1 fun s3 h4 =>
 app s5_ s3 1 h4 fun s5 h6 =>
 X0 (spec_l03Cut_e0 s0_ i1_ s5 (w64 (i6_ + i1_))) h6
 else
 spec_l03Cut_C0 S K s5_ h
theorem spec_l03Cut_link0 (S : SatT) (K : AVal → H → Prop) (X0 : Frame → H → Prop) (s0_ : Sl) (i1_ : Int) (s5_ : Sl) (i6_ : Int) (h : H) : spec_l03Cut_w0 S K X0 (spec_l03Cut_e0 s0_ i1_ s5_ i6_) h = spec_l03Cut_b0 S K X0 s0_ i1_ s5_ i6_ h := by kernel_rfl
theorem spec_l03Cut_rule0 (S : SatT) (K : AVal → H → Prop) (s0_ : Sl) (i1_ : Int) (I_ : Sl → Int → H → Prop) (m_ : Sl → Int → H → Nat)
    (hs : ∀ (X0 : Frame → H → Prop) (s5_ : Sl) (i6_ : Int) (h : H), I_ s5_ i6_ h → (∀ (s5_' : Sl) (i6_' : Int) (h' : H), I_ s5_' i6_' h' → m_ s5_' i6_' h' < m_ s5_ i6_ h → X0 (spec_l03Cut_e0 s0_ i1_ s5_' i6_') h') → spec_l03Cut_b0 S K X0 s0_ i1_ s5_ i6_ h) (s5_ : Sl) (i6_ : Int) {h : H} (h0 : I_ s5_ i6_ h) : spec_l03Cut_L0 S K s0_ i1_ s5_ i6_ h :=
  loop_rule (σ := (Sl) × (Int)) (fun s_ => spec_l03Cut_e0 s0_ i1_ (s_.1) (s_.2)) (fun s_ h => I_ (s_.1) (s_.2) h) (fun s_ h => m_ (s_.1) (s_.2) h)
    (fun X s_ h hi hx => (spec_l03Cut_link0 S K X s0_ i1_ (s_.1) (s_.2) h).mpr (hs X (s_.1) (s_.2) h hi fun s5_' i6_' h' hi' hm' => hx (s5_', i6_') h' hi' hm')) (s5_, i6_) h0
theorem spec_l03Cut_unroll0 (S : SatT) (K : AVal → H → Prop) (s0_ : Sl) (i1_ : Int) (s5_ : Sl) (i6_ : Int) (h : H) (hb : spec_l03Cut_b0 S K (fun fr h => loopK (spec_l03Cut_w0 S K) fr h) s0_ i1_ s5_ i6_ h) : spec_l03Cut_L0 S K s0_ i1_ s5_ i6_ h := loop_unroll ((spec_l03Cut_link0 S K _ s0_ i1_ s5_ i6_ h).mpr hb)
def spec_l03Cut_main (S : SatT) (K : AVal → H → Prop) (x0 : Sl) (x1 : Int) (h : H) : Prop :=
 newS 0 1 [] h fun s0 h1 =>
 spec_l03Cut_L0 S K x0 x1 s0 (0) h1
theorem spec_l03Cut_main_link (S : SatT) (K : AVal → H → Prop) (x0 : Sl) (x1 : Int) (h : H) : cwp S tab spec_l03Cut_M [] (bodyOf Try.f34) (kFun tab Try.f34.results.toList K) (fr0 Try.f34 [.sl x0, .int .i64 x1]) h = spec_l03Cut_main S K x0 x1 h := by kernel_rfl
theorem spec_l03Cut_call (x0 : Sl) (x1 : Int) (h : H) (K : Sl → H → Prop) (hm : spec_l03Cut_main (Sat Try.prog) (fun v h' => ∃ r, v = .sl r ∧ K r h') x0 x1 h) : callS (Sat Try.prog) i_spec_l03Cut [.sl x0, .int .i64 x1] h K := by
  have := Sat.ex tok mixed spec_l03Cut_M Try.func34 (c := bodyOf Try.f34) (by kernel_rfl) (calls_of Try.func34 (c := bodyOf Try.f34) (by kernel_rfl) (by decide)) ((spec_l03Cut_main_link _ _ x0 x1 h).mpr hm)
  obtain ⟨v, h2, h3, r, rfl, h4⟩ := this; exact ⟨r, h2, h3, h4⟩

/-! ### loop.example/g01354/laws.eqTileS -/
def laws_eqTileS_M : Nat → List Nat := fun i => bif i == 0 then [0, 1, 5] else []
def laws_eqTileS_ks4 (S : SatT) (K : AVal → H → Prop) : Kont := kSeq (cwp S tab laws_eqTileS_M [] (sub [1, 1, 1] (bodyOf Try.f32)) (kFun tab (Try.f32).results.toList K)) (kFun tab (Try.f32).results.toList K)
def laws_eqTileS_e0 (s0_ : Sl) (s1_ : Sl) (i5_ : Int) : Frame := [.sl s0_, .sl s1_, U, U, U, .int .i64 i5_, U, U, U, U, U, U, U, U, U, U, U, U, U, U, U, U, U, U, U, U, U]
def laws_eqTileS_w0 (S : SatT) (K : AVal → H → Prop) : (Frame → H → Prop) → Frame → H → Prop := fun X fr h => cwp S tab laws_eqTileS_M (laws_eqTileS_M 0) (sub [1, 1, 0, 1, 0, 0] (bodyOf Try.f32)) (kSeq (fun fr h => X (mask (laws_eqTileS_M 0) fr) h) (kBlk 0 (laws_eqTileS_ks4 S K))) fr h
def laws_eqTileS_L0 (S : SatT) (K : AVal → H → Prop) (s0_ : Sl) (s1_ : Sl) (i5_ : Int) (h : H) : Prop := loopK (laws_eqTileS_w0 S K) (laws_eqTileS_e0 s0_ s1_ i5_) h
def laws_eqTileS_C0 (S : SatT) (K : AVal → H → Prop) (h : H) : Prop :=
 K (.bool true) h
def laws_eqTileS_b0 (S : SatT) (K : AVal → H → Prop) (X0 : Frame → H → Prop) (s0_ : Sl) (s1_ : Sl) (i5_ : Int) (h : H) : Prop :=
 bif (decide (i5_ < (s0_.len : Int))) then
 ixS s0_ 4 i5_ fun p0 =>
 ldA p0 4 h fun cs1 =>
 ixS s1_ 4 i5_ fun p2 =>
 ldA p2 4 h fun cs3 =>
 callB S i_laws_eqTile [.agg cs1, .agg cs3] h fun b5 h4 =>
 bif (!b5) then
 K (.bool false) h4
 else
 X0 (laws_eqTileS_e0 s0_ s1_ (w64 (i5_ + (1)))) h4
 else
 laws_eqTileS_C0 S K h
theorem laws_eqTileS_link0 (S : SatT) (K : AVal → H → Prop) (X0 : Frame → H → Prop) (s0_ : Sl) (s1_ : Sl) (i5_ : Int) (h : H) : laws_eqTileS_w0 S K X0 (laws_eqTileS_e0 s0_ s1_ i5_) h = laws_eqTileS_b0 S K X0 s0_ s1_ i5_ h := by kernel_rfl
theorem laws_eqTileS_rule0 (S : SatT) (K : AVal → H → Prop) (s0_ : Sl) (s1_ : Sl) (I_ : Int → H → Prop) (m_ : Int → H → Nat)
    (hs : ∀ (X0 : Frame → H → Prop) (i5_ : Int) (h : H), I_ i5_ h → (∀ (i5_' : Int) (h' : H), I_ i5_' h' → m_ i5_' h' < m_ i5_ h → X0 (laws_eqTileS_e0 s0_ s1_ i5_') h') → laws_eqTileS_b0 S K X0 s0_ s1_ i5_ h) (i5_ : Int) {h : H} (h0 : I_ i5_ h) : laws_eqTileS_L0 S K s0_ s1_ i5_ h :=
  loop_rule (σ := (Int)) (fun s_ => laws_eqTileS_e0 s0_ s1_ (s_)) (fun s_ h => I_ (s_) h) (fun s_ h => m_ (s_) h)
    (fun X s_ h hi hx => (laws_eqTileS_link0 S K X s0_ s1_ (s_) h).mpr (hs X (s_) h hi fun i5_' h' hi' hm' => hx (i5_') h' hi' hm')) (i5_) h0
theorem laws_eqTileS_unroll0 (S : SatT) (K : AVal → H → Prop) (s0_ : Sl) (s1_ : Sl) (i5_ : Int) (h : H) (hb : laws_eqTileS_b0 S K (fun fr h => loopK (laws_eqTileS_w0 S K) fr h) s0_ s1_ i5_ h) : laws_eqTileS_L0 S K s0_ s1_ i5_ h := loop_unroll ((laws_eqTileS_link0 S K _ s0_ s1_ i5_ h).mpr hb)
def laws_eqTileS_main (S : SatT) (K : AVal → H → Prop) (x0 : Sl) (x1 : Sl) (h : H) : Prop :=
 bif ((x0.len : Int) != (x1.len : Int)) then
 K (.bool false) h
 else
 laws_eqTileS_L0 S K x0 x1 (0) h
theorem laws_eqTileS_main_link (S : SatT) (K : AVal → H → Prop) (x0 : Sl) (x1 : Sl) (h : H) : cwp S tab laws_eqTileS_M [] (bodyOf Try.f32) (kFun tab Try.f32.results.toList K) (fr0 Try.f32 [.sl x0, .sl x1]) h = laws_eqTileS_main S K x0 x1 h := by kernel_rfl
theorem laws_eqTileS_call (x0 : Sl) (x1 : Sl) (h : H) (K : Bool → H → Prop) (hm : laws_eqTileS_main (Sat Try.prog) (fun v h' => ∃ r, v = .bool r ∧ K r h') x0 x1 h) : callB (Sat Try.prog) i_laws_eqTileS [.sl x0, .sl x1] h K := by
  have := Sat.ex tok mixed laws_eqTileS_M Try.func32 (c := bodyOf Try.f32) (by kernel_rfl) (calls_of Try.func32 (c := bodyOf Try.f32) (by kernel_rfl) (by decide)) ((laws_eqTileS_main_link _ _ x0 x1 h).mpr hm)
  obtain ⟨v, h2, h3, r, rfl, h4⟩ := this; exact ⟨r, h2, h3, h4⟩

/-! ### loop.example/g01354/laws.toInt64SS -/
def laws_toInt64SS_M : Nat → List Nat := fun i => bif i == 0 then [0, 3, 4] else []
def laws_toInt64SS_ks2 (S : SatT) (K : AVal → H → Prop) : Kont := kSeq (cwp S tab laws_toInt64SS_M [] (sub [1, 1, 1] (bodyOf Try.f9)) (kFun tab (Try.f9).results.toList K)) (kFun tab (Try.f9).results.toList K)
def laws_toInt64SS_e0 (s0_ : Sl) (s3_ : Sl) (i4_ : Int) : Frame := [.sl s0_, U, U, .sl s3_, .int .i64 i4_, U, U, U, U, U, U, U, U, U, U, U, U, U, U, U, U, U, U]
def laws_toInt64SS_w0 (S : SatT) (K : AVal → H → Prop) : (Frame → H → Prop) → Frame → H → Prop := fun X fr h => cwp S tab laws_toInt64SS_M (laws_toInt64SS_M 0) (sub [1, 1, 0, 1, 0, 0] (bodyOf Try.f9)) (kSeq (fun fr h => X (mask (laws_toInt64SS_M 0) fr) h) (kBlk 0 (laws_toInt64SS_ks2 S K))) fr h
def laws_toInt64SS_L0 (S : SatT) (K : AVal → H → Prop) (s0_ : Sl) (s3_ : Sl) (i4_ : Int) (h : H) : Prop := loopK (laws_toInt64SS_w0 S K) (laws_toInt64SS_e0 s0_ s3_ i4_) h
def laws_toInt64SS_C0 (S : SatT) (K : AVal → H → Prop) (s3_ : Sl) (h : H) : Prop :=
 K (.sl s3_) h
def laws_toInt64SS_b0 (S : SatT) (K : AVal → H → Prop) (X0 : Frame → H → Prop) (s0_ : Sl) (s3_ : Sl) (i4_ : Int) (h : H) : Prop :=
 bif (decide (i4_ < (s0_.len : Int))) then
 ixS s0_ 1 i4_ fun p0 =>
 ldS p0 h fun s1 =>
 callS S i_laws_toInt64S [.sl s1] h fun s3 h2 =>
 ixS s3_ 1 i4_ fun p4 =>
 st1 p4 (.sl s3) h2 fun h5 =>
 X0 (laws_toInt64SS_e0 s0_ s3_ (w64 (i4_ + (1)))) h5
 else
 laws_toInt64SS_C0 S K s3_ h
theorem laws_toInt64SS_link0 (S : SatT) (K : AVal → H → Prop) (X0 : Frame → H → Prop) (s0_ : Sl) (s3_ : Sl) (i4_ : Int) (h : H) : laws_toInt64SS_w0 S K X0 (laws_toInt64SS_e0 s0_ s3_ i4_) h = laws_toInt64SS_b0 S K X0 s0_ s3_ i4_ h := by kernel_rfl
theorem laws_toInt64SS_rule0 (S : SatT) (K : AVal → H → Prop) (s0_ : Sl) (s3_ : Sl) (I_ : Int → H → Prop) (m_ : Int → H → Nat)
    (hs : ∀ (X0 : Frame → H → Prop) (i4_ : Int) (h : H), I_ i4_ h → (∀ (i4_' : Int) (h' : H), I_ i4_' h' → m_ i4_' h' < m_ i4_ h → X0 (laws_toInt64SS_e0 s0_ s3_ i4_') h') → laws_toInt64SS_b0 S K X0 s0_ s3_ i4_ h) (i4_ : Int) {h : H} (h0 : I_ i4_ h) : laws_toInt64SS_L0 S K s0_ s3_ i4_ h :=
  loop_rule (σ := (Int)) (fun s_ => laws_toInt64SS_e0 s0_ s3_ (s_)) (fun s_ h => I_ (s_) h) (fun s_ h => m_ (s_) h)
    (fun X s_ h hi hx => (laws_toInt64SS_link0 S K X s0_ s3_ (s_) h).mpr (hs X (s_) h hi fun i4_' h' hi' hm' => hx (i4_') h' hi' hm')) (i4_) h0
theorem laws_toInt64SS_unroll0 (S : SatT) (K : AVal → H → Prop) (s0_ : Sl) (s3_ : Sl) (i4_ : Int) (h : H) (hb : laws_toInt64SS_b0 S K (fun fr h => loopK (laws_toInt64SS_w0 S K) fr h) s0_ s3_ i4_ h) : laws_toInt64SS_L0 S K s0_ s3_ i4_ h := loop_unroll ((laws_toInt64SS_link0 S K _ s0_ s3_ i4_ h).mpr hb)
def laws_toInt64SS_main (S : SatT) (K : AVal → H → Prop) (x0 : Sl) (h : H) : Prop :=
 mkS (x0.len : Int) [.sl Sl.nil] h fun s0 h1 =>
 laws_toInt64SS_L0 S K x0 s0 (0) h1
theorem laws_toInt64SS_main_link (S : SatT) (K : AVal → H → Prop) (x0 : Sl) (h : H) : cwp S tab laws_toInt64SS_M [] (bodyOf Try.f9) (kFun tab Try.f9.results.toList K) (fr0 Try.f9 [.sl x0]) h = laws_toInt64SS_main S K x0 h := by kernel_rfl
theorem laws_toInt64SS_call (x0 : Sl) (h : H) (K : Sl → H → Prop) (hm : laws_toInt64SS_main (Sat Try.prog) (fun v h' => ∃ r, v = .sl r ∧ K r h') x0 h) : callS (Sat Try.prog) i_laws_toInt64SS [.sl x0] h K := by
  have := Sat.ex tok mixed laws_toInt64SS_M Try.func9 (c := bodyOf Try.f9) (by kernel_rfl) (calls_of Try.func9 (c := bodyOf Try.f9) (by kernel_rfl) (by decide)) ((laws_toInt64SS_main_link _ _ x0 h).mpr hm)
  obtain ⟨v, h2, h3, r, rfl, h4⟩ := this; exact ⟨r, h2, h3, h4⟩

/-! ### loop.example/g01354/laws.toInt64S -/
def laws_toInt64S_M : Nat → List Nat := fun i => bif i == 0 then [0, 3, 4] else []
def laws_toInt64S_ks2 (S : SatT) (K : AVal → H → Prop) : Kont := kSeq (cwp S tab laws_toInt64S_M [] (sub [1, 1, 1] (bodyOf Try.f27)) (kFun tab (Try.f27).results.toList K)) (kFun tab (Try.f27).results.toList K)
def laws_toInt64S_e0 (s0_ : Sl) (s3_ : Sl) (i4_ : Int) : Frame := [.sl s0_, U, U, .sl s3_, .int .i64 i4_, U, U, U, U, U, U, U, U, U, U, U, U, U, U, U, U, U]
def laws_toInt64S_w0 (S : SatT) (K : AVal → H → Prop) : (Frame → H → Prop) → Frame → H → Prop := fun X fr h => cwp S tab laws_toInt64S_M (laws_toInt64S_M 0) (sub [1, 1, 0, 1, 0, 0] (bodyOf Try.f27)) (kSeq (fun fr h => X (mask (laws_toInt64S_M 0) fr) h) (kBlk 0 (laws_toInt64S_ks2 S K))) fr h
def laws_toInt64S_L0 (S : SatT) (K : AVal → H → Prop) (s0_ : Sl) (s3_ : Sl) (i4_ : Int) (h : H) : Prop := loopK (laws_toInt64S_w0 S K) (laws_toInt64S_e0 s0_ s3_ i4_) h
def laws_toInt64S_C0 (S : SatT) (K : AVal → H → Prop) (s3_ : Sl) (h : H) : Prop :=
 K (.sl s3_) h
def laws_toInt64S_b0 (S : SatT) (K : AVal → H → Prop) (X0 : Frame → H → Prop) (s0_ : Sl) (s3_ : Sl) (i4_ : Int) (h : H) : Prop :=
 bif (decide (i4_ < (s0_.len : Int))) then
 ixS s0_ 1 i4_ fun p0 =>
 ldI .i64 p0 h fun n1 =>
 ixS s3_ 1 i4_ fun p2 =>
 st1 p2 (.int .i64 n1) h fun h3 =>
 X0 (laws_toInt64S_e0 s0_ s3_ (w64 (i4_ + (1)))) h3
 else
 laws_toInt64S_C0 S K s3_ h
theorem laws_toInt64S_link0 (S : SatT) (K : AVal → H → Prop) (X0 : Frame → H → Prop) (s0_ : Sl) (s3_ : Sl) (i4_ : Int) (h : H) : laws_toInt64S_w0 S K X0 (laws_toInt64S_e0 s0_ s3_ i4_) h = laws_toInt64S_b0 S K X0 s0_ s3_ i4_ h := by kernel_rfl
theorem laws_toInt64S_rule0 (S : SatT) (K : AVal → H → Prop) (s0_ : Sl) (s3_ : Sl) (I_ : Int → H → Prop) (m_ : Int → H → Nat)
    (hs : ∀ (X0 : Frame → H → Prop) (i4_ : Int) (h : H), I_ i4_ h → (∀ (i4_' : Int) (h' : H), I_ i4_' h' → m_ i4_' h' < m_ i4_ h → X0 (laws_toInt64S_e0 s0_ s3_ i4_') h') → laws_toInt64S_b0 S K X0 s0_ s3_ i4_ h) (i4_ : Int) {h : H} (h0 : I_ i4_ h) : laws_toInt64S_L0 S K s0_ s3_ i4_ h :=
  loop_rule (σ := (Int)) (fun s_ => laws_toInt64S_e0 s0_ s3_ (s_)) (fun s_ h => I_ (s_) h) (fun s_ h => m_ (s_) h)
    (fun X s_ h hi hx => (laws_toInt64S_link0 S K X s0_ s3_ (s_) h).mpr (hs X (s_) h hi fun i4_' h' hi' hm' => hx (i4_') h' hi' hm')) (i4_) h0
theorem laws_toInt64S_unroll0 (S : SatT) (K : AVal → H → Prop) (s0_ : Sl) (s3_ : Sl) (i4_ : Int) (h : H) (hb : laws_toInt64S_b0 S K (fun fr h => loopK (laws_toInt64S_w0 S K) fr h) s0_ s3_ i4_ h) : laws_toInt64S_L0 S K s0_ s3_ i4_ h := loop_unroll ((laws_toInt64S_link0 S K _ s0_ s3_ i4_ h).mpr hb)
def laws_toInt64S_main (S : SatT) (K : AVal → H → Prop) (x0 : Sl) (h : H) : Prop :=
 mkS (x0.len : Int) [.int .i64 (0)] h fun s0 h1 =>
 laws_toInt64S_L0 S K x0 s0 (0) h1
theorem laws_toInt64S_main_link (S : SatT) (K : AVal → H → Prop) (x0 : Sl) (h : H) : cwp S tab laws_toInt64S_M [] (bodyOf Try.f27) (kFun tab Try.f27.results.toList K) (fr0 Try.f27 [.sl x0]) h = laws_toInt64S_main S K x0 h := by kernel_rfl
theorem laws_toInt64S_call (x0 : Sl) (h : H) (K : Sl → H → Prop) (hm : laws_toInt64S_main (Sat Try.prog) (fun v h' => ∃ r, v = .sl r ∧ K r h') x0 h) : callS (Sat Try.prog) i_laws_toInt64S [.sl x0] h K := by
  have := Sat.ex tok mixed laws_toInt64S_M Try.func27 (c := bodyOf Try.f27) (by kernel_rfl) (calls_of Try.func27 (c := bodyOf Try.f27) (by kernel_rfl) (by decide)) ((laws_toInt64S_main_link _ _ x0 h).mpr hm)
  obtain ⟨v, h2, h3, r, rfl, h4⟩ := this; exact ⟨r, h2, h3, h4⟩

/-! ### (*loop.example/g01354/impl.filler).fits$1 -/
def impl_filler_fits_1_M : Nat → List Nat := fun i => []
def impl_filler_fits_1_main (S : SatT) (K : AVal → H → Prop) (x0 : Int) (x1 : Int) (x2 : Pt) (x3 : Pt) (h : H) : Prop :=
 ldP x2 h fun p0 =>
 nilC (.ptr p0) (
 isPt p0 (
 ldS (Pt.add p0 3) h fun s1 =>
 ixS s1 1 x0 fun p2 =>
 ldS p2 h fun s3 =>
 bif ((s3.len : Int) == (0)) then
 K (.bool true) h
 else
 ldP x2 h fun p4 =>
 nilC (.ptr p4) (
 isPt p4 (
 ldS (Pt.add p4 3) h fun s5 =>
 ixS s5 1 x0 fun p6 =>
 ldS p6 h fun s7 =>
 ixS s7 1 x1 fun p8 =>
 ldI .i64 p8 h fun n9 =>
 ixA x3 4 1 x0 fun p10 =>
 ldI .i64 p10 h fun n11 =>
 K (.bool (n9 == n11)) h))))
theorem impl_filler_fits_1_main_link (S : SatT) (K : AVal → H → Prop) (x0 : Int) (x1 : Int) (x2 : Pt) (x3 : Pt) (h : H) : cwp S tab impl_filler_fits_1_M [] (bodyOf Try.f58) (kFun tab Try.f58.results.toList K) (fr0 Try.f58 [.int .i64 x0, .int .i64 x1, .ptr x2, .ptr x3]) h = impl_filler_fits_1_main S K x0 x1 x2 x3 h := by kernel_rfl
theorem impl_filler_fits_1_call (x0 : Int) (x1 : Int) (x2 : Pt) (x3 : Pt) (h : H) (K : Bool → H → Prop) (hm : impl_filler_fits_1_main (Sat Try.prog) (fun v h' => ∃ r, v = .bool r ∧ K r h') x0 x1 x2 x3 h) : callB (Sat Try.prog) i_impl_filler_fits_1 [.int .i64 x0, .int .i64 x1, .ptr x2, .ptr x3] h K := by
  have := Sat.ex tok mixed impl_filler_fits_1_M Try.func58 (c := bodyOf Try.f58) (by kernel_rfl) (calls_of Try.func58 (c := bodyOf Try.f58) (by kernel_rfl) (by decide)) ((impl_filler_fits_1_main_link _ _ x0 x1 x2 x3 h).mpr hm)
  obtain ⟨v, h2, h3, r, rfl, h4⟩ := this; exact ⟨r, h2, h3, h4⟩

/-! ### (*loop.example/g01354/impl.filler).fits$2 -/
def impl_filler_fits_2_M : Nat → List Nat := fun i => []
def impl_filler_fits_2_main (S : SatT) (K : AVal → H → Prop) (x0 : Int) (x1 : Pt) (x2 : Pt) (x3 : Pt) (h : H) : Prop :=
 ldI .i64 x1 h fun n0 =>
 ldP x2 h fun p1 =>
 nilC (.ptr p1) (
 isPt p1 (
 ldS (Pt.add p1 4) h fun s2 =>
 ixS s2 1 x0 fun p3 =>
 ldI .i64 p3 h fun n4 =>
 nz n4 (
 ldI .i64 x3 h fun n5 =>
 nz n5 (
 K (.int .i64 (Int.tmod (w64 (Int.tdiv n0 n4)) n5)) h))))
theorem impl_filler_fits_2_main_link (S : SatT) (K : AVal → H → Prop) (x0 : Int) (x1 : Pt) (x2 : Pt) (x3 : Pt) (h : H) : cwp S tab impl_filler_fits_2_M [] (bodyOf Try.f59) (kFun tab Try.f59.results.toList K) (fr0 Try.f59 [.int .i64 x0, .ptr x1, .ptr x2, .ptr x3]) h = impl_filler_fits_2_main S K x0 x1 x2 x3 h := by kernel_rfl
theorem impl_filler_fits_2_call (x0 : Int) (x1 : Pt) (x2 : Pt) (x3 : Pt) (h : H) (K : Int → H → Prop) (hm : impl_filler_fits_2_main (Sat Try.prog) (fun v h' => ∃ r, v = .int .i64 r ∧ K r h') x0 x1 x2 x3 h) : callI (Sat Try.prog) .i64 i_impl_filler_fits_2 [.int .i64 x0, .ptr x1, .ptr x2, .ptr x3] h K := by
  have := Sat.ex tok mixed impl_filler_fits_2_M Try.func59 (c := bodyOf Try.f59) (by kernel_rfl) (calls_of Try.func59 (c := bodyOf Try.f59) (by kernel_rfl) (by decide)) ((impl_filler_fits_2_main_link _ _ x0 x1 x2 x3 h).mpr hm)
  obtain ⟨v, h2, h3, r, rfl, h4⟩ := this; exact ⟨r, h2, h3, h4⟩

/-! ### loop.example/g01354/impl.planCode$1 -/
def impl_planCode_1_M : Nat → List Nat := fun i => []
def impl_planCode_1_main (S : SatT) (K : AVal → H → Prop) (x0 : Pt) (x1 : Pt) (x2 : Pt) (h : H) : Prop :=
 ldA x0 2 h fun cs0 =>
 ldS x1 h fun s1 =>
 callB S i_impl_Set_isPlan [.agg cs0, .sl s1] h fun b3 h2 =>
 bif b3 then
 ldA x0 2 h2 fun cs4 =>
 ldS x1 h2 fun s5 =>
 ldS x2 h2 fun s6 =>
 callB S i_impl_Set_areBorders [.agg cs4, .sl s5, .sl s6] h2 fun b8 h7 =>
 K (.bool b8) h7
 else
 K (.bool false) h2
theorem impl_planCode_1_main_link (S : SatT) (K : AVal → H → Prop) (x0 : Pt) (x1 : Pt) (x2 : Pt) (h : H) : cwp S tab impl_planCode_1_M [] (bodyOf Try.f42) (kFun tab Try.f42.results.toList K) (fr0 Try.f42 [.ptr x0, .ptr x1, .ptr x2]) h = impl_planCode_1_main S K x0 x1 x2 h := by kernel_rfl
theorem impl_planCode_1_call (x0 : Pt) (x1 : Pt) (x2 : Pt) (h : H) (K : Bool → H → Prop) (hm : impl_planCode_1_main (Sat Try.prog) (fun v h' => ∃ r, v = .bool r ∧ K r h') x0 x1 x2 h) : callB (Sat Try.prog) i_impl_planCode_1 [.ptr x0, .ptr x1, .ptr x2] h K := by
  have := Sat.ex tok mixed impl_planCode_1_M Try.func42 (c := bodyOf Try.f42) (by kernel_rfl) (calls_of Try.func42 (c := bodyOf Try.f42) (by kernel_rfl) (by decide)) ((impl_planCode_1_main_link _ _ x0 x1 x2 h).mpr hm)
  obtain ⟨v, h2, h3, r, rfl, h4⟩ := this; exact ⟨r, h2, h3, h4⟩

/-! ### loop.example/g01354/impl.compare -/
def impl_compare_M : Nat → List Nat := fun i => []
def impl_compare_main (S : SatT) (K : AVal → H → Prop) (x0 : List AVal) (x1 : List AVal) (h : H) : Prop :=
 newK 4 x0 h fun p0 h1 =>
 newK 4 x1 h1 fun p2 h3 =>
 cutA p0 4 1 (0) ((4 : Nat) : Int) fun s4 =>
 cutA p2 4 1 (0) ((4 : Nat) : Int) fun s5 =>
 callI S .i64 i_slices_Compare_s_int64_int64_ [.sl s4, .sl s5] h3 fun n7 h6 =>
 K (.int .i64 n7) h6
theorem impl_compare_main_link (S : SatT) (K : AVal → H → Prop) (x0 : List AVal) (x1 : List AVal) (h : H) : cwp S tab impl_compare_M [] (bodyOf Try.f61) (kFun tab Try.f61.results.toList K) (fr0 Try.f61 [.agg x0, .agg x1]) h = impl_compare_main S K x0 x1 h := by kernel_rfl
theorem impl_compare_call (x0 : List AVal) (x1 : List AVal) (h : H) (K : Int → H → Prop) (hm : impl_compare_main (Sat Try.prog) (fun v h' => ∃ r, v = .int .i64 r ∧ K r h') x0 x1 h) : callI (Sat Try.prog) .i64 i_impl_compare [.agg x0, .agg x1] h K := by
  have := Sat.ex tok mixed impl_compare_M Try.func61 (c := bodyOf Try.f61) (by kernel_rfl) (calls_of Try.func61 (c := bodyOf Try.f61) (by kernel_rfl) (by decide)) ((impl_compare_main_link _ _ x0 x1 h).mpr hm)
  obtain ⟨v, h2, h3, r, rfl, h4⟩ := this; exact ⟨r, h2, h3, h4⟩

/-! ### loop.example/g01354/impl.isTile -/
def impl_isTile_M : Nat → List Nat := fun i => []
def impl_isTile_main (S : SatT) (K : AVal → H → Prop) (x0 : List AVal) (x1 : Int) (h : H) : Prop :=
 newK 4 x0 h fun p0 h1 =>
 newO [.int .i64 x1] h1 fun p2 h3 =>
 cutA p0 4 1 (0) ((4 : Nat) : Int) fun s4 =>
 callB S i_slices_ContainsFunc_s_int64_int64_ [.sl s4, .func 64 [.ptr p2]] h3 fun b6 h5 =>
 K (.bool (!b6)) h5
theorem impl_isTile_main_link (S : SatT) (K : AVal → H → Prop) (x0 : List AVal) (x1 : Int) (h : H) : cwp S tab impl_isTile_M [] (bodyOf Try.f60) (kFun tab Try.f60.results.toList K) (fr0 Try.f60 [.agg x0, .int .i64 x1]) h = impl_isTile_main S K x0 x1 h := by kernel_rfl
theorem impl_isTile_call (x0 : List AVal) (x1 : Int) (h : H) (K : Bool → H → Prop) (hm : impl_isTile_main (Sat Try.prog) (fun v h' => ∃ r, v = .bool r ∧ K r h') x0 x1 h) : callB (Sat Try.prog) i_impl_isTile [.agg x0, .int .i64 x1] h K := by
  have := Sat.ex tok mixed impl_isTile_M Try.func60 (c := bodyOf Try.f60) (by kernel_rfl) (calls_of Try.func60 (c := bodyOf Try.f60) (by kernel_rfl) (by decide)) ((impl_isTile_main_link _ _ x0 x1 h).mpr hm)
  obtain ⟨v, h2, h3, r, rfl, h4⟩ := this; exact ⟨r, h2, h3, h4⟩

/-! ### loop.example/g01354/laws.markSet -/
def laws_markSet_M : Nat → List Nat := fun i => []
def laws_markSet_main (S : SatT) (K : AVal → H → Prop) (x0 : List AVal) (x1 : Int) (h : H) : Prop :=
 newK 2 x0 h fun p0 h1 =>
 isPt p0 (
 ldS (Pt.add p0 1) h1 fun s2 =>
 callI S .i64 i_laws_markTileS [.sl s2, .int .i64 x1] h1 fun n4 h3 =>
 K (.int .i64 n4) h3)
theorem laws_markSet_main_link (S : SatT) (K : AVal → H → Prop) (x0 : List AVal) (x1 : Int) (h : H) : cwp S tab laws_markSet_M [] (bodyOf Try.f14) (kFun tab Try.f14.results.toList K) (fr0 Try.f14 [.agg x0, .int .i64 x1]) h = laws_markSet_main S K x0 x1 h := by kernel_rfl
theorem laws_markSet_call (x0 : List AVal) (x1 : Int) (h : H) (K : Int → H → Prop) (hm : laws_markSet_main (Sat Try.prog) (fun v h' => ∃ r, v = .int .i64 r ∧ K r h') x0 x1 h) : callI (Sat Try.prog) .i64 i_laws_markSet [.agg x0, .int .i64 x1] h K := by
  have := Sat.ex tok mixed laws_markSet_M Try.func14 (c := bodyOf Try.f14) (by kernel_rfl) (calls_of Try.func14 (c := bodyOf Try.f14) (by kernel_rfl) (by decide)) ((laws_markSet_main_link _ _ x0 x1 h).mpr hm)
  obtain ⟨v, h2, h3, r, rfl, h4⟩ := this; exact ⟨r, h2, h3, h4⟩

/-! ### loop.example/g01354/laws.szInt64S -/
def laws_szInt64S_M : Nat → List Nat := fun i => []
def laws_szInt64S_main (S : SatT) (K : AVal → H → Prop) (x0 : Sl) (x1 : Int) (h : H) : Prop :=
 bif (decide ((w64 (x1 - (x0.len : Int))) < (0))) then
 K (.int .i64 (-1)) h
 else
 K (.int .i64 (w64 (x1 - (x0.len : Int)))) h
theorem laws_szInt64S_main_link (S : SatT) (K : AVal → H → Prop) (x0 : Sl) (x1 : Int) (h : H) : cwp S tab laws_szInt64S_M [] (bodyOf Try.f22) (kFun tab Try.f22.results.toList K) (fr0 Try.f22 [.sl x0, .int .i64 x1]) h = laws_szInt64S_main S K x0 x1 h := by kernel_rfl
theorem laws_szInt64S_call (x0 : Sl) (x1 : Int) (h : H) (K : Int → H → Prop) (hm : laws_szInt64S_main (Sat Try.prog) (fun v h' => ∃ r, v = .int .i64 r ∧ K r h') x0 x1 h) : callI (Sat Try.prog) .i64 i_laws_szInt64S [.sl x0, .int .i64 x1] h K := by
  have := Sat.ex tok mixed laws_szInt64S_M Try.func22 (c := bodyOf Try.f22) (by kernel_rfl) (calls_of Try.func22 (c := bodyOf Try.f22) (by kernel_rfl) (by decide)) ((laws_szInt64S_main_link _ _ x0 x1 h).mpr hm)
  obtain ⟨v, h2, h3, r, rfl, h4⟩ := this; exact ⟨r, h2, h3, h4⟩

end Go.Proofs.Ytgeakkmpohjohaa.Cl
