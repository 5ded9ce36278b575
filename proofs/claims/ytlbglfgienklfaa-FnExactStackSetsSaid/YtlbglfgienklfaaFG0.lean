/- Typed forms of functions, and their links. No claim is stated here. -/
import Derived.Test.YtlbglfgienklfaaFT
/- Typed forms of functions of the program, and their links. Printed by program. No claim is stated here. -/
set_option linter.unusedVariables false
namespace Go.Proofs.Ytlbglfgienklfaa.Cl
open Go
/-! ### loop.example/g01354/spec.l04Pairs -/
def spec_l04Pairs_M : Nat → List Nat := fun i => bif i == 2 then [2, 3, 5, 6, 7] else bif i == 0 then [2, 3, 5, 6] else []
def spec_l04Pairs_ks2 (S : SatT) (K : AVal → H → Prop) : Kont := kSeq (cwp S tab spec_l04Pairs_M [] (sub [1, 1, 1] (bodyOf Try.f37)) (kFun tab (Try.f37).results.toList K)) (kFun tab (Try.f37).results.toList K)
def spec_l04Pairs_e0 (p2_ : Pt) (p3_ : Pt) (s5_ : Sl) (i6_ : Int) : Frame := [U, U, .ptr p2_, .ptr p3_, U, .sl s5_, .int .i64 i6_, U, U, U, U, U, U, U, U, U, U, U, U, U, U, U, U, U, U, U, U, U, U, U, U, U, U, U, U, U, U, U, U, U, U, U, U, U, U, U, U, U, U, U, U, U, U, U, U, U, U, U, U, U, U, U, U, U, U, U, U, U, U]
def spec_l04Pairs_w0 (S : SatT) (K : AVal → H → Prop) : (Frame → H → Prop) → Frame → H → Prop := fun X fr h => cwp S tab spec_l04Pairs_M (spec_l04Pairs_M 0) (sub [1, 1, 0, 1, 0, 0] (bodyOf Try.f37)) (kSeq (fun fr h => X (mask (spec_l04Pairs_M 0) fr) h) (kBlk 0 (spec_l04Pairs_ks2 S K))) fr h
def spec_l04Pairs_L0 (S : SatT) (K : AVal → H → Prop) (p2_ : Pt) (p3_ : Pt) (s5_ : Sl) (i6_ : Int) (h : H) : Prop := loopK (spec_l04Pairs_w0 S K) (spec_l04Pairs_e0 p2_ p3_ s5_ i6_) h
def spec_l04Pairs_ks6 (S : SatT) (K : AVal → H → Prop) (X0 : Frame → H → Prop) : Kont := kSeq (cwp S tab spec_l04Pairs_M (spec_l04Pairs_M 0) (sub [1, 1, 0, 1, 0, 0, 1, 1] (bodyOf Try.f37)) (kSeq (fun fr h => X0 (mask (spec_l04Pairs_M 0) fr) h) (kBlk 0 (spec_l04Pairs_ks2 S K)))) (kSeq (fun fr h => X0 (mask (spec_l04Pairs_M 0) fr) h) (kBlk 0 (spec_l04Pairs_ks2 S K)))
def spec_l04Pairs_e2 (p2_ : Pt) (p3_ : Pt) (s5_ : Sl) (i6_ : Int) (i7_ : Int) : Frame := [U, U, .ptr p2_, .ptr p3_, U, .sl s5_, .int .i64 i6_, .int .i64 i7_, U, U, U, U, U, U, U, U, U, U, U, U, U, U, U, U, U, U, U, U, U, U, U, U, U, U, U, U, U, U, U, U, U, U, U, U, U, U, U, U, U, U, U, U, U, U, U, U, U, U, U, U, U, U, U, U, U, U, U, U, U]
def spec_l04Pairs_w2 (S : SatT) (K : AVal → H → Prop) (X0 : Frame → H → Prop) : (Frame → H → Prop) → Frame → H → Prop := fun X fr h => cwp S tab spec_l04Pairs_M (spec_l04Pairs_M 2) (sub [1, 1, 0, 1, 0, 0, 1, 0, 0, 1, 0, 0] (bodyOf Try.f37)) (kSeq (fun fr h => X (mask (spec_l04Pairs_M 2) fr) h) (kBlk 2 (kBlk 1 (spec_l04Pairs_ks6 S K X0)))) fr h
def spec_l04Pairs_L2 (S : SatT) (K : AVal → H → Prop) (X0 : Frame → H → Prop) (p2_ : Pt) (p3_ : Pt) (s5_ : Sl) (i6_ : Int) (i7_ : Int) (h : H) : Prop := loopK (spec_l04Pairs_w2 S K X0) (spec_l04Pairs_e2 p2_ p3_ s5_ i6_ i7_) h
def spec_l04Pairs_C1 (S : SatT) (K : AVal → H → Prop) (X0 : Frame → H → Prop) (p2_ : Pt) (p3_ : Pt) (s5_ : Sl) (i6_ : Int) (h : H) : Prop :=
 X0 (spec_l04Pairs_e0 p2_ p3_ s5_ (w64 (i6_ + (1)))) h
def spec_l04Pairs_C2 (S : SatT) (K : AVal → H → Prop) (X0 : Frame → H → Prop) (p2_ : Pt) (p3_ : Pt) (s5_ : Sl) (i6_ : Int) (h : H) : Prop :=
 spec_l04Pairs_C1 S K X0 p2_ p3_ s5_ i6_ h
def spec_l04Pairs_b2 (S : SatT) (K : AVal → H → Prop) (X0 : Frame → H → Prop) (X2 : Frame → H → Prop) (p2_ : Pt) (p3_ : Pt) (s5_ : Sl) (i6_ : Int) (i7_ : Int) (h : H) : Prop :=
 isPt p3_ (
 ldS (Pt.add p3_ 1) h fun s0 =>
 bif (decide (i7_ < (s0.len : Int))) then
 isPt p2_ (
 ldS (Pt.add p2_ 1) h fun s1 =>
 ixS s1 4 i6_ fun p2 =>
 ixA p2 4 1 (3) fun p3 =>
 ldI .i64 p3 h fun n4 =>
 isPt p3_ (
 ldS (Pt.add p3_ 1) h fun s5 =>
 ixS s5 4 i7_ fun p6 =>
 ixA p6 4 1 (1) fun p7 =>
 ldI .i64 p7 h fun n8 =>
 bif (n4 == n8) then
 isPt p2_ (
 ldS (Pt.add p2_ 1) h fun s9 =>
 ixS s9 4 i6_ fun p10 =>
 ixA p10 4 1 (0) fun p11 =>
 ldI .i64 p11 h fun n12 =>
 isPt p3_ (
 ldS (Pt.add p3_ 1) h fun s13 =>
 ixS s13 4 i7_ fun p14 =>
 ixA p14 4 1 (0) fun p15 =>
 ldI .i64 p15 h fun n16 =>
 isPt p2_ (
 ldS (Pt.add p2_ 1) h fun s17 =>
 ixS s17 4 i6_ fun p18 =>
 ixA p18 4 1 (2) fun p19 =>
 ldI .i64 p19 h fun n20 =>
 isPt p3_ (
 ldS (Pt.add p3_ 1) h fun s21 =>
 ixS s21 4 i7_ fun p22 =>
 ixA p22 4 1 (2) fun p23 =>
 ldI .i64 p23 h fun n24 =>
 newS 2 1 [.int .i64 (w64 ((w64 ((16) * n12)) + n16)), .int .i64 (w64 ((w64 ((16) * n20)) + n24))] h fun s25 h26 =>
 app s5_ s25 1 h26 fun s27 h28 =>
 X2 (spec_l04Pairs_e2 p2_ p3_ s27 i6_ (w64 (i7_ + (1)))) h28))))
 else
 X2 (spec_l04Pairs_e2 p2_ p3_ s5_ i6_ (w64 (i7_ + (1)))) h))
 else
 spec_l04Pairs_C2 S K X0 p2_ p3_ s5_ i6_ h)
theorem spec_l04Pairs_link2 (S : SatT) (K : AVal → H → Prop) (X0 : Frame → H → Prop) (X2 : Frame → H → Prop) (p2_ : Pt) (p3_ : Pt) (s5_ : Sl) (i6_ : Int) (i7_ : Int) (h : H) : spec_l04Pairs_w2 S K X0 X2 (spec_l04Pairs_e2 p2_ p3_ s5_ i6_ i7_) h = spec_l04Pairs_b2 S K X0 X2 p2_ p3_ s5_ i6_ i7_ h := by kernel_rfl
theorem spec_l04Pairs_rule2 (S : SatT) (K : AVal → H → Prop) (X0 : Frame → H → Prop) (p2_ : Pt) (p3_ : Pt) (i6_ : Int) (I_ : Sl → Int → H → Prop) (m_ : Sl → Int → H → Nat)
    (hs : ∀ (X2 : Frame → H → Prop) (s5_ : Sl) (i7_ : Int) (h : H), I_ s5_ i7_ h → (∀ (s5_' : Sl) (i7_' : Int) (h' : H), I_ s5_' i7_' h' → m_ s5_' i7_' h' < m_ s5_ i7_ h → X2 (spec_l04Pairs_e2 p2_ p3_ s5_' i6_ i7_') h') → spec_l04Pairs_b2 S K X0 X2 p2_ p3_ s5_ i6_ i7_ h) (s5_ : Sl) (i7_ : Int) {h : H} (h0 : I_ s5_ i7_ h) : spec_l04Pairs_L2 S K X0 p2_ p3_ s5_ i6_ i7_ h :=
  loop_rule (σ := (Sl) × (Int)) (fun s_ => spec_l04Pairs_e2 p2_ p3_ (s_.1) i6_ (s_.2)) (fun s_ h => I_ (s_.1) (s_.2) h) (fun s_ h => m_ (s_.1) (s_.2) h)
    (fun X s_ h hi hx => (spec_l04Pairs_link2 S K X0 X p2_ p3_ (s_.1) i6_ (s_.2) h).mpr (hs X (s_.1) (s_.2) h hi fun s5_' i7_' h' hi' hm' => hx (s5_', i7_') h' hi' hm')) (s5_, i7_) h0
theorem spec_l04Pairs_unroll2 (S : SatT) (K : AVal → H → Prop) (X0 : Frame → H → Prop) (p2_ : Pt) (p3_ : Pt) (s5_ : Sl) (i6_ : Int) (i7_ : Int) (h : H) (hb : spec_l04Pairs_b2 S K X0 (fun fr h => loopK (spec_l04Pairs_w2 S K X0) fr h) p2_ p3_ s5_ i6_ i7_ h) : spec_l04Pairs_L2 S K X0 p2_ p3_ s5_ i6_ i7_ h := loop_unroll ((spec_l04Pairs_link2 S K X0 _ p2_ p3_ s5_ i6_ i7_ h).mpr hb)
def spec_l04Pairs_C0 (S : SatT) (K : AVal → H → Prop) (s5_ : Sl) (h : H) : Prop :=
 callS S i_spec_l04Sorted [.sl s5_] h fun s1 h0 =>
 K (.sl s1) h0
def spec_l04Pairs_b0 (S : SatT) (K : AVal → H → Prop) (X0 : Frame → H → Prop) (p2_ : Pt) (p3_ : Pt) (s5_ : Sl) (i6_ : Int) (h : H) : Prop :=
 isPt p2_ (
 ldS (Pt.add p2_ 1) h fun s0 =>
 bif (decide (i6_ < (s0.len : Int))) then
 spec_l04Pairs_L2 S K X0 p2_ p3_ s5_ i6_ (0) h
 else
 spec_l04Pairs_C0 S K s5_ h)
theorem spec_l04Pairs_link0 (S : SatT) (K : AVal → H → Prop) (X0 : Frame → H → Prop) (p2_ : Pt) (p3_ : Pt) (s5_ : Sl) (i6_ : Int) (h : H) : spec_l04Pairs_w0 S K X0 (spec_l04Pairs_e0 p2_ p3_ s5_ i6_) h = spec_l04Pairs_b0 S K X0 p2_ p3_ s5_ i6_ h := by kernel_rfl
theorem spec_l04Pairs_rule0 (S : SatT) (K : AVal → H → Prop) (p2_ : Pt) (p3_ : Pt) (I_ : Sl → Int → H → Prop) (m_ : Sl → Int → H → Nat)
    (hs : ∀ (X0 : Frame → H → Prop) (s5_ : Sl) (i6_ : Int) (h : H), I_ s5_ i6_ h → (∀ (s5_' : Sl) (i6_' : Int) (h' : H), I_ s5_' i6_' h' → m_ s5_' i6_' h' < m_ s5_ i6_ h → X0 (spec_l04Pairs_e0 p2_ p3_ s5_' i6_') h') → spec_l04Pairs_b0 S K X0 p2_ p3_ s5_ i6_ h) (s5_ : Sl) (i6_ : Int) {h : H} (h0 : I_ s5_ i6_ h) : spec_l04Pairs_L0 S K p2_ p3_ s5_ i6_ h :=
  loop_rule (σ := (Sl) × (Int)) (fun s_ => spec_l04Pairs_e0 p2_ p3_ (s_.1) (s_.2)) (fun s_ h => I_ (s_.1) (s_.2) h) (fun s_ h => m_ (s_.1) (s_.2) h)
    (fun X s_ h hi hx => (spec_l04Pairs_link0 S K X p2_ p3_ (s_.1) (s_.2) h).mpr (hs X (s_.1) (s_.2) h hi fun s5_' i6_' h' hi' hm' => hx (s5_', i6_') h' hi' hm')) (s5_, i6_) h0
theorem spec_l04Pairs_unroll0 (S : SatT) (K : AVal → H → Prop) (p2_ : Pt) (p3_ : Pt) (s5_ : Sl) (i6_ : Int) (h : H) (hb : spec_l04Pairs_b0 S K (fun fr h => loopK (spec_l04Pairs_w0 S K) fr h) p2_ p3_ s5_ i6_ h) : spec_l04Pairs_L0 S K p2_ p3_ s5_ i6_ h := loop_unroll ((spec_l04Pairs_link0 S K _ p2_ p3_ s5_ i6_ h).mpr hb)
def spec_l04Pairs_main (S : SatT) (K : AVal → H → Prop) (x0 : List AVal) (x1 : List AVal) (h : H) : Prop :=
 newK 2 x0 h fun p0 h1 =>
 newK 2 x1 h1 fun p2 h3 =>
 newS 0 1 [] h3 fun s4 h5 =>
 spec_l04Pairs_L0 S K p0 p2 s4 (0) h5
theorem spec_l04Pairs_main_link (S : SatT) (K : AVal → H → Prop) (x0 : List AVal) (x1 : List AVal) (h : H) : cwp S tab spec_l04Pairs_M [] (bodyOf Try.f37) (kFun tab Try.f37.results.toList K) (fr0 Try.f37 [.agg x0, .agg x1]) h = spec_l04Pairs_main S K x0 x1 h := by kernel_rfl
theorem spec_l04Pairs_call (x0 : List AVal) (x1 : List AVal) (h : H) (K : Sl → H → Prop) (hm : spec_l04Pairs_main (Sat Try.prog) (fun v h' => ∃ r, v = .sl r ∧ K r h') x0 x1 h) : callS (Sat Try.prog) i_spec_l04Pairs [.agg x0, .agg x1] h K := by
  have := Sat.ex tok mixed spec_l04Pairs_M Try.func37 (c := bodyOf Try.f37) (by kernel_rfl) (calls_of Try.func37 (c := bodyOf Try.f37) (by kernel_rfl) (by decide)) ((spec_l04Pairs_main_link _ _ x0 x1 h).mpr hm)
  obtain ⟨v, h2, h3, r, rfl, h4⟩ := this; exact ⟨r, h2, h3, h4⟩

/-! ### loop.example/g01354/laws.heldTileS -/
def laws_heldTileS_M : Nat → List Nat := fun i => bif i == 2 then [0, 1, 5, 6] else bif i == 0 then [0, 1, 5] else []
def laws_heldTileS_ks1 (S : SatT) (K : AVal → H → Prop) : Kont := kSeq (cwp S tab laws_heldTileS_M [] (sub [1, 1] (bodyOf Try.f35)) (kFun tab (Try.f35).results.toList K)) (kFun tab (Try.f35).results.toList K)
def laws_heldTileS_e0 (s0_ : Sl) (i1_ : Int) (i5_ : Int) : Frame := [.sl s0_, .int .i64 i1_, U, U, U, .int .i64 i5_, U, U, U, U, U, U, U, U, U, U, U, U, U, U, U, U, U, U, U, U, U, U]
def laws_heldTileS_w0 (S : SatT) (K : AVal → H → Prop) : (Frame → H → Prop) → Frame → H → Prop := fun X fr h => cwp S tab laws_heldTileS_M (laws_heldTileS_M 0) (sub [1, 0, 1, 0, 0] (bodyOf Try.f35)) (kSeq (fun fr h => X (mask (laws_heldTileS_M 0) fr) h) (kBlk 0 (laws_heldTileS_ks1 S K))) fr h
def laws_heldTileS_L0 (S : SatT) (K : AVal → H → Prop) (s0_ : Sl) (i1_ : Int) (i5_ : Int) (h : H) : Prop := loopK (laws_heldTileS_w0 S K) (laws_heldTileS_e0 s0_ i1_ i5_) h
def laws_heldTileS_ks5 (S : SatT) (K : AVal → H → Prop) (X0 : Frame → H → Prop) : Kont := kSeq (cwp S tab laws_heldTileS_M (laws_heldTileS_M 0) (sub [1, 0, 1, 0, 0, 1, 1] (bodyOf Try.f35)) (kSeq (fun fr h => X0 (mask (laws_heldTileS_M 0) fr) h) (kBlk 0 (laws_heldTileS_ks1 S K)))) (kSeq (fun fr h => X0 (mask (laws_heldTileS_M 0) fr) h) (kBlk 0 (laws_heldTileS_ks1 S K)))
def laws_heldTileS_e2 (s0_ : Sl) (i1_ : Int) (i5_ : Int) (i6_ : Int) : Frame := [.sl s0_, .int .i64 i1_, U, U, U, .int .i64 i5_, .int .i64 i6_, U, U, U, U, U, U, U, U, U, U, U, U, U, U, U, U, U, U, U, U, U]
def laws_heldTileS_w2 (S : SatT) (K : AVal → H → Prop) (X0 : Frame → H → Prop) : (Frame → H → Prop) → Frame → H → Prop := fun X fr h => cwp S tab laws_heldTileS_M (laws_heldTileS_M 2) (sub [1, 0, 1, 0, 0, 1, 0, 0, 1, 0, 0] (bodyOf Try.f35)) (kSeq (fun fr h => X (mask (laws_heldTileS_M 2) fr) h) (kBlk 2 (kBlk 1 (laws_heldTileS_ks5 S K X0)))) fr h
def laws_heldTileS_L2 (S : SatT) (K : AVal → H → Prop) (X0 : Frame → H → Prop) (s0_ : Sl) (i1_ : Int) (i5_ : Int) (i6_ : Int) (h : H) : Prop := loopK (laws_heldTileS_w2 S K X0) (laws_heldTileS_e2 s0_ i1_ i5_ i6_) h
def laws_heldTileS_C1 (S : SatT) (K : AVal → H → Prop) (X0 : Frame → H → Prop) (s0_ : Sl) (i1_ : Int) (i5_ : Int) (h : H) : Prop :=
 X0 (laws_heldTileS_e0 s0_ i1_ (w64 (i5_ + (1)))) h
def laws_heldTileS_C2 (S : SatT) (K : AVal → H → Prop) (X0 : Frame → H → Prop) (s0_ : Sl) (i1_ : Int) (i5_ : Int) (h : H) : Prop :=
 laws_heldTileS_C1 S K X0 s0_ i1_ i5_ h
def laws_heldTileS_b2 (S : SatT) (K : AVal → H → Prop) (X0 : Frame → H → Prop) (X2 : Frame → H → Prop) (s0_ : Sl) (i1_ : Int) (i5_ : Int) (i6_ : Int) (h : H) : Prop :=
 bif (decide (i6_ < (4))) then
 ixS s0_ 4 i5_ fun p0 =>
 ixA p0 4 1 i6_ fun p1 =>
 ldI .i64 p1 h fun n2 =>
 bif (n2 != i1_) then
 K (.int .i64 (-1)) h
 else
 X2 (laws_heldTileS_e2 s0_ (w64 (i1_ + (1))) i5_ (w64 (i6_ + (1)))) h
 else
 laws_heldTileS_C2 S K X0 s0_ i1_ i5_ h
theorem laws_heldTileS_link2 (S : SatT) (K : AVal → H → Prop) (X0 : Frame → H → Prop) (X2 : Frame → H → Prop) (s0_ : Sl) (i1_ : Int) (i5_ : Int) (i6_ : Int) (h : H) : laws_heldTileS_w2 S K X0 X2 (laws_heldTileS_e2 s0_ i1_ i5_ i6_) h = laws_heldTileS_b2 S K X0 X2 s0_ i1_ i5_ i6_ h := by kernel_rfl
theorem laws_heldTileS_rule2 (S : SatT) (K : AVal → H → Prop) (X0 : Frame → H → Prop) (s0_ : Sl) (i5_ : Int) (I_ : Int → Int → H → Prop) (m_ : Int → Int → H → Nat)
    (hs : ∀ (X2 : Frame → H → Prop) (i1_ : Int) (i6_ : Int) (h : H), I_ i1_ i6_ h → (∀ (i1_' : Int) (i6_' : Int) (h' : H), I_ i1_' i6_' h' → m_ i1_' i6_' h' < m_ i1_ i6_ h → X2 (laws_heldTileS_e2 s0_ i1_' i5_ i6_') h') → laws_heldTileS_b2 S K X0 X2 s0_ i1_ i5_ i6_ h) (i1_ : Int) (i6_ : Int) {h : H} (h0 : I_ i1_ i6_ h) : laws_heldTileS_L2 S K X0 s0_ i1_ i5_ i6_ h :=
  loop_rule (σ := (Int) × (Int)) (fun s_ => laws_heldTileS_e2 s0_ (s_.1) i5_ (s_.2)) (fun s_ h => I_ (s_.1) (s_.2) h) (fun s_ h => m_ (s_.1) (s_.2) h)
    (fun X s_ h hi hx => (laws_heldTileS_link2 S K X0 X s0_ (s_.1) i5_ (s_.2) h).mpr (hs X (s_.1) (s_.2) h hi fun i1_' i6_' h' hi' hm' => hx (i1_', i6_') h' hi' hm')) (i1_, i6_) h0
theorem laws_heldTileS_unroll2 (S : SatT) (K : AVal → H → Prop) (X0 : Frame → H → Prop) (s0_ : Sl) (i1_ : Int) (i5_ : Int) (i6_ : Int) (h : H) (hb : laws_heldTileS_b2 S K X0 (fun fr h => loopK (laws_heldTileS_w2 S K X0) fr h) s0_ i1_ i5_ i6_ h) : laws_heldTileS_L2 S K X0 s0_ i1_ i5_ i6_ h := loop_unroll ((laws_heldTileS_link2 S K X0 _ s0_ i1_ i5_ i6_ h).mpr hb)
def laws_heldTileS_C0 (S : SatT) (K : AVal → H → Prop) (i1_ : Int) (h : H) : Prop :=
 K (.int .i64 i1_) h
def laws_heldTileS_b0 (S : SatT) (K : AVal → H → Prop) (X0 : Frame → H → Prop) (s0_ : Sl) (i1_ : Int) (i5_ : Int) (h : H) : Prop :=
 bif (decide (i5_ < (s0_.len : Int))) then
 laws_heldTileS_L2 S K X0 s0_ i1_ i5_ (0) h
 else
 laws_heldTileS_C0 S K i1_ h
theorem laws_heldTileS_link0 (S : SatT) (K : AVal → H → Prop) (X0 : Frame → H → Prop) (s0_ : Sl) (i1_ : Int) (i5_ : Int) (h : H) : laws_heldTileS_w0 S K X0 (laws_heldTileS_e0 s0_ i1_ i5_) h = laws_heldTileS_b0 S K X0 s0_ i1_ i5_ h := by kernel_rfl
theorem laws_heldTileS_rule0 (S : SatT) (K : AVal → H → Prop) (s0_ : Sl) (I_ : Int → Int → H → Prop) (m_ : Int → Int → H → Nat)
    (hs : ∀ (X0 : Frame → H → Prop) (i1_ : Int) (i5_ : Int) (h : H), I_ i1_ i5_ h → (∀ (i1_' : Int) (i5_' : Int) (h' : H), I_ i1_' i5_' h' → m_ i1_' i5_' h' < m_ i1_ i5_ h → X0 (laws_heldTileS_e0 s0_ i1_' i5_') h') → laws_heldTileS_b0 S K X0 s0_ i1_ i5_ h) (i1_ : Int) (i5_ : Int) {h : H} (h0 : I_ i1_ i5_ h) : laws_heldTileS_L0 S K s0_ i1_ i5_ h :=
  loop_rule (σ := (Int) × (Int)) (fun s_ => laws_heldTileS_e0 s0_ (s_.1) (s_.2)) (fun s_ h => I_ (s_.1) (s_.2) h) (fun s_ h => m_ (s_.1) (s_.2) h)
    (fun X s_ h hi hx => (laws_heldTileS_link0 S K X s0_ (s_.1) (s_.2) h).mpr (hs X (s_.1) (s_.2) h hi fun i1_' i5_' h' hi' hm' => hx (i1_', i5_') h' hi' hm')) (i1_, i5_) h0
theorem laws_heldTileS_unroll0 (S : SatT) (K : AVal → H → Prop) (s0_ : Sl) (i1_ : Int) (i5_ : Int) (h : H) (hb : laws_heldTileS_b0 S K (fun fr h => loopK (laws_heldTileS_w0 S K) fr h) s0_ i1_ i5_ h) : laws_heldTileS_L0 S K s0_ i1_ i5_ h := loop_unroll ((laws_heldTileS_link0 S K _ s0_ i1_ i5_ h).mpr hb)
def laws_heldTileS_main (S : SatT) (K : AVal → H → Prop) (x0 : Sl) (x1 : Int) (h : H) : Prop :=
 laws_heldTileS_L0 S K x0 x1 (0) h
theorem laws_heldTileS_main_link (S : SatT) (K : AVal → H → Prop) (x0 : Sl) (x1 : Int) (h : H) : cwp S tab laws_heldTileS_M [] (bodyOf Try.f35) (kFun tab Try.f35.results.toList K) (fr0 Try.f35 [.sl x0, .int .i64 x1]) h = laws_heldTileS_main S K x0 x1 h := by kernel_rfl
theorem laws_heldTileS_call (x0 : Sl) (x1 : Int) (h : H) (K : Int → H → Prop) (hm : laws_heldTileS_main (Sat Try.prog) (fun v h' => ∃ r, v = .int .i64 r ∧ K r h') x0 x1 h) : callI (Sat Try.prog) .i64 i_laws_heldTileS [.sl x0, .int .i64 x1] h K := by
  have := Sat.ex tok mixed laws_heldTileS_M Try.func35 (c := bodyOf Try.f35) (by kernel_rfl) (calls_of Try.func35 (c := bodyOf Try.f35) (by kernel_rfl) (by decide)) ((laws_heldTileS_main_link _ _ x0 x1 h).mpr hm)
  obtain ⟨v, h2, h3, r, rfl, h4⟩ := this; exact ⟨r, h2, h3, h4⟩

/-! ### loop.example/g01354/impl.IsSet -/
def impl_IsSet_M : Nat → List Nat := fun i => bif i == 0 then [1, 6, 7, 8] else []
def impl_IsSet_ks1 (S : SatT) (K : AVal → H → Prop) : Kont := kSeq (cwp S tab impl_IsSet_M [] (sub [1, 1] (bodyOf Try.f64)) (kFun tab (Try.f64).results.toList K)) (kFun tab (Try.f64).results.toList K)
def impl_IsSet_e0 (p1_ : Pt) (s6_ : Sl) (i7_ : Int) (i8_ : Int) : Frame := [U, .ptr p1_, U, U, U, U, .sl s6_, .int .i64 i7_, .int .i64 i8_, U, U, U, U, U, U, U, U, U, U, U, U, U, U, U, U, U, U, U, U, U, U, U, U, U, U, U, U, U, U, U, U, U, U]
def impl_IsSet_w0 (S : SatT) (K : AVal → H → Prop) : (Frame → H → Prop) → Frame → H → Prop := fun X fr h => cwp S tab impl_IsSet_M (impl_IsSet_M 0) (sub [1, 0, 1, 0, 0] (bodyOf Try.f64)) (kSeq (fun fr h => X (mask (impl_IsSet_M 0) fr) h) (kBlk 0 (impl_IsSet_ks1 S K))) fr h
def impl_IsSet_L0 (S : SatT) (K : AVal → H → Prop) (p1_ : Pt) (s6_ : Sl) (i7_ : Int) (i8_ : Int) (h : H) : Prop := loopK (impl_IsSet_w0 S K) (impl_IsSet_e0 p1_ s6_ i7_ i8_) h
def impl_IsSet_C0 (S : SatT) (K : AVal → H → Prop) (p1_ : Pt) (h : H) : Prop :=
 isPt p1_ (
 ldI .i64 (Pt.add p1_ 0) h fun n0 =>
 callB S i_impl_within [.int .i64 n0, .int .i64 (1), .int .i64 (6)] h fun b2 h1 =>
 bif b2 then
 isPt p1_ (
 ldS (Pt.add p1_ 1) h1 fun s3 =>
 K (.bool (decide ((s3.len : Int) ≤ (16)))) h1)
 else
 K (.bool false) h1)
def impl_IsSet_b0 (S : SatT) (K : AVal → H → Prop) (X0 : Frame → H → Prop) (p1_ : Pt) (s6_ : Sl) (i7_ : Int) (i8_ : Int) (h : H) : Prop :=
 bif (decide (i8_ < i7_)) then
 ixS s6_ 4 i8_ fun p0 =>
 ldA p0 4 h fun cs1 =>
 newO [.int .i64 (0), .int .i64 (0), .int .i64 (0), .int .i64 (0)] h fun p2 h3 =>
 stN p2 4 cs1 h3 fun h4 =>
 ldA p2 4 h4 fun cs5 =>
 isPt p1_ (
 ldI .i64 (Pt.add p1_ 0) h4 fun n6 =>
 callB S i_impl_isTile [.agg cs5, .int .i64 n6] h4 fun b8 h7 =>
 bif (!b8) then
 K (.bool false) h7
 else
 bif (decide (i8_ > (0))) then
 isPt p1_ (
 ldS (Pt.add p1_ 1) h7 fun s9 =>
 ixS s9 4 (w64 (i8_ - (1))) fun p10 =>
 ldA p10 4 h7 fun cs11 =>
 ldA p2 4 h7 fun cs12 =>
 callI S .i64 i_impl_compare [.agg cs11, .agg cs12] h7 fun n14 h13 =>
 bif (decide (n14 ≥ (0))) then
 K (.bool false) h13
 else
 X0 (impl_IsSet_e0 p1_ s6_ i7_ (w64 (i8_ + (1)))) h13)
 else
 X0 (impl_IsSet_e0 p1_ s6_ i7_ (w64 (i8_ + (1)))) h7)
 else
 impl_IsSet_C0 S K p1_ h
theorem impl_IsSet_link0 (S : SatT) (K : AVal → H → Prop) (X0 : Frame → H → Prop) (p1_ : Pt) (s6_ : Sl) (i7_ : Int) (i8_ : Int) (h : H) : impl_IsSet_w0 S K X0 (impl_IsSet_e0 p1_ s6_ i7_ i8_) h = impl_IsSet_b0 S K X0 p1_ s6_ i7_ i8_ h := by kernel_rfl
theorem impl_IsSet_rule0 (S : SatT) (K : AVal → H → Prop) (p1_ : Pt) (s6_ : Sl) (i7_ : Int) (I_ : Int → H → Prop) (m_ : Int → H → Nat)
    (hs : ∀ (X0 : Frame → H → Prop) (i8_ : Int) (h : H), I_ i8_ h → (∀ (i8_' : Int) (h' : H), I_ i8_' h' → m_ i8_' h' < m_ i8_ h → X0 (impl_IsSet_e0 p1_ s6_ i7_ i8_') h') → impl_IsSet_b0 S K X0 p1_ s6_ i7_ i8_ h) (i8_ : Int) {h : H} (h0 : I_ i8_ h) : impl_IsSet_L0 S K p1_ s6_ i7_ i8_ h :=
  loop_rule (σ := (Int)) (fun s_ => impl_IsSet_e0 p1_ s6_ i7_ (s_)) (fun s_ h => I_ (s_) h) (fun s_ h => m_ (s_) h)
    (fun X s_ h hi hx => (impl_IsSet_link0 S K X p1_ s6_ i7_ (s_) h).mpr (hs X (s_) h hi fun i8_' h' hi' hm' => hx (i8_') h' hi' hm')) (i8_) h0
theorem impl_IsSet_unroll0 (S : SatT) (K : AVal → H → Prop) (p1_ : Pt) (s6_ : Sl) (i7_ : Int) (i8_ : Int) (h : H) (hb : impl_IsSet_b0 S K (fun fr h => loopK (impl_IsSet_w0 S K) fr h) p1_ s6_ i7_ i8_ h) : impl_IsSet_L0 S K p1_ s6_ i7_ i8_ h := loop_unroll ((impl_IsSet_link0 S K _ p1_ s6_ i7_ i8_ h).mpr hb)
def impl_IsSet_main (S : SatT) (K : AVal → H → Prop) (x0 : List AVal) (h : H) : Prop :=
 newK 2 x0 h fun p0 h1 =>
 isPt p0 (
 ldS (Pt.add p0 1) h1 fun s2 =>
 impl_IsSet_L0 S K p0 s2 (s2.len : Int) (0) h1)
theorem impl_IsSet_main_link (S : SatT) (K : AVal → H → Prop) (x0 : List AVal) (h : H) : cwp S tab impl_IsSet_M [] (bodyOf Try.f64) (kFun tab Try.f64.results.toList K) (fr0 Try.f64 [.agg x0]) h = impl_IsSet_main S K x0 h := by kernel_rfl
theorem impl_IsSet_call (x0 : List AVal) (h : H) (K : Bool → H → Prop) (hm : impl_IsSet_main (Sat Try.prog) (fun v h' => ∃ r, v = .bool r ∧ K r h') x0 h) : callB (Sat Try.prog) i_impl_IsSet [.agg x0] h K := by
  have := Sat.ex tok mixed impl_IsSet_M Try.func64 (c := bodyOf Try.f64) (by kernel_rfl) (calls_of Try.func64 (c := bodyOf Try.f64) (by kernel_rfl) (by decide)) ((impl_IsSet_main_link _ _ x0 h).mpr hm)
  obtain ⟨v, h2, h3, r, rfl, h4⟩ := this; exact ⟨r, h2, h3, h4⟩

/-! ### loop.example/g01354/spec.l04Find -/
def spec_l04Find_M : Nat → List Nat := fun i => bif i == 0 then [0, 1, 5, 6] else []
def spec_l04Find_ks2 (S : SatT) (K : AVal → H → Prop) : Kont := kSeq (cwp S tab spec_l04Find_M [] (sub [1, 1, 1] (bodyOf Try.f68)) (kFun tab (Try.f68).results.toList K)) (kFun tab (Try.f68).results.toList K)
def spec_l04Find_e0 (s0_ : Sl) (i1_ : Int) (i5_ : Int) (i6_ : Int) : Frame := [.sl s0_, .int .i64 i1_, U, U, U, .int .i64 i5_, .int .i64 i6_, U, U, U, U, U, U, U, U, U, U, U, U, U, U, U, U, U, U, U, U, U, U, U, U, U, U, U, U, U, U, U, U]
def spec_l04Find_w0 (S : SatT) (K : AVal → H → Prop) : (Frame → H → Prop) → Frame → H → Prop := fun X fr h => cwp S tab spec_l04Find_M (spec_l04Find_M 0) (sub [1, 1, 0, 0, 0] (bodyOf Try.f68)) (kSeq (fun fr h => X (mask (spec_l04Find_M 0) fr) h) (kBlk 0 (spec_l04Find_ks2 S K))) fr h
def spec_l04Find_L0 (S : SatT) (K : AVal → H → Prop) (s0_ : Sl) (i1_ : Int) (i5_ : Int) (i6_ : Int) (h : H) : Prop := loopK (spec_l04Find_w0 S K) (spec_l04Find_e0 s0_ i1_ i5_ i6_) h
def spec_l04Find_C0 (S : SatT) (K : AVal → H → Prop) (s0_ : Sl) (i1_ : Int) (i5_ : Int) (h : H) : Prop :=
 bif (decide (i5_ < (s0_.len : Int))) then
 ixS s0_ 1 i5_ fun p0 =>
 ldI .i64 p0 h fun n1 =>
 bif (n1 == i1_) then
 K (.int .i64 i5_) h
 else
 K (.int .i64 (-1)) h
 else
 K (.int .i64 (-1)) h
def spec_l04Find_b0 (S : SatT) (K : AVal → H → Prop) (X0 : Frame → H → Prop) (s0_ : Sl) (i1_ : Int) (i5_ : Int) (i6_ : Int) (h : H) : Prop :=
 bif (decide (i5_ < i6_)) then
 nz (2) (
 ixS s0_ 1 (w64 (Int.tdiv (w64 (i5_ + i6_)) (2))) fun p0 =>
 ldI .i64 p0 h fun n1 =>
 bif (decide (n1 < i1_)) then
 X0 (spec_l04Find_e0 s0_ i1_ (w64 ((w64 (Int.tdiv (w64 (i5_ + i6_)) (2))) + (1))) i6_) h
 else
 X0 (spec_l04Find_e0 s0_ i1_ i5_ (w64 (Int.tdiv (w64 (i5_ + i6_)) (2)))) h)
 else
 spec_l04Find_C0 S K s0_ i1_ i5_ h
theorem spec_l04Find_link0 (S : SatT) (K : AVal → H → Prop) (X0 : Frame → H → Prop) (s0_ : Sl) (i1_ : Int) (i5_ : Int) (i6_ : Int) (h : H) : spec_l04Find_w0 S K X0 (spec_l04Find_e0 s0_ i1_ i5_ i6_) h = spec_l04Find_b0 S K X0 s0_ i1_ i5_ i6_ h := by kernel_rfl
theorem spec_l04Find_rule0 (S : SatT) (K : AVal → H → Prop) (s0_ : Sl) (i1_ : Int) (I_ : Int → Int → H → Prop) (m_ : Int → Int → H → Nat)
    (hs : ∀ (X0 : Frame → H → Prop) (i5_ : Int) (i6_ : Int) (h : H), I_ i5_ i6_ h → (∀ (i5_' : Int) (i6_' : Int) (h' : H), I_ i5_' i6_' h' → m_ i5_' i6_' h' < m_ i5_ i6_ h → X0 (spec_l04Find_e0 s0_ i1_ i5_' i6_') h') → spec_l04Find_b0 S K X0 s0_ i1_ i5_ i6_ h) (i5_ : Int) (i6_ : Int) {h : H} (h0 : I_ i5_ i6_ h) : spec_l04Find_L0 S K s0_ i1_ i5_ i6_ h :=
  loop_rule (σ := (Int) × (Int)) (fun s_ => spec_l04Find_e0 s0_ i1_ (s_.1) (s_.2)) (fun s_ h => I_ (s_.1) (s_.2) h) (fun s_ h => m_ (s_.1) (s_.2) h)
    (fun X s_ h hi hx => (spec_l04Find_link0 S K X s0_ i1_ (s_.1) (s_.2) h).mpr (hs X (s_.1) (s_.2) h hi fun i5_' i6_' h' hi' hm' => hx (i5_', i6_') h' hi' hm')) (i5_, i6_) h0
theorem spec_l04Find_unroll0 (S : SatT) (K : AVal → H → Prop) (s0_ : Sl) (i1_ : Int) (i5_ : Int) (i6_ : Int) (h : H) (hb : spec_l04Find_b0 S K (fun fr h => loopK (spec_l04Find_w0 S K) fr h) s0_ i1_ i5_ i6_ h) : spec_l04Find_L0 S K s0_ i1_ i5_ i6_ h := loop_unroll ((spec_l04Find_link0 S K _ s0_ i1_ i5_ i6_ h).mpr hb)
def spec_l04Find_main (S : SatT) (K : AVal → H → Prop) (x0 : Sl) (x1 : Int) (h : H) : Prop :=
 spec_l04Find_L0 S K x0 x1 (0) (x0.len : Int) h
theorem spec_l04Find_main_link (S : SatT) (K : AVal → H → Prop) (x0 : Sl) (x1 : Int) (h : H) : cwp S tab spec_l04Find_M [] (bodyOf Try.f68) (kFun tab Try.f68.results.toList K) (fr0 Try.f68 [.sl x0, .int .i64 x1]) h = spec_l04Find_main S K x0 x1 h := by kernel_rfl
theorem spec_l04Find_call (x0 : Sl) (x1 : Int) (h : H) (K : Int → H → Prop) (hm : spec_l04Find_main (Sat Try.prog) (fun v h' => ∃ r, v = .int .i64 r ∧ K r h') x0 x1 h) : callI (Sat Try.prog) .i64 i_spec_l04Find [.sl x0, .int .i64 x1] h K := by
  have := Sat.ex tok mixed spec_l04Find_M Try.func68 (c := bodyOf Try.f68) (by kernel_rfl) (calls_of Try.func68 (c := bodyOf Try.f68) (by kernel_rfl) (by decide)) ((spec_l04Find_main_link _ _ x0 x1 h).mpr hm)
  obtain ⟨v, h2, h3, r, rfl, h4⟩ := this; exact ⟨r, h2, h3, h4⟩

/-! ### loop.example/g01354/spec.l01Before -/
def spec_l01Before_M : Nat → List Nat := fun i => bif i == 0 then [2, 3, 5] else []
def spec_l01Before_ks1 (S : SatT) (K : AVal → H → Prop) : Kont := kSeq (cwp S tab spec_l01Before_M [] (sub [1, 1] (bodyOf Try.f59)) (kFun tab (Try.f59).results.toList K)) (kFun tab (Try.f59).results.toList K)
def spec_l01Before_e0 (p2_ : Pt) (p3_ : Pt) (i5_ : Int) : Frame := [U, U, .ptr p2_, .ptr p3_, U, .int .i64 i5_, U, U, U, U, U, U, U, U, U, U, U, U, U, U, U, U, U, U]
def spec_l01Before_w0 (S : SatT) (K : AVal → H → Prop) : (Frame → H → Prop) → Frame → H → Prop := fun X fr h => cwp S tab spec_l01Before_M (spec_l01Before_M 0) (sub [1, 0, 1, 0, 0] (bodyOf Try.f59)) (kSeq (fun fr h => X (mask (spec_l01Before_M 0) fr) h) (kBlk 0 (spec_l01Before_ks1 S K))) fr h
def spec_l01Before_L0 (S : SatT) (K : AVal → H → Prop) (p2_ : Pt) (p3_ : Pt) (i5_ : Int) (h : H) : Prop := loopK (spec_l01Before_w0 S K) (spec_l01Before_e0 p2_ p3_ i5_) h
def spec_l01Before_C0 (S : SatT) (K : AVal → H → Prop) (h : H) : Prop :=
 K (.bool false) h
def spec_l01Before_b0 (S : SatT) (K : AVal → H → Prop) (X0 : Frame → H → Prop) (p2_ : Pt) (p3_ : Pt) (i5_ : Int) (h : H) : Prop :=
 bif (decide (i5_ < (4))) then
 ixA p2_ 4 1 i5_ fun p0 =>
 ldI .i64 p0 h fun n1 =>
 ixA p3_ 4 1 i5_ fun p2 =>
 ldI .i64 p2 h fun n3 =>
 bif (n1 != n3) then
 ixA p2_ 4 1 i5_ fun p4 =>
 ldI .i64 p4 h fun n5 =>
 ixA p3_ 4 1 i5_ fun p6 =>
 ldI .i64 p6 h fun n7 =>
 K (.bool (decide (n5 < n7))) h
 else
 X0 (spec_l01Before_e0 p2_ p3_ (w64 (i5_ + (1)))) h
 else
 spec_l01Before_C0 S K h
theorem spec_l01Before_link0 (S : SatT) (K : AVal → H → Prop) (X0 : Frame → H → Prop) (p2_ : Pt) (p3_ : Pt) (i5_ : Int) (h : H) : spec_l01Before_w0 S K X0 (spec_l01Before_e0 p2_ p3_ i5_) h = spec_l01Before_b0 S K X0 p2_ p3_ i5_ h := by kernel_rfl
theorem spec_l01Before_rule0 (S : SatT) (K : AVal → H → Prop) (p2_ : Pt) (p3_ : Pt) (I_ : Int → H → Prop) (m_ : Int → H → Nat)
    (hs : ∀ (X0 : Frame → H → Prop) (i5_ : Int) (h : H), I_ i5_ h → (∀ (i5_' : Int) (h' : H), I_ i5_' h' → m_ i5_' h' < m_ i5_ h → X0 (spec_l01Before_e0 p2_ p3_ i5_') h') → spec_l01Before_b0 S K X0 p2_ p3_ i5_ h) (i5_ : Int) {h : H} (h0 : I_ i5_ h) : spec_l01Before_L0 S K p2_ p3_ i5_ h :=
  loop_rule (σ := (Int)) (fun s_ => spec_l01Before_e0 p2_ p3_ (s_)) (fun s_ h => I_ (s_) h) (fun s_ h => m_ (s_) h)
    (fun X s_ h hi hx => (spec_l01Before_link0 S K X p2_ p3_ (s_) h).mpr (hs X (s_) h hi fun i5_' h' hi' hm' => hx (i5_') h' hi' hm')) (i5_) h0
theorem spec_l01Before_unroll0 (S : SatT) (K : AVal → H → Prop) (p2_ : Pt) (p3_ : Pt) (i5_ : Int) (h : H) (hb : spec_l01Before_b0 S K (fun fr h => loopK (spec_l01Before_w0 S K) fr h) p2_ p3_ i5_ h) : spec_l01Before_L0 S K p2_ p3_ i5_ h := loop_unroll ((spec_l01Before_link0 S K _ p2_ p3_ i5_ h).mpr hb)
def spec_l01Before_main (S : SatT) (K : AVal → H → Prop) (x0 : List AVal) (x1 : List AVal) (h : H) : Prop :=
 newK 4 x0 h fun p0 h1 =>
 newK 4 x1 h1 fun p2 h3 =>
 spec_l01Before_L0 S K p0 p2 (0) h3
theorem spec_l01Before_main_link (S : SatT) (K : AVal → H → Prop) (x0 : List AVal) (x1 : List AVal) (h : H) : cwp S tab spec_l01Before_M [] (bodyOf Try.f59) (kFun tab Try.f59.results.toList K) (fr0 Try.f59 [.agg x0, .agg x1]) h = spec_l01Before_main S K x0 x1 h := by kernel_rfl
theorem spec_l01Before_call (x0 : List AVal) (x1 : List AVal) (h : H) (K : Bool → H → Prop) (hm : spec_l01Before_main (Sat Try.prog) (fun v h' => ∃ r, v = .bool r ∧ K r h') x0 x1 h) : callB (Sat Try.prog) i_spec_l01Before [.agg x0, .agg x1] h K := by
  have := Sat.ex tok mixed spec_l01Before_M Try.func59 (c := bodyOf Try.f59) (by kernel_rfl) (calls_of Try.func59 (c := bodyOf Try.f59) (by kernel_rfl) (by decide)) ((spec_l01Before_main_link _ _ x0 x1 h).mpr hm)
  obtain ⟨v, h2, h3, r, rfl, h4⟩ := this; exact ⟨r, h2, h3, h4⟩

/-! ### loop.example/g01354/laws.markInt64S -/
def laws_markInt64S_M : Nat → List Nat := fun i => bif i == 0 then [0, 1, 5] else []
def laws_markInt64S_ks1 (S : SatT) (K : AVal → H → Prop) : Kont := kSeq (cwp S tab laws_markInt64S_M [] (sub [1, 1] (bodyOf Try.f19)) (kFun tab (Try.f19).results.toList K)) (kFun tab (Try.f19).results.toList K)
def laws_markInt64S_e0 (s0_ : Sl) (i1_ : Int) (i5_ : Int) : Frame := [.sl s0_, .int .i64 i1_, U, U, U, .int .i64 i5_, U, U, U, U, U, U, U, U, U, U, U, U, U]
def laws_markInt64S_w0 (S : SatT) (K : AVal → H → Prop) : (Frame → H → Prop) → Frame → H → Prop := fun X fr h => cwp S tab laws_markInt64S_M (laws_markInt64S_M 0) (sub [1, 0, 1, 0, 0] (bodyOf Try.f19)) (kSeq (fun fr h => X (mask (laws_markInt64S_M 0) fr) h) (kBlk 0 (laws_markInt64S_ks1 S K))) fr h
def laws_markInt64S_L0 (S : SatT) (K : AVal → H → Prop) (s0_ : Sl) (i1_ : Int) (i5_ : Int) (h : H) : Prop := loopK (laws_markInt64S_w0 S K) (laws_markInt64S_e0 s0_ i1_ i5_) h
def laws_markInt64S_C0 (S : SatT) (K : AVal → H → Prop) (i1_ : Int) (h : H) : Prop :=
 K (.int .i64 i1_) h
def laws_markInt64S_b0 (S : SatT) (K : AVal → H → Prop) (X0 : Frame → H → Prop) (s0_ : Sl) (i1_ : Int) (i5_ : Int) (h : H) : Prop :=
 bif (decide (i5_ < (s0_.len : Int))) then
 ixS s0_ 1 i5_ fun p0 =>
 st1 p0 (.int .i64 i1_) h fun h1 =>
 X0 (laws_markInt64S_e0 s0_ (w64 (i1_ + (1))) (w64 (i5_ + (1)))) h1
 else
 laws_markInt64S_C0 S K i1_ h
theorem laws_markInt64S_link0 (S : SatT) (K : AVal → H → Prop) (X0 : Frame → H → Prop) (s0_ : Sl) (i1_ : Int) (i5_ : Int) (h : H) : laws_markInt64S_w0 S K X0 (laws_markInt64S_e0 s0_ i1_ i5_) h = laws_markInt64S_b0 S K X0 s0_ i1_ i5_ h := by kernel_rfl
theorem laws_markInt64S_rule0 (S : SatT) (K : AVal → H → Prop) (s0_ : Sl) (I_ : Int → Int → H → Prop) (m_ : Int → Int → H → Nat)
    (hs : ∀ (X0 : Frame → H → Prop) (i1_ : Int) (i5_ : Int) (h : H), I_ i1_ i5_ h → (∀ (i1_' : Int) (i5_' : Int) (h' : H), I_ i1_' i5_' h' → m_ i1_' i5_' h' < m_ i1_ i5_ h → X0 (laws_markInt64S_e0 s0_ i1_' i5_') h') → laws_markInt64S_b0 S K X0 s0_ i1_ i5_ h) (i1_ : Int) (i5_ : Int) {h : H} (h0 : I_ i1_ i5_ h) : laws_markInt64S_L0 S K s0_ i1_ i5_ h :=
  loop_rule (σ := (Int) × (Int)) (fun s_ => laws_markInt64S_e0 s0_ (s_.1) (s_.2)) (fun s_ h => I_ (s_.1) (s_.2) h) (fun s_ h => m_ (s_.1) (s_.2) h)
    (fun X s_ h hi hx => (laws_markInt64S_link0 S K X s0_ (s_.1) (s_.2) h).mpr (hs X (s_.1) (s_.2) h hi fun i1_' i5_' h' hi' hm' => hx (i1_', i5_') h' hi' hm')) (i1_, i5_) h0
theorem laws_markInt64S_unroll0 (S : SatT) (K : AVal → H → Prop) (s0_ : Sl) (i1_ : Int) (i5_ : Int) (h : H) (hb : laws_markInt64S_b0 S K (fun fr h => loopK (laws_markInt64S_w0 S K) fr h) s0_ i1_ i5_ h) : laws_markInt64S_L0 S K s0_ i1_ i5_ h := loop_unroll ((laws_markInt64S_link0 S K _ s0_ i1_ i5_ h).mpr hb)
def laws_markInt64S_main (S : SatT) (K : AVal → H → Prop) (x0 : Sl) (x1 : Int) (h : H) : Prop :=
 laws_markInt64S_L0 S K x0 x1 (0) h
theorem laws_markInt64S_main_link (S : SatT) (K : AVal → H → Prop) (x0 : Sl) (x1 : Int) (h : H) : cwp S tab laws_markInt64S_M [] (bodyOf Try.f19) (kFun tab Try.f19.results.toList K) (fr0 Try.f19 [.sl x0, .int .i64 x1]) h = laws_markInt64S_main S K x0 x1 h := by kernel_rfl
theorem laws_markInt64S_call (x0 : Sl) (x1 : Int) (h : H) (K : Int → H → Prop) (hm : laws_markInt64S_main (Sat Try.prog) (fun v h' => ∃ r, v = .int .i64 r ∧ K r h') x0 x1 h) : callI (Sat Try.prog) .i64 i_laws_markInt64S [.sl x0, .int .i64 x1] h K := by
  have := Sat.ex tok mixed laws_markInt64S_M Try.func19 (c := bodyOf Try.f19) (by kernel_rfl) (calls_of Try.func19 (c := bodyOf Try.f19) (by kernel_rfl) (by decide)) ((laws_markInt64S_main_link _ _ x0 x1 h).mpr hm)
  obtain ⟨v, h2, h3, r, rfl, h4⟩ := this; exact ⟨r, h2, h3, h4⟩

/-! ### loop.example/g01354/laws.eqTile -/
def laws_eqTile_M : Nat → List Nat := fun i => bif i == 0 then [2, 3, 5] else []
def laws_eqTile_ks1 (S : SatT) (K : AVal → H → Prop) : Kont := kSeq (cwp S tab laws_eqTile_M [] (sub [1, 1] (bodyOf Try.f66)) (kFun tab (Try.f66).results.toList K)) (kFun tab (Try.f66).results.toList K)
def laws_eqTile_e0 (p2_ : Pt) (p3_ : Pt) (i5_ : Int) : Frame := [U, U, .ptr p2_, .ptr p3_, U, .int .i64 i5_, U, U, U, U, U, U, U, U, U, U, U]
def laws_eqTile_w0 (S : SatT) (K : AVal → H → Prop) : (Frame → H → Prop) → Frame → H → Prop := fun X fr h => cwp S tab laws_eqTile_M (laws_eqTile_M 0) (sub [1, 0, 1, 0, 0] (bodyOf Try.f66)) (kSeq (fun fr h => X (mask (laws_eqTile_M 0) fr) h) (kBlk 0 (laws_eqTile_ks1 S K))) fr h
def laws_eqTile_L0 (S : SatT) (K : AVal → H → Prop) (p2_ : Pt) (p3_ : Pt) (i5_ : Int) (h : H) : Prop := loopK (laws_eqTile_w0 S K) (laws_eqTile_e0 p2_ p3_ i5_) h
def laws_eqTile_C0 (S : SatT) (K : AVal → H → Prop) (h : H) : Prop :=
 K (.bool true) h
def laws_eqTile_b0 (S : SatT) (K : AVal → H → Prop) (X0 : Frame → H → Prop) (p2_ : Pt) (p3_ : Pt) (i5_ : Int) (h : H) : Prop :=
 bif (decide (i5_ < (4))) then
 ixA p2_ 4 1 i5_ fun p0 =>
 ldI .i64 p0 h fun n1 =>
 ixA p3_ 4 1 i5_ fun p2 =>
 ldI .i64 p2 h fun n3 =>
 bif (n1 != n3) then
 K (.bool false) h
 else
 X0 (laws_eqTile_e0 p2_ p3_ (w64 (i5_ + (1)))) h
 else
 laws_eqTile_C0 S K h
theorem laws_eqTile_link0 (S : SatT) (K : AVal → H → Prop) (X0 : Frame → H → Prop) (p2_ : Pt) (p3_ : Pt) (i5_ : Int) (h : H) : laws_eqTile_w0 S K X0 (laws_eqTile_e0 p2_ p3_ i5_) h = laws_eqTile_b0 S K X0 p2_ p3_ i5_ h := by kernel_rfl
theorem laws_eqTile_rule0 (S : SatT) (K : AVal → H → Prop) (p2_ : Pt) (p3_ : Pt) (I_ : Int → H → Prop) (m_ : Int → H → Nat)
    (hs : ∀ (X0 : Frame → H → Prop) (i5_ : Int) (h : H), I_ i5_ h → (∀ (i5_' : Int) (h' : H), I_ i5_' h' → m_ i5_' h' < m_ i5_ h → X0 (laws_eqTile_e0 p2_ p3_ i5_') h') → laws_eqTile_b0 S K X0 p2_ p3_ i5_ h) (i5_ : Int) {h : H} (h0 : I_ i5_ h) : laws_eqTile_L0 S K p2_ p3_ i5_ h :=
  loop_rule (σ := (Int)) (fun s_ => laws_eqTile_e0 p2_ p3_ (s_)) (fun s_ h => I_ (s_) h) (fun s_ h => m_ (s_) h)
    (fun X s_ h hi hx => (laws_eqTile_link0 S K X p2_ p3_ (s_) h).mpr (hs X (s_) h hi fun i5_' h' hi' hm' => hx (i5_') h' hi' hm')) (i5_) h0
theorem laws_eqTile_unroll0 (S : SatT) (K : AVal → H → Prop) (p2_ : Pt) (p3_ : Pt) (i5_ : Int) (h : H) (hb : laws_eqTile_b0 S K (fun fr h => loopK (laws_eqTile_w0 S K) fr h) p2_ p3_ i5_ h) : laws_eqTile_L0 S K p2_ p3_ i5_ h := loop_unroll ((laws_eqTile_link0 S K _ p2_ p3_ i5_ h).mpr hb)
def laws_eqTile_main (S : SatT) (K : AVal → H → Prop) (x0 : List AVal) (x1 : List AVal) (h : H) : Prop :=
 newK 4 x0 h fun p0 h1 =>
 newK 4 x1 h1 fun p2 h3 =>
 laws_eqTile_L0 S K p0 p2 (0) h3
theorem laws_eqTile_main_link (S : SatT) (K : AVal → H → Prop) (x0 : List AVal) (x1 : List AVal) (h : H) : cwp S tab laws_eqTile_M [] (bodyOf Try.f66) (kFun tab Try.f66.results.toList K) (fr0 Try.f66 [.agg x0, .agg x1]) h = laws_eqTile_main S K x0 x1 h := by kernel_rfl
theorem laws_eqTile_call (x0 : List AVal) (x1 : List AVal) (h : H) (K : Bool → H → Prop) (hm : laws_eqTile_main (Sat Try.prog) (fun v h' => ∃ r, v = .bool r ∧ K r h') x0 x1 h) : callB (Sat Try.prog) i_laws_eqTile [.agg x0, .agg x1] h K := by
  have := Sat.ex tok mixed laws_eqTile_M Try.func66 (c := bodyOf Try.f66) (by kernel_rfl) (calls_of Try.func66 (c := bodyOf Try.f66) (by kernel_rfl) (by decide)) ((laws_eqTile_main_link _ _ x0 x1 h).mpr hm)
  obtain ⟨v, h2, h3, r, rfl, h4⟩ := this; exact ⟨r, h2, h3, h4⟩

/-! ### loop.example/g01354/impl.setOf -/
def impl_setOf_M : Nat → List Nat := fun i => []
def impl_setOf_main (S : SatT) (K : AVal → H → Prop) (x0 : Int) (x1 : Sl) (h : H) : Prop :=
 newO [.int .i64 (0), .sl Sl.nil] h fun p0 h1 =>
 callV S i_slices_Values_s_impl_Tile_impl_Tile_ [.sl x1] h1 fun v3 h2 =>
 callS S i_slices_SortedFunc_impl_Tile_ [v3, .func 55 []] h2 fun s5 h4 =>
 callS S i_slices_Compact_s_impl_Tile_impl_Tile_ [.sl s5] h4 fun s7 h6 =>
 newO [.int .i64 (0), .sl Sl.nil] h6 fun p8 h9 =>
 stN p8 2 [.int .i64 x0, .sl s7] h9 fun h10 =>
 ldA p8 2 h10 fun cs11 =>
 isPt p8 (
 ldI .i64 (Pt.add p8 0) h10 fun n12 =>
 bif (decide (n12 ≤ (6))) then
 isPt p8 (
 ldS (Pt.add p8 1) h10 fun s13 =>
 stN p0 2 cs11 h10 fun h14 =>
(cell h14 (Pt.add p8 1) = cell h10 (Pt.add p8 1)) ∧ (
 ldA p0 2 h14 fun cs15 =>
 K (.tuple [.agg cs15, .bool (decide ((s13.len : Int) ≤ (16)))]) h14))
 else
 stN p0 2 cs11 h10 fun h16 =>
 ldA p0 2 h16 fun cs17 =>
 K (.tuple [.agg cs17, .bool false]) h16)
theorem impl_setOf_main_link (S : SatT) (K : AVal → H → Prop) (x0 : Int) (x1 : Sl) (h : H) : cwp S tab impl_setOf_M [] (bodyOf Try.f85) (kFun tab Try.f85.results.toList K) (fr0 Try.f85 [.int .i64 x0, .sl x1]) h = impl_setOf_main S K x0 x1 h := by kernel_rfl
theorem impl_setOf_call (x0 : Int) (x1 : Sl) (h : H) (K : AVal → H → Prop) (hm : impl_setOf_main (Sat Try.prog) (fun v h' => K v h') x0 x1 h) : callV (Sat Try.prog) i_impl_setOf [.int .i64 x0, .sl x1] h K := by
  have := Sat.ex tok mixed impl_setOf_M Try.func85 (c := bodyOf Try.f85) (by kernel_rfl) (calls_of Try.func85 (c := bodyOf Try.f85) (by kernel_rfl) (by decide)) ((impl_setOf_main_link _ _ x0 x1 h).mpr hm)
  exact this

/-! ### loop.example/g01354/impl.limited -/
def impl_limited_M : Nat → List Nat := fun i => []
def impl_limited_main (S : SatT) (K : AVal → H → Prop) (x0 : Int) (x1 : Sl) (h : H) : Prop :=
 newO [.int .i64 (0), .sl Sl.nil] h fun p0 h1 =>
 callV S i_impl_setOf [.int .i64 x0, .sl x1] h1 fun v3 h2 =>
 viaT v3 fun vs4 =>
 exA vs4 0 fun cs5 =>
 viaT v3 fun vs6 =>
 exB vs6 1 fun b7 =>
 newO [.int .i64 (0), .sl Sl.nil] h2 fun p8 h9 =>
 stN p8 2 cs5 h9 fun h10 =>
 bif (!b7) then
 stN p0 2 [.int .i64 (0), .sl Sl.nil] h10 fun h11 =>
 ldA p0 2 h11 fun cs12 =>
 K (.tuple [.agg cs12, .int .i64 (3)]) h11
 else
 ldA p8 2 h10 fun cs13 =>
 stN p0 2 cs13 h10 fun h14 =>
 ldA p0 2 h14 fun cs15 =>
 K (.tuple [.agg cs15, .int .i64 (0)]) h14
theorem impl_limited_main_link (S : SatT) (K : AVal → H → Prop) (x0 : Int) (x1 : Sl) (h : H) : cwp S tab impl_limited_M [] (bodyOf Try.f65) (kFun tab Try.f65.results.toList K) (fr0 Try.f65 [.int .i64 x0, .sl x1]) h = impl_limited_main S K x0 x1 h := by kernel_rfl
theorem impl_limited_call (x0 : Int) (x1 : Sl) (h : H) (K : AVal → H → Prop) (hm : impl_limited_main (Sat Try.prog) (fun v h' => K v h') x0 x1 h) : callV (Sat Try.prog) i_impl_limited [.int .i64 x0, .sl x1] h K := by
  have := Sat.ex tok mixed impl_limited_M Try.func65 (c := bodyOf Try.f65) (by kernel_rfl) (calls_of Try.func65 (c := bodyOf Try.f65) (by kernel_rfl) (by decide)) ((impl_limited_main_link _ _ x0 x1 h).mpr hm)
  exact this

/-! ### cmp.Compare[int64] -/
def cmp_Compare_int64__M : Nat → List Nat := fun i => []
def cmp_Compare_int64__main (S : SatT) (K : AVal → H → Prop) (x0 : Int) (x1 : Int) (h : H) : Prop :=
 callB S i_cmp_isNaN_int64_ [.int .i64 x0] h fun b1 h0 =>
 callB S i_cmp_isNaN_int64_ [.int .i64 x1] h0 fun b3 h2 =>
 bif b1 then
 bif b3 then
 K (.int .i64 (0)) h2
 else
 K (.int .i64 (-1)) h2
 else
 bif b3 then
 K (.int .i64 (1)) h2
 else
 bif (decide (x0 < x1)) then
 K (.int .i64 (-1)) h2
 else
 bif (decide (x0 > x1)) then
 K (.int .i64 (1)) h2
 else
 K (.int .i64 (0)) h2
theorem cmp_Compare_int64__main_link (S : SatT) (K : AVal → H → Prop) (x0 : Int) (x1 : Int) (h : H) : cwp S tab cmp_Compare_int64__M [] (bodyOf Try.f91) (kFun tab Try.f91.results.toList K) (fr0 Try.f91 [.int .i64 x0, .int .i64 x1]) h = cmp_Compare_int64__main S K x0 x1 h := by kernel_rfl
theorem cmp_Compare_int64__call (x0 : Int) (x1 : Int) (h : H) (K : Int → H → Prop) (hm : cmp_Compare_int64__main (Sat Try.prog) (fun v h' => ∃ r, v = .int .i64 r ∧ K r h') x0 x1 h) : callI (Sat Try.prog) .i64 i_cmp_Compare_int64_ [.int .i64 x0, .int .i64 x1] h K := by
  have := Sat.ex tok mixed cmp_Compare_int64__M Try.func91 (c := bodyOf Try.f91) (by kernel_rfl) (calls_of Try.func91 (c := bodyOf Try.f91) (by kernel_rfl) (by decide)) ((cmp_Compare_int64__main_link _ _ x0 x1 h).mpr hm)
  obtain ⟨v, h2, h3, r, rfl, h4⟩ := this; exact ⟨r, h2, h3, h4⟩

/-! ### slices.ContainsFunc[[]int64,int64] -/
def slices_ContainsFunc_s_int64_int64__M : Nat → List Nat := fun i => []
def slices_ContainsFunc_s_int64_int64__main (S : SatT) (K : AVal → H → Prop) (x0 : Sl) (x1 : AVal) (h : H) : Prop :=
 callI S .i64 i_slices_IndexFunc_s_int64_int64_ [.sl x0, x1] h fun n1 h0 =>
 K (.bool (decide (n1 ≥ (0)))) h0
theorem slices_ContainsFunc_s_int64_int64__main_link (S : SatT) (K : AVal → H → Prop) (x0 : Sl) (x1 : AVal) (h : H) : cwp S tab slices_ContainsFunc_s_int64_int64__M [] (bodyOf Try.f92) (kFun tab Try.f92.results.toList K) (fr0 Try.f92 [.sl x0, x1]) h = slices_ContainsFunc_s_int64_int64__main S K x0 x1 h := by kernel_rfl
theorem slices_ContainsFunc_s_int64_int64__call (x0 : Sl) (x1 : AVal) (h : H) (K : Bool → H → Prop) (hm : slices_ContainsFunc_s_int64_int64__main (Sat Try.prog) (fun v h' => ∃ r, v = .bool r ∧ K r h') x0 x1 h) : callB (Sat Try.prog) i_slices_ContainsFunc_s_int64_int64_ [.sl x0, x1] h K := by
  have := Sat.ex tok mixed slices_ContainsFunc_s_int64_int64__M Try.func92 (c := bodyOf Try.f92) (by kernel_rfl) (calls_of Try.func92 (c := bodyOf Try.f92) (by kernel_rfl) (by decide)) ((slices_ContainsFunc_s_int64_int64__main_link _ _ x0 x1 h).mpr hm)
  obtain ⟨v, h2, h3, r, rfl, h4⟩ := this; exact ⟨r, h2, h3, h4⟩

/-! ### loop.example/g01354/impl.compare -/
def impl_compare_M : Nat → List Nat := fun i => []
def impl_compare_main (S : SatT) (K : AVal → H → Prop) (x0 : List AVal) (x1 : List AVal) (h : H) : Prop :=
 newK 4 x0 h fun p0 h1 =>
 newK 4 x1 h1 fun p2 h3 =>
 cutA p0 4 1 (0) ((4 : Nat) : Int) fun s4 =>
 cutA p2 4 1 (0) ((4 : Nat) : Int) fun s5 =>
 callI S .i64 i_slices_Compare_s_int64_int64_ [.sl s4, .sl s5] h3 fun n7 h6 =>
 K (.int .i64 n7) h6
theorem impl_compare_main_link (S : SatT) (K : AVal → H → Prop) (x0 : List AVal) (x1 : List AVal) (h : H) : cwp S tab impl_compare_M [] (bodyOf Try.f55) (kFun tab Try.f55.results.toList K) (fr0 Try.f55 [.agg x0, .agg x1]) h = impl_compare_main S K x0 x1 h := by kernel_rfl
theorem impl_compare_call (x0 : List AVal) (x1 : List AVal) (h : H) (K : Int → H → Prop) (hm : impl_compare_main (Sat Try.prog) (fun v h' => ∃ r, v = .int .i64 r ∧ K r h') x0 x1 h) : callI (Sat Try.prog) .i64 i_impl_compare [.agg x0, .agg x1] h K := by
  have := Sat.ex tok mixed impl_compare_M Try.func55 (c := bodyOf Try.f55) (by kernel_rfl) (calls_of Try.func55 (c := bodyOf Try.f55) (by kernel_rfl) (by decide)) ((impl_compare_main_link _ _ x0 x1 h).mpr hm)
  obtain ⟨v, h2, h3, r, rfl, h4⟩ := this; exact ⟨r, h2, h3, h4⟩

/-! ### loop.example/g01354/laws.heldSet -/
def laws_heldSet_M : Nat → List Nat := fun i => []
def laws_heldSet_main (S : SatT) (K : AVal → H → Prop) (x0 : List AVal) (x1 : Int) (h : H) : Prop :=
 newK 2 x0 h fun p0 h1 =>
 isPt p0 (
 ldS (Pt.add p0 1) h1 fun s2 =>
 callI S .i64 i_laws_heldTileS [.sl s2, .int .i64 x1] h1 fun n4 h3 =>
 bif (decide (n4 < (0))) then
 K (.int .i64 (-1)) h3
 else
 K (.int .i64 n4) h3)
theorem laws_heldSet_main_link (S : SatT) (K : AVal → H → Prop) (x0 : List AVal) (x1 : Int) (h : H) : cwp S tab laws_heldSet_M [] (bodyOf Try.f14) (kFun tab Try.f14.results.toList K) (fr0 Try.f14 [.agg x0, .int .i64 x1]) h = laws_heldSet_main S K x0 x1 h := by kernel_rfl
theorem laws_heldSet_call (x0 : List AVal) (x1 : Int) (h : H) (K : Int → H → Prop) (hm : laws_heldSet_main (Sat Try.prog) (fun v h' => ∃ r, v = .int .i64 r ∧ K r h') x0 x1 h) : callI (Sat Try.prog) .i64 i_laws_heldSet [.agg x0, .int .i64 x1] h K := by
  have := Sat.ex tok mixed laws_heldSet_M Try.func14 (c := bodyOf Try.f14) (by kernel_rfl) (calls_of Try.func14 (c := bodyOf Try.f14) (by kernel_rfl) (by decide)) ((laws_heldSet_main_link _ _ x0 x1 h).mpr hm)
  obtain ⟨v, h2, h3, r, rfl, h4⟩ := this; exact ⟨r, h2, h3, h4⟩

/-! ### loop.example/g01354/spec.l01Made -/
def spec_l01Made_M : Nat → List Nat := fun i => []
def spec_l01Made_main (S : SatT) (K : AVal → H → Prop) (x0 : Int) (x1 : Sl) (h : H) : Prop :=
 newO [.int .i64 (0), .sl Sl.nil] h fun p0 h1 =>
 callS S i_spec_l01Sort [.sl x1] h1 fun s3 h2 =>
 stN p0 2 [.int .i64 x0, .sl s3] h2 fun h4 =>
 ldA p0 2 h4 fun cs5 =>
 K (.agg cs5) h4
theorem spec_l01Made_main_link (S : SatT) (K : AVal → H → Prop) (x0 : Int) (x1 : Sl) (h : H) : cwp S tab spec_l01Made_M [] (bodyOf Try.f56) (kFun tab Try.f56.results.toList K) (fr0 Try.f56 [.int .i64 x0, .sl x1]) h = spec_l01Made_main S K x0 x1 h := by kernel_rfl
theorem spec_l01Made_call (x0 : Int) (x1 : Sl) (h : H) (K : List AVal → H → Prop) (hm : spec_l01Made_main (Sat Try.prog) (fun v h' => ∃ r, v = .agg r ∧ K r h') x0 x1 h) : callA (Sat Try.prog) i_spec_l01Made [.int .i64 x0, .sl x1] h K := by
  have := Sat.ex tok mixed spec_l01Made_M Try.func56 (c := bodyOf Try.f56) (by kernel_rfl) (calls_of Try.func56 (c := bodyOf Try.f56) (by kernel_rfl) (by decide)) ((spec_l01Made_main_link _ _ x0 x1 h).mpr hm)
  obtain ⟨v, h2, h3, r, rfl, h4⟩ := this; exact ⟨r, h2, h3, h4⟩

/-! ### loop.example/g01354/laws.szTileS -/
def laws_szTileS_M : Nat → List Nat := fun i => []
def laws_szTileS_main (S : SatT) (K : AVal → H → Prop) (x0 : Sl) (x1 : Int) (h : H) : Prop :=
 bif (decide ((w64 (x1 - (x0.len : Int))) < (0))) then
 K (.int .i64 (-1)) h
 else
 K (.int .i64 (w64 (x1 - (x0.len : Int)))) h
theorem laws_szTileS_main_link (S : SatT) (K : AVal → H → Prop) (x0 : Sl) (x1 : Int) (h : H) : cwp S tab laws_szTileS_M [] (bodyOf Try.f27) (kFun tab Try.f27.results.toList K) (fr0 Try.f27 [.sl x0, .int .i64 x1]) h = laws_szTileS_main S K x0 x1 h := by kernel_rfl
theorem laws_szTileS_call (x0 : Sl) (x1 : Int) (h : H) (K : Int → H → Prop) (hm : laws_szTileS_main (Sat Try.prog) (fun v h' => ∃ r, v = .int .i64 r ∧ K r h') x0 x1 h) : callI (Sat Try.prog) .i64 i_laws_szTileS [.sl x0, .int .i64 x1] h K := by
  have := Sat.ex tok mixed laws_szTileS_M Try.func27 (c := bodyOf Try.f27) (by kernel_rfl) (calls_of Try.func27 (c := bodyOf Try.f27) (by kernel_rfl) (by decide)) ((laws_szTileS_main_link _ _ x0 x1 h).mpr hm)
  obtain ⟨v, h2, h3, r, rfl, h4⟩ := this; exact ⟨r, h2, h3, h4⟩

/-! ### loop.example/g01354/impl.stackTiles -/
def impl_stackTiles_M : Nat → List Nat := fun i => bif i == 2 then [0, 1, 6, 7, 10, 33, 34, 35] else bif i == 0 then [0, 1, 6, 7, 19, 20, 21] else []
def impl_stackTiles_ks2 (S : SatT) (K : AVal → H → Prop) : Kont := kSeq (cwp S tab impl_stackTiles_M [] (sub [1, 1, 1] (bodyOf Try.f41)) (kFun tab (Try.f41).results.toList K)) (kFun tab (Try.f41).results.toList K)
def impl_stackTiles_e0 (s0_ : Sl) (s1_ : Sl) (f6_ : AVal) (s7_ : Sl) (s19_ : Sl) (i20_ : Int) (i21_ : Int) : Frame := [.sl s0_, .sl s1_, U, U, U, U, f6_, .sl s7_, U, U, U, U, U, U, U, U, U, U, U, .sl s19_, .int .i64 i20_, .int .i64 i21_, U, U, U, U, U, U, U, U, U, U, U, U, U, U, U, U, U, U, U, U, U, U, U, U, U, U, U, U, U, U, U, U, U, U, U, U, U, U, U, U, U, U, U, U, U, U, U, U, U]
def impl_stackTiles_w0 (S : SatT) (K : AVal → H → Prop) : (Frame → H → Prop) → Frame → H → Prop := fun X fr h => cwp S tab impl_stackTiles_M (impl_stackTiles_M 0) (sub [1, 1, 0, 1, 0, 0] (bodyOf Try.f41)) (kSeq (fun fr h => X (mask (impl_stackTiles_M 0) fr) h) (kBlk 0 (impl_stackTiles_ks2 S K))) fr h
def impl_stackTiles_L0 (S : SatT) (K : AVal → H → Prop) (s0_ : Sl) (s1_ : Sl) (f6_ : AVal) (s7_ : Sl) (s19_ : Sl) (i20_ : Int) (i21_ : Int) (h : H) : Prop := loopK (impl_stackTiles_w0 S K) (impl_stackTiles_e0 s0_ s1_ f6_ s7_ s19_ i20_ i21_) h
def impl_stackTiles_ks9 (S : SatT) (K : AVal → H → Prop) : Kont := kSeq (cwp S tab impl_stackTiles_M [] (sub [1, 1, 1, 1, 1] (bodyOf Try.f41)) (kFun tab (Try.f41).results.toList K)) (kFun tab (Try.f41).results.toList K)
def impl_stackTiles_e2 (s0_ : Sl) (s1_ : Sl) (f6_ : AVal) (s7_ : Sl) (s10_ : Sl) (s33_ : Sl) (i34_ : Int) (i35_ : Int) : Frame := [.sl s0_, .sl s1_, U, U, U, U, f6_, .sl s7_, U, U, .sl s10_, U, U, U, U, U, U, U, U, U, U, U, U, U, U, U, U, U, U, U, U, U, U, .sl s33_, .int .i64 i34_, .int .i64 i35_, U, U, U, U, U, U, U, U, U, U, U, U, U, U, U, U, U, U, U, U, U, U, U, U, U, U, U, U, U, U, U, U, U, U, U]
def impl_stackTiles_w2 (S : SatT) (K : AVal → H → Prop) : (Frame → H → Prop) → Frame → H → Prop := fun X fr h => cwp S tab impl_stackTiles_M (impl_stackTiles_M 2) (sub [1, 1, 1, 1, 0, 1, 0, 0] (bodyOf Try.f41)) (kSeq (fun fr h => X (mask (impl_stackTiles_M 2) fr) h) (kBlk 2 (impl_stackTiles_ks9 S K))) fr h
def impl_stackTiles_L2 (S : SatT) (K : AVal → H → Prop) (s0_ : Sl) (s1_ : Sl) (f6_ : AVal) (s7_ : Sl) (s10_ : Sl) (s33_ : Sl) (i34_ : Int) (i35_ : Int) (h : H) : Prop := loopK (impl_stackTiles_w2 S K) (impl_stackTiles_e2 s0_ s1_ f6_ s7_ s10_ s33_ i34_ i35_) h
def impl_stackTiles_C2 (S : SatT) (K : AVal → H → Prop) (s7_ : Sl) (s10_ : Sl) (h : H) : Prop :=
 K (.tuple [.sl s10_, .int .i64 (s7_.len : Int)]) h
def impl_stackTiles_b2 (S : SatT) (K : AVal → H → Prop) (X2 : Frame → H → Prop) (s0_ : Sl) (s1_ : Sl) (f6_ : AVal) (s7_ : Sl) (s10_ : Sl) (s33_ : Sl) (i34_ : Int) (i35_ : Int) (h : H) : Prop :=
 bif (decide (i35_ < i34_)) then
 ixS s33_ 2 i35_ fun p0 =>
 ldA p0 2 h fun cs1 =>
 newO [.int .i64 (0), .int .i64 (0)] h fun p2 h3 =>
 stN p2 2 cs1 h3 fun h4 =>
 slotK 14 h4 fun h5 =>
 ixA p2 2 1 (0) fun p6 =>
 ldI .i64 p6 h5 fun n7 =>
 ixS s0_ 4 n7 fun p8 =>
 ldA p8 4 h5 fun cs9 =>
 ixA p2 2 1 (1) fun p10 =>
 ldI .i64 p10 h5 fun n11 =>
 ixS s1_ 4 n11 fun p12 =>
 ldA p12 4 h5 fun cs13 =>
 newOat [.int .i64 (0), .int .i64 (0), .int .i64 (0), .int .i64 (0)] h5 (h4.length + 10) fun p14 h15 =>
(range h15 p12.o p12.n p12.off 4 = range h5 p12.o p12.n p12.off 4) ∧ (
(cell h15 p10 = cell h5 p10) ∧ (
(range h15 p8.o p8.n p8.off 4 = range h5 p8.o p8.n p8.off 4) ∧ (
(cell h15 p6 = cell h5 p6) ∧ (
 newOat [.int .i64 (0), .int .i64 (0), .int .i64 (0), .int .i64 (0)] h15 (h4.length + 11) fun p16 h17 =>
(range h17 p12.o p12.n p12.off 4 = range h5 p12.o p12.n p12.off 4) ∧ (
(cell h17 p10 = cell h5 p10) ∧ (
(range h17 p8.o p8.n p8.off 4 = range h5 p8.o p8.n p8.off 4) ∧ (
(cell h17 p6 = cell h5 p6) ∧ (
 stN p14 4 cs9 h17 fun h18 =>
(range h18 p12.o p12.n p12.off 4 = range h5 p12.o p12.n p12.off 4) ∧ (
(cell h18 p10 = cell h5 p10) ∧ (
 stN p16 4 cs13 h18 fun h19 =>
 ldA p14 4 h19 fun cs20 =>
 ldA p16 4 h19 fun cs21 =>
 callA S i_impl_pairOf [.agg cs20, .agg cs21, .int .i64 (0)] h19 fun cs23 h22 =>
 keyA 2 cs23 (
 mgetI .i64 f6_ (.agg cs23) h22 fun n24 =>
 ixA p14 4 1 (1) fun p25 =>
 ldI .i64 p25 h22 fun n26 =>
(cell h19 p25 = cell h22 p25) ∧ (
 ldA p14 4 h22 fun cs27 =>
(range h19 p14.o p14.n p14.off 4 = range h22 p14.o p14.n p14.off 4) ∧ (
 ldA p16 4 h22 fun cs28 =>
(range h19 p16.o p16.n p16.off 4 = range h22 p16.o p16.n p16.off 4) ∧ (
 callA S i_impl_pairOf [.agg cs27, .agg cs28, .int .i64 (2)] h22 fun cs30 h29 =>
(cell h29 p25 = cell h22 p25) ∧ (
 sameM f6_ h22 h29 ∧ (
 keyA 2 cs30 (
 mgetI .i64 f6_ (.agg cs30) h29 fun n31 =>
 ixA p16 4 1 (3) fun p32 =>
 ldI .i64 p32 h29 fun n33 =>
(cell h22 p32 = cell h29 p32) ∧ (
(cell h19 p32 = cell h29 p32) ∧ (
 lenA [.int .i64 n24, .int .i64 n26, .int .i64 n31, .int .i64 n33] 4 (
 newS 1 4 (spl [.int .i64 (0), .int .i64 (0), .int .i64 (0), .int .i64 (0)] 0 4 [.int .i64 n24, .int .i64 n26, .int .i64 n31, .int .i64 n33]) h29 fun s34 h35 =>
 app s10_ s34 4 h35 fun s36 h37 =>
 X2 (impl_stackTiles_e2 s0_ s1_ f6_ s7_ s36 s33_ i34_ (w64 (i35_ + (1)))) h37))))))))))))))))))))
 else
 impl_stackTiles_C2 S K s7_ s10_ h
theorem impl_stackTiles_link2 (S : SatT) (K : AVal → H → Prop) (X2 : Frame → H → Prop) (s0_ : Sl) (s1_ : Sl) (f6_ : AVal) (s7_ : Sl) (s10_ : Sl) (s33_ : Sl) (i34_ : Int) (i35_ : Int) (h : H) : impl_stackTiles_w2 S K X2 (impl_stackTiles_e2 s0_ s1_ f6_ s7_ s10_ s33_ i34_ i35_) h = impl_stackTiles_b2 S K X2 s0_ s1_ f6_ s7_ s10_ s33_ i34_ i35_ h := by kernel_rfl
theorem impl_stackTiles_rule2 (S : SatT) (K : AVal → H → Prop) (s0_ : Sl) (s1_ : Sl) (f6_ : AVal) (s7_ : Sl) (s33_ : Sl) (i34_ : Int) (I_ : Sl → Int → H → Prop) (m_ : Sl → Int → H → Nat)
    (hs : ∀ (X2 : Frame → H → Prop) (s10_ : Sl) (i35_ : Int) (h : H), I_ s10_ i35_ h → (∀ (s10_' : Sl) (i35_' : Int) (h' : H), I_ s10_' i35_' h' → m_ s10_' i35_' h' < m_ s10_ i35_ h → X2 (impl_stackTiles_e2 s0_ s1_ f6_ s7_ s10_' s33_ i34_ i35_') h') → impl_stackTiles_b2 S K X2 s0_ s1_ f6_ s7_ s10_ s33_ i34_ i35_ h) (s10_ : Sl) (i35_ : Int) {h : H} (h0 : I_ s10_ i35_ h) : impl_stackTiles_L2 S K s0_ s1_ f6_ s7_ s10_ s33_ i34_ i35_ h :=
  loop_rule (σ := (Sl) × (Int)) (fun s_ => impl_stackTiles_e2 s0_ s1_ f6_ s7_ (s_.1) s33_ i34_ (s_.2)) (fun s_ h => I_ (s_.1) (s_.2) h) (fun s_ h => m_ (s_.1) (s_.2) h)
    (fun X s_ h hi hx => (impl_stackTiles_link2 S K X s0_ s1_ f6_ s7_ (s_.1) s33_ i34_ (s_.2) h).mpr (hs X (s_.1) (s_.2) h hi fun s10_' i35_' h' hi' hm' => hx (s10_', i35_') h' hi' hm')) (s10_, i35_) h0
theorem impl_stackTiles_unroll2 (S : SatT) (K : AVal → H → Prop) (s0_ : Sl) (s1_ : Sl) (f6_ : AVal) (s7_ : Sl) (s10_ : Sl) (s33_ : Sl) (i34_ : Int) (i35_ : Int) (h : H) (hb : impl_stackTiles_b2 S K (fun fr h => loopK (impl_stackTiles_w2 S K) fr h) s0_ s1_ f6_ s7_ s10_ s33_ i34_ i35_ h) : impl_stackTiles_L2 S K s0_ s1_ f6_ s7_ s10_ s33_ i34_ i35_ h := loop_unroll ((impl_stackTiles_link2 S K _ s0_ s1_ f6_ s7_ s10_ s33_ i34_ i35_ h).mpr hb)
def impl_stackTiles_C0 (S : SatT) (K : AVal → H → Prop) (s0_ : Sl) (s1_ : Sl) (f6_ : AVal) (s7_ : Sl) (h : H) : Prop :=
 newS 0 4 [] h fun s0 h1 =>
 callS S i_impl_stacked [.sl s0_, .sl s1_] h1 fun s3 h2 =>
 impl_stackTiles_L2 S K s0_ s1_ f6_ s7_ s0 s3 (s3.len : Int) (0) h2
def impl_stackTiles_b0 (S : SatT) (K : AVal → H → Prop) (X0 : Frame → H → Prop) (s0_ : Sl) (s1_ : Sl) (f6_ : AVal) (s7_ : Sl) (s19_ : Sl) (i20_ : Int) (i21_ : Int) (h : H) : Prop :=
 bif (decide (i21_ < i20_)) then
 ixS s19_ 2 i21_ fun p0 =>
 ldA p0 2 h fun cs1 =>
 newO [.int .i64 (0), .int .i64 (0)] h fun p2 h3 =>
 stN p2 2 cs1 h3 fun h4 =>
 ldA p2 2 h4 fun cs5 =>
 keyA 2 cs5 (
 mput f6_ (.agg cs5) (.int .i64 i21_) h4 fun h6 =>
 X0 (impl_stackTiles_e0 s0_ s1_ f6_ s7_ s19_ i20_ (w64 (i21_ + (1)))) h6)
 else
 impl_stackTiles_C0 S K s0_ s1_ f6_ s7_ h
theorem impl_stackTiles_link0 (S : SatT) (K : AVal → H → Prop) (X0 : Frame → H → Prop) (s0_ : Sl) (s1_ : Sl) (f6_ : AVal) (s7_ : Sl) (s19_ : Sl) (i20_ : Int) (i21_ : Int) (h : H) : impl_stackTiles_w0 S K X0 (impl_stackTiles_e0 s0_ s1_ f6_ s7_ s19_ i20_ i21_) h = impl_stackTiles_b0 S K X0 s0_ s1_ f6_ s7_ s19_ i20_ i21_ h := by kernel_rfl
theorem impl_stackTiles_rule0 (S : SatT) (K : AVal → H → Prop) (s0_ : Sl) (s1_ : Sl) (f6_ : AVal) (s7_ : Sl) (s19_ : Sl) (i20_ : Int) (I_ : Int → H → Prop) (m_ : Int → H → Nat)
    (hs : ∀ (X0 : Frame → H → Prop) (i21_ : Int) (h : H), I_ i21_ h → (∀ (i21_' : Int) (h' : H), I_ i21_' h' → m_ i21_' h' < m_ i21_ h → X0 (impl_stackTiles_e0 s0_ s1_ f6_ s7_ s19_ i20_ i21_') h') → impl_stackTiles_b0 S K X0 s0_ s1_ f6_ s7_ s19_ i20_ i21_ h) (i21_ : Int) {h : H} (h0 : I_ i21_ h) : impl_stackTiles_L0 S K s0_ s1_ f6_ s7_ s19_ i20_ i21_ h :=
  loop_rule (σ := (Int)) (fun s_ => impl_stackTiles_e0 s0_ s1_ f6_ s7_ s19_ i20_ (s_)) (fun s_ h => I_ (s_) h) (fun s_ h => m_ (s_) h)
    (fun X s_ h hi hx => (impl_stackTiles_link0 S K X s0_ s1_ f6_ s7_ s19_ i20_ (s_) h).mpr (hs X (s_) h hi fun i21_' h' hi' hm' => hx (i21_') h' hi' hm')) (i21_) h0
theorem impl_stackTiles_unroll0 (S : SatT) (K : AVal → H → Prop) (s0_ : Sl) (s1_ : Sl) (f6_ : AVal) (s7_ : Sl) (s19_ : Sl) (i20_ : Int) (i21_ : Int) (h : H) (hb : impl_stackTiles_b0 S K (fun fr h => loopK (impl_stackTiles_w0 S K) fr h) s0_ s1_ f6_ s7_ s19_ i20_ i21_ h) : impl_stackTiles_L0 S K s0_ s1_ f6_ s7_ s19_ i20_ i21_ h := loop_unroll ((impl_stackTiles_link0 S K _ s0_ s1_ f6_ s7_ s19_ i20_ i21_ h).mpr hb)
def impl_stackTiles_main (S : SatT) (K : AVal → H → Prop) (x0 : Sl) (x1 : Sl) (h : H) : Prop :=
 newM h fun v0 h1 =>
 callS S i_impl_pairs [.sl x0, .sl x1] h1 fun s3 h2 =>
 impl_stackTiles_L0 S K x0 x1 v0 s3 s3 (s3.len : Int) (0) h2
theorem impl_stackTiles_main_link (S : SatT) (K : AVal → H → Prop) (x0 : Sl) (x1 : Sl) (h : H) : cwp S tab impl_stackTiles_M [] (bodyOf Try.f41) (kFun tab Try.f41.results.toList K) (fr0 Try.f41 [.sl x0, .sl x1]) h = impl_stackTiles_main S K x0 x1 h := by kernel_rfl
theorem impl_stackTiles_call (x0 : Sl) (x1 : Sl) (h : H) (K : AVal → H → Prop) (hm : impl_stackTiles_main (Sat Try.prog) (fun v h' => K v h') x0 x1 h) : callV (Sat Try.prog) i_impl_stackTiles [.sl x0, .sl x1] h K := by
  have := Sat.ex tok mixed impl_stackTiles_M Try.func41 (c := bodyOf Try.f41) (by kernel_rfl) (calls_of Try.func41 (c := bodyOf Try.f41) (by kernel_rfl) (by decide)) ((impl_stackTiles_main_link _ _ x0 x1 h).mpr hm)
  exact this

/-! ### loop.example/g01354/impl.pairs -/
def impl_pairs_M : Nat → List Nat := fun i => bif i == 2 then [0, 1, 5, 6, 8, 16, 17, 18, 22, 23] else bif i == 0 then [0, 1, 5, 6, 16, 17, 18] else []
def impl_pairs_ks2 (S : SatT) (K : AVal → H → Prop) : Kont := kSeq (cwp S tab impl_pairs_M [] (sub [1, 1, 1] (bodyOf Try.f70)) (kFun tab (Try.f70).results.toList K)) (kFun tab (Try.f70).results.toList K)
def impl_pairs_e0 (s0_ : Sl) (s1_ : Sl) (f5_ : AVal) (s6_ : Sl) (s16_ : Sl) (i17_ : Int) (i18_ : Int) : Frame := [.sl s0_, .sl s1_, U, U, U, f5_, .sl s6_, U, U, U, U, U, U, U, U, U, .sl s16_, .int .i64 i17_, .int .i64 i18_, U, U, U, U, U, U, U, U, U, U, U, U, U, U, U, U, U, U, U, U, U, U, U, U, U, U, U, U, U, U, U, U, U, U]
def impl_pairs_w0 (S : SatT) (K : AVal → H → Prop) : (Frame → H → Prop) → Frame → H → Prop := fun X fr h => cwp S tab impl_pairs_M (impl_pairs_M 0) (sub [1, 1, 0, 1, 0, 0] (bodyOf Try.f70)) (kSeq (fun fr h => X (mask (impl_pairs_M 0) fr) h) (kBlk 0 (impl_pairs_ks2 S K))) fr h
def impl_pairs_L0 (S : SatT) (K : AVal → H → Prop) (s0_ : Sl) (s1_ : Sl) (f5_ : AVal) (s6_ : Sl) (s16_ : Sl) (i17_ : Int) (i18_ : Int) (h : H) : Prop := loopK (impl_pairs_w0 S K) (impl_pairs_e0 s0_ s1_ f5_ s6_ s16_ i17_ i18_) h
def impl_pairs_ks6 (S : SatT) (K : AVal → H → Prop) (X0 : Frame → H → Prop) : Kont := kSeq (cwp S tab impl_pairs_M (impl_pairs_M 0) (sub [1, 1, 0, 1, 0, 0, 1, 1, 1] (bodyOf Try.f70)) (kSeq (fun fr h => X0 (mask (impl_pairs_M 0) fr) h) (kBlk 0 (impl_pairs_ks2 S K)))) (kSeq (fun fr h => X0 (mask (impl_pairs_M 0) fr) h) (kBlk 0 (impl_pairs_ks2 S K)))
def impl_pairs_e2 (s0_ : Sl) (s1_ : Sl) (f5_ : AVal) (s6_ : Sl) (p8_ : Pt) (s16_ : Sl) (i17_ : Int) (i18_ : Int) (a22_ : List AVal) (i23_ : Int) : Frame := [.sl s0_, .sl s1_, U, U, U, f5_, .sl s6_, U, .ptr p8_, U, U, U, U, U, U, U, .sl s16_, .int .i64 i17_, .int .i64 i18_, U, U, U, .agg a22_, .int .i64 i23_, U, U, U, U, U, U, U, U, U, U, U, U, U, U, U, U, U, U, U, U, U, U, U, U, U, U, U, U, U]
def impl_pairs_w2 (S : SatT) (K : AVal → H → Prop) (X0 : Frame → H → Prop) : (Frame → H → Prop) → Frame → H → Prop := fun X fr h => cwp S tab impl_pairs_M (impl_pairs_M 2) (sub [1, 1, 0, 1, 0, 0, 1, 1, 0, 0, 1, 1, 0, 0] (bodyOf Try.f70)) (kSeq (fun fr h => X (mask (impl_pairs_M 2) fr) h) (kBlk 2 (kBlk 1 (impl_pairs_ks6 S K X0)))) fr h
def impl_pairs_L2 (S : SatT) (K : AVal → H → Prop) (X0 : Frame → H → Prop) (s0_ : Sl) (s1_ : Sl) (f5_ : AVal) (s6_ : Sl) (p8_ : Pt) (s16_ : Sl) (i17_ : Int) (i18_ : Int) (a22_ : List AVal) (i23_ : Int) (h : H) : Prop := loopK (impl_pairs_w2 S K X0) (impl_pairs_e2 s0_ s1_ f5_ s6_ p8_ s16_ i17_ i18_ a22_ i23_) h
def impl_pairs_C1 (S : SatT) (K : AVal → H → Prop) (X0 : Frame → H → Prop) (s0_ : Sl) (s1_ : Sl) (f5_ : AVal) (s6_ : Sl) (s16_ : Sl) (i17_ : Int) (i18_ : Int) (h : H) : Prop :=
 X0 (impl_pairs_e0 s0_ s1_ f5_ s6_ s16_ i17_ (w64 (i18_ + (1)))) h
def impl_pairs_C2 (S : SatT) (K : AVal → H → Prop) (X0 : Frame → H → Prop) (s0_ : Sl) (s1_ : Sl) (f5_ : AVal) (s6_ : Sl) (s16_ : Sl) (i17_ : Int) (i18_ : Int) (h : H) : Prop :=
 impl_pairs_C1 S K X0 s0_ s1_ f5_ s6_ s16_ i17_ i18_ h
def impl_pairs_b2 (S : SatT) (K : AVal → H → Prop) (X0 : Frame → H → Prop) (X2 : Frame → H → Prop) (s0_ : Sl) (s1_ : Sl) (f5_ : AVal) (s6_ : Sl) (p8_ : Pt) (s16_ : Sl) (i17_ : Int) (i18_ : Int) (a22_ : List AVal) (i23_ : Int) (h : H) : Prop :=
 bif (decide (i23_ < (2))) then
 lenA a22_ 2 (
 partI .i64 a22_ i23_ fun n0 =>
 slotK 14 h fun h1 =>
 ixA p8_ 2 1 (0) fun p2 =>
 ldI .i64 p2 h1 fun n3 =>
 ixS s0_ 4 n3 fun p4 =>
 ldA p4 4 h1 fun cs5 =>
 ixA p8_ 2 1 (1) fun p6 =>
 ldI .i64 p6 h1 fun n7 =>
 ixS s1_ 4 n7 fun p8 =>
 ldA p8 4 h1 fun cs9 =>
 callA S i_impl_pairOf [.agg cs5, .agg cs9, .int .i64 n0] h1 fun cs11 h10 =>
 newOat [.int .i64 (0), .int .i64 (0)] h10 (h.length + 12) fun p12 h13 =>
(range h10 p8.o p8.n p8.off 4 = range h1 p8.o p8.n p8.off 4) ∧ (
(cell h10 p6 = cell h1 p6) ∧ (
(range h10 p4.o p4.n p4.off 4 = range h1 p4.o p4.n p4.off 4) ∧ (
(cell h10 p2 = cell h1 p2) ∧ (
(range h13 p8.o p8.n p8.off 4 = range h1 p8.o p8.n p8.off 4) ∧ (
(cell h13 p6 = cell h1 p6) ∧ (
(range h13 p4.o p4.n p4.off 4 = range h1 p4.o p4.n p4.off 4) ∧ (
(cell h13 p2 = cell h1 p2) ∧ (
 stN p12 2 cs11 h13 fun h14 =>
 ldA p12 2 h14 fun cs15 =>
 keyA 2 cs15 (
 mgetB f5_ (.agg cs15) h14 fun b16 =>
 bif (!b16) then
 ldA p12 2 h14 fun cs17 =>
 keyA 2 cs17 (
 mput f5_ (.agg cs17) (.bool true) h14 fun h18 =>
 ldA p12 2 h18 fun cs19 =>
 lenA cs19 2 (
 newS 1 2 (spl [.int .i64 (0), .int .i64 (0)] 0 2 cs19) h18 fun s20 h21 =>
 app s6_ s20 2 h21 fun s22 h23 =>
 X2 (impl_pairs_e2 s0_ s1_ f5_ s22 p8_ s16_ i17_ i18_ a22_ (w64 (i23_ + (1)))) h23))
 else
 X2 (impl_pairs_e2 s0_ s1_ f5_ s6_ p8_ s16_ i17_ i18_ a22_ (w64 (i23_ + (1)))) h14))))))))))
 else
 impl_pairs_C2 S K X0 s0_ s1_ f5_ s6_ s16_ i17_ i18_ h
theorem impl_pairs_link2 (S : SatT) (K : AVal → H → Prop) (X0 : Frame → H → Prop) (X2 : Frame → H → Prop) (s0_ : Sl) (s1_ : Sl) (f5_ : AVal) (s6_ : Sl) (p8_ : Pt) (s16_ : Sl) (i17_ : Int) (i18_ : Int) (a22_ : List AVal) (i23_ : Int) (h : H) : impl_pairs_w2 S K X0 X2 (impl_pairs_e2 s0_ s1_ f5_ s6_ p8_ s16_ i17_ i18_ a22_ i23_) h = impl_pairs_b2 S K X0 X2 s0_ s1_ f5_ s6_ p8_ s16_ i17_ i18_ a22_ i23_ h := by kernel_rfl
theorem impl_pairs_rule2 (S : SatT) (K : AVal → H → Prop) (X0 : Frame → H → Prop) (s0_ : Sl) (s1_ : Sl) (f5_ : AVal) (p8_ : Pt) (s16_ : Sl) (i17_ : Int) (i18_ : Int) (a22_ : List AVal) (I_ : Sl → Int → H → Prop) (m_ : Sl → Int → H → Nat)
    (hs : ∀ (X2 : Frame → H → Prop) (s6_ : Sl) (i23_ : Int) (h : H), I_ s6_ i23_ h → (∀ (s6_' : Sl) (i23_' : Int) (h' : H), I_ s6_' i23_' h' → m_ s6_' i23_' h' < m_ s6_ i23_ h → X2 (impl_pairs_e2 s0_ s1_ f5_ s6_' p8_ s16_ i17_ i18_ a22_ i23_') h') → impl_pairs_b2 S K X0 X2 s0_ s1_ f5_ s6_ p8_ s16_ i17_ i18_ a22_ i23_ h) (s6_ : Sl) (i23_ : Int) {h : H} (h0 : I_ s6_ i23_ h) : impl_pairs_L2 S K X0 s0_ s1_ f5_ s6_ p8_ s16_ i17_ i18_ a22_ i23_ h :=
  loop_rule (σ := (Sl) × (Int)) (fun s_ => impl_pairs_e2 s0_ s1_ f5_ (s_.1) p8_ s16_ i17_ i18_ a22_ (s_.2)) (fun s_ h => I_ (s_.1) (s_.2) h) (fun s_ h => m_ (s_.1) (s_.2) h)
    (fun X s_ h hi hx => (impl_pairs_link2 S K X0 X s0_ s1_ f5_ (s_.1) p8_ s16_ i17_ i18_ a22_ (s_.2) h).mpr (hs X (s_.1) (s_.2) h hi fun s6_' i23_' h' hi' hm' => hx (s6_', i23_') h' hi' hm')) (s6_, i23_) h0
theorem impl_pairs_unroll2 (S : SatT) (K : AVal → H → Prop) (X0 : Frame → H → Prop) (s0_ : Sl) (s1_ : Sl) (f5_ : AVal) (s6_ : Sl) (p8_ : Pt) (s16_ : Sl) (i17_ : Int) (i18_ : Int) (a22_ : List AVal) (i23_ : Int) (h : H) (hb : impl_pairs_b2 S K X0 (fun fr h => loopK (impl_pairs_w2 S K X0) fr h) s0_ s1_ f5_ s6_ p8_ s16_ i17_ i18_ a22_ i23_ h) : impl_pairs_L2 S K X0 s0_ s1_ f5_ s6_ p8_ s16_ i17_ i18_ a22_ i23_ h := loop_unroll ((impl_pairs_link2 S K X0 _ s0_ s1_ f5_ s6_ p8_ s16_ i17_ i18_ a22_ i23_ h).mpr hb)
def impl_pairs_C0 (S : SatT) (K : AVal → H → Prop) (s6_ : Sl) (h : H) : Prop :=
 callV S i_slices_SortFunc_s__2_int64__2_int64_ [.sl s6_, .func 87 []] h fun v1 h0 =>
 K (.sl s6_) h0
def impl_pairs_b0 (S : SatT) (K : AVal → H → Prop) (X0 : Frame → H → Prop) (s0_ : Sl) (s1_ : Sl) (f5_ : AVal) (s6_ : Sl) (s16_ : Sl) (i17_ : Int) (i18_ : Int) (h : H) : Prop :=
 bif (decide (i18_ < i17_)) then
 ixS s16_ 2 i18_ fun p0 =>
 ldA p0 2 h fun cs1 =>
 newO [.int .i64 (0), .int .i64 (0)] h fun p2 h3 =>
 stN p2 2 cs1 h3 fun h4 =>
 impl_pairs_L2 S K X0 s0_ s1_ f5_ s6_ p2 s16_ i17_ i18_ [.int .i64 (0), .int .i64 (2)] (0) h4
 else
 impl_pairs_C0 S K s6_ h
theorem impl_pairs_link0 (S : SatT) (K : AVal → H → Prop) (X0 : Frame → H → Prop) (s0_ : Sl) (s1_ : Sl) (f5_ : AVal) (s6_ : Sl) (s16_ : Sl) (i17_ : Int) (i18_ : Int) (h : H) : impl_pairs_w0 S K X0 (impl_pairs_e0 s0_ s1_ f5_ s6_ s16_ i17_ i18_) h = impl_pairs_b0 S K X0 s0_ s1_ f5_ s6_ s16_ i17_ i18_ h := by kernel_rfl
theorem impl_pairs_rule0 (S : SatT) (K : AVal → H → Prop) (s0_ : Sl) (s1_ : Sl) (f5_ : AVal) (s16_ : Sl) (i17_ : Int) (I_ : Sl → Int → H → Prop) (m_ : Sl → Int → H → Nat)
    (hs : ∀ (X0 : Frame → H → Prop) (s6_ : Sl) (i18_ : Int) (h : H), I_ s6_ i18_ h → (∀ (s6_' : Sl) (i18_' : Int) (h' : H), I_ s6_' i18_' h' → m_ s6_' i18_' h' < m_ s6_ i18_ h → X0 (impl_pairs_e0 s0_ s1_ f5_ s6_' s16_ i17_ i18_') h') → impl_pairs_b0 S K X0 s0_ s1_ f5_ s6_ s16_ i17_ i18_ h) (s6_ : Sl) (i18_ : Int) {h : H} (h0 : I_ s6_ i18_ h) : impl_pairs_L0 S K s0_ s1_ f5_ s6_ s16_ i17_ i18_ h :=
  loop_rule (σ := (Sl) × (Int)) (fun s_ => impl_pairs_e0 s0_ s1_ f5_ (s_.1) s16_ i17_ (s_.2)) (fun s_ h => I_ (s_.1) (s_.2) h) (fun s_ h => m_ (s_.1) (s_.2) h)
    (fun X s_ h hi hx => (impl_pairs_link0 S K X s0_ s1_ f5_ (s_.1) s16_ i17_ (s_.2) h).mpr (hs X (s_.1) (s_.2) h hi fun s6_' i18_' h' hi' hm' => hx (s6_', i18_') h' hi' hm')) (s6_, i18_) h0
theorem impl_pairs_unroll0 (S : SatT) (K : AVal → H → Prop) (s0_ : Sl) (s1_ : Sl) (f5_ : AVal) (s6_ : Sl) (s16_ : Sl) (i17_ : Int) (i18_ : Int) (h : H) (hb : impl_pairs_b0 S K (fun fr h => loopK (impl_pairs_w0 S K) fr h) s0_ s1_ f5_ s6_ s16_ i17_ i18_ h) : impl_pairs_L0 S K s0_ s1_ f5_ s6_ s16_ i17_ i18_ h := loop_unroll ((impl_pairs_link0 S K _ s0_ s1_ f5_ s6_ s16_ i17_ i18_ h).mpr hb)
def impl_pairs_main (S : SatT) (K : AVal → H → Prop) (x0 : Sl) (x1 : Sl) (h : H) : Prop :=
 newM h fun v0 h1 =>
 newS 0 2 [] h1 fun s2 h3 =>
 callS S i_impl_stacked [.sl x0, .sl x1] h3 fun s5 h4 =>
 impl_pairs_L0 S K x0 x1 v0 s2 s5 (s5.len : Int) (0) h4
theorem impl_pairs_main_link (S : SatT) (K : AVal → H → Prop) (x0 : Sl) (x1 : Sl) (h : H) : cwp S tab impl_pairs_M [] (bodyOf Try.f70) (kFun tab Try.f70.results.toList K) (fr0 Try.f70 [.sl x0, .sl x1]) h = impl_pairs_main S K x0 x1 h := by kernel_rfl
theorem impl_pairs_call (x0 : Sl) (x1 : Sl) (h : H) (K : Sl → H → Prop) (hm : impl_pairs_main (Sat Try.prog) (fun v h' => ∃ r, v = .sl r ∧ K r h') x0 x1 h) : callS (Sat Try.prog) i_impl_pairs [.sl x0, .sl x1] h K := by
  have := Sat.ex tok mixed impl_pairs_M Try.func70 (c := bodyOf Try.f70) (by kernel_rfl) (calls_of Try.func70 (c := bodyOf Try.f70) (by kernel_rfl) (by decide)) ((impl_pairs_main_link _ _ x0 x1 h).mpr hm)
  obtain ⟨v, h2, h3, r, rfl, h4⟩ := this; exact ⟨r, h2, h3, h4⟩

/-! ### loop.example/g01354/laws.markTileS -/
def laws_markTileS_M : Nat → List Nat := fun i => bif i == 2 then [0, 1, 5, 6] else bif i == 0 then [0, 1, 5] else []
def laws_markTileS_ks1 (S : SatT) (K : AVal → H → Prop) : Kont := kSeq (cwp S tab laws_markTileS_M [] (sub [1, 1] (bodyOf Try.f34)) (kFun tab (Try.f34).results.toList K)) (kFun tab (Try.f34).results.toList K)
def laws_markTileS_e0 (s0_ : Sl) (i1_ : Int) (i5_ : Int) : Frame := [.sl s0_, .int .i64 i1_, U, U, U, .int .i64 i5_, U, U, U, U, U, U, U, U, U, U, U, U, U, U, U, U, U, U, U, U]
def laws_markTileS_w0 (S : SatT) (K : AVal → H → Prop) : (Frame → H → Prop) → Frame → H → Prop := fun X fr h => cwp S tab laws_markTileS_M (laws_markTileS_M 0) (sub [1, 0, 1, 0, 0] (bodyOf Try.f34)) (kSeq (fun fr h => X (mask (laws_markTileS_M 0) fr) h) (kBlk 0 (laws_markTileS_ks1 S K))) fr h
def laws_markTileS_L0 (S : SatT) (K : AVal → H → Prop) (s0_ : Sl) (i1_ : Int) (i5_ : Int) (h : H) : Prop := loopK (laws_markTileS_w0 S K) (laws_markTileS_e0 s0_ i1_ i5_) h
def laws_markTileS_ks5 (S : SatT) (K : AVal → H → Prop) (X0 : Frame → H → Prop) : Kont := kSeq (cwp S tab laws_markTileS_M (laws_markTileS_M 0) (sub [1, 0, 1, 0, 0, 1, 1] (bodyOf Try.f34)) (kSeq (fun fr h => X0 (mask (laws_markTileS_M 0) fr) h) (kBlk 0 (laws_markTileS_ks1 S K)))) (kSeq (fun fr h => X0 (mask (laws_markTileS_M 0) fr) h) (kBlk 0 (laws_markTileS_ks1 S K)))
def laws_markTileS_e2 (s0_ : Sl) (i1_ : Int) (i5_ : Int) (i6_ : Int) : Frame := [.sl s0_, .int .i64 i1_, U, U, U, .int .i64 i5_, .int .i64 i6_, U, U, U, U, U, U, U, U, U, U, U, U, U, U, U, U, U, U, U]
def laws_markTileS_w2 (S : SatT) (K : AVal → H → Prop) (X0 : Frame → H → Prop) : (Frame → H → Prop) → Frame → H → Prop := fun X fr h => cwp S tab laws_markTileS_M (laws_markTileS_M 2) (sub [1, 0, 1, 0, 0, 1, 0, 0, 1, 0, 0] (bodyOf Try.f34)) (kSeq (fun fr h => X (mask (laws_markTileS_M 2) fr) h) (kBlk 2 (kBlk 1 (laws_markTileS_ks5 S K X0)))) fr h
def laws_markTileS_L2 (S : SatT) (K : AVal → H → Prop) (X0 : Frame → H → Prop) (s0_ : Sl) (i1_ : Int) (i5_ : Int) (i6_ : Int) (h : H) : Prop := loopK (laws_markTileS_w2 S K X0) (laws_markTileS_e2 s0_ i1_ i5_ i6_) h
def laws_markTileS_C1 (S : SatT) (K : AVal → H → Prop) (X0 : Frame → H → Prop) (s0_ : Sl) (i1_ : Int) (i5_ : Int) (h : H) : Prop :=
 X0 (laws_markTileS_e0 s0_ i1_ (w64 (i5_ + (1)))) h
def laws_markTileS_C2 (S : SatT) (K : AVal → H → Prop) (X0 : Frame → H → Prop) (s0_ : Sl) (i1_ : Int) (i5_ : Int) (h : H) : Prop :=
 laws_markTileS_C1 S K X0 s0_ i1_ i5_ h
def laws_markTileS_b2 (S : SatT) (K : AVal → H → Prop) (X0 : Frame → H → Prop) (X2 : Frame → H → Prop) (s0_ : Sl) (i1_ : Int) (i5_ : Int) (i6_ : Int) (h : H) : Prop :=
 bif (decide (i6_ < (4))) then
 ixS s0_ 4 i5_ fun p0 =>
 ixA p0 4 1 i6_ fun p1 =>
 st1 p1 (.int .i64 i1_) h fun h2 =>
 X2 (laws_markTileS_e2 s0_ (w64 (i1_ + (1))) i5_ (w64 (i6_ + (1)))) h2
 else
 laws_markTileS_C2 S K X0 s0_ i1_ i5_ h
theorem laws_markTileS_link2 (S : SatT) (K : AVal → H → Prop) (X0 : Frame → H → Prop) (X2 : Frame → H → Prop) (s0_ : Sl) (i1_ : Int) (i5_ : Int) (i6_ : Int) (h : H) : laws_markTileS_w2 S K X0 X2 (laws_markTileS_e2 s0_ i1_ i5_ i6_) h = laws_markTileS_b2 S K X0 X2 s0_ i1_ i5_ i6_ h := by kernel_rfl
theorem laws_markTileS_rule2 (S : SatT) (K : AVal → H → Prop) (X0 : Frame → H → Prop) (s0_ : Sl) (i5_ : Int) (I_ : Int → Int → H → Prop) (m_ : Int → Int → H → Nat)
    (hs : ∀ (X2 : Frame → H → Prop) (i1_ : Int) (i6_ : Int) (h : H), I_ i1_ i6_ h → (∀ (i1_' : Int) (i6_' : Int) (h' : H), I_ i1_' i6_' h' → m_ i1_' i6_' h' < m_ i1_ i6_ h → X2 (laws_markTileS_e2 s0_ i1_' i5_ i6_') h') → laws_markTileS_b2 S K X0 X2 s0_ i1_ i5_ i6_ h) (i1_ : Int) (i6_ : Int) {h : H} (h0 : I_ i1_ i6_ h) : laws_markTileS_L2 S K X0 s0_ i1_ i5_ i6_ h :=
  loop_rule (σ := (Int) × (Int)) (fun s_ => laws_markTileS_e2 s0_ (s_.1) i5_ (s_.2)) (fun s_ h => I_ (s_.1) (s_.2) h) (fun s_ h => m_ (s_.1) (s_.2) h)
    (fun X s_ h hi hx => (laws_markTileS_link2 S K X0 X s0_ (s_.1) i5_ (s_.2) h).mpr (hs X (s_.1) (s_.2) h hi fun i1_' i6_' h' hi' hm' => hx (i1_', i6_') h' hi' hm')) (i1_, i6_) h0
theorem laws_markTileS_unroll2 (S : SatT) (K : AVal → H → Prop) (X0 : Frame → H → Prop) (s0_ : Sl) (i1_ : Int) (i5_ : Int) (i6_ : Int) (h : H) (hb : laws_markTileS_b2 S K X0 (fun fr h => loopK (laws_markTileS_w2 S K X0) fr h) s0_ i1_ i5_ i6_ h) : laws_markTileS_L2 S K X0 s0_ i1_ i5_ i6_ h := loop_unroll ((laws_markTileS_link2 S K X0 _ s0_ i1_ i5_ i6_ h).mpr hb)
def laws_markTileS_C0 (S : SatT) (K : AVal → H → Prop) (i1_ : Int) (h : H) : Prop :=
 K (.int .i64 i1_) h
def laws_markTileS_b0 (S : SatT) (K : AVal → H → Prop) (X0 : Frame → H → Prop) (s0_ : Sl) (i1_ : Int) (i5_ : Int) (h : H) : Prop :=
 bif (decide (i5_ < (s0_.len : Int))) then
 laws_markTileS_L2 S K X0 s0_ i1_ i5_ (0) h
 else
 laws_markTileS_C0 S K i1_ h
theorem laws_markTileS_link0 (S : SatT) (K : AVal → H → Prop) (X0 : Frame → H → Prop) (s0_ : Sl) (i1_ : Int) (i5_ : Int) (h : H) : laws_markTileS_w0 S K X0 (laws_markTileS_e0 s0_ i1_ i5_) h = laws_markTileS_b0 S K X0 s0_ i1_ i5_ h := by kernel_rfl
theorem laws_markTileS_rule0 (S : SatT) (K : AVal → H → Prop) (s0_ : Sl) (I_ : Int → Int → H → Prop) (m_ : Int → Int → H → Nat)
    (hs : ∀ (X0 : Frame → H → Prop) (i1_ : Int) (i5_ : Int) (h : H), I_ i1_ i5_ h → (∀ (i1_' : Int) (i5_' : Int) (h' : H), I_ i1_' i5_' h' → m_ i1_' i5_' h' < m_ i1_ i5_ h → X0 (laws_markTileS_e0 s0_ i1_' i5_') h') → laws_markTileS_b0 S K X0 s0_ i1_ i5_ h) (i1_ : Int) (i5_ : Int) {h : H} (h0 : I_ i1_ i5_ h) : laws_markTileS_L0 S K s0_ i1_ i5_ h :=
  loop_rule (σ := (Int) × (Int)) (fun s_ => laws_markTileS_e0 s0_ (s_.1) (s_.2)) (fun s_ h => I_ (s_.1) (s_.2) h) (fun s_ h => m_ (s_.1) (s_.2) h)
    (fun X s_ h hi hx => (laws_markTileS_link0 S K X s0_ (s_.1) (s_.2) h).mpr (hs X (s_.1) (s_.2) h hi fun i1_' i5_' h' hi' hm' => hx (i1_', i5_') h' hi' hm')) (i1_, i5_) h0
theorem laws_markTileS_unroll0 (S : SatT) (K : AVal → H → Prop) (s0_ : Sl) (i1_ : Int) (i5_ : Int) (h : H) (hb : laws_markTileS_b0 S K (fun fr h => loopK (laws_markTileS_w0 S K) fr h) s0_ i1_ i5_ h) : laws_markTileS_L0 S K s0_ i1_ i5_ h := loop_unroll ((laws_markTileS_link0 S K _ s0_ i1_ i5_ h).mpr hb)
def laws_markTileS_main (S : SatT) (K : AVal → H → Prop) (x0 : Sl) (x1 : Int) (h : H) : Prop :=
 laws_markTileS_L0 S K x0 x1 (0) h
theorem laws_markTileS_main_link (S : SatT) (K : AVal → H → Prop) (x0 : Sl) (x1 : Int) (h : H) : cwp S tab laws_markTileS_M [] (bodyOf Try.f34) (kFun tab Try.f34.results.toList K) (fr0 Try.f34 [.sl x0, .int .i64 x1]) h = laws_markTileS_main S K x0 x1 h := by kernel_rfl
theorem laws_markTileS_call (x0 : Sl) (x1 : Int) (h : H) (K : Int → H → Prop) (hm : laws_markTileS_main (Sat Try.prog) (fun v h' => ∃ r, v = .int .i64 r ∧ K r h') x0 x1 h) : callI (Sat Try.prog) .i64 i_laws_markTileS [.sl x0, .int .i64 x1] h K := by
  have := Sat.ex tok mixed laws_markTileS_M Try.func34 (c := bodyOf Try.f34) (by kernel_rfl) (calls_of Try.func34 (c := bodyOf Try.f34) (by kernel_rfl) (by decide)) ((laws_markTileS_main_link _ _ x0 x1 h).mpr hm)
  obtain ⟨v, h2, h3, r, rfl, h4⟩ := this; exact ⟨r, h2, h3, h4⟩

/-! ### slices.IndexFunc[[]loop.example/g01354/impl.Set,loop.example/g01354/impl.Set] -/
def slices_IndexFunc_s_impl_Set_impl_Set__M : Nat → List Nat := fun i => bif i == 0 then [0, 1, 7, 8] else []
def slices_IndexFunc_s_impl_Set_impl_Set__ks1 (S : SatT) (K : AVal → H → Prop) : Kont := kSeq (cwp S tab slices_IndexFunc_s_impl_Set_impl_Set__M [] (sub [1, 1] (bodyOf Try.f83)) (kFun tab (Try.f83).results.toList K)) (kFun tab (Try.f83).results.toList K)
def slices_IndexFunc_s_impl_Set_impl_Set__e0 (s0_ : Sl) (f1_ : AVal) (i7_ : Int) (i8_ : Int) : Frame := [.sl s0_, f1_, U, U, U, U, U, .int .i64 i7_, .int .i64 i8_, U, U, U, U, U, U, U, U, U, U]
def slices_IndexFunc_s_impl_Set_impl_Set__w0 (S : SatT) (K : AVal → H → Prop) : (Frame → H → Prop) → Frame → H → Prop := fun X fr h => cwp S tab slices_IndexFunc_s_impl_Set_impl_Set__M (slices_IndexFunc_s_impl_Set_impl_Set__M 0) (sub [1, 0, 1, 0, 0] (bodyOf Try.f83)) (kSeq (fun fr h => X (mask (slices_IndexFunc_s_impl_Set_impl_Set__M 0) fr) h) (kBlk 0 (slices_IndexFunc_s_impl_Set_impl_Set__ks1 S K))) fr h
def slices_IndexFunc_s_impl_Set_impl_Set__L0 (S : SatT) (K : AVal → H → Prop) (s0_ : Sl) (f1_ : AVal) (i7_ : Int) (i8_ : Int) (h : H) : Prop := loopK (slices_IndexFunc_s_impl_Set_impl_Set__w0 S K) (slices_IndexFunc_s_impl_Set_impl_Set__e0 s0_ f1_ i7_ i8_) h
def slices_IndexFunc_s_impl_Set_impl_Set__C0 (S : SatT) (K : AVal → H → Prop) (h : H) : Prop :=
 K (.int .i64 (-1)) h
def slices_IndexFunc_s_impl_Set_impl_Set__b0 (S : SatT) (K : AVal → H → Prop) (X0 : Frame → H → Prop) (s0_ : Sl) (f1_ : AVal) (i7_ : Int) (i8_ : Int) (h : H) : Prop :=
 bif (decide (i8_ < i7_)) then
 ixS s0_ 2 i8_ fun p0 =>
 ldA p0 2 h fun cs1 =>
 viaF f1_ [.agg cs1] fun g2 ys3 =>
 callB S g2 ys3 h fun b5 h4 =>
 bif b5 then
 K (.int .i64 i8_) h4
 else
 X0 (slices_IndexFunc_s_impl_Set_impl_Set__e0 s0_ f1_ i7_ (w64 (i8_ + (1)))) h4
 else
 slices_IndexFunc_s_impl_Set_impl_Set__C0 S K h
theorem slices_IndexFunc_s_impl_Set_impl_Set__link0 (S : SatT) (K : AVal → H → Prop) (X0 : Frame → H → Prop) (s0_ : Sl) (f1_ : AVal) (i7_ : Int) (i8_ : Int) (h : H) : slices_IndexFunc_s_impl_Set_impl_Set__w0 S K X0 (slices_IndexFunc_s_impl_Set_impl_Set__e0 s0_ f1_ i7_ i8_) h = slices_IndexFunc_s_impl_Set_impl_Set__b0 S K X0 s0_ f1_ i7_ i8_ h := by kernel_rfl
theorem slices_IndexFunc_s_impl_Set_impl_Set__rule0 (S : SatT) (K : AVal → H → Prop) (s0_ : Sl) (f1_ : AVal) (i7_ : Int) (I_ : Int → H → Prop) (m_ : Int → H → Nat)
    (hs : ∀ (X0 : Frame → H → Prop) (i8_ : Int) (h : H), I_ i8_ h → (∀ (i8_' : Int) (h' : H), I_ i8_' h' → m_ i8_' h' < m_ i8_ h → X0 (slices_IndexFunc_s_impl_Set_impl_Set__e0 s0_ f1_ i7_ i8_') h') → slices_IndexFunc_s_impl_Set_impl_Set__b0 S K X0 s0_ f1_ i7_ i8_ h) (i8_ : Int) {h : H} (h0 : I_ i8_ h) : slices_IndexFunc_s_impl_Set_impl_Set__L0 S K s0_ f1_ i7_ i8_ h :=
  loop_rule (σ := (Int)) (fun s_ => slices_IndexFunc_s_impl_Set_impl_Set__e0 s0_ f1_ i7_ (s_)) (fun s_ h => I_ (s_) h) (fun s_ h => m_ (s_) h)
    (fun X s_ h hi hx => (slices_IndexFunc_s_impl_Set_impl_Set__link0 S K X s0_ f1_ i7_ (s_) h).mpr (hs X (s_) h hi fun i8_' h' hi' hm' => hx (i8_') h' hi' hm')) (i8_) h0
theorem slices_IndexFunc_s_impl_Set_impl_Set__unroll0 (S : SatT) (K : AVal → H → Prop) (s0_ : Sl) (f1_ : AVal) (i7_ : Int) (i8_ : Int) (h : H) (hb : slices_IndexFunc_s_impl_Set_impl_Set__b0 S K (fun fr h => loopK (slices_IndexFunc_s_impl_Set_impl_Set__w0 S K) fr h) s0_ f1_ i7_ i8_ h) : slices_IndexFunc_s_impl_Set_impl_Set__L0 S K s0_ f1_ i7_ i8_ h := loop_unroll ((slices_IndexFunc_s_impl_Set_impl_Set__link0 S K _ s0_ f1_ i7_ i8_ h).mpr hb)
def slices_IndexFunc_s_impl_Set_impl_Set__main (S : SatT) (K : AVal → H → Prop) (x0 : Sl) (x1 : AVal) (h : H) : Prop :=
 slices_IndexFunc_s_impl_Set_impl_Set__L0 S K x0 x1 (x0.len : Int) (0) h
theorem slices_IndexFunc_s_impl_Set_impl_Set__main_link (S : SatT) (K : AVal → H → Prop) (x0 : Sl) (x1 : AVal) (h : H) : cwp S tab slices_IndexFunc_s_impl_Set_impl_Set__M [] (bodyOf Try.f83) (kFun tab Try.f83.results.toList K) (fr0 Try.f83 [.sl x0, x1]) h = slices_IndexFunc_s_impl_Set_impl_Set__main S K x0 x1 h := by kernel_rfl
theorem slices_IndexFunc_s_impl_Set_impl_Set__call (x0 : Sl) (x1 : AVal) (h : H) (K : Int → H → Prop) (hm : slices_IndexFunc_s_impl_Set_impl_Set__main (Sat Try.prog) (fun v h' => ∃ r, v = .int .i64 r ∧ K r h') x0 x1 h) : callI (Sat Try.prog) .i64 i_slices_IndexFunc_s_impl_Set_impl_Set_ [.sl x0, x1] h K := by
  have := Sat.ex tok mixed slices_IndexFunc_s_impl_Set_impl_Set__M Try.func83 (c := bodyOf Try.f83) (by kernel_rfl) (calls_of Try.func83 (c := bodyOf Try.f83) (by kernel_rfl) (by decide)) ((slices_IndexFunc_s_impl_Set_impl_Set__main_link _ _ x0 x1 h).mpr hm)
  obtain ⟨v, h2, h3, r, rfl, h4⟩ := this; exact ⟨r, h2, h3, h4⟩

/-! ### slices.IndexFunc[[]int64,int64] -/
def slices_IndexFunc_s_int64_int64__M : Nat → List Nat := fun i => bif i == 0 then [0, 1, 7, 8] else []
def slices_IndexFunc_s_int64_int64__ks1 (S : SatT) (K : AVal → H → Prop) : Kont := kSeq (cwp S tab slices_IndexFunc_s_int64_int64__M [] (sub [1, 1] (bodyOf Try.f106)) (kFun tab (Try.f106).results.toList K)) (kFun tab (Try.f106).results.toList K)
def slices_IndexFunc_s_int64_int64__e0 (s0_ : Sl) (f1_ : AVal) (i7_ : Int) (i8_ : Int) : Frame := [.sl s0_, f1_, U, U, U, U, U, .int .i64 i7_, .int .i64 i8_, U, U, U, U, U, U, U, U, U, U]
def slices_IndexFunc_s_int64_int64__w0 (S : SatT) (K : AVal → H → Prop) : (Frame → H → Prop) → Frame → H → Prop := fun X fr h => cwp S tab slices_IndexFunc_s_int64_int64__M (slices_IndexFunc_s_int64_int64__M 0) (sub [1, 0, 1, 0, 0] (bodyOf Try.f106)) (kSeq (fun fr h => X (mask (slices_IndexFunc_s_int64_int64__M 0) fr) h) (kBlk 0 (slices_IndexFunc_s_int64_int64__ks1 S K))) fr h
def slices_IndexFunc_s_int64_int64__L0 (S : SatT) (K : AVal → H → Prop) (s0_ : Sl) (f1_ : AVal) (i7_ : Int) (i8_ : Int) (h : H) : Prop := loopK (slices_IndexFunc_s_int64_int64__w0 S K) (slices_IndexFunc_s_int64_int64__e0 s0_ f1_ i7_ i8_) h
def slices_IndexFunc_s_int64_int64__C0 (S : SatT) (K : AVal → H → Prop) (h : H) : Prop :=
 K (.int .i64 (-1)) h
def slices_IndexFunc_s_int64_int64__b0 (S : SatT) (K : AVal → H → Prop) (X0 : Frame → H → Prop) (s0_ : Sl) (f1_ : AVal) (i7_ : Int) (i8_ : Int) (h : H) : Prop :=
 bif (decide (i8_ < i7_)) then
 ixS s0_ 1 i8_ fun p0 =>
 ldI .i64 p0 h fun n1 =>
 viaF f1_ [.int .i64 n1] fun g2 ys3 =>
 callB S g2 ys3 h fun b5 h4 =>
 bif b5 then
 K (.int .i64 i8_) h4
 else
 X0 (slices_IndexFunc_s_int64_int64__e0 s0_ f1_ i7_ (w64 (i8_ + (1)))) h4
 else
 slices_IndexFunc_s_int64_int64__C0 S K h
theorem slices_IndexFunc_s_int64_int64__link0 (S : SatT) (K : AVal → H → Prop) (X0 : Frame → H → Prop) (s0_ : Sl) (f1_ : AVal) (i7_ : Int) (i8_ : Int) (h : H) : slices_IndexFunc_s_int64_int64__w0 S K X0 (slices_IndexFunc_s_int64_int64__e0 s0_ f1_ i7_ i8_) h = slices_IndexFunc_s_int64_int64__b0 S K X0 s0_ f1_ i7_ i8_ h := by kernel_rfl
theorem slices_IndexFunc_s_int64_int64__rule0 (S : SatT) (K : AVal → H → Prop) (s0_ : Sl) (f1_ : AVal) (i7_ : Int) (I_ : Int → H → Prop) (m_ : Int → H → Nat)
    (hs : ∀ (X0 : Frame → H → Prop) (i8_ : Int) (h : H), I_ i8_ h → (∀ (i8_' : Int) (h' : H), I_ i8_' h' → m_ i8_' h' < m_ i8_ h → X0 (slices_IndexFunc_s_int64_int64__e0 s0_ f1_ i7_ i8_') h') → slices_IndexFunc_s_int64_int64__b0 S K X0 s0_ f1_ i7_ i8_ h) (i8_ : Int) {h : H} (h0 : I_ i8_ h) : slices_IndexFunc_s_int64_int64__L0 S K s0_ f1_ i7_ i8_ h :=
  loop_rule (σ := (Int)) (fun s_ => slices_IndexFunc_s_int64_int64__e0 s0_ f1_ i7_ (s_)) (fun s_ h => I_ (s_) h) (fun s_ h => m_ (s_) h)
    (fun X s_ h hi hx => (slices_IndexFunc_s_int64_int64__link0 S K X s0_ f1_ i7_ (s_) h).mpr (hs X (s_) h hi fun i8_' h' hi' hm' => hx (i8_') h' hi' hm')) (i8_) h0
theorem slices_IndexFunc_s_int64_int64__unroll0 (S : SatT) (K : AVal → H → Prop) (s0_ : Sl) (f1_ : AVal) (i7_ : Int) (i8_ : Int) (h : H) (hb : slices_IndexFunc_s_int64_int64__b0 S K (fun fr h => loopK (slices_IndexFunc_s_int64_int64__w0 S K) fr h) s0_ f1_ i7_ i8_ h) : slices_IndexFunc_s_int64_int64__L0 S K s0_ f1_ i7_ i8_ h := loop_unroll ((slices_IndexFunc_s_int64_int64__link0 S K _ s0_ f1_ i7_ i8_ h).mpr hb)
def slices_IndexFunc_s_int64_int64__main (S : SatT) (K : AVal → H → Prop) (x0 : Sl) (x1 : AVal) (h : H) : Prop :=
 slices_IndexFunc_s_int64_int64__L0 S K x0 x1 (x0.len : Int) (0) h
theorem slices_IndexFunc_s_int64_int64__main_link (S : SatT) (K : AVal → H → Prop) (x0 : Sl) (x1 : AVal) (h : H) : cwp S tab slices_IndexFunc_s_int64_int64__M [] (bodyOf Try.f106) (kFun tab Try.f106.results.toList K) (fr0 Try.f106 [.sl x0, x1]) h = slices_IndexFunc_s_int64_int64__main S K x0 x1 h := by kernel_rfl
theorem slices_IndexFunc_s_int64_int64__call (x0 : Sl) (x1 : AVal) (h : H) (K : Int → H → Prop) (hm : slices_IndexFunc_s_int64_int64__main (Sat Try.prog) (fun v h' => ∃ r, v = .int .i64 r ∧ K r h') x0 x1 h) : callI (Sat Try.prog) .i64 i_slices_IndexFunc_s_int64_int64_ [.sl x0, x1] h K := by
  have := Sat.ex tok mixed slices_IndexFunc_s_int64_int64__M Try.func106 (c := bodyOf Try.f106) (by kernel_rfl) (calls_of Try.func106 (c := bodyOf Try.f106) (by kernel_rfl) (by decide)) ((slices_IndexFunc_s_int64_int64__main_link _ _ x0 x1 h).mpr hm)
  obtain ⟨v, h2, h3, r, rfl, h4⟩ := this; exact ⟨r, h2, h3, h4⟩

/-! ### loop.example/g01354/laws.toTile -/
def laws_toTile_M : Nat → List Nat := fun i => bif i == 0 then [1, 2, 3, 4] else []
def laws_toTile_ks2 (S : SatT) (K : AVal → H → Prop) : Kont := kSeq (cwp S tab laws_toTile_M [] (sub [1, 1, 1] (bodyOf Try.f61)) (kFun tab (Try.f61).results.toList K)) (kFun tab (Try.f61).results.toList K)
def laws_toTile_e0 (p1_ : Pt) (p2_ : Pt) (p3_ : Pt) (i4_ : Int) : Frame := [U, .ptr p1_, .ptr p2_, .ptr p3_, .int .i64 i4_, U, U, U, U, U, U, U, U, U, U]
def laws_toTile_w0 (S : SatT) (K : AVal → H → Prop) : (Frame → H → Prop) → Frame → H → Prop := fun X fr h => cwp S tab laws_toTile_M (laws_toTile_M 0) (sub [1, 1, 0, 1, 0, 0] (bodyOf Try.f61)) (kSeq (fun fr h => X (mask (laws_toTile_M 0) fr) h) (kBlk 0 (laws_toTile_ks2 S K))) fr h
def laws_toTile_L0 (S : SatT) (K : AVal → H → Prop) (p1_ : Pt) (p2_ : Pt) (p3_ : Pt) (i4_ : Int) (h : H) : Prop := loopK (laws_toTile_w0 S K) (laws_toTile_e0 p1_ p2_ p3_ i4_) h
def laws_toTile_C0 (S : SatT) (K : AVal → H → Prop) (p2_ : Pt) (p3_ : Pt) (h : H) : Prop :=
 ldA p3_ 4 h fun cs0 =>
 stN p2_ 4 cs0 h fun h1 =>
 ldA p2_ 4 h1 fun cs2 =>
 K (.agg cs2) h1
def laws_toTile_b0 (S : SatT) (K : AVal → H → Prop) (X0 : Frame → H → Prop) (p1_ : Pt) (p2_ : Pt) (p3_ : Pt) (i4_ : Int) (h : H) : Prop :=
 bif (decide (i4_ < (4))) then
 ixA p1_ 4 1 i4_ fun p0 =>
 ldI .i64 p0 h fun n1 =>
 ixA p3_ 4 1 i4_ fun p2 =>
 st1 p2 (.int .i64 n1) h fun h3 =>
 X0 (laws_toTile_e0 p1_ p2_ p3_ (w64 (i4_ + (1)))) h3
 else
 laws_toTile_C0 S K p2_ p3_ h
theorem laws_toTile_link0 (S : SatT) (K : AVal → H → Prop) (X0 : Frame → H → Prop) (p1_ : Pt) (p2_ : Pt) (p3_ : Pt) (i4_ : Int) (h : H) : laws_toTile_w0 S K X0 (laws_toTile_e0 p1_ p2_ p3_ i4_) h = laws_toTile_b0 S K X0 p1_ p2_ p3_ i4_ h := by kernel_rfl
theorem laws_toTile_rule0 (S : SatT) (K : AVal → H → Prop) (p1_ : Pt) (p2_ : Pt) (p3_ : Pt) (I_ : Int → H → Prop) (m_ : Int → H → Nat)
    (hs : ∀ (X0 : Frame → H → Prop) (i4_ : Int) (h : H), I_ i4_ h → (∀ (i4_' : Int) (h' : H), I_ i4_' h' → m_ i4_' h' < m_ i4_ h → X0 (laws_toTile_e0 p1_ p2_ p3_ i4_') h') → laws_toTile_b0 S K X0 p1_ p2_ p3_ i4_ h) (i4_ : Int) {h : H} (h0 : I_ i4_ h) : laws_toTile_L0 S K p1_ p2_ p3_ i4_ h :=
  loop_rule (σ := (Int)) (fun s_ => laws_toTile_e0 p1_ p2_ p3_ (s_)) (fun s_ h => I_ (s_) h) (fun s_ h => m_ (s_) h)
    (fun X s_ h hi hx => (laws_toTile_link0 S K X p1_ p2_ p3_ (s_) h).mpr (hs X (s_) h hi fun i4_' h' hi' hm' => hx (i4_') h' hi' hm')) (i4_) h0
theorem laws_toTile_unroll0 (S : SatT) (K : AVal → H → Prop) (p1_ : Pt) (p2_ : Pt) (p3_ : Pt) (i4_ : Int) (h : H) (hb : laws_toTile_b0 S K (fun fr h => loopK (laws_toTile_w0 S K) fr h) p1_ p2_ p3_ i4_ h) : laws_toTile_L0 S K p1_ p2_ p3_ i4_ h := loop_unroll ((laws_toTile_link0 S K _ p1_ p2_ p3_ i4_ h).mpr hb)
def laws_toTile_main (S : SatT) (K : AVal → H → Prop) (x0 : List AVal) (h : H) : Prop :=
 newK 4 x0 h fun p0 h1 =>
 newO [.int .i64 (0), .int .i64 (0), .int .i64 (0), .int .i64 (0)] h1 fun p2 h3 =>
 newO [.int .i64 (0), .int .i64 (0), .int .i64 (0), .int .i64 (0)] h3 fun p4 h5 =>
 laws_toTile_L0 S K p0 p2 p4 (0) h5
theorem laws_toTile_main_link (S : SatT) (K : AVal → H → Prop) (x0 : List AVal) (h : H) : cwp S tab laws_toTile_M [] (bodyOf Try.f61) (kFun tab Try.f61.results.toList K) (fr0 Try.f61 [.agg x0]) h = laws_toTile_main S K x0 h := by kernel_rfl
theorem laws_toTile_call (x0 : List AVal) (h : H) (K : List AVal → H → Prop) (hm : laws_toTile_main (Sat Try.prog) (fun v h' => ∃ r, v = .agg r ∧ K r h') x0 h) : callA (Sat Try.prog) i_laws_toTile [.agg x0] h K := by
  have := Sat.ex tok mixed laws_toTile_M Try.func61 (c := bodyOf Try.f61) (by kernel_rfl) (calls_of Try.func61 (c := bodyOf Try.f61) (by kernel_rfl) (by decide)) ((laws_toTile_main_link _ _ x0 h).mpr hm)
  obtain ⟨v, h2, h3, r, rfl, h4⟩ := this; exact ⟨r, h2, h3, h4⟩

/-! ### loop.example/g01354/laws.eqInt64S -/
def laws_eqInt64S_M : Nat → List Nat := fun i => bif i == 0 then [0, 1, 5] else []
def laws_eqInt64S_ks4 (S : SatT) (K : AVal → H → Prop) : Kont := kSeq (cwp S tab laws_eqInt64S_M [] (sub [1, 1, 1] (bodyOf Try.f18)) (kFun tab (Try.f18).results.toList K)) (kFun tab (Try.f18).results.toList K)
def laws_eqInt64S_e0 (s0_ : Sl) (s1_ : Sl) (i5_ : Int) : Frame := [.sl s0_, .sl s1_, U, U, U, .int .i64 i5_, U, U, U, U, U, U, U, U, U, U, U, U, U, U, U, U, U, U, U, U]
def laws_eqInt64S_w0 (S : SatT) (K : AVal → H → Prop) : (Frame → H → Prop) → Frame → H → Prop := fun X fr h => cwp S tab laws_eqInt64S_M (laws_eqInt64S_M 0) (sub [1, 1, 0, 1, 0, 0] (bodyOf Try.f18)) (kSeq (fun fr h => X (mask (laws_eqInt64S_M 0) fr) h) (kBlk 0 (laws_eqInt64S_ks4 S K))) fr h
def laws_eqInt64S_L0 (S : SatT) (K : AVal → H → Prop) (s0_ : Sl) (s1_ : Sl) (i5_ : Int) (h : H) : Prop := loopK (laws_eqInt64S_w0 S K) (laws_eqInt64S_e0 s0_ s1_ i5_) h
def laws_eqInt64S_C0 (S : SatT) (K : AVal → H → Prop) (h : H) : Prop :=
 K (.bool true) h
def laws_eqInt64S_b0 (S : SatT) (K : AVal → H → Prop) (X0 : Frame → H → Prop) (s0_ : Sl) (s1_ : Sl) (i5_ : Int) (h : H) : Prop :=
 bif (decide (i5_ < (s0_.len : Int))) then
 ixS s0_ 1 i5_ fun p0 =>
 ldI .i64 p0 h fun n1 =>
 ixS s1_ 1 i5_ fun p2 =>
 ldI .i64 p2 h fun n3 =>
 bif (n1 != n3) then
 K (.bool false) h
 else
 X0 (laws_eqInt64S_e0 s0_ s1_ (w64 (i5_ + (1)))) h
 else
 laws_eqInt64S_C0 S K h
theorem laws_eqInt64S_link0 (S : SatT) (K : AVal → H → Prop) (X0 : Frame → H → Prop) (s0_ : Sl) (s1_ : Sl) (i5_ : Int) (h : H) : laws_eqInt64S_w0 S K X0 (laws_eqInt64S_e0 s0_ s1_ i5_) h = laws_eqInt64S_b0 S K X0 s0_ s1_ i5_ h := by kernel_rfl
theorem laws_eqInt64S_rule0 (S : SatT) (K : AVal → H → Prop) (s0_ : Sl) (s1_ : Sl) (I_ : Int → H → Prop) (m_ : Int → H → Nat)
    (hs : ∀ (X0 : Frame → H → Prop) (i5_ : Int) (h : H), I_ i5_ h → (∀ (i5_' : Int) (h' : H), I_ i5_' h' → m_ i5_' h' < m_ i5_ h → X0 (laws_eqInt64S_e0 s0_ s1_ i5_') h') → laws_eqInt64S_b0 S K X0 s0_ s1_ i5_ h) (i5_ : Int) {h : H} (h0 : I_ i5_ h) : laws_eqInt64S_L0 S K s0_ s1_ i5_ h :=
  loop_rule (σ := (Int)) (fun s_ => laws_eqInt64S_e0 s0_ s1_ (s_)) (fun s_ h => I_ (s_) h) (fun s_ h => m_ (s_) h)
    (fun X s_ h hi hx => (laws_eqInt64S_link0 S K X s0_ s1_ (s_) h).mpr (hs X (s_) h hi fun i5_' h' hi' hm' => hx (i5_') h' hi' hm')) (i5_) h0
theorem laws_eqInt64S_unroll0 (S : SatT) (K : AVal → H → Prop) (s0_ : Sl) (s1_ : Sl) (i5_ : Int) (h : H) (hb : laws_eqInt64S_b0 S K (fun fr h => loopK (laws_eqInt64S_w0 S K) fr h) s0_ s1_ i5_ h) : laws_eqInt64S_L0 S K s0_ s1_ i5_ h := loop_unroll ((laws_eqInt64S_link0 S K _ s0_ s1_ i5_ h).mpr hb)
def laws_eqInt64S_main (S : SatT) (K : AVal → H → Prop) (x0 : Sl) (x1 : Sl) (h : H) : Prop :=
 bif ((x0.len : Int) != (x1.len : Int)) then
 K (.bool false) h
 else
 laws_eqInt64S_L0 S K x0 x1 (0) h
theorem laws_eqInt64S_main_link (S : SatT) (K : AVal → H → Prop) (x0 : Sl) (x1 : Sl) (h : H) : cwp S tab laws_eqInt64S_M [] (bodyOf Try.f18) (kFun tab Try.f18.results.toList K) (fr0 Try.f18 [.sl x0, .sl x1]) h = laws_eqInt64S_main S K x0 x1 h := by kernel_rfl
theorem laws_eqInt64S_call (x0 : Sl) (x1 : Sl) (h : H) (K : Bool → H → Prop) (hm : laws_eqInt64S_main (Sat Try.prog) (fun v h' => ∃ r, v = .bool r ∧ K r h') x0 x1 h) : callB (Sat Try.prog) i_laws_eqInt64S [.sl x0, .sl x1] h K := by
  have := Sat.ex tok mixed laws_eqInt64S_M Try.func18 (c := bodyOf Try.f18) (by kernel_rfl) (calls_of Try.func18 (c := bodyOf Try.f18) (by kernel_rfl) (by decide)) ((laws_eqInt64S_main_link _ _ x0 x1 h).mpr hm)
  obtain ⟨v, h2, h3, r, rfl, h4⟩ := this; exact ⟨r, h2, h3, h4⟩

/-! ### loop.example/g01354/laws.toInt64S -/
def laws_toInt64S_M : Nat → List Nat := fun i => bif i == 0 then [0, 3, 4] else []
def laws_toInt64S_ks2 (S : SatT) (K : AVal → H → Prop) : Kont := kSeq (cwp S tab laws_toInt64S_M [] (sub [1, 1, 1] (bodyOf Try.f16)) (kFun tab (Try.f16).results.toList K)) (kFun tab (Try.f16).results.toList K)
def laws_toInt64S_e0 (s0_ : Sl) (s3_ : Sl) (i4_ : Int) : Frame := [.sl s0_, U, U, .sl s3_, .int .i64 i4_, U, U, U, U, U, U, U, U, U, U, U, U, U, U, U, U, U]
def laws_toInt64S_w0 (S : SatT) (K : AVal → H → Prop) : (Frame → H → Prop) → Frame → H → Prop := fun X fr h => cwp S tab laws_toInt64S_M (laws_toInt64S_M 0) (sub [1, 1, 0, 1, 0, 0] (bodyOf Try.f16)) (kSeq (fun fr h => X (mask (laws_toInt64S_M 0) fr) h) (kBlk 0 (laws_toInt64S_ks2 S K))) fr h
def laws_toInt64S_L0 (S : SatT) (K : AVal → H → Prop) (s0_ : Sl) (s3_ : Sl) (i4_ : Int) (h : H) : Prop := loopK (laws_toInt64S_w0 S K) (laws_toInt64S_e0 s0_ s3_ i4_) h
def laws_toInt64S_C0 (S : SatT) (K : AVal → H → Prop) (s3_ : Sl) (h : H) : Prop :=
 K (.sl s3_) h
def laws_toInt64S_b0 (S : SatT) (K : AVal → H → Prop) (X0 : Frame → H → Prop) (s0_ : Sl) (s3_ : Sl) (i4_ : Int) (h : H) : Prop :=
 bif (decide (i4_ < (s0_.len : Int))) then
 ixS s0_ 1 i4_ fun p0 =>
 ldI .i64 p0 h fun n1 =>
 ixS s3_ 1 i4_ fun p2 =>
 st1 p2 (.int .i64 n1) h fun h3 =>
 X0 (laws_toInt64S_e0 s0_ s3_ (w64 (i4_ + (1)))) h3
 else
 laws_toInt64S_C0 S K s3_ h
theorem laws_toInt64S_link0 (S : SatT) (K : AVal → H → Prop) (X0 : Frame → H → Prop) (s0_ : Sl) (s3_ : Sl) (i4_ : Int) (h : H) : laws_toInt64S_w0 S K X0 (laws_toInt64S_e0 s0_ s3_ i4_) h = laws_toInt64S_b0 S K X0 s0_ s3_ i4_ h := by kernel_rfl
theorem laws_toInt64S_rule0 (S : SatT) (K : AVal → H → Prop) (s0_ : Sl) (s3_ : Sl) (I_ : Int → H → Prop) (m_ : Int → H → Nat)
    (hs : ∀ (X0 : Frame → H → Prop) (i4_ : Int) (h : H), I_ i4_ h → (∀ (i4_' : Int) (h' : H), I_ i4_' h' → m_ i4_' h' < m_ i4_ h → X0 (laws_toInt64S_e0 s0_ s3_ i4_') h') → laws_toInt64S_b0 S K X0 s0_ s3_ i4_ h) (i4_ : Int) {h : H} (h0 : I_ i4_ h) : laws_toInt64S_L0 S K s0_ s3_ i4_ h :=
  loop_rule (σ := (Int)) (fun s_ => laws_toInt64S_e0 s0_ s3_ (s_)) (fun s_ h => I_ (s_) h) (fun s_ h => m_ (s_) h)
    (fun X s_ h hi hx => (laws_toInt64S_link0 S K X s0_ s3_ (s_) h).mpr (hs X (s_) h hi fun i4_' h' hi' hm' => hx (i4_') h' hi' hm')) (i4_) h0
theorem laws_toInt64S_unroll0 (S : SatT) (K : AVal → H → Prop) (s0_ : Sl) (s3_ : Sl) (i4_ : Int) (h : H) (hb : laws_toInt64S_b0 S K (fun fr h => loopK (laws_toInt64S_w0 S K) fr h) s0_ s3_ i4_ h) : laws_toInt64S_L0 S K s0_ s3_ i4_ h := loop_unroll ((laws_toInt64S_link0 S K _ s0_ s3_ i4_ h).mpr hb)
def laws_toInt64S_main (S : SatT) (K : AVal → H → Prop) (x0 : Sl) (h : H) : Prop :=
 mkS (x0.len : Int) [.int .i64 (0)] h fun s0 h1 =>
 laws_toInt64S_L0 S K x0 s0 (0) h1
theorem laws_toInt64S_main_link (S : SatT) (K : AVal → H → Prop) (x0 : Sl) (h : H) : cwp S tab laws_toInt64S_M [] (bodyOf Try.f16) (kFun tab Try.f16.results.toList K) (fr0 Try.f16 [.sl x0]) h = laws_toInt64S_main S K x0 h := by kernel_rfl
theorem laws_toInt64S_call (x0 : Sl) (h : H) (K : Sl → H → Prop) (hm : laws_toInt64S_main (Sat Try.prog) (fun v h' => ∃ r, v = .sl r ∧ K r h') x0 h) : callS (Sat Try.prog) i_laws_toInt64S [.sl x0] h K := by
  have := Sat.ex tok mixed laws_toInt64S_M Try.func16 (c := bodyOf Try.f16) (by kernel_rfl) (calls_of Try.func16 (c := bodyOf Try.f16) (by kernel_rfl) (by decide)) ((laws_toInt64S_main_link _ _ x0 h).mpr hm)
  obtain ⟨v, h2, h3, r, rfl, h4⟩ := this; exact ⟨r, h2, h3, h4⟩

/-! ### loop.example/g01354/spec.l04Tile -/
def spec_l04Tile_M : Nat → List Nat := fun i => []
def spec_l04Tile_main (S : SatT) (K : AVal → H → Prop) (x0 : List AVal) (x1 : List AVal) (x2 : Sl) (h : H) : Prop :=
 newK 4 x0 h fun p0 h1 =>
 newK 4 x1 h1 fun p2 h3 =>
 newO [.int .i64 (0), .int .i64 (0), .int .i64 (0), .int .i64 (0)] h3 fun p4 h5 =>
 ixA p0 4 1 (0) fun p6 =>
 ldI .i64 p6 h5 fun n7 =>
 ixA p2 4 1 (0) fun p8 =>
 ldI .i64 p8 h5 fun n9 =>
 callI S .i64 i_spec_l04Find [.sl x2, .int .i64 (w64 ((w64 ((16) * n7)) + n9))] h5 fun n11 h10 =>
 ixA p0 4 1 (1) fun p12 =>
 ldI .i64 p12 h10 fun n13 =>
(cell h5 p12 = cell h10 p12) ∧ (
 ixA p0 4 1 (2) fun p14 =>
 ldI .i64 p14 h10 fun n15 =>
(cell h5 p14 = cell h10 p14) ∧ (
 ixA p2 4 1 (2) fun p16 =>
 ldI .i64 p16 h10 fun n17 =>
(cell h5 p16 = cell h10 p16) ∧ (
 callI S .i64 i_spec_l04Find [.sl x2, .int .i64 (w64 ((w64 ((16) * n15)) + n17))] h10 fun n19 h18 =>
(cell h18 p12 = cell h10 p12) ∧ (
 ixA p2 4 1 (3) fun p20 =>
 ldI .i64 p20 h18 fun n21 =>
(cell h10 p20 = cell h18 p20) ∧ (
(cell h5 p20 = cell h18 p20) ∧ (
 stN p4 4 [.int .i64 n11, .int .i64 n13, .int .i64 n19, .int .i64 n21] h18 fun h22 =>
 ldA p4 4 h22 fun cs23 =>
 K (.agg cs23) h22))))))
theorem spec_l04Tile_main_link (S : SatT) (K : AVal → H → Prop) (x0 : List AVal) (x1 : List AVal) (x2 : Sl) (h : H) : cwp S tab spec_l04Tile_M [] (bodyOf Try.f38) (kFun tab Try.f38.results.toList K) (fr0 Try.f38 [.agg x0, .agg x1, .sl x2]) h = spec_l04Tile_main S K x0 x1 x2 h := by kernel_rfl
theorem spec_l04Tile_call (x0 : List AVal) (x1 : List AVal) (x2 : Sl) (h : H) (K : List AVal → H → Prop) (hm : spec_l04Tile_main (Sat Try.prog) (fun v h' => ∃ r, v = .agg r ∧ K r h') x0 x1 x2 h) : callA (Sat Try.prog) i_spec_l04Tile [.agg x0, .agg x1, .sl x2] h K := by
  have := Sat.ex tok mixed spec_l04Tile_M Try.func38 (c := bodyOf Try.f38) (by kernel_rfl) (calls_of Try.func38 (c := bodyOf Try.f38) (by kernel_rfl) (by decide)) ((spec_l04Tile_main_link _ _ x0 x1 x2 h).mpr hm)
  obtain ⟨v, h2, h3, r, rfl, h4⟩ := this; exact ⟨r, h2, h3, h4⟩

/-! ### slices.ContainsFunc[[]loop.example/g01354/impl.Set,loop.example/g01354/impl.Set] -/
def slices_ContainsFunc_s_impl_Set_impl_Set__M : Nat → List Nat := fun i => []
def slices_ContainsFunc_s_impl_Set_impl_Set__main (S : SatT) (K : AVal → H → Prop) (x0 : Sl) (x1 : AVal) (h : H) : Prop :=
 callI S .i64 i_slices_IndexFunc_s_impl_Set_impl_Set_ [.sl x0, x1] h fun n1 h0 =>
 K (.bool (decide (n1 ≥ (0)))) h0
theorem slices_ContainsFunc_s_impl_Set_impl_Set__main_link (S : SatT) (K : AVal → H → Prop) (x0 : Sl) (x1 : AVal) (h : H) : cwp S tab slices_ContainsFunc_s_impl_Set_impl_Set__M [] (bodyOf Try.f62) (kFun tab Try.f62.results.toList K) (fr0 Try.f62 [.sl x0, x1]) h = slices_ContainsFunc_s_impl_Set_impl_Set__main S K x0 x1 h := by kernel_rfl
theorem slices_ContainsFunc_s_impl_Set_impl_Set__call (x0 : Sl) (x1 : AVal) (h : H) (K : Bool → H → Prop) (hm : slices_ContainsFunc_s_impl_Set_impl_Set__main (Sat Try.prog) (fun v h' => ∃ r, v = .bool r ∧ K r h') x0 x1 h) : callB (Sat Try.prog) i_slices_ContainsFunc_s_impl_Set_impl_Set_ [.sl x0, x1] h K := by
  have := Sat.ex tok mixed slices_ContainsFunc_s_impl_Set_impl_Set__M Try.func62 (c := bodyOf Try.f62) (by kernel_rfl) (calls_of Try.func62 (c := bodyOf Try.f62) (by kernel_rfl) (by decide)) ((slices_ContainsFunc_s_impl_Set_impl_Set__main_link _ _ x0 x1 h).mpr hm)
  obtain ⟨v, h2, h3, r, rfl, h4⟩ := this; exact ⟨r, h2, h3, h4⟩

/-! ### loop.example/g01354/impl.pairOf -/
def impl_pairOf_M : Nat → List Nat := fun i => []
def impl_pairOf_main (S : SatT) (K : AVal → H → Prop) (x0 : List AVal) (x1 : List AVal) (x2 : Int) (h : H) : Prop :=
 newK 4 x0 h fun p0 h1 =>
 newK 4 x1 h1 fun p2 h3 =>
 newO [.int .i64 (0), .int .i64 (0)] h3 fun p4 h5 =>
 ixA p0 4 1 x2 fun p6 =>
 ldI .i64 p6 h5 fun n7 =>
 ixA p2 4 1 x2 fun p8 =>
 ldI .i64 p8 h5 fun n9 =>
 stN p4 2 [.int .i64 n7, .int .i64 n9] h5 fun h10 =>
 ldA p4 2 h10 fun cs11 =>
 K (.agg cs11) h10
theorem impl_pairOf_main_link (S : SatT) (K : AVal → H → Prop) (x0 : List AVal) (x1 : List AVal) (x2 : Int) (h : H) : cwp S tab impl_pairOf_M [] (bodyOf Try.f71) (kFun tab Try.f71.results.toList K) (fr0 Try.f71 [.agg x0, .agg x1, .int .i64 x2]) h = impl_pairOf_main S K x0 x1 x2 h := by kernel_rfl
theorem impl_pairOf_call (x0 : List AVal) (x1 : List AVal) (x2 : Int) (h : H) (K : List AVal → H → Prop) (hm : impl_pairOf_main (Sat Try.prog) (fun v h' => ∃ r, v = .agg r ∧ K r h') x0 x1 x2 h) : callA (Sat Try.prog) i_impl_pairOf [.agg x0, .agg x1, .int .i64 x2] h K := by
  have := Sat.ex tok mixed impl_pairOf_M Try.func71 (c := bodyOf Try.f71) (by kernel_rfl) (calls_of Try.func71 (c := bodyOf Try.f71) (by kernel_rfl) (by decide)) ((impl_pairOf_main_link _ _ x0 x1 x2 h).mpr hm)
  obtain ⟨v, h2, h3, r, rfl, h4⟩ := this; exact ⟨r, h2, h3, h4⟩

/-! ### loop.example/g01354/impl.pairs$1 -/
def impl_pairs_1_M : Nat → List Nat := fun i => []
def impl_pairs_1_main (S : SatT) (K : AVal → H → Prop) (x0 : List AVal) (x1 : List AVal) (h : H) : Prop :=
 newK 2 x0 h fun p0 h1 =>
 newK 2 x1 h1 fun p2 h3 =>
 cutA p0 2 1 (0) ((2 : Nat) : Int) fun s4 =>
 cutA p2 2 1 (0) ((2 : Nat) : Int) fun s5 =>
 callI S .i64 i_slices_Compare_s_int64_int64_ [.sl s4, .sl s5] h3 fun n7 h6 =>
 K (.int .i64 n7) h6
theorem impl_pairs_1_main_link (S : SatT) (K : AVal → H → Prop) (x0 : List AVal) (x1 : List AVal) (h : H) : cwp S tab impl_pairs_1_M [] (bodyOf Try.f87) (kFun tab Try.f87.results.toList K) (fr0 Try.f87 [.agg x0, .agg x1]) h = impl_pairs_1_main S K x0 x1 h := by kernel_rfl
theorem impl_pairs_1_call (x0 : List AVal) (x1 : List AVal) (h : H) (K : Int → H → Prop) (hm : impl_pairs_1_main (Sat Try.prog) (fun v h' => ∃ r, v = .int .i64 r ∧ K r h') x0 x1 h) : callI (Sat Try.prog) .i64 i_impl_pairs_1 [.agg x0, .agg x1] h K := by
  have := Sat.ex tok mixed impl_pairs_1_M Try.func87 (c := bodyOf Try.f87) (by kernel_rfl) (calls_of Try.func87 (c := bodyOf Try.f87) (by kernel_rfl) (by decide)) ((impl_pairs_1_main_link _ _ x0 x1 h).mpr hm)
  obtain ⟨v, h2, h3, r, rfl, h4⟩ := this; exact ⟨r, h2, h3, h4⟩

/-! ### loop.example/g01354/impl.isTile -/
def impl_isTile_M : Nat → List Nat := fun i => []
def impl_isTile_main (S : SatT) (K : AVal → H → Prop) (x0 : List AVal) (x1 : Int) (h : H) : Prop :=
 newK 4 x0 h fun p0 h1 =>
 newO [.int .i64 x1] h1 fun p2 h3 =>
 cutA p0 4 1 (0) ((4 : Nat) : Int) fun s4 =>
 callB S i_slices_ContainsFunc_s_int64_int64_ [.sl s4, .func 93 [.ptr p2]] h3 fun b6 h5 =>
 K (.bool (!b6)) h5
theorem impl_isTile_main_link (S : SatT) (K : AVal → H → Prop) (x0 : List AVal) (x1 : Int) (h : H) : cwp S tab impl_isTile_M [] (bodyOf Try.f84) (kFun tab Try.f84.results.toList K) (fr0 Try.f84 [.agg x0, .int .i64 x1]) h = impl_isTile_main S K x0 x1 h := by kernel_rfl
theorem impl_isTile_call (x0 : List AVal) (x1 : Int) (h : H) (K : Bool → H → Prop) (hm : impl_isTile_main (Sat Try.prog) (fun v h' => ∃ r, v = .bool r ∧ K r h') x0 x1 h) : callB (Sat Try.prog) i_impl_isTile [.agg x0, .int .i64 x1] h K := by
  have := Sat.ex tok mixed impl_isTile_M Try.func84 (c := bodyOf Try.f84) (by kernel_rfl) (calls_of Try.func84 (c := bodyOf Try.f84) (by kernel_rfl) (by decide)) ((impl_isTile_main_link _ _ x0 x1 h).mpr hm)
  obtain ⟨v, h2, h3, r, rfl, h4⟩ := this; exact ⟨r, h2, h3, h4⟩

/-! ### loop.example/g01354/laws.markSet -/
def laws_markSet_M : Nat → List Nat := fun i => []
def laws_markSet_main (S : SatT) (K : AVal → H → Prop) (x0 : List AVal) (x1 : Int) (h : H) : Prop :=
 newK 2 x0 h fun p0 h1 =>
 isPt p0 (
 ldS (Pt.add p0 1) h1 fun s2 =>
 callI S .i64 i_laws_markTileS [.sl s2, .int .i64 x1] h1 fun n4 h3 =>
 K (.int .i64 n4) h3)
theorem laws_markSet_main_link (S : SatT) (K : AVal → H → Prop) (x0 : List AVal) (x1 : Int) (h : H) : cwp S tab laws_markSet_M [] (bodyOf Try.f13) (kFun tab Try.f13.results.toList K) (fr0 Try.f13 [.agg x0, .int .i64 x1]) h = laws_markSet_main S K x0 x1 h := by kernel_rfl
theorem laws_markSet_call (x0 : List AVal) (x1 : Int) (h : H) (K : Int → H → Prop) (hm : laws_markSet_main (Sat Try.prog) (fun v h' => ∃ r, v = .int .i64 r ∧ K r h') x0 x1 h) : callI (Sat Try.prog) .i64 i_laws_markSet [.agg x0, .int .i64 x1] h K := by
  have := Sat.ex tok mixed laws_markSet_M Try.func13 (c := bodyOf Try.f13) (by kernel_rfl) (calls_of Try.func13 (c := bodyOf Try.f13) (by kernel_rfl) (by decide)) ((laws_markSet_main_link _ _ x0 x1 h).mpr hm)
  obtain ⟨v, h2, h3, r, rfl, h4⟩ := this; exact ⟨r, h2, h3, h4⟩

/-! ### slices.Collect[loop.example/g01354/impl.Tile] -/
def slices_Collect_impl_Tile__M : Nat → List Nat := fun i => []
def slices_Collect_impl_Tile__main (S : SatT) (K : AVal → H → Prop) (x0 : AVal) (h : H) : Prop :=
 callS S i_slices_AppendSeq_s_impl_Tile_impl_Tile_ [.sl Sl.nil, x0] h fun s1 h0 =>
 K (.sl s1) h0
theorem slices_Collect_impl_Tile__main_link (S : SatT) (K : AVal → H → Prop) (x0 : AVal) (h : H) : cwp S tab slices_Collect_impl_Tile__M [] (bodyOf Try.f76) (kFun tab Try.f76.results.toList K) (fr0 Try.f76 [x0]) h = slices_Collect_impl_Tile__main S K x0 h := by kernel_rfl
theorem slices_Collect_impl_Tile__call (x0 : AVal) (h : H) (K : Sl → H → Prop) (hm : slices_Collect_impl_Tile__main (Sat Try.prog) (fun v h' => ∃ r, v = .sl r ∧ K r h') x0 h) : callS (Sat Try.prog) i_slices_Collect_impl_Tile_ [x0] h K := by
  have := Sat.ex tok mixed slices_Collect_impl_Tile__M Try.func76 (c := bodyOf Try.f76) (by kernel_rfl) (calls_of Try.func76 (c := bodyOf Try.f76) (by kernel_rfl) (by decide)) ((slices_Collect_impl_Tile__main_link _ _ x0 h).mpr hm)
  obtain ⟨v, h2, h3, r, rfl, h4⟩ := this; exact ⟨r, h2, h3, h4⟩

/-! ### loop.example/g01354/impl.areSets -/
def impl_areSets_M : Nat → List Nat := fun i => []
def impl_areSets_main (S : SatT) (K : AVal → H → Prop) (x0 : Sl) (h : H) : Prop :=
 callB S i_slices_ContainsFunc_s_impl_Set_impl_Set_ [.sl x0, .func 63 []] h fun b1 h0 =>
 K (.bool (!b1)) h0
theorem impl_areSets_main_link (S : SatT) (K : AVal → H → Prop) (x0 : Sl) (h : H) : cwp S tab impl_areSets_M [] (bodyOf Try.f31) (kFun tab Try.f31.results.toList K) (fr0 Try.f31 [.sl x0]) h = impl_areSets_main S K x0 h := by kernel_rfl
theorem impl_areSets_call (x0 : Sl) (h : H) (K : Bool → H → Prop) (hm : impl_areSets_main (Sat Try.prog) (fun v h' => ∃ r, v = .bool r ∧ K r h') x0 h) : callB (Sat Try.prog) i_impl_areSets [.sl x0] h K := by
  have := Sat.ex tok mixed impl_areSets_M Try.func31 (c := bodyOf Try.f31) (by kernel_rfl) (calls_of Try.func31 (c := bodyOf Try.f31) (by kernel_rfl) (by decide)) ((impl_areSets_main_link _ _ x0 h).mpr hm)
  obtain ⟨v, h2, h3, r, rfl, h4⟩ := this; exact ⟨r, h2, h3, h4⟩

/-! ### loop.example/g01354/spec.l04Made -/
def spec_l04Made_M : Nat → List Nat := fun i => bif i == 2 then [2, 3, 4, 6, 7, 8, 9] else bif i == 0 then [2, 3, 4, 6, 7, 8] else []
def spec_l04Made_ks2 (S : SatT) (K : AVal → H → Prop) : Kont := kSeq (cwp S tab spec_l04Made_M [] (sub [1, 1, 1] (bodyOf Try.f29)) (kFun tab (Try.f29).results.toList K)) (kFun tab (Try.f29).results.toList K)
def spec_l04Made_e0 (p2_ : Pt) (p3_ : Pt) (p4_ : Pt) (s6_ : Sl) (s7_ : Sl) (i8_ : Int) : Frame := [U, U, .ptr p2_, .ptr p3_, .ptr p4_, U, .sl s6_, .sl s7_, .int .i64 i8_, U, U, U, U, U, U, U, U, U, U, U, U, U, U, U, U, U, U, U, U, U, U, U, U, U, U, U, U, U, U, U, U, U, U, U, U, U, U, U, U, U, U, U, U, U, U, U, U, U, U, U, U, U, U, U, U, U, U, U, U, U, U, U, U, U, U, U, U]
def spec_l04Made_w0 (S : SatT) (K : AVal → H → Prop) : (Frame → H → Prop) → Frame → H → Prop := fun X fr h => cwp S tab spec_l04Made_M (spec_l04Made_M 0) (sub [1, 1, 0, 1, 0, 0] (bodyOf Try.f29)) (kSeq (fun fr h => X (mask (spec_l04Made_M 0) fr) h) (kBlk 0 (spec_l04Made_ks2 S K))) fr h
def spec_l04Made_L0 (S : SatT) (K : AVal → H → Prop) (p2_ : Pt) (p3_ : Pt) (p4_ : Pt) (s6_ : Sl) (s7_ : Sl) (i8_ : Int) (h : H) : Prop := loopK (spec_l04Made_w0 S K) (spec_l04Made_e0 p2_ p3_ p4_ s6_ s7_ i8_) h
def spec_l04Made_ks6 (S : SatT) (K : AVal → H → Prop) (X0 : Frame → H → Prop) : Kont := kSeq (cwp S tab spec_l04Made_M (spec_l04Made_M 0) (sub [1, 1, 0, 1, 0, 0, 1, 1] (bodyOf Try.f29)) (kSeq (fun fr h => X0 (mask (spec_l04Made_M 0) fr) h) (kBlk 0 (spec_l04Made_ks2 S K)))) (kSeq (fun fr h => X0 (mask (spec_l04Made_M 0) fr) h) (kBlk 0 (spec_l04Made_ks2 S K)))
def spec_l04Made_e2 (p2_ : Pt) (p3_ : Pt) (p4_ : Pt) (s6_ : Sl) (s7_ : Sl) (i8_ : Int) (i9_ : Int) : Frame := [U, U, .ptr p2_, .ptr p3_, .ptr p4_, U, .sl s6_, .sl s7_, .int .i64 i8_, .int .i64 i9_, U, U, U, U, U, U, U, U, U, U, U, U, U, U, U, U, U, U, U, U, U, U, U, U, U, U, U, U, U, U, U, U, U, U, U, U, U, U, U, U, U, U, U, U, U, U, U, U, U, U, U, U, U, U, U, U, U, U, U, U, U, U, U, U, U, U, U]
def spec_l04Made_w2 (S : SatT) (K : AVal → H → Prop) (X0 : Frame → H → Prop) : (Frame → H → Prop) → Frame → H → Prop := fun X fr h => cwp S tab spec_l04Made_M (spec_l04Made_M 2) (sub [1, 1, 0, 1, 0, 0, 1, 0, 0, 1, 0, 0] (bodyOf Try.f29)) (kSeq (fun fr h => X (mask (spec_l04Made_M 2) fr) h) (kBlk 2 (kBlk 1 (spec_l04Made_ks6 S K X0)))) fr h
def spec_l04Made_L2 (S : SatT) (K : AVal → H → Prop) (X0 : Frame → H → Prop) (p2_ : Pt) (p3_ : Pt) (p4_ : Pt) (s6_ : Sl) (s7_ : Sl) (i8_ : Int) (i9_ : Int) (h : H) : Prop := loopK (spec_l04Made_w2 S K X0) (spec_l04Made_e2 p2_ p3_ p4_ s6_ s7_ i8_ i9_) h
def spec_l04Made_C1 (S : SatT) (K : AVal → H → Prop) (X0 : Frame → H → Prop) (p2_ : Pt) (p3_ : Pt) (p4_ : Pt) (s6_ : Sl) (s7_ : Sl) (i8_ : Int) (h : H) : Prop :=
 X0 (spec_l04Made_e0 p2_ p3_ p4_ s6_ s7_ (w64 (i8_ + (1)))) h
def spec_l04Made_C2 (S : SatT) (K : AVal → H → Prop) (X0 : Frame → H → Prop) (p2_ : Pt) (p3_ : Pt) (p4_ : Pt) (s6_ : Sl) (s7_ : Sl) (i8_ : Int) (h : H) : Prop :=
 spec_l04Made_C1 S K X0 p2_ p3_ p4_ s6_ s7_ i8_ h
def spec_l04Made_b2 (S : SatT) (K : AVal → H → Prop) (X0 : Frame → H → Prop) (X2 : Frame → H → Prop) (p2_ : Pt) (p3_ : Pt) (p4_ : Pt) (s6_ : Sl) (s7_ : Sl) (i8_ : Int) (i9_ : Int) (h : H) : Prop :=
 isPt p3_ (
 ldS (Pt.add p3_ 1) h fun s0 =>
 bif (decide (i9_ < (s0.len : Int))) then
 isPt p2_ (
 ldS (Pt.add p2_ 1) h fun s1 =>
 ixS s1 4 i8_ fun p2 =>
 ixA p2 4 1 (3) fun p3 =>
 ldI .i64 p3 h fun n4 =>
 isPt p3_ (
 ldS (Pt.add p3_ 1) h fun s5 =>
 ixS s5 4 i9_ fun p6 =>
 ixA p6 4 1 (1) fun p7 =>
 ldI .i64 p7 h fun n8 =>
 bif (n4 == n8) then
 isPt p2_ (
 ldS (Pt.add p2_ 1) h fun s9 =>
 ixS s9 4 i8_ fun p10 =>
 ldA p10 4 h fun cs11 =>
 isPt p3_ (
 ldS (Pt.add p3_ 1) h fun s12 =>
 ixS s12 4 i9_ fun p13 =>
 ldA p13 4 h fun cs14 =>
 callA S i_spec_l04Tile [.agg cs11, .agg cs14, .sl s6_] h fun cs16 h15 =>
 lenA cs16 4 (
 newS 1 4 (spl [.int .i64 (0), .int .i64 (0), .int .i64 (0), .int .i64 (0)] 0 4 cs16) h15 fun s17 h18 =>
 app s7_ s17 4 h18 fun s19 h20 =>
 X2 (spec_l04Made_e2 p2_ p3_ p4_ s6_ s19 i8_ (w64 (i9_ + (1)))) h20)))
 else
 X2 (spec_l04Made_e2 p2_ p3_ p4_ s6_ s7_ i8_ (w64 (i9_ + (1)))) h))
 else
 spec_l04Made_C2 S K X0 p2_ p3_ p4_ s6_ s7_ i8_ h)
theorem spec_l04Made_link2 (S : SatT) (K : AVal → H → Prop) (X0 : Frame → H → Prop) (X2 : Frame → H → Prop) (p2_ : Pt) (p3_ : Pt) (p4_ : Pt) (s6_ : Sl) (s7_ : Sl) (i8_ : Int) (i9_ : Int) (h : H) : spec_l04Made_w2 S K X0 X2 (spec_l04Made_e2 p2_ p3_ p4_ s6_ s7_ i8_ i9_) h = spec_l04Made_b2 S K X0 X2 p2_ p3_ p4_ s6_ s7_ i8_ i9_ h := by kernel_rfl
theorem spec_l04Made_rule2 (S : SatT) (K : AVal → H → Prop) (X0 : Frame → H → Prop) (p2_ : Pt) (p3_ : Pt) (p4_ : Pt) (s6_ : Sl) (i8_ : Int) (I_ : Sl → Int → H → Prop) (m_ : Sl → Int → H → Nat)
    (hs : ∀ (X2 : Frame → H → Prop) (s7_ : Sl) (i9_ : Int) (h : H), I_ s7_ i9_ h → (∀ (s7_' : Sl) (i9_' : Int) (h' : H), I_ s7_' i9_' h' → m_ s7_' i9_' h' < m_ s7_ i9_ h → X2 (spec_l04Made_e2 p2_ p3_ p4_ s6_ s7_' i8_ i9_') h') → spec_l04Made_b2 S K X0 X2 p2_ p3_ p4_ s6_ s7_ i8_ i9_ h) (s7_ : Sl) (i9_ : Int) {h : H} (h0 : I_ s7_ i9_ h) : spec_l04Made_L2 S K X0 p2_ p3_ p4_ s6_ s7_ i8_ i9_ h :=
  loop_rule (σ := (Sl) × (Int)) (fun s_ => spec_l04Made_e2 p2_ p3_ p4_ s6_ (s_.1) i8_ (s_.2)) (fun s_ h => I_ (s_.1) (s_.2) h) (fun s_ h => m_ (s_.1) (s_.2) h)
    (fun X s_ h hi hx => (spec_l04Made_link2 S K X0 X p2_ p3_ p4_ s6_ (s_.1) i8_ (s_.2) h).mpr (hs X (s_.1) (s_.2) h hi fun s7_' i9_' h' hi' hm' => hx (s7_', i9_') h' hi' hm')) (s7_, i9_) h0
theorem spec_l04Made_unroll2 (S : SatT) (K : AVal → H → Prop) (X0 : Frame → H → Prop) (p2_ : Pt) (p3_ : Pt) (p4_ : Pt) (s6_ : Sl) (s7_ : Sl) (i8_ : Int) (i9_ : Int) (h : H) (hb : spec_l04Made_b2 S K X0 (fun fr h => loopK (spec_l04Made_w2 S K X0) fr h) p2_ p3_ p4_ s6_ s7_ i8_ i9_ h) : spec_l04Made_L2 S K X0 p2_ p3_ p4_ s6_ s7_ i8_ i9_ h := loop_unroll ((spec_l04Made_link2 S K X0 _ p2_ p3_ p4_ s6_ s7_ i8_ i9_ h).mpr hb)
def spec_l04Made_C0 (S : SatT) (K : AVal → H → Prop) (p2_ : Pt) (p3_ : Pt) (p4_ : Pt) (s6_ : Sl) (s7_ : Sl) (h : H) : Prop :=
 isPt p2_ (
 ldI .i64 (Pt.add p2_ 0) h fun n0 =>
 isPt p3_ (
 ldI .i64 (Pt.add p3_ 0) h fun n1 =>
 callS S i_spec_l01Sort [.sl s7_] h fun s3 h2 =>
 bif (decide ((mxI (mxI (s6_.len : Int) n0) n1) > (6))) then
 stN p4_ 2 [.int .i64 (0), .sl Sl.nil] h2 fun h4 =>
 ldA p4_ 2 h4 fun cs5 =>
 K (.tuple [.agg cs5, .int .i64 (3)]) h4
 else
 bif (decide ((s3.len : Int) > (16))) then
 stN p4_ 2 [.int .i64 (0), .sl Sl.nil] h2 fun h6 =>
 ldA p4_ 2 h6 fun cs7 =>
 K (.tuple [.agg cs7, .int .i64 (3)]) h6
 else
 callA S i_spec_l01Made [.int .i64 (mxI (mxI (s6_.len : Int) n0) n1), .sl s3] h2 fun cs9 h8 =>
 stN p4_ 2 cs9 h8 fun h10 =>
 ldA p4_ 2 h10 fun cs11 =>
 K (.tuple [.agg cs11, .int .i64 (0)]) h10))
def spec_l04Made_b0 (S : SatT) (K : AVal → H → Prop) (X0 : Frame → H → Prop) (p2_ : Pt) (p3_ : Pt) (p4_ : Pt) (s6_ : Sl) (s7_ : Sl) (i8_ : Int) (h : H) : Prop :=
 isPt p2_ (
 ldS (Pt.add p2_ 1) h fun s0 =>
 bif (decide (i8_ < (s0.len : Int))) then
 spec_l04Made_L2 S K X0 p2_ p3_ p4_ s6_ s7_ i8_ (0) h
 else
 spec_l04Made_C0 S K p2_ p3_ p4_ s6_ s7_ h)
theorem spec_l04Made_link0 (S : SatT) (K : AVal → H → Prop) (X0 : Frame → H → Prop) (p2_ : Pt) (p3_ : Pt) (p4_ : Pt) (s6_ : Sl) (s7_ : Sl) (i8_ : Int) (h : H) : spec_l04Made_w0 S K X0 (spec_l04Made_e0 p2_ p3_ p4_ s6_ s7_ i8_) h = spec_l04Made_b0 S K X0 p2_ p3_ p4_ s6_ s7_ i8_ h := by kernel_rfl
theorem spec_l04Made_rule0 (S : SatT) (K : AVal → H → Prop) (p2_ : Pt) (p3_ : Pt) (p4_ : Pt) (s6_ : Sl) (I_ : Sl → Int → H → Prop) (m_ : Sl → Int → H → Nat)
    (hs : ∀ (X0 : Frame → H → Prop) (s7_ : Sl) (i8_ : Int) (h : H), I_ s7_ i8_ h → (∀ (s7_' : Sl) (i8_' : Int) (h' : H), I_ s7_' i8_' h' → m_ s7_' i8_' h' < m_ s7_ i8_ h → X0 (spec_l04Made_e0 p2_ p3_ p4_ s6_ s7_' i8_') h') → spec_l04Made_b0 S K X0 p2_ p3_ p4_ s6_ s7_ i8_ h) (s7_ : Sl) (i8_ : Int) {h : H} (h0 : I_ s7_ i8_ h) : spec_l04Made_L0 S K p2_ p3_ p4_ s6_ s7_ i8_ h :=
  loop_rule (σ := (Sl) × (Int)) (fun s_ => spec_l04Made_e0 p2_ p3_ p4_ s6_ (s_.1) (s_.2)) (fun s_ h => I_ (s_.1) (s_.2) h) (fun s_ h => m_ (s_.1) (s_.2) h)
    (fun X s_ h hi hx => (spec_l04Made_link0 S K X p2_ p3_ p4_ s6_ (s_.1) (s_.2) h).mpr (hs X (s_.1) (s_.2) h hi fun s7_' i8_' h' hi' hm' => hx (s7_', i8_') h' hi' hm')) (s7_, i8_) h0
theorem spec_l04Made_unroll0 (S : SatT) (K : AVal → H → Prop) (p2_ : Pt) (p3_ : Pt) (p4_ : Pt) (s6_ : Sl) (s7_ : Sl) (i8_ : Int) (h : H) (hb : spec_l04Made_b0 S K (fun fr h => loopK (spec_l04Made_w0 S K) fr h) p2_ p3_ p4_ s6_ s7_ i8_ h) : spec_l04Made_L0 S K p2_ p3_ p4_ s6_ s7_ i8_ h := loop_unroll ((spec_l04Made_link0 S K _ p2_ p3_ p4_ s6_ s7_ i8_ h).mpr hb)
def spec_l04Made_main (S : SatT) (K : AVal → H → Prop) (x0 : List AVal) (x1 : List AVal) (h : H) : Prop :=
 newK 2 x0 h fun p0 h1 =>
 newK 2 x1 h1 fun p2 h3 =>
 newO [.int .i64 (0), .sl Sl.nil] h3 fun p4 h5 =>
 ldA p0 2 h5 fun cs6 =>
 ldA p2 2 h5 fun cs7 =>
 callS S i_spec_l04Pairs [.agg cs6, .agg cs7] h5 fun s9 h8 =>
 newS 0 4 [] h8 fun s10 h11 =>
 spec_l04Made_L0 S K p0 p2 p4 s9 s10 (0) h11
theorem spec_l04Made_main_link (S : SatT) (K : AVal → H → Prop) (x0 : List AVal) (x1 : List AVal) (h : H) : cwp S tab spec_l04Made_M [] (bodyOf Try.f29) (kFun tab Try.f29.results.toList K) (fr0 Try.f29 [.agg x0, .agg x1]) h = spec_l04Made_main S K x0 x1 h := by kernel_rfl
theorem spec_l04Made_call (x0 : List AVal) (x1 : List AVal) (h : H) (K : AVal → H → Prop) (hm : spec_l04Made_main (Sat Try.prog) (fun v h' => K v h') x0 x1 h) : callV (Sat Try.prog) i_spec_l04Made [.agg x0, .agg x1] h K := by
  have := Sat.ex tok mixed spec_l04Made_M Try.func29 (c := bodyOf Try.f29) (by kernel_rfl) (calls_of Try.func29 (c := bodyOf Try.f29) (by kernel_rfl) (by decide)) ((spec_l04Made_main_link _ _ x0 x1 h).mpr hm)
  exact this

/-! ### loop.example/g01354/spec.l04Sorted -/
def spec_l04Sorted_M : Nat → List Nat := fun i => bif i == 0 then [4, 5, 6, 7, 8] else []
def spec_l04Sorted_ks6 (S : SatT) (K : AVal → H → Prop) : Kont := kSeq (cwp S tab spec_l04Sorted_M [] (sub [1, 1, 1, 1, 1] (bodyOf Try.f67)) (kFun tab (Try.f67).results.toList K)) (kFun tab (Try.f67).results.toList K)
def spec_l04Sorted_e0 (s4_ : Sl) (s5_ : Sl) (s6_ : Sl) (i7_ : Int) (i8_ : Int) : Frame := [U, U, U, U, .sl s4_, .sl s5_, .sl s6_, .int .i64 i7_, .int .i64 i8_, U, U, U, U, U, U, U, U, U, U, U, U, U, U, U, U, U, U, U, U, U, U, U, U, U, U, U, U, U, U, U, U, U, U, U, U, U, U, U, U, U, U, U, U, U, U, U, U, U, U, U, U, U, U, U, U, U, U, U, U, U, U, U, U, U, U, U, U, U, U, U, U, U, U, U, U, U, U, U, U, U, U, U, U, U]
def spec_l04Sorted_w0 (S : SatT) (K : AVal → H → Prop) : (Frame → H → Prop) → Frame → H → Prop := fun X fr h => cwp S tab spec_l04Sorted_M (spec_l04Sorted_M 0) (sub [1, 1, 1, 1, 0, 1, 0, 0] (bodyOf Try.f67)) (kSeq (fun fr h => X (mask (spec_l04Sorted_M 0) fr) h) (kBlk 0 (spec_l04Sorted_ks6 S K))) fr h
def spec_l04Sorted_L0 (S : SatT) (K : AVal → H → Prop) (s4_ : Sl) (s5_ : Sl) (s6_ : Sl) (i7_ : Int) (i8_ : Int) (h : H) : Prop := loopK (spec_l04Sorted_w0 S K) (spec_l04Sorted_e0 s4_ s5_ s6_ i7_ i8_) h
def spec_l04Sorted_C0 (S : SatT) (K : AVal → H → Prop) (s6_ : Sl) (h : H) : Prop :=
 K (.sl s6_) h
def spec_l04Sorted_b0 (S : SatT) (K : AVal → H → Prop) (X0 : Frame → H → Prop) (s4_ : Sl) (s5_ : Sl) (s6_ : Sl) (i7_ : Int) (i8_ : Int) (h : H) : Prop :=
 bif (decide (i7_ < (s4_.len : Int))) then
 bif (i8_ == (s5_.len : Int)) then
 ixS s4_ 1 i7_ fun p0 =>
 ldI .i64 p0 h fun n1 =>
 newS 1 1 [.int .i64 n1] h fun s2 h3 =>
 app s6_ s2 1 h3 fun s4 h5 =>
 X0 (spec_l04Sorted_e0 s4_ s5_ s4 (w64 (i7_ + (1))) i8_) h5
 else
 bif (decide (i7_ < (s4_.len : Int))) then
 ixS s4_ 1 i7_ fun p6 =>
 ldI .i64 p6 h fun n7 =>
 ixS s5_ 1 i8_ fun p8 =>
 ldI .i64 p8 h fun n9 =>
 bif (decide (n7 < n9)) then
 ixS s4_ 1 i7_ fun p10 =>
 ldI .i64 p10 h fun n11 =>
 newS 1 1 [.int .i64 n11] h fun s12 h13 =>
 app s6_ s12 1 h13 fun s14 h15 =>
 X0 (spec_l04Sorted_e0 s4_ s5_ s14 (w64 (i7_ + (1))) i8_) h15
 else
 bif (i7_ == (s4_.len : Int)) then
 ixS s5_ 1 i8_ fun p16 =>
 ldI .i64 p16 h fun n17 =>
 newS 1 1 [.int .i64 n17] h fun s18 h19 =>
 app s6_ s18 1 h19 fun s20 h21 =>
 X0 (spec_l04Sorted_e0 s4_ s5_ s20 i7_ (w64 (i8_ + (1)))) h21
 else
 ixS s5_ 1 i8_ fun p22 =>
 ldI .i64 p22 h fun n23 =>
 ixS s4_ 1 i7_ fun p24 =>
 ldI .i64 p24 h fun n25 =>
 bif (decide (n23 < n25)) then
 ixS s5_ 1 i8_ fun p26 =>
 ldI .i64 p26 h fun n27 =>
 newS 1 1 [.int .i64 n27] h fun s28 h29 =>
 app s6_ s28 1 h29 fun s30 h31 =>
 X0 (spec_l04Sorted_e0 s4_ s5_ s30 i7_ (w64 (i8_ + (1)))) h31
 else
 X0 (spec_l04Sorted_e0 s4_ s5_ s6_ (w64 (i7_ + (1))) i8_) h
 else
 bif (i7_ == (s4_.len : Int)) then
 ixS s5_ 1 i8_ fun p32 =>
 ldI .i64 p32 h fun n33 =>
 newS 1 1 [.int .i64 n33] h fun s34 h35 =>
 app s6_ s34 1 h35 fun s36 h37 =>
 X0 (spec_l04Sorted_e0 s4_ s5_ s36 i7_ (w64 (i8_ + (1)))) h37
 else
 ixS s5_ 1 i8_ fun p38 =>
 ldI .i64 p38 h fun n39 =>
 ixS s4_ 1 i7_ fun p40 =>
 ldI .i64 p40 h fun n41 =>
 bif (decide (n39 < n41)) then
 ixS s5_ 1 i8_ fun p42 =>
 ldI .i64 p42 h fun n43 =>
 newS 1 1 [.int .i64 n43] h fun s44 h45 =>
 app s6_ s44 1 h45 fun s46 h47 =>
 X0 (spec_l04Sorted_e0 s4_ s5_ s46 i7_ (w64 (i8_ + (1)))) h47
 else
 X0 (spec_l04Sorted_e0 s4_ s5_ s6_ (w64 (i7_ + (1))) i8_) h
 else
 bif (decide (i8_ < (s5_.len : Int))) then
 bif (i8_ == (s5_.len : Int)) then
 ixS s4_ 1 i7_ fun p48 =>
 ldI .i64 p48 h fun n49 =>
 newS 1 1 [.int .i64 n49] h fun s50 h51 =>
 app s6_ s50 1 h51 fun s52 h53 =>
 X0 (spec_l04Sorted_e0 s4_ s5_ s52 (w64 (i7_ + (1))) i8_) h53
 else
 bif (decide (i7_ < (s4_.len : Int))) then
 ixS s4_ 1 i7_ fun p54 =>
 ldI .i64 p54 h fun n55 =>
 ixS s5_ 1 i8_ fun p56 =>
 ldI .i64 p56 h fun n57 =>
 bif (decide (n55 < n57)) then
 ixS s4_ 1 i7_ fun p58 =>
 ldI .i64 p58 h fun n59 =>
 newS 1 1 [.int .i64 n59] h fun s60 h61 =>
 app s6_ s60 1 h61 fun s62 h63 =>
 X0 (spec_l04Sorted_e0 s4_ s5_ s62 (w64 (i7_ + (1))) i8_) h63
 else
 bif (i7_ == (s4_.len : Int)) then
 ixS s5_ 1 i8_ fun p64 =>
 ldI .i64 p64 h fun n65 =>
 newS 1 1 [.int .i64 n65] h fun s66 h67 =>
 app s6_ s66 1 h67 fun s68 h69 =>
 X0 (spec_l04Sorted_e0 s4_ s5_ s68 i7_ (w64 (i8_ + (1)))) h69
 else
 ixS s5_ 1 i8_ fun p70 =>
 ldI .i64 p70 h fun n71 =>
 ixS s4_ 1 i7_ fun p72 =>
 ldI .i64 p72 h fun n73 =>
 bif (decide (n71 < n73)) then
 ixS s5_ 1 i8_ fun p74 =>
 ldI .i64 p74 h fun n75 =>
 newS 1 1 [.int .i64 n75] h fun s76 h77 =>
 app s6_ s76 1 h77 fun s78 h79 =>
 X0 (spec_l04Sorted_e0 s4_ s5_ s78 i7_ (w64 (i8_ + (1)))) h79
 else
 X0 (spec_l04Sorted_e0 s4_ s5_ s6_ (w64 (i7_ + (1))) i8_) h
 else
 bif (i7_ == (s4_.len : Int)) then
 ixS s5_ 1 i8_ fun p80 =>
 ldI .i64 p80 h fun n81 =>
 newS 1 1 [.int .i64 n81] h fun s82 h83 =>
 app s6_ s82 1 h83 fun s84 h85 =>
 X0 (spec_l04Sorted_e0 s4_ s5_ s84 i7_ (w64 (i8_ + (1)))) h85
 else
 ixS s5_ 1 i8_ fun p86 =>
 ldI .i64 p86 h fun n87 =>
 ixS s4_ 1 i7_ fun p88 =>
 ldI .i64 p88 h fun n89 =>
 bif (decide (n87 < n89)) then
 ixS s5_ 1 i8_ fun p90 =>
 ldI .i64 p90 h fun n91 =>
 newS 1 1 [.int .i64 n91] h fun s92 h93 =>
 app s6_ s92 1 h93 fun s94 h95 =>
 X0 (spec_l04Sorted_e0 s4_ s5_ s94 i7_ (w64 (i8_ + (1)))) h95
 else
 X0 (spec_l04Sorted_e0 s4_ s5_ s6_ (w64 (i7_ + (1))) i8_) h
 else
 spec_l04Sorted_C0 S K s6_ h
theorem spec_l04Sorted_link0 (S : SatT) (K : AVal → H → Prop) (X0 : Frame → H → Prop) (s4_ : Sl) (s5_ : Sl) (s6_ : Sl) (i7_ : Int) (i8_ : Int) (h : H) : spec_l04Sorted_w0 S K X0 (spec_l04Sorted_e0 s4_ s5_ s6_ i7_ i8_) h = spec_l04Sorted_b0 S K X0 s4_ s5_ s6_ i7_ i8_ h := by kernel_rfl
theorem spec_l04Sorted_rule0 (S : SatT) (K : AVal → H → Prop) (s4_ : Sl) (s5_ : Sl) (I_ : Sl → Int → Int → H → Prop) (m_ : Sl → Int → Int → H → Nat)
    (hs : ∀ (X0 : Frame → H → Prop) (s6_ : Sl) (i7_ : Int) (i8_ : Int) (h : H), I_ s6_ i7_ i8_ h → (∀ (s6_' : Sl) (i7_' : Int) (i8_' : Int) (h' : H), I_ s6_' i7_' i8_' h' → m_ s6_' i7_' i8_' h' < m_ s6_ i7_ i8_ h → X0 (spec_l04Sorted_e0 s4_ s5_ s6_' i7_' i8_') h') → spec_l04Sorted_b0 S K X0 s4_ s5_ s6_ i7_ i8_ h) (s6_ : Sl) (i7_ : Int) (i8_ : Int) {h : H} (h0 : I_ s6_ i7_ i8_ h) : spec_l04Sorted_L0 S K s4_ s5_ s6_ i7_ i8_ h :=
  loop_rule (σ := (Sl) × (Int) × (Int)) (fun s_ => spec_l04Sorted_e0 s4_ s5_ (s_.1) (s_.2.1) (s_.2.2)) (fun s_ h => I_ (s_.1) (s_.2.1) (s_.2.2) h) (fun s_ h => m_ (s_.1) (s_.2.1) (s_.2.2) h)
    (fun X s_ h hi hx => (spec_l04Sorted_link0 S K X s4_ s5_ (s_.1) (s_.2.1) (s_.2.2) h).mpr (hs X (s_.1) (s_.2.1) (s_.2.2) h hi fun s6_' i7_' i8_' h' hi' hm' => hx (s6_', i7_', i8_') h' hi' hm')) (s6_, i7_, i8_) h0
theorem spec_l04Sorted_unroll0 (S : SatT) (K : AVal → H → Prop) (s4_ : Sl) (s5_ : Sl) (s6_ : Sl) (i7_ : Int) (i8_ : Int) (h : H) (hb : spec_l04Sorted_b0 S K (fun fr h => loopK (spec_l04Sorted_w0 S K) fr h) s4_ s5_ s6_ i7_ i8_ h) : spec_l04Sorted_L0 S K s4_ s5_ s6_ i7_ i8_ h := loop_unroll ((spec_l04Sorted_link0 S K _ s4_ s5_ s6_ i7_ i8_ h).mpr hb)
def spec_l04Sorted_main (S : SatT) (K : AVal → H → Prop) (x0 : Sl) (h : H) : Prop :=
 bif (decide ((x0.len : Int) < (2))) then
 K (.sl x0) h
 else
 nz (2) (
 slotK 12 h fun h0 =>
 cut x0 1 (0) (w64 (Int.tdiv (x0.len : Int) (2))) h0 fun s1 =>
 callS S i_spec_l04Sorted [.sl s1] h0 fun s3 h2 =>
 cut x0 1 (w64 (Int.tdiv (x0.len : Int) (2))) (x0.len : Int) h2 fun s4 =>
 okS h0 x0 ∧ (
 callS S i_spec_l04Sorted [.sl s4] h2 fun s6 h5 =>
 newSat 0 1 [] h5 (h.length + 8) fun s7 h8 =>
 okS h5 x0 ∧ (
 okS h5 x0 ∧ (
 okS h8 x0 ∧ (
 okS h8 x0 ∧ (
 spec_l04Sorted_L0 S K s3 s6 s7 (0) (0) h8))))))
theorem spec_l04Sorted_main_link (S : SatT) (K : AVal → H → Prop) (x0 : Sl) (h : H) : cwp S tab spec_l04Sorted_M [] (bodyOf Try.f67) (kFun tab Try.f67.results.toList K) (fr0 Try.f67 [.sl x0]) h = spec_l04Sorted_main S K x0 h := by kernel_rfl
theorem spec_l04Sorted_call (x0 : Sl) (h : H) (K : Sl → H → Prop) (hm : spec_l04Sorted_main (Sat Try.prog) (fun v h' => ∃ r, v = .sl r ∧ K r h') x0 h) : callS (Sat Try.prog) i_spec_l04Sorted [.sl x0] h K := by
  have := Sat.ex tok mixed spec_l04Sorted_M Try.func67 (c := bodyOf Try.f67) (by kernel_rfl) (calls_of Try.func67 (c := bodyOf Try.f67) (by kernel_rfl) (by decide)) ((spec_l04Sorted_main_link _ _ x0 h).mpr hm)
  obtain ⟨v, h2, h3, r, rfl, h4⟩ := this; exact ⟨r, h2, h3, h4⟩

/-! ### loop.example/g01354/laws.FnExactStackSets -/
def laws_FnExactStackSets_M : Nat → List Nat := fun i => []
def laws_FnExactStackSets_main (S : SatT) (K : AVal → H → Prop) (x0 : List AVal) (x1 : List AVal) (h : H) : Prop :=
 newK 2 x0 h fun p0 h1 =>
 newK 2 x1 h1 fun p2 h3 =>
 ldA p0 2 h3 fun cs4 =>
 callI S .i64 i_laws_szSet [.agg cs4, .int .i64 (1048576)] h3 fun n6 h5 =>
 bif (decide (n6 < (0))) then
 K (.bool true) h5
 else
 ldA p2 2 h5 fun cs7 =>
 callI S .i64 i_laws_szSet [.agg cs7, .int .i64 n6] h5 fun n9 h8 =>
 bif (decide (n9 < (0))) then
 K (.bool true) h8
 else
 slotK 11 h8 fun h10 =>
 ldA p0 2 h10 fun cs11 =>
 callA S i_laws_toSet [.agg cs11] h10 fun cs13 h12 =>
 ldA p2 2 h12 fun cs14 =>
(range h10 p2.o p2.n p2.off 2 = range h12 p2.o p2.n p2.off 2) ∧ (
 callA S i_laws_toSet [.agg cs14] h12 fun cs16 h15 =>
 callV S i_spec_StackSets [.agg cs13, .agg cs16] h15 fun v18 h17 =>
 viaT v18 fun vs19 =>
 exA vs19 0 fun cs20 =>
 viaT v18 fun vs21 =>
 exI .i64 vs21 1 fun n22 =>
 newOat [.int .i64 (0), .sl Sl.nil] h17 (h8.length + 8) fun p23 h24 =>
(range h17 p2.o p2.n p2.off 2 = range h12 p2.o p2.n p2.off 2) ∧ (
(range h17 p0.o p0.n p0.off 2 = range h10 p0.o p0.n p0.off 2) ∧ (
(range h24 p2.o p2.n p2.off 2 = range h12 p2.o p2.n p2.off 2) ∧ (
(range h24 p0.o p0.n p0.off 2 = range h10 p0.o p0.n p0.off 2) ∧ (
 stN p23 2 cs20 h24 fun h25 =>
 ldA p0 2 h25 fun cs26 =>
 callA S i_laws_toSet [.agg cs26] h25 fun cs28 h27 =>
 newO [.int .i64 (0), .sl Sl.nil] h27 fun p29 h30 =>
 stN p29 2 cs28 h30 fun h31 =>
 ldA p2 2 h31 fun cs32 =>
 callA S i_laws_toSet [.agg cs32] h31 fun cs34 h33 =>
 newO [.int .i64 (0), .sl Sl.nil] h33 fun p35 h36 =>
 stN p35 2 cs34 h36 fun h37 =>
 ldA p29 2 h37 fun cs38 =>
 ldA p35 2 h37 fun cs39 =>
 callV S i_impl_StackSets [.agg cs38, .agg cs39] h37 fun v41 h40 =>
 viaT v41 fun vs42 =>
 exA vs42 0 fun cs43 =>
 viaT v41 fun vs44 =>
 exI .i64 vs44 1 fun n45 =>
 newO [.int .i64 (0), .sl Sl.nil] h40 fun p46 h47 =>
 stN p46 2 cs43 h47 fun h48 =>
 ldA p46 2 h48 fun cs49 =>
 ldA p23 2 h48 fun cs50 =>
 callB S i_laws_eqSet [.agg cs49, .agg cs50] h48 fun b52 h51 =>
 bif (!b52) then
 K (.bool false) h51
 else
 bif (n45 != n22) then
 K (.bool false) h51
 else
 ldA p29 2 h51 fun cs53 =>
 ldA p0 2 h51 fun cs54 =>
 callA S i_laws_toSet [.agg cs54] h51 fun cs56 h55 =>
(range h55 p29.o p29.n p29.off 2 = range h51 p29.o p29.n p29.off 2) ∧ (
 callB S i_laws_eqSet [.agg cs53, .agg cs56] h55 fun b58 h57 =>
 bif (!b58) then
 K (.bool false) h57
 else
 ldA p35 2 h57 fun cs59 =>
 ldA p2 2 h57 fun cs60 =>
 callA S i_laws_toSet [.agg cs60] h57 fun cs62 h61 =>
(range h61 p35.o p35.n p35.off 2 = range h57 p35.o p35.n p35.off 2) ∧ (
 callB S i_laws_eqSet [.agg cs59, .agg cs62] h61 fun b64 h63 =>
 bif (!b64) then
 K (.bool false) h63
 else
 ldA p29 2 h63 fun cs65 =>
 callI S .i64 i_laws_markSet [.agg cs65, .int .i64 (1)] h63 fun n67 h66 =>
 ldA p35 2 h66 fun cs68 =>
 callI S .i64 i_laws_markSet [.agg cs68, .int .i64 n67] h66 fun n70 h69 =>
 bif (decide (n70 < (0))) then
 K (.bool false) h69
 else
 ldA p46 2 h69 fun cs71 =>
 ldA p23 2 h69 fun cs72 =>
 callB S i_laws_eqSet [.agg cs71, .agg cs72] h69 fun b74 h73 =>
 bif (!b74) then
 K (.bool false) h73
 else
 bif (n45 != n22) then
 K (.bool false) h73
 else
 ldA p46 2 h73 fun cs75 =>
 callI S .i64 i_laws_markSet [.agg cs75, .int .i64 (1)] h73 fun n77 h76 =>
 ldA p46 2 h76 fun cs78 =>
 callI S .i64 i_laws_heldSet [.agg cs78, .int .i64 (1)] h76 fun n80 h79 =>
 bif (decide (n80 < (0))) then
 K (.bool false) h79
 else
 bif (n80 != n77) then
 K (.bool false) h79
 else
 slotK 11 h79 fun h81 =>
 ldA p0 2 h81 fun cs82 =>
 callA S i_laws_toSet [.agg cs82] h81 fun cs84 h83 =>
 ldA p2 2 h83 fun cs85 =>
(range h81 p2.o p2.n p2.off 2 = range h83 p2.o p2.n p2.off 2) ∧ (
 callA S i_laws_toSet [.agg cs85] h83 fun cs87 h86 =>
 callV S i_impl_StackSets [.agg cs84, .agg cs87] h86 fun v89 h88 =>
 viaT v89 fun vs90 =>
 exA vs90 0 fun cs91 =>
 viaT v89 fun vs92 =>
 exI .i64 vs92 1 fun n93 =>
 newOat [.int .i64 (0), .sl Sl.nil] h88 (h79.length + 8) fun p94 h95 =>
(range h88 p2.o p2.n p2.off 2 = range h83 p2.o p2.n p2.off 2) ∧ (
(range h88 p0.o p0.n p0.off 2 = range h81 p0.o p0.n p0.off 2) ∧ (
(range h95 p2.o p2.n p2.off 2 = range h83 p2.o p2.n p2.off 2) ∧ (
(range h95 p0.o p0.n p0.off 2 = range h81 p0.o p0.n p0.off 2) ∧ (
 stN p94 2 cs91 h95 fun h96 =>
 ldA p94 2 h96 fun cs97 =>
 ldA p23 2 h96 fun cs98 =>
 callB S i_laws_eqSet [.agg cs97, .agg cs98] h96 fun b100 h99 =>
 bif (!b100) then
 K (.bool false) h99
 else
 bif (n93 != n22) then
 K (.bool false) h99
 else
 ldA p46 2 h99 fun cs101 =>
 callI S .i64 i_laws_heldSet [.agg cs101, .int .i64 (1)] h99 fun n103 h102 =>
 bif (decide (n103 < (0))) then
 K (.bool false) h102
 else
 bif (n103 != n77) then
 K (.bool false) h102
 else
 K (.bool true) h102))))))))))))
theorem laws_FnExactStackSets_main_link (S : SatT) (K : AVal → H → Prop) (x0 : List AVal) (x1 : List AVal) (h : H) : cwp S tab laws_FnExactStackSets_M [] (bodyOf Try.f3) (kFun tab Try.f3.results.toList K) (fr0 Try.f3 [.agg x0, .agg x1]) h = laws_FnExactStackSets_main S K x0 x1 h := by kernel_rfl
theorem laws_FnExactStackSets_call (x0 : List AVal) (x1 : List AVal) (h : H) (K : Bool → H → Prop) (hm : laws_FnExactStackSets_main (Sat Try.prog) (fun v h' => ∃ r, v = .bool r ∧ K r h') x0 x1 h) : callB (Sat Try.prog) i_laws_FnExactStackSets [.agg x0, .agg x1] h K := by
  have := Sat.ex tok mixed laws_FnExactStackSets_M Try.func3 (c := bodyOf Try.f3) (by kernel_rfl) (calls_of Try.func3 (c := bodyOf Try.f3) (by kernel_rfl) (by decide)) ((laws_FnExactStackSets_main_link _ _ x0 x1 h).mpr hm)
  obtain ⟨v, h2, h3, r, rfl, h4⟩ := this; exact ⟨r, h2, h3, h4⟩

/-! ### loop.example/g01354/spec.l01Is -/
def spec_l01Is_M : Nat → List Nat := fun i => bif i == 0 then [1, 3] else []
def spec_l01Is_ks5 (S : SatT) (K : AVal → H → Prop) : Kont := kSeq (cwp S tab spec_l01Is_M [] (sub [1, 1, 1] (bodyOf Try.f28)) (kFun tab (Try.f28).results.toList K)) (kFun tab (Try.f28).results.toList K)
def spec_l01Is_e0 (p1_ : Pt) (i3_ : Int) : Frame := [U, .ptr p1_, U, .int .i64 i3_, U, U, U, U, U, U, U, U, U, U, U, U, U, U, U, U, U, U, U, U, U, U, U, U, U, U, U, U, U, U, U, U, U, U, U, U, U, U, U, U, U, U, U, U, U]
def spec_l01Is_w0 (S : SatT) (K : AVal → H → Prop) : (Frame → H → Prop) → Frame → H → Prop := fun X fr h => cwp S tab spec_l01Is_M (spec_l01Is_M 0) (sub [1, 1, 0, 1, 0, 0] (bodyOf Try.f28)) (kSeq (fun fr h => X (mask (spec_l01Is_M 0) fr) h) (kBlk 0 (spec_l01Is_ks5 S K))) fr h
def spec_l01Is_L0 (S : SatT) (K : AVal → H → Prop) (p1_ : Pt) (i3_ : Int) (h : H) : Prop := loopK (spec_l01Is_w0 S K) (spec_l01Is_e0 p1_ i3_) h
def spec_l01Is_C0 (S : SatT) (K : AVal → H → Prop) (h : H) : Prop :=
 K (.bool true) h
def spec_l01Is_b0 (S : SatT) (K : AVal → H → Prop) (X0 : Frame → H → Prop) (p1_ : Pt) (i3_ : Int) (h : H) : Prop :=
 isPt p1_ (
 ldS (Pt.add p1_ 1) h fun s0 =>
 bif (decide (i3_ < (s0.len : Int))) then
 isPt p1_ (
 ldI .i64 (Pt.add p1_ 0) h fun n1 =>
 isPt p1_ (
 ldS (Pt.add p1_ 1) h fun s2 =>
 ixS s2 4 i3_ fun p3 =>
 ldA p3 4 h fun cs4 =>
 callB S i_spec_l01Tile [.int .i64 n1, .agg cs4] h fun b6 h5 =>
 bif (!b6) then
 K (.bool false) h5
 else
 bif (decide (i3_ > (0))) then
 isPt p1_ (
 ldS (Pt.add p1_ 1) h5 fun s7 =>
 ixS s7 4 (w64 (i3_ - (1))) fun p8 =>
 ldA p8 4 h5 fun cs9 =>
 isPt p1_ (
 ldS (Pt.add p1_ 1) h5 fun s10 =>
 ixS s10 4 i3_ fun p11 =>
 ldA p11 4 h5 fun cs12 =>
 callB S i_spec_l01Before [.agg cs9, .agg cs12] h5 fun b14 h13 =>
 bif (!b14) then
 K (.bool false) h13
 else
 X0 (spec_l01Is_e0 p1_ (w64 (i3_ + (1)))) h13))
 else
 X0 (spec_l01Is_e0 p1_ (w64 (i3_ + (1)))) h5))
 else
 spec_l01Is_C0 S K h)
theorem spec_l01Is_link0 (S : SatT) (K : AVal → H → Prop) (X0 : Frame → H → Prop) (p1_ : Pt) (i3_ : Int) (h : H) : spec_l01Is_w0 S K X0 (spec_l01Is_e0 p1_ i3_) h = spec_l01Is_b0 S K X0 p1_ i3_ h := by kernel_rfl
theorem spec_l01Is_rule0 (S : SatT) (K : AVal → H → Prop) (p1_ : Pt) (I_ : Int → H → Prop) (m_ : Int → H → Nat)
    (hs : ∀ (X0 : Frame → H → Prop) (i3_ : Int) (h : H), I_ i3_ h → (∀ (i3_' : Int) (h' : H), I_ i3_' h' → m_ i3_' h' < m_ i3_ h → X0 (spec_l01Is_e0 p1_ i3_') h') → spec_l01Is_b0 S K X0 p1_ i3_ h) (i3_ : Int) {h : H} (h0 : I_ i3_ h) : spec_l01Is_L0 S K p1_ i3_ h :=
  loop_rule (σ := (Int)) (fun s_ => spec_l01Is_e0 p1_ (s_)) (fun s_ h => I_ (s_) h) (fun s_ h => m_ (s_) h)
    (fun X s_ h hi hx => (spec_l01Is_link0 S K X p1_ (s_) h).mpr (hs X (s_) h hi fun i3_' h' hi' hm' => hx (i3_') h' hi' hm')) (i3_) h0
theorem spec_l01Is_unroll0 (S : SatT) (K : AVal → H → Prop) (p1_ : Pt) (i3_ : Int) (h : H) (hb : spec_l01Is_b0 S K (fun fr h => loopK (spec_l01Is_w0 S K) fr h) p1_ i3_ h) : spec_l01Is_L0 S K p1_ i3_ h := loop_unroll ((spec_l01Is_link0 S K _ p1_ i3_ h).mpr hb)
def spec_l01Is_main (S : SatT) (K : AVal → H → Prop) (x0 : List AVal) (h : H) : Prop :=
 newK 2 x0 h fun p0 h1 =>
 isPt p0 (
 ldI .i64 (Pt.add p0 0) h1 fun n2 =>
 callB S i_spec_l01In [.int .i64 n2, .int .i64 (1), .int .i64 (6)] h1 fun b4 h3 =>
 bif (!b4) then
 K (.bool false) h3
 else
 isPt p0 (
 ldS (Pt.add p0 1) h3 fun s5 =>
 bif (decide ((s5.len : Int) > (16))) then
 K (.bool false) h3
 else
 spec_l01Is_L0 S K p0 (0) h3))
theorem spec_l01Is_main_link (S : SatT) (K : AVal → H → Prop) (x0 : List AVal) (h : H) : cwp S tab spec_l01Is_M [] (bodyOf Try.f28) (kFun tab Try.f28.results.toList K) (fr0 Try.f28 [.agg x0]) h = spec_l01Is_main S K x0 h := by kernel_rfl
theorem spec_l01Is_call (x0 : List AVal) (h : H) (K : Bool → H → Prop) (hm : spec_l01Is_main (Sat Try.prog) (fun v h' => ∃ r, v = .bool r ∧ K r h') x0 h) : callB (Sat Try.prog) i_spec_l01Is [.agg x0] h K := by
  have := Sat.ex tok mixed spec_l01Is_M Try.func28 (c := bodyOf Try.f28) (by kernel_rfl) (calls_of Try.func28 (c := bodyOf Try.f28) (by kernel_rfl) (by decide)) ((spec_l01Is_main_link _ _ x0 h).mpr hm)
  obtain ⟨v, h2, h3, r, rfl, h4⟩ := this; exact ⟨r, h2, h3, h4⟩

/-! ### loop.example/g01354/laws.eqTileS -/
def laws_eqTileS_M : Nat → List Nat := fun i => bif i == 0 then [0, 1, 5] else []
def laws_eqTileS_ks4 (S : SatT) (K : AVal → H → Prop) : Kont := kSeq (cwp S tab laws_eqTileS_M [] (sub [1, 1, 1] (bodyOf Try.f33)) (kFun tab (Try.f33).results.toList K)) (kFun tab (Try.f33).results.toList K)
def laws_eqTileS_e0 (s0_ : Sl) (s1_ : Sl) (i5_ : Int) : Frame := [.sl s0_, .sl s1_, U, U, U, .int .i64 i5_, U, U, U, U, U, U, U, U, U, U, U, U, U, U, U, U, U, U, U, U, U]
def laws_eqTileS_w0 (S : SatT) (K : AVal → H → Prop) : (Frame → H → Prop) → Frame → H → Prop := fun X fr h => cwp S tab laws_eqTileS_M (laws_eqTileS_M 0) (sub [1, 1, 0, 1, 0, 0] (bodyOf Try.f33)) (kSeq (fun fr h => X (mask (laws_eqTileS_M 0) fr) h) (kBlk 0 (laws_eqTileS_ks4 S K))) fr h
def laws_eqTileS_L0 (S : SatT) (K : AVal → H → Prop) (s0_ : Sl) (s1_ : Sl) (i5_ : Int) (h : H) : Prop := loopK (laws_eqTileS_w0 S K) (laws_eqTileS_e0 s0_ s1_ i5_) h
def laws_eqTileS_C0 (S : SatT) (K : AVal → H → Prop) (h : H) : Prop :=
 K (.bool true) h
def laws_eqTileS_b0 (S : SatT) (K : AVal → H → Prop) (X0 : Frame → H → Prop) (s0_ : Sl) (s1_ : Sl) (i5_ : Int) (h : H) : Prop :=
 bif (decide (i5_ < (s0_.len : Int))) then
 ixS s0_ 4 i5_ fun p0 =>
 ldA p0 4 h fun cs1 =>
 ixS s1_ 4 i5_ fun p2 =>
 ldA p2 4 h fun cs3 =>
 callB S i_laws_eqTile [.agg cs1, .agg cs3] h fun b5 h4 =>
 bif (!b5) then
 K (.bool false) h4
 else
 X0 (laws_eqTileS_e0 s0_ s1_ (w64 (i5_ + (1)))) h4
 else
 laws_eqTileS_C0 S K h
theorem laws_eqTileS_link0 (S : SatT) (K : AVal → H → Prop) (X0 : Frame → H → Prop) (s0_ : Sl) (s1_ : Sl) (i5_ : Int) (h : H) : laws_eqTileS_w0 S K X0 (laws_eqTileS_e0 s0_ s1_ i5_) h = laws_eqTileS_b0 S K X0 s0_ s1_ i5_ h := by kernel_rfl
theorem laws_eqTileS_rule0 (S : SatT) (K : AVal → H → Prop) (s0_ : Sl) (s1_ : Sl) (I_ : Int → H → Prop) (m_ : Int → H → Nat)
    (hs : ∀ (X0 : Frame → H → Prop) (i5_ : Int) (h : H), I_ i5_ h → (∀ (i5_' : Int) (h' : H), I_ i5_' h' → m_ i5_' h' < m_ i5_ h → X0 (laws_eqTileS_e0 s0_ s1_ i5_') h') → laws_eqTileS_b0 S K X0 s0_ s1_ i5_ h) (i5_ : Int) {h : H} (h0 : I_ i5_ h) : laws_eqTileS_L0 S K s0_ s1_ i5_ h :=
  loop_rule (σ := (Int)) (fun s_ => laws_eqTileS_e0 s0_ s1_ (s_)) (fun s_ h => I_ (s_) h) (fun s_ h => m_ (s_) h)
    (fun X s_ h hi hx => (laws_eqTileS_link0 S K X s0_ s1_ (s_) h).mpr (hs X (s_) h hi fun i5_' h' hi' hm' => hx (i5_') h' hi' hm')) (i5_) h0
theorem laws_eqTileS_unroll0 (S : SatT) (K : AVal → H → Prop) (s0_ : Sl) (s1_ : Sl) (i5_ : Int) (h : H) (hb : laws_eqTileS_b0 S K (fun fr h => loopK (laws_eqTileS_w0 S K) fr h) s0_ s1_ i5_ h) : laws_eqTileS_L0 S K s0_ s1_ i5_ h := loop_unroll ((laws_eqTileS_link0 S K _ s0_ s1_ i5_ h).mpr hb)
def laws_eqTileS_main (S : SatT) (K : AVal → H → Prop) (x0 : Sl) (x1 : Sl) (h : H) : Prop :=
 bif ((x0.len : Int) != (x1.len : Int)) then
 K (.bool false) h
 else
 laws_eqTileS_L0 S K x0 x1 (0) h
theorem laws_eqTileS_main_link (S : SatT) (K : AVal → H → Prop) (x0 : Sl) (x1 : Sl) (h : H) : cwp S tab laws_eqTileS_M [] (bodyOf Try.f33) (kFun tab Try.f33.results.toList K) (fr0 Try.f33 [.sl x0, .sl x1]) h = laws_eqTileS_main S K x0 x1 h := by kernel_rfl
theorem laws_eqTileS_call (x0 : Sl) (x1 : Sl) (h : H) (K : Bool → H → Prop) (hm : laws_eqTileS_main (Sat Try.prog) (fun v h' => ∃ r, v = .bool r ∧ K r h') x0 x1 h) : callB (Sat Try.prog) i_laws_eqTileS [.sl x0, .sl x1] h K := by
  have := Sat.ex tok mixed laws_eqTileS_M Try.func33 (c := bodyOf Try.f33) (by kernel_rfl) (calls_of Try.func33 (c := bodyOf Try.f33) (by kernel_rfl) (by decide)) ((laws_eqTileS_main_link _ _ x0 x1 h).mpr hm)
  obtain ⟨v, h2, h3, r, rfl, h4⟩ := this; exact ⟨r, h2, h3, h4⟩

/-! ### loop.example/g01354/laws.toTileS -/
def laws_toTileS_M : Nat → List Nat := fun i => bif i == 0 then [0, 3, 4] else []
def laws_toTileS_ks2 (S : SatT) (K : AVal → H → Prop) : Kont := kSeq (cwp S tab laws_toTileS_M [] (sub [1, 1, 1] (bodyOf Try.f30)) (kFun tab (Try.f30).results.toList K)) (kFun tab (Try.f30).results.toList K)
def laws_toTileS_e0 (s0_ : Sl) (s3_ : Sl) (i4_ : Int) : Frame := [.sl s0_, U, U, .sl s3_, .int .i64 i4_, U, U, U, U, U, U, U, U, U, U, U, U, U, U, U, U, U, U]
def laws_toTileS_w0 (S : SatT) (K : AVal → H → Prop) : (Frame → H → Prop) → Frame → H → Prop := fun X fr h => cwp S tab laws_toTileS_M (laws_toTileS_M 0) (sub [1, 1, 0, 1, 0, 0] (bodyOf Try.f30)) (kSeq (fun fr h => X (mask (laws_toTileS_M 0) fr) h) (kBlk 0 (laws_toTileS_ks2 S K))) fr h
def laws_toTileS_L0 (S : SatT) (K : AVal → H → Prop) (s0_ : Sl) (s3_ : Sl) (i4_ : Int) (h : H) : Prop := loopK (laws_toTileS_w0 S K) (laws_toTileS_e0 s0_ s3_ i4_) h
def laws_toTileS_C0 (S : SatT) (K : AVal → H → Prop) (s3_ : Sl) (h : H) : Prop :=
 K (.sl s3_) h
def laws_toTileS_b0 (S : SatT) (K : AVal → H → Prop) (X0 : Frame → H → Prop) (s0_ : Sl) (s3_ : Sl) (i4_ : Int) (h : H) : Prop :=
 bif (decide (i4_ < (s0_.len : Int))) then
 ixS s0_ 4 i4_ fun p0 =>
 ldA p0 4 h fun cs1 =>
 callA S i_laws_toTile [.agg cs1] h fun cs3 h2 =>
 ixS s3_ 4 i4_ fun p4 =>
 stN p4 4 cs3 h2 fun h5 =>
 X0 (laws_toTileS_e0 s0_ s3_ (w64 (i4_ + (1)))) h5
 else
 laws_toTileS_C0 S K s3_ h
theorem laws_toTileS_link0 (S : SatT) (K : AVal → H → Prop) (X0 : Frame → H → Prop) (s0_ : Sl) (s3_ : Sl) (i4_ : Int) (h : H) : laws_toTileS_w0 S K X0 (laws_toTileS_e0 s0_ s3_ i4_) h = laws_toTileS_b0 S K X0 s0_ s3_ i4_ h := by kernel_rfl
theorem laws_toTileS_rule0 (S : SatT) (K : AVal → H → Prop) (s0_ : Sl) (s3_ : Sl) (I_ : Int → H → Prop) (m_ : Int → H → Nat)
    (hs : ∀ (X0 : Frame → H → Prop) (i4_ : Int) (h : H), I_ i4_ h → (∀ (i4_' : Int) (h' : H), I_ i4_' h' → m_ i4_' h' < m_ i4_ h → X0 (laws_toTileS_e0 s0_ s3_ i4_') h') → laws_toTileS_b0 S K X0 s0_ s3_ i4_ h) (i4_ : Int) {h : H} (h0 : I_ i4_ h) : laws_toTileS_L0 S K s0_ s3_ i4_ h :=
  loop_rule (σ := (Int)) (fun s_ => laws_toTileS_e0 s0_ s3_ (s_)) (fun s_ h => I_ (s_) h) (fun s_ h => m_ (s_) h)
    (fun X s_ h hi hx => (laws_toTileS_link0 S K X s0_ s3_ (s_) h).mpr (hs X (s_) h hi fun i4_' h' hi' hm' => hx (i4_') h' hi' hm')) (i4_) h0
theorem laws_toTileS_unroll0 (S : SatT) (K : AVal → H → Prop) (s0_ : Sl) (s3_ : Sl) (i4_ : Int) (h : H) (hb : laws_toTileS_b0 S K (fun fr h => loopK (laws_toTileS_w0 S K) fr h) s0_ s3_ i4_ h) : laws_toTileS_L0 S K s0_ s3_ i4_ h := loop_unroll ((laws_toTileS_link0 S K _ s0_ s3_ i4_ h).mpr hb)
def laws_toTileS_main (S : SatT) (K : AVal → H → Prop) (x0 : Sl) (h : H) : Prop :=
 mkS (x0.len : Int) [.int .i64 (0), .int .i64 (0), .int .i64 (0), .int .i64 (0)] h fun s0 h1 =>
 laws_toTileS_L0 S K x0 s0 (0) h1
theorem laws_toTileS_main_link (S : SatT) (K : AVal → H → Prop) (x0 : Sl) (h : H) : cwp S tab laws_toTileS_M [] (bodyOf Try.f30) (kFun tab Try.f30.results.toList K) (fr0 Try.f30 [.sl x0]) h = laws_toTileS_main S K x0 h := by kernel_rfl
theorem laws_toTileS_call (x0 : Sl) (h : H) (K : Sl → H → Prop) (hm : laws_toTileS_main (Sat Try.prog) (fun v h' => ∃ r, v = .sl r ∧ K r h') x0 h) : callS (Sat Try.prog) i_laws_toTileS [.sl x0] h K := by
  have := Sat.ex tok mixed laws_toTileS_M Try.func30 (c := bodyOf Try.f30) (by kernel_rfl) (calls_of Try.func30 (c := bodyOf Try.f30) (by kernel_rfl) (by decide)) ((laws_toTileS_main_link _ _ x0 h).mpr hm)
  obtain ⟨v, h2, h3, r, rfl, h4⟩ := this; exact ⟨r, h2, h3, h4⟩

/-! ### loop.example/g01354/spec.StackSets -/
def spec_StackSets_M : Nat → List Nat := fun i => []
def spec_StackSets_main (S : SatT) (K : AVal → H → Prop) (x0 : List AVal) (x1 : List AVal) (h : H) : Prop :=
 newK 2 x0 h fun p0 h1 =>
 newK 2 x1 h1 fun p2 h3 =>
 newO [.int .i64 (0), .sl Sl.nil] h3 fun p4 h5 =>
 ldA p0 2 h5 fun cs6 =>
 callB S i_spec_l01Is [.agg cs6] h5 fun b8 h7 =>
 bif (!b8) then
 stN p4 2 [.int .i64 (0), .sl Sl.nil] h7 fun h9 =>
 ldA p4 2 h9 fun cs10 =>
 K (.tuple [.agg cs10, .int .i64 (1)]) h9
 else
 ldA p2 2 h7 fun cs11 =>
 callB S i_spec_l01Is [.agg cs11] h7 fun b13 h12 =>
 bif (!b13) then
 stN p4 2 [.int .i64 (0), .sl Sl.nil] h12 fun h14 =>
 ldA p4 2 h14 fun cs15 =>
 K (.tuple [.agg cs15, .int .i64 (1)]) h14
 else
 ldA p0 2 h12 fun cs16 =>
 ldA p2 2 h12 fun cs17 =>
 callV S i_spec_l04Made [.agg cs16, .agg cs17] h12 fun v19 h18 =>
 viaT v19 fun vs20 =>
 exA vs20 0 fun cs21 =>
 viaT v19 fun vs22 =>
 exI .i64 vs22 1 fun n23 =>
 newO [.int .i64 (0), .sl Sl.nil] h18 fun p24 h25 =>
 stN p24 2 cs21 h25 fun h26 =>
 ldA p24 2 h26 fun cs27 =>
 stN p4 2 cs27 h26 fun h28 =>
 ldA p4 2 h28 fun cs29 =>
 K (.tuple [.agg cs29, .int .i64 n23]) h28
theorem spec_StackSets_main_link (S : SatT) (K : AVal → H → Prop) (x0 : List AVal) (x1 : List AVal) (h : H) : cwp S tab spec_StackSets_M [] (bodyOf Try.f9) (kFun tab Try.f9.results.toList K) (fr0 Try.f9 [.agg x0, .agg x1]) h = spec_StackSets_main S K x0 x1 h := by kernel_rfl
theorem spec_StackSets_call (x0 : List AVal) (x1 : List AVal) (h : H) (K : AVal → H → Prop) (hm : spec_StackSets_main (Sat Try.prog) (fun v h' => K v h') x0 x1 h) : callV (Sat Try.prog) i_spec_StackSets [.agg x0, .agg x1] h K := by
  have := Sat.ex tok mixed spec_StackSets_M Try.func9 (c := bodyOf Try.f9) (by kernel_rfl) (calls_of Try.func9 (c := bodyOf Try.f9) (by kernel_rfl) (by decide)) ((spec_StackSets_main_link _ _ x0 x1 h).mpr hm)
  exact this

/-! ### (loop.example/g01354/impl.Tile).sides -/
def impl_Tile_sides_M : Nat → List Nat := fun i => []
def impl_Tile_sides_main (S : SatT) (K : AVal → H → Prop) (x0 : List AVal) (x1 : Int) (x2 : Int) (x3 : Int) (x4 : Int) (h : H) : Prop :=
 newK 4 x0 h fun p0 h1 =>
 newO [.int .i64 (0), .int .i64 (0), .int .i64 (0), .int .i64 (0)] h1 fun p2 h3 =>
 ixA p0 4 1 x1 fun p4 =>
 ldI .i64 p4 h3 fun n5 =>
 ixA p0 4 1 x2 fun p6 =>
 ldI .i64 p6 h3 fun n7 =>
 ixA p0 4 1 x3 fun p8 =>
 ldI .i64 p8 h3 fun n9 =>
 ixA p0 4 1 x4 fun p10 =>
 ldI .i64 p10 h3 fun n11 =>
 stN p2 4 [.int .i64 n5, .int .i64 n7, .int .i64 n9, .int .i64 n11] h3 fun h12 =>
 ldA p2 4 h12 fun cs13 =>
 K (.agg cs13) h12
theorem impl_Tile_sides_main_link (S : SatT) (K : AVal → H → Prop) (x0 : List AVal) (x1 : Int) (x2 : Int) (x3 : Int) (x4 : Int) (h : H) : cwp S tab impl_Tile_sides_M [] (bodyOf Try.f82) (kFun tab Try.f82.results.toList K) (fr0 Try.f82 [.agg x0, .int .i64 x1, .int .i64 x2, .int .i64 x3, .int .i64 x4]) h = impl_Tile_sides_main S K x0 x1 x2 x3 x4 h := by kernel_rfl
theorem impl_Tile_sides_call (x0 : List AVal) (x1 : Int) (x2 : Int) (x3 : Int) (x4 : Int) (h : H) (K : List AVal → H → Prop) (hm : impl_Tile_sides_main (Sat Try.prog) (fun v h' => ∃ r, v = .agg r ∧ K r h') x0 x1 x2 x3 x4 h) : callA (Sat Try.prog) i_impl_Tile_sides [.agg x0, .int .i64 x1, .int .i64 x2, .int .i64 x3, .int .i64 x4] h K := by
  have := Sat.ex tok mixed impl_Tile_sides_M Try.func82 (c := bodyOf Try.f82) (by kernel_rfl) (calls_of Try.func82 (c := bodyOf Try.f82) (by kernel_rfl) (by decide)) ((impl_Tile_sides_main_link _ _ x0 x1 x2 x3 x4 h).mpr hm)
  obtain ⟨v, h2, h3, r, rfl, h4⟩ := this; exact ⟨r, h2, h3, h4⟩

/-! ### loop.example/g01354/impl.stack -/
def impl_stack_M : Nat → List Nat := fun i => []
def impl_stack_main (S : SatT) (K : AVal → H → Prop) (x0 : List AVal) (x1 : List AVal) (h : H) : Prop :=
 newK 2 x0 h fun p0 h1 =>
 newK 2 x1 h1 fun p2 h3 =>
 newO [.int .i64 (0), .sl Sl.nil] h3 fun p4 h5 =>
 isPt p0 (
 ldS (Pt.add p0 1) h5 fun s6 =>
 isPt p2 (
 ldS (Pt.add p2 1) h5 fun s7 =>
 callV S i_impl_stackTiles [.sl s6, .sl s7] h5 fun v9 h8 =>
 viaT v9 fun vs10 =>
 exS vs10 0 fun s11 =>
 viaT v9 fun vs12 =>
 exI .i64 vs12 1 fun n13 =>
 isPt p0 (
 ldI .i64 (Pt.add p0 0) h8 fun n14 =>
 isPt p2 (
 ldI .i64 (Pt.add p2 0) h8 fun n15 =>
 callV S i_impl_limited [.int .i64 (mxI (mxI n13 n14) n15), .sl s11] h8 fun v17 h16 =>
 viaT v17 fun vs18 =>
 exA vs18 0 fun cs19 =>
 viaT v17 fun vs20 =>
 exI .i64 vs20 1 fun n21 =>
 stN p4 2 cs19 h16 fun h22 =>
 ldA p4 2 h22 fun cs23 =>
 K (.tuple [.agg cs23, .int .i64 n21]) h22))))
theorem impl_stack_main_link (S : SatT) (K : AVal → H → Prop) (x0 : List AVal) (x1 : List AVal) (h : H) : cwp S tab impl_stack_M [] (bodyOf Try.f32) (kFun tab Try.f32.results.toList K) (fr0 Try.f32 [.agg x0, .agg x1]) h = impl_stack_main S K x0 x1 h := by kernel_rfl
theorem impl_stack_call (x0 : List AVal) (x1 : List AVal) (h : H) (K : AVal → H → Prop) (hm : impl_stack_main (Sat Try.prog) (fun v h' => K v h') x0 x1 h) : callV (Sat Try.prog) i_impl_stack [.agg x0, .agg x1] h K := by
  have := Sat.ex tok mixed impl_stack_M Try.func32 (c := bodyOf Try.f32) (by kernel_rfl) (calls_of Try.func32 (c := bodyOf Try.f32) (by kernel_rfl) (by decide)) ((impl_stack_main_link _ _ x0 x1 h).mpr hm)
  exact this

/-! ### loop.example/g01354/laws.eqSet -/
def laws_eqSet_M : Nat → List Nat := fun i => []
def laws_eqSet_main (S : SatT) (K : AVal → H → Prop) (x0 : List AVal) (x1 : List AVal) (h : H) : Prop :=
 newK 2 x0 h fun p0 h1 =>
 newK 2 x1 h1 fun p2 h3 =>
 isPt p0 (
 ldI .i64 (Pt.add p0 0) h3 fun n4 =>
 isPt p2 (
 ldI .i64 (Pt.add p2 0) h3 fun n5 =>
 bif (n4 != n5) then
 K (.bool false) h3
 else
 isPt p0 (
 ldS (Pt.add p0 1) h3 fun s6 =>
 isPt p2 (
 ldS (Pt.add p2 1) h3 fun s7 =>
 callB S i_laws_eqTileS [.sl s6, .sl s7] h3 fun b9 h8 =>
 bif (!b9) then
 K (.bool false) h8
 else
 K (.bool true) h8))))
theorem laws_eqSet_main_link (S : SatT) (K : AVal → H → Prop) (x0 : List AVal) (x1 : List AVal) (h : H) : cwp S tab laws_eqSet_M [] (bodyOf Try.f12) (kFun tab Try.f12.results.toList K) (fr0 Try.f12 [.agg x0, .agg x1]) h = laws_eqSet_main S K x0 x1 h := by kernel_rfl
theorem laws_eqSet_call (x0 : List AVal) (x1 : List AVal) (h : H) (K : Bool → H → Prop) (hm : laws_eqSet_main (Sat Try.prog) (fun v h' => ∃ r, v = .bool r ∧ K r h') x0 x1 h) : callB (Sat Try.prog) i_laws_eqSet [.agg x0, .agg x1] h K := by
  have := Sat.ex tok mixed laws_eqSet_M Try.func12 (c := bodyOf Try.f12) (by kernel_rfl) (calls_of Try.func12 (c := bodyOf Try.f12) (by kernel_rfl) (by decide)) ((laws_eqSet_main_link _ _ x0 x1 h).mpr hm)
  obtain ⟨v, h2, h3, r, rfl, h4⟩ := this; exact ⟨r, h2, h3, h4⟩

/-! ### loop.example/g01354/impl.setCode -/
def impl_setCode_M : Nat → List Nat := fun i => []
def impl_setCode_main (S : SatT) (K : AVal → H → Prop) (x0 : List AVal) (x1 : AVal) (h : H) : Prop :=
 newK 2 x0 h fun p0 h1 =>
 ldA p0 2 h1 fun cs2 =>
 callB S i_impl_IsSet [.agg cs2] h1 fun b4 h3 =>
 bif (!b4) then
 K (.int .i64 (1)) h3
 else
 viaF x1 [] fun g5 ys6 =>
 callB S g5 ys6 h3 fun b8 h7 =>
 bif (!b8) then
 K (.int .i64 (2)) h7
 else
 K (.int .i64 (0)) h7
theorem impl_setCode_main_link (S : SatT) (K : AVal → H → Prop) (x0 : List AVal) (x1 : AVal) (h : H) : cwp S tab impl_setCode_M [] (bodyOf Try.f45) (kFun tab Try.f45.results.toList K) (fr0 Try.f45 [.agg x0, x1]) h = impl_setCode_main S K x0 x1 h := by kernel_rfl
theorem impl_setCode_call (x0 : List AVal) (x1 : AVal) (h : H) (K : Int → H → Prop) (hm : impl_setCode_main (Sat Try.prog) (fun v h' => ∃ r, v = .int .i64 r ∧ K r h') x0 x1 h) : callI (Sat Try.prog) .i64 i_impl_setCode [.agg x0, x1] h K := by
  have := Sat.ex tok mixed impl_setCode_M Try.func45 (c := bodyOf Try.f45) (by kernel_rfl) (calls_of Try.func45 (c := bodyOf Try.f45) (by kernel_rfl) (by decide)) ((impl_setCode_main_link _ _ x0 x1 h).mpr hm)
  obtain ⟨v, h2, h3, r, rfl, h4⟩ := this; exact ⟨r, h2, h3, h4⟩

/-! ### slices.Values[[]loop.example/g01354/impl.Tile,loop.example/g01354/impl.Tile] -/
def slices_Values_s_impl_Tile_impl_Tile__M : Nat → List Nat := fun i => []
def slices_Values_s_impl_Tile_impl_Tile__main (S : SatT) (K : AVal → H → Prop) (x0 : Sl) (h : H) : Prop :=
 newO [.sl x0] h fun p0 h1 =>
 K (.func 78 [.ptr p0]) h1
theorem slices_Values_s_impl_Tile_impl_Tile__main_link (S : SatT) (K : AVal → H → Prop) (x0 : Sl) (h : H) : cwp S tab slices_Values_s_impl_Tile_impl_Tile__M [] (bodyOf Try.f54) (kFun tab Try.f54.results.toList K) (fr0 Try.f54 [.sl x0]) h = slices_Values_s_impl_Tile_impl_Tile__main S K x0 h := by kernel_rfl
theorem slices_Values_s_impl_Tile_impl_Tile__call (x0 : Sl) (h : H) (K : AVal → H → Prop) (hm : slices_Values_s_impl_Tile_impl_Tile__main (Sat Try.prog) (fun v h' => K v h') x0 h) : callV (Sat Try.prog) i_slices_Values_s_impl_Tile_impl_Tile_ [.sl x0] h K := by
  have := Sat.ex tok mixed slices_Values_s_impl_Tile_impl_Tile__M Try.func54 (c := bodyOf Try.f54) (by kernel_rfl) (calls_of Try.func54 (c := bodyOf Try.f54) (by kernel_rfl) (by decide)) ((slices_Values_s_impl_Tile_impl_Tile__main_link _ _ x0 h).mpr hm)
  exact this

/-! ### loop.example/g01354/impl.within -/
def impl_within_M : Nat → List Nat := fun i => []
def impl_within_main (S : SatT) (K : AVal → H → Prop) (x0 : Int) (x1 : Int) (x2 : Int) (h : H) : Prop :=
 bif (decide (x0 ≥ x1)) then
 K (.bool (decide (x0 ≤ x2))) h
 else
 K (.bool false) h
theorem impl_within_main_link (S : SatT) (K : AVal → H → Prop) (x0 : Int) (x1 : Int) (x2 : Int) (h : H) : cwp S tab impl_within_M [] (bodyOf Try.f47) (kFun tab Try.f47.results.toList K) (fr0 Try.f47 [.int .i64 x0, .int .i64 x1, .int .i64 x2]) h = impl_within_main S K x0 x1 x2 h := by kernel_rfl
theorem impl_within_call (x0 : Int) (x1 : Int) (x2 : Int) (h : H) (K : Bool → H → Prop) (hm : impl_within_main (Sat Try.prog) (fun v h' => ∃ r, v = .bool r ∧ K r h') x0 x1 x2 h) : callB (Sat Try.prog) i_impl_within [.int .i64 x0, .int .i64 x1, .int .i64 x2] h K := by
  have := Sat.ex tok mixed impl_within_M Try.func47 (c := bodyOf Try.f47) (by kernel_rfl) (calls_of Try.func47 (c := bodyOf Try.f47) (by kernel_rfl) (by decide)) ((impl_within_main_link _ _ x0 x1 x2 h).mpr hm)
  obtain ⟨v, h2, h3, r, rfl, h4⟩ := this; exact ⟨r, h2, h3, h4⟩

/-! ### loop.example/g01354/spec.l01In -/
def spec_l01In_M : Nat → List Nat := fun i => []
def spec_l01In_main (S : SatT) (K : AVal → H → Prop) (x0 : Int) (x1 : Int) (x2 : Int) (h : H) : Prop :=
 bif (decide (x0 ≥ x1)) then
 K (.bool (decide (x0 ≤ x2))) h
 else
 K (.bool false) h
theorem spec_l01In_main_link (S : SatT) (K : AVal → H → Prop) (x0 : Int) (x1 : Int) (x2 : Int) (h : H) : cwp S tab spec_l01In_M [] (bodyOf Try.f43) (kFun tab Try.f43.results.toList K) (fr0 Try.f43 [.int .i64 x0, .int .i64 x1, .int .i64 x2]) h = spec_l01In_main S K x0 x1 x2 h := by kernel_rfl
theorem spec_l01In_call (x0 : Int) (x1 : Int) (x2 : Int) (h : H) (K : Bool → H → Prop) (hm : spec_l01In_main (Sat Try.prog) (fun v h' => ∃ r, v = .bool r ∧ K r h') x0 x1 x2 h) : callB (Sat Try.prog) i_spec_l01In [.int .i64 x0, .int .i64 x1, .int .i64 x2] h K := by
  have := Sat.ex tok mixed spec_l01In_M Try.func43 (c := bodyOf Try.f43) (by kernel_rfl) (calls_of Try.func43 (c := bodyOf Try.f43) (by kernel_rfl) (by decide)) ((spec_l01In_main_link _ _ x0 x1 x2 h).mpr hm)
  obtain ⟨v, h2, h3, r, rfl, h4⟩ := this; exact ⟨r, h2, h3, h4⟩

/-! ### slices.Compact[[]loop.example/g01354/impl.Tile,loop.example/g01354/impl.Tile] -/
def slices_Compact_s_impl_Tile_impl_Tile__M : Nat → List Nat := fun i => bif i == 2 then [0, 3, 4, 5] else bif i == 0 then [0, 3] else []
def slices_Compact_s_impl_Tile_impl_Tile__ks4 (S : SatT) (K : AVal → H → Prop) : Kont := kSeq (cwp S tab slices_Compact_s_impl_Tile_impl_Tile__M [] (sub [1, 1, 1] (bodyOf Try.f52)) (kFun tab (Try.f52).results.toList K)) (kFun tab (Try.f52).results.toList K)
def slices_Compact_s_impl_Tile_impl_Tile__e0 (s0_ : Sl) (i3_ : Int) : Frame := [.sl s0_, U, U, .int .i64 i3_, U, U, U, U, U, U, U, U, U, U, U, U, U, U, U, U, U, U, U, U, U, U, U, U, U, U, U, U, U, U, U, U, U, U, U, U, U, U, U, U, U, U, U, U, U, U, U, U, U, U, U, U, U, U, U, U, U]
def slices_Compact_s_impl_Tile_impl_Tile__w0 (S : SatT) (K : AVal → H → Prop) : (Frame → H → Prop) → Frame → H → Prop := fun X fr h => cwp S tab slices_Compact_s_impl_Tile_impl_Tile__M (slices_Compact_s_impl_Tile_impl_Tile__M 0) (sub [1, 1, 0, 1, 0, 0] (bodyOf Try.f52)) (kSeq (fun fr h => X (mask (slices_Compact_s_impl_Tile_impl_Tile__M 0) fr) h) (kBlk 0 (slices_Compact_s_impl_Tile_impl_Tile__ks4 S K))) fr h
def slices_Compact_s_impl_Tile_impl_Tile__L0 (S : SatT) (K : AVal → H → Prop) (s0_ : Sl) (i3_ : Int) (h : H) : Prop := loopK (slices_Compact_s_impl_Tile_impl_Tile__w0 S K) (slices_Compact_s_impl_Tile_impl_Tile__e0 s0_ i3_) h
def slices_Compact_s_impl_Tile_impl_Tile__ks8 (S : SatT) (K : AVal → H → Prop) (X0 : Frame → H → Prop) : Kont := kSeq (cwp S tab slices_Compact_s_impl_Tile_impl_Tile__M (slices_Compact_s_impl_Tile_impl_Tile__M 0) (sub [1, 1, 0, 1, 0, 0, 1, 1] (bodyOf Try.f52)) (kSeq (fun fr h => X0 (mask (slices_Compact_s_impl_Tile_impl_Tile__M 0) fr) h) (kBlk 0 (slices_Compact_s_impl_Tile_impl_Tile__ks4 S K)))) (kSeq (fun fr h => X0 (mask (slices_Compact_s_impl_Tile_impl_Tile__M 0) fr) h) (kBlk 0 (slices_Compact_s_impl_Tile_impl_Tile__ks4 S K)))
def slices_Compact_s_impl_Tile_impl_Tile__ks11 (S : SatT) (K : AVal → H → Prop) (X0 : Frame → H → Prop) : Kont := kSeq (cwp S tab slices_Compact_s_impl_Tile_impl_Tile__M (slices_Compact_s_impl_Tile_impl_Tile__M 1) (sub [1, 1, 0, 1, 0, 0, 1, 0, 0, 1, 0, 1, 1] (bodyOf Try.f52)) (kBlk 1 (slices_Compact_s_impl_Tile_impl_Tile__ks8 S K X0))) (kBlk 1 (slices_Compact_s_impl_Tile_impl_Tile__ks8 S K X0))
def slices_Compact_s_impl_Tile_impl_Tile__e2 (s0_ : Sl) (i3_ : Int) (s4_ : Sl) (i5_ : Int) : Frame := [.sl s0_, U, U, .int .i64 i3_, .sl s4_, .int .i64 i5_, U, U, U, U, U, U, U, U, U, U, U, U, U, U, U, U, U, U, U, U, U, U, U, U, U, U, U, U, U, U, U, U, U, U, U, U, U, U, U, U, U, U, U, U, U, U, U, U, U, U, U, U, U, U, U]
def slices_Compact_s_impl_Tile_impl_Tile__w2 (S : SatT) (K : AVal → H → Prop) (X0 : Frame → H → Prop) : (Frame → H → Prop) → Frame → H → Prop := fun X fr h => cwp S tab slices_Compact_s_impl_Tile_impl_Tile__M (slices_Compact_s_impl_Tile_impl_Tile__M 2) (sub [1, 1, 0, 1, 0, 0, 1, 0, 0, 1, 0, 1, 0, 1, 0, 0] (bodyOf Try.f52)) (kSeq (fun fr h => X (mask (slices_Compact_s_impl_Tile_impl_Tile__M 2) fr) h) (kBlk 2 (slices_Compact_s_impl_Tile_impl_Tile__ks11 S K X0))) fr h
def slices_Compact_s_impl_Tile_impl_Tile__L2 (S : SatT) (K : AVal → H → Prop) (X0 : Frame → H → Prop) (s0_ : Sl) (i3_ : Int) (s4_ : Sl) (i5_ : Int) (h : H) : Prop := loopK (slices_Compact_s_impl_Tile_impl_Tile__w2 S K X0) (slices_Compact_s_impl_Tile_impl_Tile__e2 s0_ i3_ s4_ i5_) h
def slices_Compact_s_impl_Tile_impl_Tile__C2 (S : SatT) (K : AVal → H → Prop) (X0 : Frame → H → Prop) (s0_ : Sl) (i3_ : Int) (h : H) : Prop :=
 cut s0_ 4 i3_ (s0_.len : Int) h fun s0 =>
 clearS s0 [.int .i64 (0), .int .i64 (0), .int .i64 (0), .int .i64 (0)] h fun h1 =>
 cut s0_ 4 (0) i3_ h1 fun s2 =>
 K (.sl s2) h1
def slices_Compact_s_impl_Tile_impl_Tile__b2 (S : SatT) (K : AVal → H → Prop) (X0 : Frame → H → Prop) (X2 : Frame → H → Prop) (s0_ : Sl) (i3_ : Int) (s4_ : Sl) (i5_ : Int) (h : H) : Prop :=
 bif (decide (i5_ < (s4_.len : Int))) then
 ixS s4_ 4 i5_ fun p0 =>
 ldA p0 4 h fun cs1 =>
 ixS s4_ 4 (w64 (i5_ - (1))) fun p2 =>
 ldA p2 4 h fun cs3 =>
 eqA .i64 4 cs1 cs3 fun b4 =>
 bif (!b4) then
 ixS s4_ 4 i5_ fun p5 =>
 ldA p5 4 h fun cs6 =>
 ixS s0_ 4 i3_ fun p7 =>
 stN p7 4 cs6 h fun h8 =>
 X2 (slices_Compact_s_impl_Tile_impl_Tile__e2 s0_ (w64 (i3_ + (1))) s4_ (w64 (i5_ + (1)))) h8
 else
 X2 (slices_Compact_s_impl_Tile_impl_Tile__e2 s0_ i3_ s4_ (w64 (i5_ + (1)))) h
 else
 slices_Compact_s_impl_Tile_impl_Tile__C2 S K X0 s0_ i3_ h
theorem slices_Compact_s_impl_Tile_impl_Tile__link2 (S : SatT) (K : AVal → H → Prop) (X0 : Frame → H → Prop) (X2 : Frame → H → Prop) (s0_ : Sl) (i3_ : Int) (s4_ : Sl) (i5_ : Int) (h : H) : slices_Compact_s_impl_Tile_impl_Tile__w2 S K X0 X2 (slices_Compact_s_impl_Tile_impl_Tile__e2 s0_ i3_ s4_ i5_) h = slices_Compact_s_impl_Tile_impl_Tile__b2 S K X0 X2 s0_ i3_ s4_ i5_ h := by kernel_rfl
theorem slices_Compact_s_impl_Tile_impl_Tile__rule2 (S : SatT) (K : AVal → H → Prop) (X0 : Frame → H → Prop) (s0_ : Sl) (s4_ : Sl) (I_ : Int → Int → H → Prop) (m_ : Int → Int → H → Nat)
    (hs : ∀ (X2 : Frame → H → Prop) (i3_ : Int) (i5_ : Int) (h : H), I_ i3_ i5_ h → (∀ (i3_' : Int) (i5_' : Int) (h' : H), I_ i3_' i5_' h' → m_ i3_' i5_' h' < m_ i3_ i5_ h → X2 (slices_Compact_s_impl_Tile_impl_Tile__e2 s0_ i3_' s4_ i5_') h') → slices_Compact_s_impl_Tile_impl_Tile__b2 S K X0 X2 s0_ i3_ s4_ i5_ h) (i3_ : Int) (i5_ : Int) {h : H} (h0 : I_ i3_ i5_ h) : slices_Compact_s_impl_Tile_impl_Tile__L2 S K X0 s0_ i3_ s4_ i5_ h :=
  loop_rule (σ := (Int) × (Int)) (fun s_ => slices_Compact_s_impl_Tile_impl_Tile__e2 s0_ (s_.1) s4_ (s_.2)) (fun s_ h => I_ (s_.1) (s_.2) h) (fun s_ h => m_ (s_.1) (s_.2) h)
    (fun X s_ h hi hx => (slices_Compact_s_impl_Tile_impl_Tile__link2 S K X0 X s0_ (s_.1) s4_ (s_.2) h).mpr (hs X (s_.1) (s_.2) h hi fun i3_' i5_' h' hi' hm' => hx (i3_', i5_') h' hi' hm')) (i3_, i5_) h0
theorem slices_Compact_s_impl_Tile_impl_Tile__unroll2 (S : SatT) (K : AVal → H → Prop) (X0 : Frame → H → Prop) (s0_ : Sl) (i3_ : Int) (s4_ : Sl) (i5_ : Int) (h : H) (hb : slices_Compact_s_impl_Tile_impl_Tile__b2 S K X0 (fun fr h => loopK (slices_Compact_s_impl_Tile_impl_Tile__w2 S K X0) fr h) s0_ i3_ s4_ i5_ h) : slices_Compact_s_impl_Tile_impl_Tile__L2 S K X0 s0_ i3_ s4_ i5_ h := loop_unroll ((slices_Compact_s_impl_Tile_impl_Tile__link2 S K X0 _ s0_ i3_ s4_ i5_ h).mpr hb)
def slices_Compact_s_impl_Tile_impl_Tile__C1 (S : SatT) (K : AVal → H → Prop) (X0 : Frame → H → Prop) (s0_ : Sl) (i3_ : Int) (h : H) : Prop :=
 X0 (slices_Compact_s_impl_Tile_impl_Tile__e0 s0_ (w64 (i3_ + (1)))) h
def slices_Compact_s_impl_Tile_impl_Tile__C0 (S : SatT) (K : AVal → H → Prop) (s0_ : Sl) (h : H) : Prop :=
 K (.sl s0_) h
def slices_Compact_s_impl_Tile_impl_Tile__b0 (S : SatT) (K : AVal → H → Prop) (X0 : Frame → H → Prop) (s0_ : Sl) (i3_ : Int) (h : H) : Prop :=
 bif (decide (i3_ < (s0_.len : Int))) then
 ixS s0_ 4 i3_ fun p0 =>
 ldA p0 4 h fun cs1 =>
 ixS s0_ 4 (w64 (i3_ - (1))) fun p2 =>
 ldA p2 4 h fun cs3 =>
 eqA .i64 4 cs1 cs3 fun b4 =>
 bif b4 then
 cut s0_ 4 i3_ (s0_.len : Int) h fun s5 =>
 slices_Compact_s_impl_Tile_impl_Tile__L2 S K X0 s0_ i3_ s5 (1) h
 else
 slices_Compact_s_impl_Tile_impl_Tile__C1 S K X0 s0_ i3_ h
 else
 slices_Compact_s_impl_Tile_impl_Tile__C0 S K s0_ h
theorem slices_Compact_s_impl_Tile_impl_Tile__link0 (S : SatT) (K : AVal → H → Prop) (X0 : Frame → H → Prop) (s0_ : Sl) (i3_ : Int) (h : H) : slices_Compact_s_impl_Tile_impl_Tile__w0 S K X0 (slices_Compact_s_impl_Tile_impl_Tile__e0 s0_ i3_) h = slices_Compact_s_impl_Tile_impl_Tile__b0 S K X0 s0_ i3_ h := by kernel_rfl
theorem slices_Compact_s_impl_Tile_impl_Tile__rule0 (S : SatT) (K : AVal → H → Prop) (s0_ : Sl) (I_ : Int → H → Prop) (m_ : Int → H → Nat)
    (hs : ∀ (X0 : Frame → H → Prop) (i3_ : Int) (h : H), I_ i3_ h → (∀ (i3_' : Int) (h' : H), I_ i3_' h' → m_ i3_' h' < m_ i3_ h → X0 (slices_Compact_s_impl_Tile_impl_Tile__e0 s0_ i3_') h') → slices_Compact_s_impl_Tile_impl_Tile__b0 S K X0 s0_ i3_ h) (i3_ : Int) {h : H} (h0 : I_ i3_ h) : slices_Compact_s_impl_Tile_impl_Tile__L0 S K s0_ i3_ h :=
  loop_rule (σ := (Int)) (fun s_ => slices_Compact_s_impl_Tile_impl_Tile__e0 s0_ (s_)) (fun s_ h => I_ (s_) h) (fun s_ h => m_ (s_) h)
    (fun X s_ h hi hx => (slices_Compact_s_impl_Tile_impl_Tile__link0 S K X s0_ (s_) h).mpr (hs X (s_) h hi fun i3_' h' hi' hm' => hx (i3_') h' hi' hm')) (i3_) h0
theorem slices_Compact_s_impl_Tile_impl_Tile__unroll0 (S : SatT) (K : AVal → H → Prop) (s0_ : Sl) (i3_ : Int) (h : H) (hb : slices_Compact_s_impl_Tile_impl_Tile__b0 S K (fun fr h => loopK (slices_Compact_s_impl_Tile_impl_Tile__w0 S K) fr h) s0_ i3_ h) : slices_Compact_s_impl_Tile_impl_Tile__L0 S K s0_ i3_ h := loop_unroll ((slices_Compact_s_impl_Tile_impl_Tile__link0 S K _ s0_ i3_ h).mpr hb)
def slices_Compact_s_impl_Tile_impl_Tile__main (S : SatT) (K : AVal → H → Prop) (x0 : Sl) (h : H) : Prop :=
 bif (decide ((x0.len : Int) < (2))) then
 K (.sl x0) h
 else
 slices_Compact_s_impl_Tile_impl_Tile__L0 S K x0 (1) h
theorem slices_Compact_s_impl_Tile_impl_Tile__main_link (S : SatT) (K : AVal → H → Prop) (x0 : Sl) (h : H) : cwp S tab slices_Compact_s_impl_Tile_impl_Tile__M [] (bodyOf Try.f52) (kFun tab Try.f52.results.toList K) (fr0 Try.f52 [.sl x0]) h = slices_Compact_s_impl_Tile_impl_Tile__main S K x0 h := by kernel_rfl
theorem slices_Compact_s_impl_Tile_impl_Tile__call (x0 : Sl) (h : H) (K : Sl → H → Prop) (hm : slices_Compact_s_impl_Tile_impl_Tile__main (Sat Try.prog) (fun v h' => ∃ r, v = .sl r ∧ K r h') x0 h) : callS (Sat Try.prog) i_slices_Compact_s_impl_Tile_impl_Tile_ [.sl x0] h K := by
  have := Sat.ex tok mixed slices_Compact_s_impl_Tile_impl_Tile__M Try.func52 (c := bodyOf Try.f52) (by kernel_rfl) (calls_of Try.func52 (c := bodyOf Try.f52) (by kernel_rfl) (by decide)) ((slices_Compact_s_impl_Tile_impl_Tile__main_link _ _ x0 h).mpr hm)
  obtain ⟨v, h2, h3, r, rfl, h4⟩ := this; exact ⟨r, h2, h3, h4⟩

/-! ### loop.example/g01354/impl.stacked -/
def impl_stacked_M : Nat → List Nat := fun i => bif i == 2 then [1, 5, 6, 7, 11, 12, 13, 18, 19, 20] else bif i == 0 then [1, 5, 11, 12, 13] else []
def impl_stacked_ks2 (S : SatT) (K : AVal → H → Prop) : Kont := kSeq (cwp S tab impl_stacked_M [] (sub [1, 1, 1] (bodyOf Try.f40)) (kFun tab (Try.f40).results.toList K)) (kFun tab (Try.f40).results.toList K)
def impl_stacked_e0 (s1_ : Sl) (s5_ : Sl) (s11_ : Sl) (i12_ : Int) (i13_ : Int) : Frame := [U, .sl s1_, U, U, U, .sl s5_, U, U, U, U, U, .sl s11_, .int .i64 i12_, .int .i64 i13_, U, U, U, U, U, U, U, U, U, U, U, U, U, U, U, U, U, U, U, U, U, U, U, U, U]
def impl_stacked_w0 (S : SatT) (K : AVal → H → Prop) : (Frame → H → Prop) → Frame → H → Prop := fun X fr h => cwp S tab impl_stacked_M (impl_stacked_M 0) (sub [1, 1, 0, 1, 0, 0] (bodyOf Try.f40)) (kSeq (fun fr h => X (mask (impl_stacked_M 0) fr) h) (kBlk 0 (impl_stacked_ks2 S K))) fr h
def impl_stacked_L0 (S : SatT) (K : AVal → H → Prop) (s1_ : Sl) (s5_ : Sl) (s11_ : Sl) (i12_ : Int) (i13_ : Int) (h : H) : Prop := loopK (impl_stacked_w0 S K) (impl_stacked_e0 s1_ s5_ s11_ i12_ i13_) h
def impl_stacked_ks6 (S : SatT) (K : AVal → H → Prop) (X0 : Frame → H → Prop) : Kont := kSeq (cwp S tab impl_stacked_M (impl_stacked_M 0) (sub [1, 1, 0, 1, 0, 0, 1, 1, 1] (bodyOf Try.f40)) (kSeq (fun fr h => X0 (mask (impl_stacked_M 0) fr) h) (kBlk 0 (impl_stacked_ks2 S K)))) (kSeq (fun fr h => X0 (mask (impl_stacked_M 0) fr) h) (kBlk 0 (impl_stacked_ks2 S K)))
def impl_stacked_e2 (s1_ : Sl) (s5_ : Sl) (i6_ : Int) (p7_ : Pt) (s11_ : Sl) (i12_ : Int) (i13_ : Int) (s18_ : Sl) (i19_ : Int) (i20_ : Int) : Frame := [U, .sl s1_, U, U, U, .sl s5_, .int .i64 i6_, .ptr p7_, U, U, U, .sl s11_, .int .i64 i12_, .int .i64 i13_, U, U, U, U, .sl s18_, .int .i64 i19_, .int .i64 i20_, U, U, U, U, U, U, U, U, U, U, U, U, U, U, U, U, U, U]
def impl_stacked_w2 (S : SatT) (K : AVal → H → Prop) (X0 : Frame → H → Prop) : (Frame → H → Prop) → Frame → H → Prop := fun X fr h => cwp S tab impl_stacked_M (impl_stacked_M 2) (sub [1, 1, 0, 1, 0, 0, 1, 1, 0, 0, 1, 1, 0, 0] (bodyOf Try.f40)) (kSeq (fun fr h => X (mask (impl_stacked_M 2) fr) h) (kBlk 2 (kBlk 1 (impl_stacked_ks6 S K X0)))) fr h
def impl_stacked_L2 (S : SatT) (K : AVal → H → Prop) (X0 : Frame → H → Prop) (s1_ : Sl) (s5_ : Sl) (i6_ : Int) (p7_ : Pt) (s11_ : Sl) (i12_ : Int) (i13_ : Int) (s18_ : Sl) (i19_ : Int) (i20_ : Int) (h : H) : Prop := loopK (impl_stacked_w2 S K X0) (impl_stacked_e2 s1_ s5_ i6_ p7_ s11_ i12_ i13_ s18_ i19_ i20_) h
def impl_stacked_C1 (S : SatT) (K : AVal → H → Prop) (X0 : Frame → H → Prop) (s1_ : Sl) (s5_ : Sl) (s11_ : Sl) (i12_ : Int) (i13_ : Int) (h : H) : Prop :=
 X0 (impl_stacked_e0 s1_ s5_ s11_ i12_ (w64 (i13_ + (1)))) h
def impl_stacked_C2 (S : SatT) (K : AVal → H → Prop) (X0 : Frame → H → Prop) (s1_ : Sl) (s5_ : Sl) (s11_ : Sl) (i12_ : Int) (i13_ : Int) (h : H) : Prop :=
 impl_stacked_C1 S K X0 s1_ s5_ s11_ i12_ i13_ h
def impl_stacked_b2 (S : SatT) (K : AVal → H → Prop) (X0 : Frame → H → Prop) (X2 : Frame → H → Prop) (s1_ : Sl) (s5_ : Sl) (i6_ : Int) (p7_ : Pt) (s11_ : Sl) (i12_ : Int) (i13_ : Int) (s18_ : Sl) (i19_ : Int) (i20_ : Int) (h : H) : Prop :=
 bif (decide (i20_ < i19_)) then
 ixS s18_ 4 i20_ fun p0 =>
 ldA p0 4 h fun cs1 =>
 newO [.int .i64 (0), .int .i64 (0), .int .i64 (0), .int .i64 (0)] h fun p2 h3 =>
 stN p2 4 cs1 h3 fun h4 =>
 ixA p7_ 4 1 (3) fun p5 =>
 ldI .i64 p5 h4 fun n6 =>
 ixA p2 4 1 (1) fun p7 =>
 ldI .i64 p7 h4 fun n8 =>
 bif (n6 == n8) then
 lenA [.int .i64 i6_, .int .i64 i20_] 2 (
 newS 1 2 (spl [.int .i64 (0), .int .i64 (0)] 0 2 [.int .i64 i6_, .int .i64 i20_]) h4 fun s9 h10 =>
 app s5_ s9 2 h10 fun s11 h12 =>
 X2 (impl_stacked_e2 s1_ s11 i6_ p7_ s11_ i12_ i13_ s18_ i19_ (w64 (i20_ + (1)))) h12)
 else
 X2 (impl_stacked_e2 s1_ s5_ i6_ p7_ s11_ i12_ i13_ s18_ i19_ (w64 (i20_ + (1)))) h4
 else
 impl_stacked_C2 S K X0 s1_ s5_ s11_ i12_ i13_ h
theorem impl_stacked_link2 (S : SatT) (K : AVal → H → Prop) (X0 : Frame → H → Prop) (X2 : Frame → H → Prop) (s1_ : Sl) (s5_ : Sl) (i6_ : Int) (p7_ : Pt) (s11_ : Sl) (i12_ : Int) (i13_ : Int) (s18_ : Sl) (i19_ : Int) (i20_ : Int) (h : H) : impl_stacked_w2 S K X0 X2 (impl_stacked_e2 s1_ s5_ i6_ p7_ s11_ i12_ i13_ s18_ i19_ i20_) h = impl_stacked_b2 S K X0 X2 s1_ s5_ i6_ p7_ s11_ i12_ i13_ s18_ i19_ i20_ h := by kernel_rfl
theorem impl_stacked_rule2 (S : SatT) (K : AVal → H → Prop) (X0 : Frame → H → Prop) (s1_ : Sl) (i6_ : Int) (p7_ : Pt) (s11_ : Sl) (i12_ : Int) (i13_ : Int) (s18_ : Sl) (i19_ : Int) (I_ : Sl → Int → H → Prop) (m_ : Sl → Int → H → Nat)
    (hs : ∀ (X2 : Frame → H → Prop) (s5_ : Sl) (i20_ : Int) (h : H), I_ s5_ i20_ h → (∀ (s5_' : Sl) (i20_' : Int) (h' : H), I_ s5_' i20_' h' → m_ s5_' i20_' h' < m_ s5_ i20_ h → X2 (impl_stacked_e2 s1_ s5_' i6_ p7_ s11_ i12_ i13_ s18_ i19_ i20_') h') → impl_stacked_b2 S K X0 X2 s1_ s5_ i6_ p7_ s11_ i12_ i13_ s18_ i19_ i20_ h) (s5_ : Sl) (i20_ : Int) {h : H} (h0 : I_ s5_ i20_ h) : impl_stacked_L2 S K X0 s1_ s5_ i6_ p7_ s11_ i12_ i13_ s18_ i19_ i20_ h :=
  loop_rule (σ := (Sl) × (Int)) (fun s_ => impl_stacked_e2 s1_ (s_.1) i6_ p7_ s11_ i12_ i13_ s18_ i19_ (s_.2)) (fun s_ h => I_ (s_.1) (s_.2) h) (fun s_ h => m_ (s_.1) (s_.2) h)
    (fun X s_ h hi hx => (impl_stacked_link2 S K X0 X s1_ (s_.1) i6_ p7_ s11_ i12_ i13_ s18_ i19_ (s_.2) h).mpr (hs X (s_.1) (s_.2) h hi fun s5_' i20_' h' hi' hm' => hx (s5_', i20_') h' hi' hm')) (s5_, i20_) h0
theorem impl_stacked_unroll2 (S : SatT) (K : AVal → H → Prop) (X0 : Frame → H → Prop) (s1_ : Sl) (s5_ : Sl) (i6_ : Int) (p7_ : Pt) (s11_ : Sl) (i12_ : Int) (i13_ : Int) (s18_ : Sl) (i19_ : Int) (i20_ : Int) (h : H) (hb : impl_stacked_b2 S K X0 (fun fr h => loopK (impl_stacked_w2 S K X0) fr h) s1_ s5_ i6_ p7_ s11_ i12_ i13_ s18_ i19_ i20_ h) : impl_stacked_L2 S K X0 s1_ s5_ i6_ p7_ s11_ i12_ i13_ s18_ i19_ i20_ h := loop_unroll ((impl_stacked_link2 S K X0 _ s1_ s5_ i6_ p7_ s11_ i12_ i13_ s18_ i19_ i20_ h).mpr hb)
def impl_stacked_C0 (S : SatT) (K : AVal → H → Prop) (s5_ : Sl) (h : H) : Prop :=
 K (.sl s5_) h
def impl_stacked_b0 (S : SatT) (K : AVal → H → Prop) (X0 : Frame → H → Prop) (s1_ : Sl) (s5_ : Sl) (s11_ : Sl) (i12_ : Int) (i13_ : Int) (h : H) : Prop :=
 bif (decide (i13_ < i12_)) then
 ixS s11_ 4 i13_ fun p0 =>
 ldA p0 4 h fun cs1 =>
 newO [.int .i64 (0), .int .i64 (0), .int .i64 (0), .int .i64 (0)] h fun p2 h3 =>
 stN p2 4 cs1 h3 fun h4 =>
 impl_stacked_L2 S K X0 s1_ s5_ i13_ p2 s11_ i12_ i13_ s1_ (s1_.len : Int) (0) h4
 else
 impl_stacked_C0 S K s5_ h
theorem impl_stacked_link0 (S : SatT) (K : AVal → H → Prop) (X0 : Frame → H → Prop) (s1_ : Sl) (s5_ : Sl) (s11_ : Sl) (i12_ : Int) (i13_ : Int) (h : H) : impl_stacked_w0 S K X0 (impl_stacked_e0 s1_ s5_ s11_ i12_ i13_) h = impl_stacked_b0 S K X0 s1_ s5_ s11_ i12_ i13_ h := by kernel_rfl
theorem impl_stacked_rule0 (S : SatT) (K : AVal → H → Prop) (s1_ : Sl) (s11_ : Sl) (i12_ : Int) (I_ : Sl → Int → H → Prop) (m_ : Sl → Int → H → Nat)
    (hs : ∀ (X0 : Frame → H → Prop) (s5_ : Sl) (i13_ : Int) (h : H), I_ s5_ i13_ h → (∀ (s5_' : Sl) (i13_' : Int) (h' : H), I_ s5_' i13_' h' → m_ s5_' i13_' h' < m_ s5_ i13_ h → X0 (impl_stacked_e0 s1_ s5_' s11_ i12_ i13_') h') → impl_stacked_b0 S K X0 s1_ s5_ s11_ i12_ i13_ h) (s5_ : Sl) (i13_ : Int) {h : H} (h0 : I_ s5_ i13_ h) : impl_stacked_L0 S K s1_ s5_ s11_ i12_ i13_ h :=
  loop_rule (σ := (Sl) × (Int)) (fun s_ => impl_stacked_e0 s1_ (s_.1) s11_ i12_ (s_.2)) (fun s_ h => I_ (s_.1) (s_.2) h) (fun s_ h => m_ (s_.1) (s_.2) h)
    (fun X s_ h hi hx => (impl_stacked_link0 S K X s1_ (s_.1) s11_ i12_ (s_.2) h).mpr (hs X (s_.1) (s_.2) h hi fun s5_' i13_' h' hi' hm' => hx (s5_', i13_') h' hi' hm')) (s5_, i13_) h0
theorem impl_stacked_unroll0 (S : SatT) (K : AVal → H → Prop) (s1_ : Sl) (s5_ : Sl) (s11_ : Sl) (i12_ : Int) (i13_ : Int) (h : H) (hb : impl_stacked_b0 S K (fun fr h => loopK (impl_stacked_w0 S K) fr h) s1_ s5_ s11_ i12_ i13_ h) : impl_stacked_L0 S K s1_ s5_ s11_ i12_ i13_ h := loop_unroll ((impl_stacked_link0 S K _ s1_ s5_ s11_ i12_ i13_ h).mpr hb)
def impl_stacked_main (S : SatT) (K : AVal → H → Prop) (x0 : Sl) (x1 : Sl) (h : H) : Prop :=
 newS 0 2 [] h fun s0 h1 =>
 impl_stacked_L0 S K x1 s0 x0 (x0.len : Int) (0) h1
theorem impl_stacked_main_link (S : SatT) (K : AVal → H → Prop) (x0 : Sl) (x1 : Sl) (h : H) : cwp S tab impl_stacked_M [] (bodyOf Try.f40) (kFun tab Try.f40.results.toList K) (fr0 Try.f40 [.sl x0, .sl x1]) h = impl_stacked_main S K x0 x1 h := by kernel_rfl
theorem impl_stacked_call (x0 : Sl) (x1 : Sl) (h : H) (K : Sl → H → Prop) (hm : impl_stacked_main (Sat Try.prog) (fun v h' => ∃ r, v = .sl r ∧ K r h') x0 x1 h) : callS (Sat Try.prog) i_impl_stacked [.sl x0, .sl x1] h K := by
  have := Sat.ex tok mixed impl_stacked_M Try.func40 (c := bodyOf Try.f40) (by kernel_rfl) (calls_of Try.func40 (c := bodyOf Try.f40) (by kernel_rfl) (by decide)) ((impl_stacked_main_link _ _ x0 x1 h).mpr hm)
  obtain ⟨v, h2, h3, r, rfl, h4⟩ := this; exact ⟨r, h2, h3, h4⟩

/-! ### loop.example/g01354/spec.l01Sort -/
def spec_l01Sort_M : Nat → List Nat := fun i => bif i == 2 then [0, 3, 4, 5] else bif i == 0 then [0, 3, 4] else []
def spec_l01Sort_ks2 (S : SatT) (K : AVal → H → Prop) : Kont := kSeq (cwp S tab spec_l01Sort_M [] (sub [1, 1, 1] (bodyOf Try.f60)) (kFun tab (Try.f60).results.toList K)) (kFun tab (Try.f60).results.toList K)
def spec_l01Sort_e0 (s0_ : Sl) (s3_ : Sl) (i4_ : Int) : Frame := [.sl s0_, U, U, .sl s3_, .int .i64 i4_, U, U, U, U, U, U, U, U, U, U, U, U, U, U, U, U, U, U, U, U, U, U, U, U, U, U, U, U, U, U, U, U, U, U, U, U, U, U, U, U, U, U, U, U, U, U, U, U, U, U, U, U, U, U, U, U, U, U]
def spec_l01Sort_w0 (S : SatT) (K : AVal → H → Prop) : (Frame → H → Prop) → Frame → H → Prop := fun X fr h => cwp S tab spec_l01Sort_M (spec_l01Sort_M 0) (sub [1, 1, 0, 1, 0, 0] (bodyOf Try.f60)) (kSeq (fun fr h => X (mask (spec_l01Sort_M 0) fr) h) (kBlk 0 (spec_l01Sort_ks2 S K))) fr h
def spec_l01Sort_L0 (S : SatT) (K : AVal → H → Prop) (s0_ : Sl) (s3_ : Sl) (i4_ : Int) (h : H) : Prop := loopK (spec_l01Sort_w0 S K) (spec_l01Sort_e0 s0_ s3_ i4_) h
def spec_l01Sort_ks6 (S : SatT) (K : AVal → H → Prop) (X0 : Frame → H → Prop) : Kont := kSeq (cwp S tab spec_l01Sort_M (spec_l01Sort_M 0) (sub [1, 1, 0, 1, 0, 0, 1, 1] (bodyOf Try.f60)) (kSeq (fun fr h => X0 (mask (spec_l01Sort_M 0) fr) h) (kBlk 0 (spec_l01Sort_ks2 S K)))) (kSeq (fun fr h => X0 (mask (spec_l01Sort_M 0) fr) h) (kBlk 0 (spec_l01Sort_ks2 S K)))
def spec_l01Sort_ks8 (S : SatT) (K : AVal → H → Prop) (X0 : Frame → H → Prop) : Kont := kSeq (cwp S tab spec_l01Sort_M (spec_l01Sort_M 1) (sub [1, 1, 0, 1, 0, 0, 1, 0, 0, 1, 1] (bodyOf Try.f60)) (kBlk 1 (spec_l01Sort_ks6 S K X0))) (kBlk 1 (spec_l01Sort_ks6 S K X0))
def spec_l01Sort_e2 (s0_ : Sl) (s3_ : Sl) (i4_ : Int) (i5_ : Int) : Frame := [.sl s0_, U, U, .sl s3_, .int .i64 i4_, .int .i64 i5_, U, U, U, U, U, U, U, U, U, U, U, U, U, U, U, U, U, U, U, U, U, U, U, U, U, U, U, U, U, U, U, U, U, U, U, U, U, U, U, U, U, U, U, U, U, U, U, U, U, U, U, U, U, U, U, U, U]
def spec_l01Sort_w2 (S : SatT) (K : AVal → H → Prop) (X0 : Frame → H → Prop) : (Frame → H → Prop) → Frame → H → Prop := fun X fr h => cwp S tab spec_l01Sort_M (spec_l01Sort_M 2) (sub [1, 1, 0, 1, 0, 0, 1, 0, 0, 1, 0, 0, 0] (bodyOf Try.f60)) (kSeq (fun fr h => X (mask (spec_l01Sort_M 2) fr) h) (kBlk 2 (spec_l01Sort_ks8 S K X0))) fr h
def spec_l01Sort_L2 (S : SatT) (K : AVal → H → Prop) (X0 : Frame → H → Prop) (s0_ : Sl) (s3_ : Sl) (i4_ : Int) (i5_ : Int) (h : H) : Prop := loopK (spec_l01Sort_w2 S K X0) (spec_l01Sort_e2 s0_ s3_ i4_ i5_) h
def spec_l01Sort_C1 (S : SatT) (K : AVal → H → Prop) (X0 : Frame → H → Prop) (s0_ : Sl) (s3_ : Sl) (i4_ : Int) (h : H) : Prop :=
 X0 (spec_l01Sort_e0 s0_ s3_ (w64 (i4_ + (1)))) h
def spec_l01Sort_C2 (S : SatT) (K : AVal → H → Prop) (X0 : Frame → H → Prop) (s0_ : Sl) (s3_ : Sl) (i4_ : Int) (i5_ : Int) (h : H) : Prop :=
 bif (decide (i5_ > (0))) then
 ixS s3_ 4 (w64 (i5_ - (1))) fun p0 =>
 ldA p0 4 h fun cs1 =>
 ixS s0_ 4 i4_ fun p2 =>
 ldA p2 4 h fun cs3 =>
 eqA .i64 4 cs1 cs3 fun b4 =>
 bif b4 then
 spec_l01Sort_C1 S K X0 s0_ s3_ i4_ h
 else
 ixS s0_ 4 i4_ fun p5 =>
 ldA p5 4 h fun cs6 =>
 lenA cs6 4 (
 newS 1 4 (spl [.int .i64 (0), .int .i64 (0), .int .i64 (0), .int .i64 (0)] 0 4 cs6) h fun s7 h8 =>
 cut s3_ 4 i5_ (s3_.len : Int) h8 fun s9 =>
 okS h s3_ ∧ (
 app s7 s9 4 h8 fun s10 h11 =>
 newS 0 4 [] h11 fun s12 h13 =>
 cut s3_ 4 (0) i5_ h13 fun s14 =>
 app s12 s14 4 h13 fun s15 h16 =>
 app s15 s10 4 h16 fun s17 h18 =>
 spec_l01Sort_C1 S K X0 s0_ s17 i4_ h18))
 else
 ixS s0_ 4 i4_ fun p19 =>
 ldA p19 4 h fun cs20 =>
 lenA cs20 4 (
 newS 1 4 (spl [.int .i64 (0), .int .i64 (0), .int .i64 (0), .int .i64 (0)] 0 4 cs20) h fun s21 h22 =>
 cut s3_ 4 i5_ (s3_.len : Int) h22 fun s23 =>
 okS h s3_ ∧ (
 app s21 s23 4 h22 fun s24 h25 =>
 newS 0 4 [] h25 fun s26 h27 =>
 cut s3_ 4 (0) i5_ h27 fun s28 =>
 app s26 s28 4 h27 fun s29 h30 =>
 app s29 s24 4 h30 fun s31 h32 =>
 spec_l01Sort_C1 S K X0 s0_ s31 i4_ h32))
def spec_l01Sort_b2 (S : SatT) (K : AVal → H → Prop) (X0 : Frame → H → Prop) (X2 : Frame → H → Prop) (s0_ : Sl) (s3_ : Sl) (i4_ : Int) (i5_ : Int) (h : H) : Prop :=
 bif (decide (i5_ > (0))) then
 ixS s0_ 4 i4_ fun p0 =>
 ldA p0 4 h fun cs1 =>
 ixS s3_ 4 (w64 (i5_ - (1))) fun p2 =>
 ldA p2 4 h fun cs3 =>
 callB S i_spec_l01Before [.agg cs1, .agg cs3] h fun b5 h4 =>
 bif b5 then
 X2 (spec_l01Sort_e2 s0_ s3_ i4_ (w64 (i5_ - (1)))) h4
 else
 spec_l01Sort_C2 S K X0 s0_ s3_ i4_ i5_ h4
 else
 spec_l01Sort_C2 S K X0 s0_ s3_ i4_ i5_ h
theorem spec_l01Sort_link2 (S : SatT) (K : AVal → H → Prop) (X0 : Frame → H → Prop) (X2 : Frame → H → Prop) (s0_ : Sl) (s3_ : Sl) (i4_ : Int) (i5_ : Int) (h : H) : spec_l01Sort_w2 S K X0 X2 (spec_l01Sort_e2 s0_ s3_ i4_ i5_) h = spec_l01Sort_b2 S K X0 X2 s0_ s3_ i4_ i5_ h := by kernel_rfl
theorem spec_l01Sort_rule2 (S : SatT) (K : AVal → H → Prop) (X0 : Frame → H → Prop) (s0_ : Sl) (s3_ : Sl) (i4_ : Int) (I_ : Int → H → Prop) (m_ : Int → H → Nat)
    (hs : ∀ (X2 : Frame → H → Prop) (i5_ : Int) (h : H), I_ i5_ h → (∀ (i5_' : Int) (h' : H), I_ i5_' h' → m_ i5_' h' < m_ i5_ h → X2 (spec_l01Sort_e2 s0_ s3_ i4_ i5_') h') → spec_l01Sort_b2 S K X0 X2 s0_ s3_ i4_ i5_ h) (i5_ : Int) {h : H} (h0 : I_ i5_ h) : spec_l01Sort_L2 S K X0 s0_ s3_ i4_ i5_ h :=
  loop_rule (σ := (Int)) (fun s_ => spec_l01Sort_e2 s0_ s3_ i4_ (s_)) (fun s_ h => I_ (s_) h) (fun s_ h => m_ (s_) h)
    (fun X s_ h hi hx => (spec_l01Sort_link2 S K X0 X s0_ s3_ i4_ (s_) h).mpr (hs X (s_) h hi fun i5_' h' hi' hm' => hx (i5_') h' hi' hm')) (i5_) h0
theorem spec_l01Sort_unroll2 (S : SatT) (K : AVal → H → Prop) (X0 : Frame → H → Prop) (s0_ : Sl) (s3_ : Sl) (i4_ : Int) (i5_ : Int) (h : H) (hb : spec_l01Sort_b2 S K X0 (fun fr h => loopK (spec_l01Sort_w2 S K X0) fr h) s0_ s3_ i4_ i5_ h) : spec_l01Sort_L2 S K X0 s0_ s3_ i4_ i5_ h := loop_unroll ((spec_l01Sort_link2 S K X0 _ s0_ s3_ i4_ i5_ h).mpr hb)
def spec_l01Sort_C0 (S : SatT) (K : AVal → H → Prop) (s3_ : Sl) (h : H) : Prop :=
 K (.sl s3_) h
def spec_l01Sort_b0 (S : SatT) (K : AVal → H → Prop) (X0 : Frame → H → Prop) (s0_ : Sl) (s3_ : Sl) (i4_ : Int) (h : H) : Prop :=
 bif (decide (i4_ < (s0_.len : Int))) then
 spec_l01Sort_L2 S K X0 s0_ s3_ i4_ (s3_.len : Int) h
 else
 spec_l01Sort_C0 S K s3_ h
theorem spec_l01Sort_link0 (S : SatT) (K : AVal → H → Prop) (X0 : Frame → H → Prop) (s0_ : Sl) (s3_ : Sl) (i4_ : Int) (h : H) : spec_l01Sort_w0 S K X0 (spec_l01Sort_e0 s0_ s3_ i4_) h = spec_l01Sort_b0 S K X0 s0_ s3_ i4_ h := by kernel_rfl
theorem spec_l01Sort_rule0 (S : SatT) (K : AVal → H → Prop) (s0_ : Sl) (I_ : Sl → Int → H → Prop) (m_ : Sl → Int → H → Nat)
    (hs : ∀ (X0 : Frame → H → Prop) (s3_ : Sl) (i4_ : Int) (h : H), I_ s3_ i4_ h → (∀ (s3_' : Sl) (i4_' : Int) (h' : H), I_ s3_' i4_' h' → m_ s3_' i4_' h' < m_ s3_ i4_ h → X0 (spec_l01Sort_e0 s0_ s3_' i4_') h') → spec_l01Sort_b0 S K X0 s0_ s3_ i4_ h) (s3_ : Sl) (i4_ : Int) {h : H} (h0 : I_ s3_ i4_ h) : spec_l01Sort_L0 S K s0_ s3_ i4_ h :=
  loop_rule (σ := (Sl) × (Int)) (fun s_ => spec_l01Sort_e0 s0_ (s_.1) (s_.2)) (fun s_ h => I_ (s_.1) (s_.2) h) (fun s_ h => m_ (s_.1) (s_.2) h)
    (fun X s_ h hi hx => (spec_l01Sort_link0 S K X s0_ (s_.1) (s_.2) h).mpr (hs X (s_.1) (s_.2) h hi fun s3_' i4_' h' hi' hm' => hx (s3_', i4_') h' hi' hm')) (s3_, i4_) h0
theorem spec_l01Sort_unroll0 (S : SatT) (K : AVal → H → Prop) (s0_ : Sl) (s3_ : Sl) (i4_ : Int) (h : H) (hb : spec_l01Sort_b0 S K (fun fr h => loopK (spec_l01Sort_w0 S K) fr h) s0_ s3_ i4_ h) : spec_l01Sort_L0 S K s0_ s3_ i4_ h := loop_unroll ((spec_l01Sort_link0 S K _ s0_ s3_ i4_ h).mpr hb)
def spec_l01Sort_main (S : SatT) (K : AVal → H → Prop) (x0 : Sl) (h : H) : Prop :=
 newS 0 4 [] h fun s0 h1 =>
 spec_l01Sort_L0 S K x0 s0 (0) h1
theorem spec_l01Sort_main_link (S : SatT) (K : AVal → H → Prop) (x0 : Sl) (h : H) : cwp S tab spec_l01Sort_M [] (bodyOf Try.f60) (kFun tab Try.f60.results.toList K) (fr0 Try.f60 [.sl x0]) h = spec_l01Sort_main S K x0 h := by kernel_rfl
theorem spec_l01Sort_call (x0 : Sl) (h : H) (K : Sl → H → Prop) (hm : spec_l01Sort_main (Sat Try.prog) (fun v h' => ∃ r, v = .sl r ∧ K r h') x0 h) : callS (Sat Try.prog) i_spec_l01Sort [.sl x0] h K := by
  have := Sat.ex tok mixed spec_l01Sort_M Try.func60 (c := bodyOf Try.f60) (by kernel_rfl) (calls_of Try.func60 (c := bodyOf Try.f60) (by kernel_rfl) (by decide)) ((spec_l01Sort_main_link _ _ x0 h).mpr hm)
  obtain ⟨v, h2, h3, r, rfl, h4⟩ := this; exact ⟨r, h2, h3, h4⟩

/-! ### slices.Compare[[]int64,int64] -/
def slices_Compare_s_int64_int64__M : Nat → List Nat := fun i => bif i == 0 then [0, 1, 9, 10, 11] else []
def slices_Compare_s_int64_int64__ks1 (S : SatT) (K : AVal → H → Prop) : Kont := kSeq (cwp S tab slices_Compare_s_int64_int64__M [] (sub [1, 1] (bodyOf Try.f79)) (kFun tab (Try.f79).results.toList K)) (kFun tab (Try.f79).results.toList K)
def slices_Compare_s_int64_int64__e0 (s0_ : Sl) (s1_ : Sl) (s9_ : Sl) (i10_ : Int) (i11_ : Int) : Frame := [.sl s0_, .sl s1_, U, U, U, U, U, U, U, .sl s9_, .int .i64 i10_, .int .i64 i11_, U, U, U, U, U, U, U, U, U, U, U, U, U, U, U, U, U, U, U, U, U, U, U, U]
def slices_Compare_s_int64_int64__w0 (S : SatT) (K : AVal → H → Prop) : (Frame → H → Prop) → Frame → H → Prop := fun X fr h => cwp S tab slices_Compare_s_int64_int64__M (slices_Compare_s_int64_int64__M 0) (sub [1, 0, 1, 0, 0] (bodyOf Try.f79)) (kSeq (fun fr h => X (mask (slices_Compare_s_int64_int64__M 0) fr) h) (kBlk 0 (slices_Compare_s_int64_int64__ks1 S K))) fr h
def slices_Compare_s_int64_int64__L0 (S : SatT) (K : AVal → H → Prop) (s0_ : Sl) (s1_ : Sl) (s9_ : Sl) (i10_ : Int) (i11_ : Int) (h : H) : Prop := loopK (slices_Compare_s_int64_int64__w0 S K) (slices_Compare_s_int64_int64__e0 s0_ s1_ s9_ i10_ i11_) h
def slices_Compare_s_int64_int64__C0 (S : SatT) (K : AVal → H → Prop) (s0_ : Sl) (s1_ : Sl) (h : H) : Prop :=
 bif (decide ((s0_.len : Int) < (s1_.len : Int))) then
 K (.int .i64 (-1)) h
 else
 K (.int .i64 (0)) h
def slices_Compare_s_int64_int64__b0 (S : SatT) (K : AVal → H → Prop) (X0 : Frame → H → Prop) (s0_ : Sl) (s1_ : Sl) (s9_ : Sl) (i10_ : Int) (i11_ : Int) (h : H) : Prop :=
 bif (decide (i11_ < i10_)) then
 ixS s9_ 1 i11_ fun p0 =>
 ldI .i64 p0 h fun n1 =>
 bif (decide (i11_ ≥ (s1_.len : Int))) then
 K (.int .i64 (1)) h
 else
 ixS s1_ 1 i11_ fun p2 =>
 ldI .i64 p2 h fun n3 =>
 callI S .i64 i_cmp_Compare_int64_ [.int .i64 n1, .int .i64 n3] h fun n5 h4 =>
 bif (n5 != (0)) then
 K (.int .i64 n5) h4
 else
 X0 (slices_Compare_s_int64_int64__e0 s0_ s1_ s9_ i10_ (w64 (i11_ + (1)))) h4
 else
 slices_Compare_s_int64_int64__C0 S K s0_ s1_ h
theorem slices_Compare_s_int64_int64__link0 (S : SatT) (K : AVal → H → Prop) (X0 : Frame → H → Prop) (s0_ : Sl) (s1_ : Sl) (s9_ : Sl) (i10_ : Int) (i11_ : Int) (h : H) : slices_Compare_s_int64_int64__w0 S K X0 (slices_Compare_s_int64_int64__e0 s0_ s1_ s9_ i10_ i11_) h = slices_Compare_s_int64_int64__b0 S K X0 s0_ s1_ s9_ i10_ i11_ h := by kernel_rfl
theorem slices_Compare_s_int64_int64__rule0 (S : SatT) (K : AVal → H → Prop) (s0_ : Sl) (s1_ : Sl) (s9_ : Sl) (i10_ : Int) (I_ : Int → H → Prop) (m_ : Int → H → Nat)
    (hs : ∀ (X0 : Frame → H → Prop) (i11_ : Int) (h : H), I_ i11_ h → (∀ (i11_' : Int) (h' : H), I_ i11_' h' → m_ i11_' h' < m_ i11_ h → X0 (slices_Compare_s_int64_int64__e0 s0_ s1_ s9_ i10_ i11_') h') → slices_Compare_s_int64_int64__b0 S K X0 s0_ s1_ s9_ i10_ i11_ h) (i11_ : Int) {h : H} (h0 : I_ i11_ h) : slices_Compare_s_int64_int64__L0 S K s0_ s1_ s9_ i10_ i11_ h :=
  loop_rule (σ := (Int)) (fun s_ => slices_Compare_s_int64_int64__e0 s0_ s1_ s9_ i10_ (s_)) (fun s_ h => I_ (s_) h) (fun s_ h => m_ (s_) h)
    (fun X s_ h hi hx => (slices_Compare_s_int64_int64__link0 S K X s0_ s1_ s9_ i10_ (s_) h).mpr (hs X (s_) h hi fun i11_' h' hi' hm' => hx (i11_') h' hi' hm')) (i11_) h0
theorem slices_Compare_s_int64_int64__unroll0 (S : SatT) (K : AVal → H → Prop) (s0_ : Sl) (s1_ : Sl) (s9_ : Sl) (i10_ : Int) (i11_ : Int) (h : H) (hb : slices_Compare_s_int64_int64__b0 S K (fun fr h => loopK (slices_Compare_s_int64_int64__w0 S K) fr h) s0_ s1_ s9_ i10_ i11_ h) : slices_Compare_s_int64_int64__L0 S K s0_ s1_ s9_ i10_ i11_ h := loop_unroll ((slices_Compare_s_int64_int64__link0 S K _ s0_ s1_ s9_ i10_ i11_ h).mpr hb)
def slices_Compare_s_int64_int64__main (S : SatT) (K : AVal → H → Prop) (x0 : Sl) (x1 : Sl) (h : H) : Prop :=
 slices_Compare_s_int64_int64__L0 S K x0 x1 x0 (x0.len : Int) (0) h
theorem slices_Compare_s_int64_int64__main_link (S : SatT) (K : AVal → H → Prop) (x0 : Sl) (x1 : Sl) (h : H) : cwp S tab slices_Compare_s_int64_int64__M [] (bodyOf Try.f79) (kFun tab Try.f79.results.toList K) (fr0 Try.f79 [.sl x0, .sl x1]) h = slices_Compare_s_int64_int64__main S K x0 x1 h := by kernel_rfl
theorem slices_Compare_s_int64_int64__call (x0 : Sl) (x1 : Sl) (h : H) (K : Int → H → Prop) (hm : slices_Compare_s_int64_int64__main (Sat Try.prog) (fun v h' => ∃ r, v = .int .i64 r ∧ K r h') x0 x1 h) : callI (Sat Try.prog) .i64 i_slices_Compare_s_int64_int64_ [.sl x0, .sl x1] h K := by
  have := Sat.ex tok mixed slices_Compare_s_int64_int64__M Try.func79 (c := bodyOf Try.f79) (by kernel_rfl) (calls_of Try.func79 (c := bodyOf Try.f79) (by kernel_rfl) (by decide)) ((slices_Compare_s_int64_int64__main_link _ _ x0 x1 h).mpr hm)
  obtain ⟨v, h2, h3, r, rfl, h4⟩ := this; exact ⟨r, h2, h3, h4⟩

/-! ### loop.example/g01354/laws.heldInt64S -/
def laws_heldInt64S_M : Nat → List Nat := fun i => bif i == 0 then [0, 1, 5] else []
def laws_heldInt64S_ks1 (S : SatT) (K : AVal → H → Prop) : Kont := kSeq (cwp S tab laws_heldInt64S_M [] (sub [1, 1] (bodyOf Try.f20)) (kFun tab (Try.f20).results.toList K)) (kFun tab (Try.f20).results.toList K)
def laws_heldInt64S_e0 (s0_ : Sl) (i1_ : Int) (i5_ : Int) : Frame := [.sl s0_, .int .i64 i1_, U, U, U, .int .i64 i5_, U, U, U, U, U, U, U, U, U, U, U, U, U, U, U]
def laws_heldInt64S_w0 (S : SatT) (K : AVal → H → Prop) : (Frame → H → Prop) → Frame → H → Prop := fun X fr h => cwp S tab laws_heldInt64S_M (laws_heldInt64S_M 0) (sub [1, 0, 1, 0, 0] (bodyOf Try.f20)) (kSeq (fun fr h => X (mask (laws_heldInt64S_M 0) fr) h) (kBlk 0 (laws_heldInt64S_ks1 S K))) fr h
def laws_heldInt64S_L0 (S : SatT) (K : AVal → H → Prop) (s0_ : Sl) (i1_ : Int) (i5_ : Int) (h : H) : Prop := loopK (laws_heldInt64S_w0 S K) (laws_heldInt64S_e0 s0_ i1_ i5_) h
def laws_heldInt64S_C0 (S : SatT) (K : AVal → H → Prop) (i1_ : Int) (h : H) : Prop :=
 K (.int .i64 i1_) h
def laws_heldInt64S_b0 (S : SatT) (K : AVal → H → Prop) (X0 : Frame → H → Prop) (s0_ : Sl) (i1_ : Int) (i5_ : Int) (h : H) : Prop :=
 bif (decide (i5_ < (s0_.len : Int))) then
 ixS s0_ 1 i5_ fun p0 =>
 ldI .i64 p0 h fun n1 =>
 bif (n1 != i1_) then
 K (.int .i64 (-1)) h
 else
 X0 (laws_heldInt64S_e0 s0_ (w64 (i1_ + (1))) (w64 (i5_ + (1)))) h
 else
 laws_heldInt64S_C0 S K i1_ h
theorem laws_heldInt64S_link0 (S : SatT) (K : AVal → H → Prop) (X0 : Frame → H → Prop) (s0_ : Sl) (i1_ : Int) (i5_ : Int) (h : H) : laws_heldInt64S_w0 S K X0 (laws_heldInt64S_e0 s0_ i1_ i5_) h = laws_heldInt64S_b0 S K X0 s0_ i1_ i5_ h := by kernel_rfl
theorem laws_heldInt64S_rule0 (S : SatT) (K : AVal → H → Prop) (s0_ : Sl) (I_ : Int → Int → H → Prop) (m_ : Int → Int → H → Nat)
    (hs : ∀ (X0 : Frame → H → Prop) (i1_ : Int) (i5_ : Int) (h : H), I_ i1_ i5_ h → (∀ (i1_' : Int) (i5_' : Int) (h' : H), I_ i1_' i5_' h' → m_ i1_' i5_' h' < m_ i1_ i5_ h → X0 (laws_heldInt64S_e0 s0_ i1_' i5_') h') → laws_heldInt64S_b0 S K X0 s0_ i1_ i5_ h) (i1_ : Int) (i5_ : Int) {h : H} (h0 : I_ i1_ i5_ h) : laws_heldInt64S_L0 S K s0_ i1_ i5_ h :=
  loop_rule (σ := (Int) × (Int)) (fun s_ => laws_heldInt64S_e0 s0_ (s_.1) (s_.2)) (fun s_ h => I_ (s_.1) (s_.2) h) (fun s_ h => m_ (s_.1) (s_.2) h)
    (fun X s_ h hi hx => (laws_heldInt64S_link0 S K X s0_ (s_.1) (s_.2) h).mpr (hs X (s_.1) (s_.2) h hi fun i1_' i5_' h' hi' hm' => hx (i1_', i5_') h' hi' hm')) (i1_, i5_) h0
theorem laws_heldInt64S_unroll0 (S : SatT) (K : AVal → H → Prop) (s0_ : Sl) (i1_ : Int) (i5_ : Int) (h : H) (hb : laws_heldInt64S_b0 S K (fun fr h => loopK (laws_heldInt64S_w0 S K) fr h) s0_ i1_ i5_ h) : laws_heldInt64S_L0 S K s0_ i1_ i5_ h := loop_unroll ((laws_heldInt64S_link0 S K _ s0_ i1_ i5_ h).mpr hb)
def laws_heldInt64S_main (S : SatT) (K : AVal → H → Prop) (x0 : Sl) (x1 : Int) (h : H) : Prop :=
 laws_heldInt64S_L0 S K x0 x1 (0) h
theorem laws_heldInt64S_main_link (S : SatT) (K : AVal → H → Prop) (x0 : Sl) (x1 : Int) (h : H) : cwp S tab laws_heldInt64S_M [] (bodyOf Try.f20) (kFun tab Try.f20.results.toList K) (fr0 Try.f20 [.sl x0, .int .i64 x1]) h = laws_heldInt64S_main S K x0 x1 h := by kernel_rfl
theorem laws_heldInt64S_call (x0 : Sl) (x1 : Int) (h : H) (K : Int → H → Prop) (hm : laws_heldInt64S_main (Sat Try.prog) (fun v h' => ∃ r, v = .int .i64 r ∧ K r h') x0 x1 h) : callI (Sat Try.prog) .i64 i_laws_heldInt64S [.sl x0, .int .i64 x1] h K := by
  have := Sat.ex tok mixed laws_heldInt64S_M Try.func20 (c := bodyOf Try.f20) (by kernel_rfl) (calls_of Try.func20 (c := bodyOf Try.f20) (by kernel_rfl) (by decide)) ((laws_heldInt64S_main_link _ _ x0 x1 h).mpr hm)
  obtain ⟨v, h2, h3, r, rfl, h4⟩ := this; exact ⟨r, h2, h3, h4⟩

/-! ### loop.example/g01354/spec.l01Tile -/
def spec_l01Tile_M : Nat → List Nat := fun i => bif i == 0 then [0, 3, 5] else []
def spec_l01Tile_ks1 (S : SatT) (K : AVal → H → Prop) : Kont := kSeq (cwp S tab spec_l01Tile_M [] (sub [1, 1] (bodyOf Try.f58)) (kFun tab (Try.f58).results.toList K)) (kFun tab (Try.f58).results.toList K)
def spec_l01Tile_e0 (i0_ : Int) (p3_ : Pt) (i5_ : Int) : Frame := [.int .i64 i0_, U, U, .ptr p3_, U, .int .i64 i5_, U, U, U, U, U, U, U, U, U, U, U]
def spec_l01Tile_w0 (S : SatT) (K : AVal → H → Prop) : (Frame → H → Prop) → Frame → H → Prop := fun X fr h => cwp S tab spec_l01Tile_M (spec_l01Tile_M 0) (sub [1, 0, 1, 0, 0] (bodyOf Try.f58)) (kSeq (fun fr h => X (mask (spec_l01Tile_M 0) fr) h) (kBlk 0 (spec_l01Tile_ks1 S K))) fr h
def spec_l01Tile_L0 (S : SatT) (K : AVal → H → Prop) (i0_ : Int) (p3_ : Pt) (i5_ : Int) (h : H) : Prop := loopK (spec_l01Tile_w0 S K) (spec_l01Tile_e0 i0_ p3_ i5_) h
def spec_l01Tile_C0 (S : SatT) (K : AVal → H → Prop) (h : H) : Prop :=
 K (.bool true) h
def spec_l01Tile_b0 (S : SatT) (K : AVal → H → Prop) (X0 : Frame → H → Prop) (i0_ : Int) (p3_ : Pt) (i5_ : Int) (h : H) : Prop :=
 bif (decide (i5_ < (4))) then
 ixA p3_ 4 1 i5_ fun p0 =>
 ldI .i64 p0 h fun n1 =>
 callB S i_spec_l01In [.int .i64 n1, .int .i64 (0), .int .i64 (w64 (i0_ - (1)))] h fun b3 h2 =>
 bif (!b3) then
 K (.bool false) h2
 else
 X0 (spec_l01Tile_e0 i0_ p3_ (w64 (i5_ + (1)))) h2
 else
 spec_l01Tile_C0 S K h
theorem spec_l01Tile_link0 (S : SatT) (K : AVal → H → Prop) (X0 : Frame → H → Prop) (i0_ : Int) (p3_ : Pt) (i5_ : Int) (h : H) : spec_l01Tile_w0 S K X0 (spec_l01Tile_e0 i0_ p3_ i5_) h = spec_l01Tile_b0 S K X0 i0_ p3_ i5_ h := by kernel_rfl
theorem spec_l01Tile_rule0 (S : SatT) (K : AVal → H → Prop) (i0_ : Int) (p3_ : Pt) (I_ : Int → H → Prop) (m_ : Int → H → Nat)
    (hs : ∀ (X0 : Frame → H → Prop) (i5_ : Int) (h : H), I_ i5_ h → (∀ (i5_' : Int) (h' : H), I_ i5_' h' → m_ i5_' h' < m_ i5_ h → X0 (spec_l01Tile_e0 i0_ p3_ i5_') h') → spec_l01Tile_b0 S K X0 i0_ p3_ i5_ h) (i5_ : Int) {h : H} (h0 : I_ i5_ h) : spec_l01Tile_L0 S K i0_ p3_ i5_ h :=
  loop_rule (σ := (Int)) (fun s_ => spec_l01Tile_e0 i0_ p3_ (s_)) (fun s_ h => I_ (s_) h) (fun s_ h => m_ (s_) h)
    (fun X s_ h hi hx => (spec_l01Tile_link0 S K X i0_ p3_ (s_) h).mpr (hs X (s_) h hi fun i5_' h' hi' hm' => hx (i5_') h' hi' hm')) (i5_) h0
theorem spec_l01Tile_unroll0 (S : SatT) (K : AVal → H → Prop) (i0_ : Int) (p3_ : Pt) (i5_ : Int) (h : H) (hb : spec_l01Tile_b0 S K (fun fr h => loopK (spec_l01Tile_w0 S K) fr h) i0_ p3_ i5_ h) : spec_l01Tile_L0 S K i0_ p3_ i5_ h := loop_unroll ((spec_l01Tile_link0 S K _ i0_ p3_ i5_ h).mpr hb)
def spec_l01Tile_main (S : SatT) (K : AVal → H → Prop) (x0 : Int) (x1 : List AVal) (h : H) : Prop :=
 newK 4 x1 h fun p0 h1 =>
 spec_l01Tile_L0 S K x0 p0 (0) h1
theorem spec_l01Tile_main_link (S : SatT) (K : AVal → H → Prop) (x0 : Int) (x1 : List AVal) (h : H) : cwp S tab spec_l01Tile_M [] (bodyOf Try.f58) (kFun tab Try.f58.results.toList K) (fr0 Try.f58 [.int .i64 x0, .agg x1]) h = spec_l01Tile_main S K x0 x1 h := by kernel_rfl
theorem spec_l01Tile_call (x0 : Int) (x1 : List AVal) (h : H) (K : Bool → H → Prop) (hm : spec_l01Tile_main (Sat Try.prog) (fun v h' => ∃ r, v = .bool r ∧ K r h') x0 x1 h) : callB (Sat Try.prog) i_spec_l01Tile [.int .i64 x0, .agg x1] h K := by
  have := Sat.ex tok mixed spec_l01Tile_M Try.func58 (c := bodyOf Try.f58) (by kernel_rfl) (calls_of Try.func58 (c := bodyOf Try.f58) (by kernel_rfl) (by decide)) ((spec_l01Tile_main_link _ _ x0 x1 h).mpr hm)
  obtain ⟨v, h2, h3, r, rfl, h4⟩ := this; exact ⟨r, h2, h3, h4⟩

/-! ### loop.example/g01354/impl.StackSets -/
def impl_StackSets_M : Nat → List Nat := fun i => []
def impl_StackSets_main (S : SatT) (K : AVal → H → Prop) (x0 : List AVal) (x1 : List AVal) (h : H) : Prop :=
 newK 2 x0 h fun p0 h1 =>
 newK 2 x1 h1 fun p2 h3 =>
 newO [.int .i64 (0), .sl Sl.nil] h3 fun p4 h5 =>
 ldA p0 2 h5 fun cs6 =>
 ldA p2 2 h5 fun cs7 =>
 lenA cs6 2 (
 lenA cs7 2 (
 newS 2 2 (spl (spl [.int .i64 (0), .sl Sl.nil, .int .i64 (0), .sl Sl.nil] 0 2 cs6) 2 2 cs7) h5 fun s8 h9 =>
 callB S i_impl_areSets [.sl s8] h9 fun b11 h10 =>
 bif (!b11) then
 stN p4 2 [.int .i64 (0), .sl Sl.nil] h10 fun h12 =>
 ldA p4 2 h12 fun cs13 =>
 K (.tuple [.agg cs13, .int .i64 (1)]) h12
 else
 ldA p0 2 h10 fun cs14 =>
 ldA p2 2 h10 fun cs15 =>
 callV S i_impl_stack [.agg cs14, .agg cs15] h10 fun v17 h16 =>
 viaT v17 fun vs18 =>
 exA vs18 0 fun cs19 =>
 viaT v17 fun vs20 =>
 exI .i64 vs20 1 fun n21 =>
 stN p4 2 cs19 h16 fun h22 =>
 ldA p4 2 h22 fun cs23 =>
 K (.tuple [.agg cs23, .int .i64 n21]) h22))
theorem impl_StackSets_main_link (S : SatT) (K : AVal → H → Prop) (x0 : List AVal) (x1 : List AVal) (h : H) : cwp S tab impl_StackSets_M [] (bodyOf Try.f11) (kFun tab Try.f11.results.toList K) (fr0 Try.f11 [.agg x0, .agg x1]) h = impl_StackSets_main S K x0 x1 h := by kernel_rfl
theorem impl_StackSets_call (x0 : List AVal) (x1 : List AVal) (h : H) (K : AVal → H → Prop) (hm : impl_StackSets_main (Sat Try.prog) (fun v h' => K v h') x0 x1 h) : callV (Sat Try.prog) i_impl_StackSets [.agg x0, .agg x1] h K := by
  have := Sat.ex tok mixed impl_StackSets_M Try.func11 (c := bodyOf Try.f11) (by kernel_rfl) (calls_of Try.func11 (c := bodyOf Try.f11) (by kernel_rfl) (by decide)) ((impl_StackSets_main_link _ _ x0 x1 h).mpr hm)
  exact this

/-! ### loop.example/g01354/laws.toSet -/
def laws_toSet_M : Nat → List Nat := fun i => []
def laws_toSet_main (S : SatT) (K : AVal → H → Prop) (x0 : List AVal) (h : H) : Prop :=
 newK 2 x0 h fun p0 h1 =>
 newO [.int .i64 (0), .sl Sl.nil] h1 fun p2 h3 =>
 newO [.int .i64 (0), .sl Sl.nil] h3 fun p4 h5 =>
 isPt p0 (
 ldI .i64 (Pt.add p0 0) h5 fun n6 =>
 isPt p4 (
 st1 (Pt.add p4 0) (.int .i64 n6) h5 fun h7 =>
 isPt p0 (
 ldS (Pt.add p0 1) h7 fun s8 =>
 callS S i_laws_toTileS [.sl s8] h7 fun s10 h9 =>
 isPt p4 (
 st1 (Pt.add p4 1) (.sl s10) h9 fun h11 =>
 ldA p4 2 h11 fun cs12 =>
 stN p2 2 cs12 h11 fun h13 =>
 ldA p2 2 h13 fun cs14 =>
 K (.agg cs14) h13))))
theorem laws_toSet_main_link (S : SatT) (K : AVal → H → Prop) (x0 : List AVal) (h : H) : cwp S tab laws_toSet_M [] (bodyOf Try.f10) (kFun tab Try.f10.results.toList K) (fr0 Try.f10 [.agg x0]) h = laws_toSet_main S K x0 h := by kernel_rfl
theorem laws_toSet_call (x0 : List AVal) (h : H) (K : List AVal → H → Prop) (hm : laws_toSet_main (Sat Try.prog) (fun v h' => ∃ r, v = .agg r ∧ K r h') x0 h) : callA (Sat Try.prog) i_laws_toSet [.agg x0] h K := by
  have := Sat.ex tok mixed laws_toSet_M Try.func10 (c := bodyOf Try.f10) (by kernel_rfl) (calls_of Try.func10 (c := bodyOf Try.f10) (by kernel_rfl) (by decide)) ((laws_toSet_main_link _ _ x0 h).mpr hm)
  obtain ⟨v, h2, h3, r, rfl, h4⟩ := this; exact ⟨r, h2, h3, h4⟩

/-! ### slices.SortedFunc[loop.example/g01354/impl.Tile] -/
def slices_SortedFunc_impl_Tile__M : Nat → List Nat := fun i => []
def slices_SortedFunc_impl_Tile__main (S : SatT) (K : AVal → H → Prop) (x0 : AVal) (x1 : AVal) (h : H) : Prop :=
 callS S i_slices_Collect_impl_Tile_ [x0] h fun s1 h0 =>
 callV S i_slices_SortFunc_s_impl_Tile_impl_Tile_ [.sl s1, x1] h0 fun v3 h2 =>
 K (.sl s1) h2
theorem slices_SortedFunc_impl_Tile__main_link (S : SatT) (K : AVal → H → Prop) (x0 : AVal) (x1 : AVal) (h : H) : cwp S tab slices_SortedFunc_impl_Tile__M [] (bodyOf Try.f53) (kFun tab Try.f53.results.toList K) (fr0 Try.f53 [x0, x1]) h = slices_SortedFunc_impl_Tile__main S K x0 x1 h := by kernel_rfl
theorem slices_SortedFunc_impl_Tile__call (x0 : AVal) (x1 : AVal) (h : H) (K : Sl → H → Prop) (hm : slices_SortedFunc_impl_Tile__main (Sat Try.prog) (fun v h' => ∃ r, v = .sl r ∧ K r h') x0 x1 h) : callS (Sat Try.prog) i_slices_SortedFunc_impl_Tile_ [x0, x1] h K := by
  have := Sat.ex tok mixed slices_SortedFunc_impl_Tile__M Try.func53 (c := bodyOf Try.f53) (by kernel_rfl) (calls_of Try.func53 (c := bodyOf Try.f53) (by kernel_rfl) (by decide)) ((slices_SortedFunc_impl_Tile__main_link _ _ x0 x1 h).mpr hm)
  obtain ⟨v, h2, h3, r, rfl, h4⟩ := this; exact ⟨r, h2, h3, h4⟩

/-! ### (loop.example/g01354/impl.Set).isNumber -/
def impl_Set_isNumber_M : Nat → List Nat := fun i => []
def impl_Set_isNumber_main (S : SatT) (K : AVal → H → Prop) (x0 : List AVal) (x1 : Int) (h : H) : Prop :=
 newK 2 x0 h fun p0 h1 =>
 isPt p0 (
 ldS (Pt.add p0 1) h1 fun s2 =>
 callB S i_impl_within [.int .i64 x1, .int .i64 (0), .int .i64 (w64 ((s2.len : Int) - (1)))] h1 fun b4 h3 =>
 K (.bool b4) h3)
theorem impl_Set_isNumber_main_link (S : SatT) (K : AVal → H → Prop) (x0 : List AVal) (x1 : Int) (h : H) : cwp S tab impl_Set_isNumber_M [] (bodyOf Try.f69) (kFun tab Try.f69.results.toList K) (fr0 Try.f69 [.agg x0, .int .i64 x1]) h = impl_Set_isNumber_main S K x0 x1 h := by kernel_rfl
theorem impl_Set_isNumber_call (x0 : List AVal) (x1 : Int) (h : H) (K : Bool → H → Prop) (hm : impl_Set_isNumber_main (Sat Try.prog) (fun v h' => ∃ r, v = .bool r ∧ K r h') x0 x1 h) : callB (Sat Try.prog) i_impl_Set_isNumber [.agg x0, .int .i64 x1] h K := by
  have := Sat.ex tok mixed impl_Set_isNumber_M Try.func69 (c := bodyOf Try.f69) (by kernel_rfl) (calls_of Try.func69 (c := bodyOf Try.f69) (by kernel_rfl) (by decide)) ((impl_Set_isNumber_main_link _ _ x0 x1 h).mpr hm)
  obtain ⟨v, h2, h3, r, rfl, h4⟩ := this; exact ⟨r, h2, h3, h4⟩

/-! ### loop.example/g01354/laws.szSet -/
def laws_szSet_M : Nat → List Nat := fun i => []
def laws_szSet_main (S : SatT) (K : AVal → H → Prop) (x0 : List AVal) (x1 : Int) (h : H) : Prop :=
 newK 2 x0 h fun p0 h1 =>
 isPt p0 (
 ldS (Pt.add p0 1) h1 fun s2 =>
 callI S .i64 i_laws_szTileS [.sl s2, .int .i64 x1] h1 fun n4 h3 =>
 bif (decide (n4 < (0))) then
 K (.int .i64 (-1)) h3
 else
 K (.int .i64 n4) h3)
theorem laws_szSet_main_link (S : SatT) (K : AVal → H → Prop) (x0 : List AVal) (x1 : Int) (h : H) : cwp S tab laws_szSet_M [] (bodyOf Try.f8) (kFun tab Try.f8.results.toList K) (fr0 Try.f8 [.agg x0, .int .i64 x1]) h = laws_szSet_main S K x0 x1 h := by kernel_rfl
theorem laws_szSet_call (x0 : List AVal) (x1 : Int) (h : H) (K : Int → H → Prop) (hm : laws_szSet_main (Sat Try.prog) (fun v h' => ∃ r, v = .int .i64 r ∧ K r h') x0 x1 h) : callI (Sat Try.prog) .i64 i_laws_szSet [.agg x0, .int .i64 x1] h K := by
  have := Sat.ex tok mixed laws_szSet_M Try.func8 (c := bodyOf Try.f8) (by kernel_rfl) (calls_of Try.func8 (c := bodyOf Try.f8) (by kernel_rfl) (by decide)) ((laws_szSet_main_link _ _ x0 x1 h).mpr hm)
  obtain ⟨v, h2, h3, r, rfl, h4⟩ := this; exact ⟨r, h2, h3, h4⟩

/-! ### loop.example/g01354/impl.isTile$1 -/
def impl_isTile_1_M : Nat → List Nat := fun i => []
def impl_isTile_1_main (S : SatT) (K : AVal → H → Prop) (x0 : Int) (x1 : Pt) (h : H) : Prop :=
 ldI .i64 x1 h fun n0 =>
 callB S i_impl_within [.int .i64 x0, .int .i64 (0), .int .i64 (w64 (n0 - (1)))] h fun b2 h1 =>
 K (.bool (!b2)) h1
theorem impl_isTile_1_main_link (S : SatT) (K : AVal → H → Prop) (x0 : Int) (x1 : Pt) (h : H) : cwp S tab impl_isTile_1_M [] (bodyOf Try.f93) (kFun tab Try.f93.results.toList K) (fr0 Try.f93 [.int .i64 x0, .ptr x1]) h = impl_isTile_1_main S K x0 x1 h := by kernel_rfl
theorem impl_isTile_1_call (x0 : Int) (x1 : Pt) (h : H) (K : Bool → H → Prop) (hm : impl_isTile_1_main (Sat Try.prog) (fun v h' => ∃ r, v = .bool r ∧ K r h') x0 x1 h) : callB (Sat Try.prog) i_impl_isTile_1 [.int .i64 x0, .ptr x1] h K := by
  have := Sat.ex tok mixed impl_isTile_1_M Try.func93 (c := bodyOf Try.f93) (by kernel_rfl) (calls_of Try.func93 (c := bodyOf Try.f93) (by kernel_rfl) (by decide)) ((impl_isTile_1_main_link _ _ x0 x1 h).mpr hm)
  obtain ⟨v, h2, h3, r, rfl, h4⟩ := this; exact ⟨r, h2, h3, h4⟩

/-! ### loop.example/g01354/impl.areSets$1 -/
def impl_areSets_1_M : Nat → List Nat := fun i => []
def impl_areSets_1_main (S : SatT) (K : AVal → H → Prop) (x0 : List AVal) (h : H) : Prop :=
 newK 2 x0 h fun p0 h1 =>
 ldA p0 2 h1 fun cs2 =>
 callB S i_impl_IsSet [.agg cs2] h1 fun b4 h3 =>
 K (.bool (!b4)) h3
theorem impl_areSets_1_main_link (S : SatT) (K : AVal → H → Prop) (x0 : List AVal) (h : H) : cwp S tab impl_areSets_1_M [] (bodyOf Try.f63) (kFun tab Try.f63.results.toList K) (fr0 Try.f63 [.agg x0]) h = impl_areSets_1_main S K x0 h := by kernel_rfl
theorem impl_areSets_1_call (x0 : List AVal) (h : H) (K : Bool → H → Prop) (hm : impl_areSets_1_main (Sat Try.prog) (fun v h' => ∃ r, v = .bool r ∧ K r h') x0 h) : callB (Sat Try.prog) i_impl_areSets_1 [.agg x0] h K := by
  have := Sat.ex tok mixed impl_areSets_1_M Try.func63 (c := bodyOf Try.f63) (by kernel_rfl) (calls_of Try.func63 (c := bodyOf Try.f63) (by kernel_rfl) (by decide)) ((impl_areSets_1_main_link _ _ x0 h).mpr hm)
  obtain ⟨v, h2, h3, r, rfl, h4⟩ := this; exact ⟨r, h2, h3, h4⟩

/-! ### cmp.isNaN[int64] -/
def cmp_isNaN_int64__M : Nat → List Nat := fun i => []
def cmp_isNaN_int64__main (S : SatT) (K : AVal → H → Prop) (x0 : Int) (h : H) : Prop :=
 K (.bool (x0 != x0)) h
theorem cmp_isNaN_int64__main_link (S : SatT) (K : AVal → H → Prop) (x0 : Int) (h : H) : cwp S tab cmp_isNaN_int64__M [] (bodyOf Try.f105) (kFun tab Try.f105.results.toList K) (fr0 Try.f105 [.int .i64 x0]) h = cmp_isNaN_int64__main S K x0 h := by kernel_rfl
theorem cmp_isNaN_int64__call (x0 : Int) (h : H) (K : Bool → H → Prop) (hm : cmp_isNaN_int64__main (Sat Try.prog) (fun v h' => ∃ r, v = .bool r ∧ K r h') x0 h) : callB (Sat Try.prog) i_cmp_isNaN_int64_ [.int .i64 x0] h K := by
  have := Sat.ex tok mixed cmp_isNaN_int64__M Try.func105 (c := bodyOf Try.f105) (by kernel_rfl) (calls_of Try.func105 (c := bodyOf Try.f105) (by kernel_rfl) (by decide)) ((cmp_isNaN_int64__main_link _ _ x0 h).mpr hm)
  obtain ⟨v, h2, h3, r, rfl, h4⟩ := this; exact ⟨r, h2, h3, h4⟩

end Go.Proofs.Ytlbglfgienklfaa.Cl
