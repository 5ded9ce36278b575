/- Typed forms of functions, and their links. No claim is stated here. -/
import Derived.Test.YtekfmmcolgjdmaaFT
/- Typed forms of functions of the program, and their links. Printed by program. No claim is stated here. -/
set_option linter.unusedVariables false
namespace Go.Proofs.Ytekfmmcolgjdmaa.Cl
open Go
/-! ### loop.example/g01354/laws.heldPlacedS -/
def laws_heldPlacedS_M : Nat → List Nat := fun i => bif i == 0 then [0, 1, 5] else []
def laws_heldPlacedS_ks1 (S : SatT) (K : AVal → H → Prop) : Kont := kSeq (cwp S tab laws_heldPlacedS_M [] (sub [1, 1] (bodyOf Try.f71)) (kFun tab (Try.f71).results.toList K)) (kFun tab (Try.f71).results.toList K)
def laws_heldPlacedS_e0 (s0_ : Sl) (i1_ : Int) (i5_ : Int) : Frame := [.sl s0_, .int .i64 i1_, U, U, U, .int .i64 i5_, U, U, U, U, U, U, U, U, U, U, U, U, U, U, U, U, U, U, U, U, U, U, U, U, U]
def laws_heldPlacedS_w0 (S : SatT) (K : AVal → H → Prop) : (Frame → H → Prop) → Frame → H → Prop := fun X fr h => cwp S tab laws_heldPlacedS_M (laws_heldPlacedS_M 0) (sub [1, 0, 1, 0, 0] (bodyOf Try.f71)) (kSeq (fun fr h => X (mask (laws_heldPlacedS_M 0) fr) h) (kBlk 0 (laws_heldPlacedS_ks1 S K))) fr h
def laws_heldPlacedS_L0 (S : SatT) (K : AVal → H → Prop) (s0_ : Sl) (i1_ : Int) (i5_ : Int) (h : H) : Prop := loopK (laws_heldPlacedS_w0 S K) (laws_heldPlacedS_e0 s0_ i1_ i5_) h
def laws_heldPlacedS_C0 (S : SatT) (K : AVal → H → Prop) (i1_ : Int) (h : H) : Prop :=
 K (.int .i64 i1_) h
def laws_heldPlacedS_b0 (S : SatT) (K : AVal → H → Prop) (X0 : Frame → H → Prop) (s0_ : Sl) (i1_ : Int) (i5_ : Int) (h : H) : Prop :=
 bif (decide (i5_ < (s0_.len : Int))) then
 ixS s0_ 2 i5_ fun p0 =>
 isPt p0 (
 ldI .i64 (Pt.add p0 0) h fun n1 =>
 bif (n1 != i1_) then
 K (.int .i64 (-1)) h
 else
 ixS s0_ 2 i5_ fun p2 =>
 isPt p2 (
 ldI .i64 (Pt.add p2 1) h fun n3 =>
 bif (n3 != (w64 (i1_ + (1)))) then
 K (.int .i64 (-1)) h
 else
 X0 (laws_heldPlacedS_e0 s0_ (w64 ((w64 (i1_ + (1))) + (1))) (w64 (i5_ + (1)))) h))
 else
 laws_heldPlacedS_C0 S K i1_ h
theorem laws_heldPlacedS_link0 (S : SatT) (K : AVal → H → Prop) (X0 : Frame → H → Prop) (s0_ : Sl) (i1_ : Int) (i5_ : Int) (h : H) : laws_heldPlacedS_w0 S K X0 (laws_heldPlacedS_e0 s0_ i1_ i5_) h = laws_heldPlacedS_b0 S K X0 s0_ i1_ i5_ h := by kernel_rfl
theorem laws_heldPlacedS_rule0 (S : SatT) (K : AVal → H → Prop) (s0_ : Sl) (I_ : Int → Int → H → Prop) (m_ : Int → Int → H → Nat)
    (hs : ∀ (X0 : Frame → H → Prop) (i1_ : Int) (i5_ : Int) (h : H), I_ i1_ i5_ h → (∀ (i1_' : Int) (i5_' : Int) (h' : H), I_ i1_' i5_' h' → m_ i1_' i5_' h' < m_ i1_ i5_ h → X0 (laws_heldPlacedS_e0 s0_ i1_' i5_') h') → laws_heldPlacedS_b0 S K X0 s0_ i1_ i5_ h) (i1_ : Int) (i5_ : Int) {h : H} (h0 : I_ i1_ i5_ h) : laws_heldPlacedS_L0 S K s0_ i1_ i5_ h :=
  loop_rule (σ := (Int) × (Int)) (fun s_ => laws_heldPlacedS_e0 s0_ (s_.1) (s_.2)) (fun s_ h => I_ (s_.1) (s_.2) h) (fun s_ h => m_ (s_.1) (s_.2) h)
    (fun X s_ h hi hx => (laws_heldPlacedS_link0 S K X s0_ (s_.1) (s_.2) h).mpr (hs X (s_.1) (s_.2) h hi fun i1_' i5_' h' hi' hm' => hx (i1_', i5_') h' hi' hm')) (i1_, i5_) h0
theorem laws_heldPlacedS_unroll0 (S : SatT) (K : AVal → H → Prop) (s0_ : Sl) (i1_ : Int) (i5_ : Int) (h : H) (hb : laws_heldPlacedS_b0 S K (fun fr h => loopK (laws_heldPlacedS_w0 S K) fr h) s0_ i1_ i5_ h) : laws_heldPlacedS_L0 S K s0_ i1_ i5_ h := loop_unroll ((laws_heldPlacedS_link0 S K _ s0_ i1_ i5_ h).mpr hb)
def laws_heldPlacedS_main (S : SatT) (K : AVal → H → Prop) (x0 : Sl) (x1 : Int) (h : H) : Prop :=
 laws_heldPlacedS_L0 S K x0 x1 (0) h
theorem laws_heldPlacedS_main_link (S : SatT) (K : AVal → H → Prop) (x0 : Sl) (x1 : Int) (h : H) : cwp S tab laws_heldPlacedS_M [] (bodyOf Try.f71) (kFun tab Try.f71.results.toList K) (fr0 Try.f71 [.sl x0, .int .i64 x1]) h = laws_heldPlacedS_main S K x0 x1 h := by kernel_rfl
theorem laws_heldPlacedS_call (x0 : Sl) (x1 : Int) (h : H) (K : Int → H → Prop) (hm : laws_heldPlacedS_main (Sat Try.prog) (fun v h' => ∃ r, v = .int .i64 r ∧ K r h') x0 x1 h) : callI (Sat Try.prog) .i64 i_laws_heldPlacedS [.sl x0, .int .i64 x1] h K := by
  have := Sat.ex tok mixed laws_heldPlacedS_M Try.func71 (c := bodyOf Try.f71) (by kernel_rfl) (calls_of Try.func71 (c := bodyOf Try.f71) (by kernel_rfl) (by decide)) ((laws_heldPlacedS_main_link _ _ x0 x1 h).mpr hm)
  obtain ⟨v, h2, h3, r, rfl, h4⟩ := this; exact ⟨r, h2, h3, h4⟩

/-! ### loop.example/g01354/laws.szPlacedSS -/
def laws_szPlacedSS_M : Nat → List Nat := fun i => bif i == 0 then [0, 1, 5] else []
def laws_szPlacedSS_ks5 (S : SatT) (K : AVal → H → Prop) : Kont := kSeq (cwp S tab laws_szPlacedSS_M [] (sub [1, 1, 1, 1] (bodyOf Try.f36)) (kFun tab (Try.f36).results.toList K)) (kFun tab (Try.f36).results.toList K)
def laws_szPlacedSS_e0 (s0_ : Sl) (i1_ : Int) (i5_ : Int) : Frame := [.sl s0_, .int .i64 i1_, U, U, U, .int .i64 i5_, U, U, U, U, U, U, U, U, U, U, U, U, U, U, U, U, U, U, U, U, U]
def laws_szPlacedSS_w0 (S : SatT) (K : AVal → H → Prop) : (Frame → H → Prop) → Frame → H → Prop := fun X fr h => cwp S tab laws_szPlacedSS_M (laws_szPlacedSS_M 0) (sub [1, 1, 1, 0, 1, 0, 0] (bodyOf Try.f36)) (kSeq (fun fr h => X (mask (laws_szPlacedSS_M 0) fr) h) (kBlk 0 (laws_szPlacedSS_ks5 S K))) fr h
def laws_szPlacedSS_L0 (S : SatT) (K : AVal → H → Prop) (s0_ : Sl) (i1_ : Int) (i5_ : Int) (h : H) : Prop := loopK (laws_szPlacedSS_w0 S K) (laws_szPlacedSS_e0 s0_ i1_ i5_) h
def laws_szPlacedSS_C0 (S : SatT) (K : AVal → H → Prop) (i1_ : Int) (h : H) : Prop :=
 K (.int .i64 i1_) h
def laws_szPlacedSS_b0 (S : SatT) (K : AVal → H → Prop) (X0 : Frame → H → Prop) (s0_ : Sl) (i1_ : Int) (i5_ : Int) (h : H) : Prop :=
 bif (decide (i5_ < (s0_.len : Int))) then
 ixS s0_ 1 i5_ fun p0 =>
 ldS p0 h fun s1 =>
 callI S .i64 i_laws_szPlacedS [.sl s1, .int .i64 i1_] h fun n3 h2 =>
 bif (decide (n3 < (0))) then
 K (.int .i64 (-1)) h2
 else
 X0 (laws_szPlacedSS_e0 s0_ n3 (w64 (i5_ + (1)))) h2
 else
 laws_szPlacedSS_C0 S K i1_ h
theorem laws_szPlacedSS_link0 (S : SatT) (K : AVal → H → Prop) (X0 : Frame → H → Prop) (s0_ : Sl) (i1_ : Int) (i5_ : Int) (h : H) : laws_szPlacedSS_w0 S K X0 (laws_szPlacedSS_e0 s0_ i1_ i5_) h = laws_szPlacedSS_b0 S K X0 s0_ i1_ i5_ h := by kernel_rfl
theorem laws_szPlacedSS_rule0 (S : SatT) (K : AVal → H → Prop) (s0_ : Sl) (I_ : Int → Int → H → Prop) (m_ : Int → Int → H → Nat)
    (hs : ∀ (X0 : Frame → H → Prop) (i1_ : Int) (i5_ : Int) (h : H), I_ i1_ i5_ h → (∀ (i1_' : Int) (i5_' : Int) (h' : H), I_ i1_' i5_' h' → m_ i1_' i5_' h' < m_ i1_ i5_ h → X0 (laws_szPlacedSS_e0 s0_ i1_' i5_') h') → laws_szPlacedSS_b0 S K X0 s0_ i1_ i5_ h) (i1_ : Int) (i5_ : Int) {h : H} (h0 : I_ i1_ i5_ h) : laws_szPlacedSS_L0 S K s0_ i1_ i5_ h :=
  loop_rule (σ := (Int) × (Int)) (fun s_ => laws_szPlacedSS_e0 s0_ (s_.1) (s_.2)) (fun s_ h => I_ (s_.1) (s_.2) h) (fun s_ h => m_ (s_.1) (s_.2) h)
    (fun X s_ h hi hx => (laws_szPlacedSS_link0 S K X s0_ (s_.1) (s_.2) h).mpr (hs X (s_.1) (s_.2) h hi fun i1_' i5_' h' hi' hm' => hx (i1_', i5_') h' hi' hm')) (i1_, i5_) h0
theorem laws_szPlacedSS_unroll0 (S : SatT) (K : AVal → H → Prop) (s0_ : Sl) (i1_ : Int) (i5_ : Int) (h : H) (hb : laws_szPlacedSS_b0 S K (fun fr h => loopK (laws_szPlacedSS_w0 S K) fr h) s0_ i1_ i5_ h) : laws_szPlacedSS_L0 S K s0_ i1_ i5_ h := loop_unroll ((laws_szPlacedSS_link0 S K _ s0_ i1_ i5_ h).mpr hb)
def laws_szPlacedSS_main (S : SatT) (K : AVal → H → Prop) (x0 : Sl) (x1 : Int) (h : H) : Prop :=
 bif (decide ((w64 (x1 - (x0.len : Int))) < (0))) then
 K (.int .i64 (-1)) h
 else
 laws_szPlacedSS_L0 S K x0 (w64 (x1 - (x0.len : Int))) (0) h
theorem laws_szPlacedSS_main_link (S : SatT) (K : AVal → H → Prop) (x0 : Sl) (x1 : Int) (h : H) : cwp S tab laws_szPlacedSS_M [] (bodyOf Try.f36) (kFun tab Try.f36.results.toList K) (fr0 Try.f36 [.sl x0, .int .i64 x1]) h = laws_szPlacedSS_main S K x0 x1 h := by kernel_rfl
theorem laws_szPlacedSS_call (x0 : Sl) (x1 : Int) (h : H) (K : Int → H → Prop) (hm : laws_szPlacedSS_main (Sat Try.prog) (fun v h' => ∃ r, v = .int .i64 r ∧ K r h') x0 x1 h) : callI (Sat Try.prog) .i64 i_laws_szPlacedSS [.sl x0, .int .i64 x1] h K := by
  have := Sat.ex tok mixed laws_szPlacedSS_M Try.func36 (c := bodyOf Try.f36) (by kernel_rfl) (calls_of Try.func36 (c := bodyOf Try.f36) (by kernel_rfl) (by decide)) ((laws_szPlacedSS_main_link _ _ x0 x1 h).mpr hm)
  obtain ⟨v, h2, h3, r, rfl, h4⟩ := this; exact ⟨r, h2, h3, h4⟩

/-! ### loop.example/g01354/spec.l07Turn -/
def spec_l07Turn_M : Nat → List Nat := fun i => bif i == 0 then [1, 2, 4] else []
def spec_l07Turn_ks1 (S : SatT) (K : AVal → H → Prop) : Kont := kSeq (cwp S tab spec_l07Turn_M [] (sub [1, 1] (bodyOf Try.f48)) (kFun tab (Try.f48).results.toList K)) (kFun tab (Try.f48).results.toList K)
def spec_l07Turn_e0 (i1_ : Int) (p2_ : Pt) (p4_ : Pt) : Frame := [U, .int .i64 i1_, .ptr p2_, U, .ptr p4_, U, U, U, U, U, U, U, U, U, U, U, U, U, U]
def spec_l07Turn_w0 (S : SatT) (K : AVal → H → Prop) : (Frame → H → Prop) → Frame → H → Prop := fun X fr h => cwp S tab spec_l07Turn_M (spec_l07Turn_M 0) (sub [1, 0, 0, 0] (bodyOf Try.f48)) (kSeq (fun fr h => X (mask (spec_l07Turn_M 0) fr) h) (kBlk 0 (spec_l07Turn_ks1 S K))) fr h
def spec_l07Turn_L0 (S : SatT) (K : AVal → H → Prop) (i1_ : Int) (p2_ : Pt) (p4_ : Pt) (h : H) : Prop := loopK (spec_l07Turn_w0 S K) (spec_l07Turn_e0 i1_ p2_ p4_) h
def spec_l07Turn_C0 (S : SatT) (K : AVal → H → Prop) (p2_ : Pt) (p4_ : Pt) (h : H) : Prop :=
 ldA p2_ 4 h fun cs0 =>
 stN p4_ 4 cs0 h fun h1 =>
 ldA p4_ 4 h1 fun cs2 =>
 K (.agg cs2) h1
def spec_l07Turn_b0 (S : SatT) (K : AVal → H → Prop) (X0 : Frame → H → Prop) (i1_ : Int) (p2_ : Pt) (p4_ : Pt) (h : H) : Prop :=
 bif (decide (i1_ > (0))) then
 ixA p2_ 4 1 (3) fun p0 =>
 ldI .i64 p0 h fun n1 =>
 ixA p2_ 4 1 (0) fun p2 =>
 ldI .i64 p2 h fun n3 =>
 ixA p2_ 4 1 (1) fun p4 =>
 ldI .i64 p4 h fun n5 =>
 ixA p2_ 4 1 (2) fun p6 =>
 ldI .i64 p6 h fun n7 =>
 stN p2_ 4 [.int .i64 n1, .int .i64 n3, .int .i64 n5, .int .i64 n7] h fun h8 =>
 X0 (spec_l07Turn_e0 (w64 (i1_ - (1))) p2_ p4_) h8
 else
 spec_l07Turn_C0 S K p2_ p4_ h
theorem spec_l07Turn_link0 (S : SatT) (K : AVal → H → Prop) (X0 : Frame → H → Prop) (i1_ : Int) (p2_ : Pt) (p4_ : Pt) (h : H) : spec_l07Turn_w0 S K X0 (spec_l07Turn_e0 i1_ p2_ p4_) h = spec_l07Turn_b0 S K X0 i1_ p2_ p4_ h := by kernel_rfl
theorem spec_l07Turn_rule0 (S : SatT) (K : AVal → H → Prop) (p2_ : Pt) (p4_ : Pt) (I_ : Int → H → Prop) (m_ : Int → H → Nat)
    (hs : ∀ (X0 : Frame → H → Prop) (i1_ : Int) (h : H), I_ i1_ h → (∀ (i1_' : Int) (h' : H), I_ i1_' h' → m_ i1_' h' < m_ i1_ h → X0 (spec_l07Turn_e0 i1_' p2_ p4_) h') → spec_l07Turn_b0 S K X0 i1_ p2_ p4_ h) (i1_ : Int) {h : H} (h0 : I_ i1_ h) : spec_l07Turn_L0 S K i1_ p2_ p4_ h :=
  loop_rule (σ := (Int)) (fun s_ => spec_l07Turn_e0 (s_) p2_ p4_) (fun s_ h => I_ (s_) h) (fun s_ h => m_ (s_) h)
    (fun X s_ h hi hx => (spec_l07Turn_link0 S K X (s_) p2_ p4_ h).mpr (hs X (s_) h hi fun i1_' h' hi' hm' => hx (i1_') h' hi' hm')) (i1_) h0
theorem spec_l07Turn_unroll0 (S : SatT) (K : AVal → H → Prop) (i1_ : Int) (p2_ : Pt) (p4_ : Pt) (h : H) (hb : spec_l07Turn_b0 S K (fun fr h => loopK (spec_l07Turn_w0 S K) fr h) i1_ p2_ p4_ h) : spec_l07Turn_L0 S K i1_ p2_ p4_ h := loop_unroll ((spec_l07Turn_link0 S K _ i1_ p2_ p4_ h).mpr hb)
def spec_l07Turn_main (S : SatT) (K : AVal → H → Prop) (x0 : List AVal) (x1 : Int) (h : H) : Prop :=
 newK 4 x0 h fun p0 h1 =>
 newO [.int .i64 (0), .int .i64 (0), .int .i64 (0), .int .i64 (0)] h1 fun p2 h3 =>
 spec_l07Turn_L0 S K x1 p0 p2 h3
theorem spec_l07Turn_main_link (S : SatT) (K : AVal → H → Prop) (x0 : List AVal) (x1 : Int) (h : H) : cwp S tab spec_l07Turn_M [] (bodyOf Try.f48) (kFun tab Try.f48.results.toList K) (fr0 Try.f48 [.agg x0, .int .i64 x1]) h = spec_l07Turn_main S K x0 x1 h := by kernel_rfl
theorem spec_l07Turn_call (x0 : List AVal) (x1 : Int) (h : H) (K : List AVal → H → Prop) (hm : spec_l07Turn_main (Sat Try.prog) (fun v h' => ∃ r, v = .agg r ∧ K r h') x0 x1 h) : callA (Sat Try.prog) i_spec_l07Turn [.agg x0, .int .i64 x1] h K := by
  have := Sat.ex tok mixed spec_l07Turn_M Try.func48 (c := bodyOf Try.f48) (by kernel_rfl) (calls_of Try.func48 (c := bodyOf Try.f48) (by kernel_rfl) (by decide)) ((spec_l07Turn_main_link _ _ x0 x1 h).mpr hm)
  obtain ⟨v, h2, h3, r, rfl, h4⟩ := this; exact ⟨r, h2, h3, h4⟩

/-! ### loop.example/g01354/laws.heldInt64S -/
def laws_heldInt64S_M : Nat → List Nat := fun i => bif i == 0 then [0, 1, 5] else []
def laws_heldInt64S_ks1 (S : SatT) (K : AVal → H → Prop) : Kont := kSeq (cwp S tab laws_heldInt64S_M [] (sub [1, 1] (bodyOf Try.f26)) (kFun tab (Try.f26).results.toList K)) (kFun tab (Try.f26).results.toList K)
def laws_heldInt64S_e0 (s0_ : Sl) (i1_ : Int) (i5_ : Int) : Frame := [.sl s0_, .int .i64 i1_, U, U, U, .int .i64 i5_, U, U, U, U, U, U, U, U, U, U, U, U, U, U, U]
def laws_heldInt64S_w0 (S : SatT) (K : AVal → H → Prop) : (Frame → H → Prop) → Frame → H → Prop := fun X fr h => cwp S tab laws_heldInt64S_M (laws_heldInt64S_M 0) (sub [1, 0, 1, 0, 0] (bodyOf Try.f26)) (kSeq (fun fr h => X (mask (laws_heldInt64S_M 0) fr) h) (kBlk 0 (laws_heldInt64S_ks1 S K))) fr h
def laws_heldInt64S_L0 (S : SatT) (K : AVal → H → Prop) (s0_ : Sl) (i1_ : Int) (i5_ : Int) (h : H) : Prop := loopK (laws_heldInt64S_w0 S K) (laws_heldInt64S_e0 s0_ i1_ i5_) h
def laws_heldInt64S_C0 (S : SatT) (K : AVal → H → Prop) (i1_ : Int) (h : H) : Prop :=
 K (.int .i64 i1_) h
def laws_heldInt64S_b0 (S : SatT) (K : AVal → H → Prop) (X0 : Frame → H → Prop) (s0_ : Sl) (i1_ : Int) (i5_ : Int) (h : H) : Prop :=
 bif (decide (i5_ < (s0_.len : Int))) then
 ixS s0_ 1 i5_ fun p0 =>
 ldI .i64 p0 h fun n1 =>
 bif (n1 != i1_) then
 K (.int .i64 (-1)) h
 else
 X0 (laws_heldInt64S_e0 s0_ (w64 (i1_ + (1))) (w64 (i5_ + (1)))) h
 else
 laws_heldInt64S_C0 S K i1_ h
theorem laws_heldInt64S_link0 (S : SatT) (K : AVal → H → Prop) (X0 : Frame → H → Prop) (s0_ : Sl) (i1_ : Int) (i5_ : Int) (h : H) : laws_heldInt64S_w0 S K X0 (laws_heldInt64S_e0 s0_ i1_ i5_) h = laws_heldInt64S_b0 S K X0 s0_ i1_ i5_ h := by kernel_rfl
theorem laws_heldInt64S_rule0 (S : SatT) (K : AVal → H → Prop) (s0_ : Sl) (I_ : Int → Int → H → Prop) (m_ : Int → Int → H → Nat)
    (hs : ∀ (X0 : Frame → H → Prop) (i1_ : Int) (i5_ : Int) (h : H), I_ i1_ i5_ h → (∀ (i1_' : Int) (i5_' : Int) (h' : H), I_ i1_' i5_' h' → m_ i1_' i5_' h' < m_ i1_ i5_ h → X0 (laws_heldInt64S_e0 s0_ i1_' i5_') h') → laws_heldInt64S_b0 S K X0 s0_ i1_ i5_ h) (i1_ : Int) (i5_ : Int) {h : H} (h0 : I_ i1_ i5_ h) : laws_heldInt64S_L0 S K s0_ i1_ i5_ h :=
  loop_rule (σ := (Int) × (Int)) (fun s_ => laws_heldInt64S_e0 s0_ (s_.1) (s_.2)) (fun s_ h => I_ (s_.1) (s_.2) h) (fun s_ h => m_ (s_.1) (s_.2) h)
    (fun X s_ h hi hx => (laws_heldInt64S_link0 S K X s0_ (s_.1) (s_.2) h).mpr (hs X (s_.1) (s_.2) h hi fun i1_' i5_' h' hi' hm' => hx (i1_', i5_') h' hi' hm')) (i1_, i5_) h0
theorem laws_heldInt64S_unroll0 (S : SatT) (K : AVal → H → Prop) (s0_ : Sl) (i1_ : Int) (i5_ : Int) (h : H) (hb : laws_heldInt64S_b0 S K (fun fr h => loopK (laws_heldInt64S_w0 S K) fr h) s0_ i1_ i5_ h) : laws_heldInt64S_L0 S K s0_ i1_ i5_ h := loop_unroll ((laws_heldInt64S_link0 S K _ s0_ i1_ i5_ h).mpr hb)
def laws_heldInt64S_main (S : SatT) (K : AVal → H → Prop) (x0 : Sl) (x1 : Int) (h : H) : Prop :=
 laws_heldInt64S_L0 S K x0 x1 (0) h
theorem laws_heldInt64S_main_link (S : SatT) (K : AVal → H → Prop) (x0 : Sl) (x1 : Int) (h : H) : cwp S tab laws_heldInt64S_M [] (bodyOf Try.f26) (kFun tab Try.f26.results.toList K) (fr0 Try.f26 [.sl x0, .int .i64 x1]) h = laws_heldInt64S_main S K x0 x1 h := by kernel_rfl
theorem laws_heldInt64S_call (x0 : Sl) (x1 : Int) (h : H) (K : Int → H → Prop) (hm : laws_heldInt64S_main (Sat Try.prog) (fun v h' => ∃ r, v = .int .i64 r ∧ K r h') x0 x1 h) : callI (Sat Try.prog) .i64 i_laws_heldInt64S [.sl x0, .int .i64 x1] h K := by
  have := Sat.ex tok mixed laws_heldInt64S_M Try.func26 (c := bodyOf Try.f26) (by kernel_rfl) (calls_of Try.func26 (c := bodyOf Try.f26) (by kernel_rfl) (by decide)) ((laws_heldInt64S_main_link _ _ x0 x1 h).mpr hm)
  obtain ⟨v, h2, h3, r, rfl, h4⟩ := this; exact ⟨r, h2, h3, h4⟩

/-! ### loop.example/g01354/laws.toPlacedSS -/
def laws_toPlacedSS_M : Nat → List Nat := fun i => bif i == 0 then [0, 3, 4] else []
def laws_toPlacedSS_ks2 (S : SatT) (K : AVal → H → Prop) : Kont := kSeq (cwp S tab laws_toPlacedSS_M [] (sub [1, 1, 1] (bodyOf Try.f38)) (kFun tab (Try.f38).results.toList K)) (kFun tab (Try.f38).results.toList K)
def laws_toPlacedSS_e0 (s0_ : Sl) (s3_ : Sl) (i4_ : Int) : Frame := [.sl s0_, U, U, .sl s3_, .int .i64 i4_, U, U, U, U, U, U, U, U, U, U, U, U, U, U, U, U, U, U]
def laws_toPlacedSS_w0 (S : SatT) (K : AVal → H → Prop) : (Frame → H → Prop) → Frame → H → Prop := fun X fr h => cwp S tab laws_toPlacedSS_M (laws_toPlacedSS_M 0) (sub [1, 1, 0, 1, 0, 0] (bodyOf Try.f38)) (kSeq (fun fr h => X (mask (laws_toPlacedSS_M 0) fr) h) (kBlk 0 (laws_toPlacedSS_ks2 S K))) fr h
def laws_toPlacedSS_L0 (S : SatT) (K : AVal → H → Prop) (s0_ : Sl) (s3_ : Sl) (i4_ : Int) (h : H) : Prop := loopK (laws_toPlacedSS_w0 S K) (laws_toPlacedSS_e0 s0_ s3_ i4_) h
def laws_toPlacedSS_C0 (S : SatT) (K : AVal → H → Prop) (s3_ : Sl) (h : H) : Prop :=
 K (.sl s3_) h
def laws_toPlacedSS_b0 (S : SatT) (K : AVal → H → Prop) (X0 : Frame → H → Prop) (s0_ : Sl) (s3_ : Sl) (i4_ : Int) (h : H) : Prop :=
 bif (decide (i4_ < (s0_.len : Int))) then
 ixS s0_ 1 i4_ fun p0 =>
 ldS p0 h fun s1 =>
 callS S i_laws_toPlacedS [.sl s1] h fun s3 h2 =>
 ixS s3_ 1 i4_ fun p4 =>
 st1 p4 (.sl s3) h2 fun h5 =>
 X0 (laws_toPlacedSS_e0 s0_ s3_ (w64 (i4_ + (1)))) h5
 else
 laws_toPlacedSS_C0 S K s3_ h
theorem laws_toPlacedSS_link0 (S : SatT) (K : AVal → H → Prop) (X0 : Frame → H → Prop) (s0_ : Sl) (s3_ : Sl) (i4_ : Int) (h : H) : laws_toPlacedSS_w0 S K X0 (laws_toPlacedSS_e0 s0_ s3_ i4_) h = laws_toPlacedSS_b0 S K X0 s0_ s3_ i4_ h := by kernel_rfl
theorem laws_toPlacedSS_rule0 (S : SatT) (K : AVal → H → Prop) (s0_ : Sl) (s3_ : Sl) (I_ : Int → H → Prop) (m_ : Int → H → Nat)
    (hs : ∀ (X0 : Frame → H → Prop) (i4_ : Int) (h : H), I_ i4_ h → (∀ (i4_' : Int) (h' : H), I_ i4_' h' → m_ i4_' h' < m_ i4_ h → X0 (laws_toPlacedSS_e0 s0_ s3_ i4_') h') → laws_toPlacedSS_b0 S K X0 s0_ s3_ i4_ h) (i4_ : Int) {h : H} (h0 : I_ i4_ h) : laws_toPlacedSS_L0 S K s0_ s3_ i4_ h :=
  loop_rule (σ := (Int)) (fun s_ => laws_toPlacedSS_e0 s0_ s3_ (s_)) (fun s_ h => I_ (s_) h) (fun s_ h => m_ (s_) h)
    (fun X s_ h hi hx => (laws_toPlacedSS_link0 S K X s0_ s3_ (s_) h).mpr (hs X (s_) h hi fun i4_' h' hi' hm' => hx (i4_') h' hi' hm')) (i4_) h0
theorem laws_toPlacedSS_unroll0 (S : SatT) (K : AVal → H → Prop) (s0_ : Sl) (s3_ : Sl) (i4_ : Int) (h : H) (hb : laws_toPlacedSS_b0 S K (fun fr h => loopK (laws_toPlacedSS_w0 S K) fr h) s0_ s3_ i4_ h) : laws_toPlacedSS_L0 S K s0_ s3_ i4_ h := loop_unroll ((laws_toPlacedSS_link0 S K _ s0_ s3_ i4_ h).mpr hb)
def laws_toPlacedSS_main (S : SatT) (K : AVal → H → Prop) (x0 : Sl) (h : H) : Prop :=
 mkS (x0.len : Int) [.sl Sl.nil] h fun s0 h1 =>
 laws_toPlacedSS_L0 S K x0 s0 (0) h1
theorem laws_toPlacedSS_main_link (S : SatT) (K : AVal → H → Prop) (x0 : Sl) (h : H) : cwp S tab laws_toPlacedSS_M [] (bodyOf Try.f38) (kFun tab Try.f38.results.toList K) (fr0 Try.f38 [.sl x0]) h = laws_toPlacedSS_main S K x0 h := by kernel_rfl
theorem laws_toPlacedSS_call (x0 : Sl) (h : H) (K : Sl → H → Prop) (hm : laws_toPlacedSS_main (Sat Try.prog) (fun v h' => ∃ r, v = .sl r ∧ K r h') x0 h) : callS (Sat Try.prog) i_laws_toPlacedSS [.sl x0] h K := by
  have := Sat.ex tok mixed laws_toPlacedSS_M Try.func38 (c := bodyOf Try.f38) (by kernel_rfl) (calls_of Try.func38 (c := bodyOf Try.f38) (by kernel_rfl) (by decide)) ((laws_toPlacedSS_main_link _ _ x0 h).mpr hm)
  obtain ⟨v, h2, h3, r, rfl, h4⟩ := this; exact ⟨r, h2, h3, h4⟩

/-! ### loop.example/g01354/spec.l01Tile -/
def spec_l01Tile_M : Nat → List Nat := fun i => bif i == 0 then [0, 3, 5] else []
def spec_l01Tile_ks1 (S : SatT) (K : AVal → H → Prop) : Kont := kSeq (cwp S tab spec_l01Tile_M [] (sub [1, 1] (bodyOf Try.f72)) (kFun tab (Try.f72).results.toList K)) (kFun tab (Try.f72).results.toList K)
def spec_l01Tile_e0 (i0_ : Int) (p3_ : Pt) (i5_ : Int) : Frame := [.int .i64 i0_, U, U, .ptr p3_, U, .int .i64 i5_, U, U, U, U, U, U, U, U, U, U, U]
def spec_l01Tile_w0 (S : SatT) (K : AVal → H → Prop) : (Frame → H → Prop) → Frame → H → Prop := fun X fr h => cwp S tab spec_l01Tile_M (spec_l01Tile_M 0) (sub [1, 0, 1, 0, 0] (bodyOf Try.f72)) (kSeq (fun fr h => X (mask (spec_l01Tile_M 0) fr) h) (kBlk 0 (spec_l01Tile_ks1 S K))) fr h
def spec_l01Tile_L0 (S : SatT) (K : AVal → H → Prop) (i0_ : Int) (p3_ : Pt) (i5_ : Int) (h : H) : Prop := loopK (spec_l01Tile_w0 S K) (spec_l01Tile_e0 i0_ p3_ i5_) h
def spec_l01Tile_C0 (S : SatT) (K : AVal → H → Prop) (h : H) : Prop :=
 K (.bool true) h
def spec_l01Tile_b0 (S : SatT) (K : AVal → H → Prop) (X0 : Frame → H → Prop) (i0_ : Int) (p3_ : Pt) (i5_ : Int) (h : H) : Prop :=
 bif (decide (i5_ < (4))) then
 ixA p3_ 4 1 i5_ fun p0 =>
 ldI .i64 p0 h fun n1 =>
 callB S i_spec_l01In [.int .i64 n1, .int .i64 (0), .int .i64 (w64 (i0_ - (1)))] h fun b3 h2 =>
 bif (!b3) then
 K (.bool false) h2
 else
 X0 (spec_l01Tile_e0 i0_ p3_ (w64 (i5_ + (1)))) h2
 else
 spec_l01Tile_C0 S K h
theorem spec_l01Tile_link0 (S : SatT) (K : AVal → H → Prop) (X0 : Frame → H → Prop) (i0_ : Int) (p3_ : Pt) (i5_ : Int) (h : H) : spec_l01Tile_w0 S K X0 (spec_l01Tile_e0 i0_ p3_ i5_) h = spec_l01Tile_b0 S K X0 i0_ p3_ i5_ h := by kernel_rfl
theorem spec_l01Tile_rule0 (S : SatT) (K : AVal → H → Prop) (i0_ : Int) (p3_ : Pt) (I_ : Int → H → Prop) (m_ : Int → H → Nat)
    (hs : ∀ (X0 : Frame → H → Prop) (i5_ : Int) (h : H), I_ i5_ h → (∀ (i5_' : Int) (h' : H), I_ i5_' h' → m_ i5_' h' < m_ i5_ h → X0 (spec_l01Tile_e0 i0_ p3_ i5_') h') → spec_l01Tile_b0 S K X0 i0_ p3_ i5_ h) (i5_ : Int) {h : H} (h0 : I_ i5_ h) : spec_l01Tile_L0 S K i0_ p3_ i5_ h :=
  loop_rule (σ := (Int)) (fun s_ => spec_l01Tile_e0 i0_ p3_ (s_)) (fun s_ h => I_ (s_) h) (fun s_ h => m_ (s_) h)
    (fun X s_ h hi hx => (spec_l01Tile_link0 S K X i0_ p3_ (s_) h).mpr (hs X (s_) h hi fun i5_' h' hi' hm' => hx (i5_') h' hi' hm')) (i5_) h0
theorem spec_l01Tile_unroll0 (S : SatT) (K : AVal → H → Prop) (i0_ : Int) (p3_ : Pt) (i5_ : Int) (h : H) (hb : spec_l01Tile_b0 S K (fun fr h => loopK (spec_l01Tile_w0 S K) fr h) i0_ p3_ i5_ h) : spec_l01Tile_L0 S K i0_ p3_ i5_ h := loop_unroll ((spec_l01Tile_link0 S K _ i0_ p3_ i5_ h).mpr hb)
def spec_l01Tile_main (S : SatT) (K : AVal → H → Prop) (x0 : Int) (x1 : List AVal) (h : H) : Prop :=
 newK 4 x1 h fun p0 h1 =>
 spec_l01Tile_L0 S K x0 p0 (0) h1
theorem spec_l01Tile_main_link (S : SatT) (K : AVal → H → Prop) (x0 : Int) (x1 : List AVal) (h : H) : cwp S tab spec_l01Tile_M [] (bodyOf Try.f72) (kFun tab Try.f72.results.toList K) (fr0 Try.f72 [.int .i64 x0, .agg x1]) h = spec_l01Tile_main S K x0 x1 h := by kernel_rfl
theorem spec_l01Tile_call (x0 : Int) (x1 : List AVal) (h : H) (K : Bool → H → Prop) (hm : spec_l01Tile_main (Sat Try.prog) (fun v h' => ∃ r, v = .bool r ∧ K r h') x0 x1 h) : callB (Sat Try.prog) i_spec_l01Tile [.int .i64 x0, .agg x1] h K := by
  have := Sat.ex tok mixed spec_l01Tile_M Try.func72 (c := bodyOf Try.f72) (by kernel_rfl) (calls_of Try.func72 (c := bodyOf Try.f72) (by kernel_rfl) (by decide)) ((spec_l01Tile_main_link _ _ x0 x1 h).mpr hm)
  obtain ⟨v, h2, h3, r, rfl, h4⟩ := this; exact ⟨r, h2, h3, h4⟩

/-! ### (loop.example/g01354/impl.Tile).sides -/
def impl_Tile_sides_M : Nat → List Nat := fun i => []
def impl_Tile_sides_main (S : SatT) (K : AVal → H → Prop) (x0 : List AVal) (x1 : Int) (x2 : Int) (x3 : Int) (x4 : Int) (h : H) : Prop :=
 newK 4 x0 h fun p0 h1 =>
 newO [.int .i64 (0), .int .i64 (0), .int .i64 (0), .int .i64 (0)] h1 fun p2 h3 =>
 ixA p0 4 1 x1 fun p4 =>
 ldI .i64 p4 h3 fun n5 =>
 ixA p0 4 1 x2 fun p6 =>
 ldI .i64 p6 h3 fun n7 =>
 ixA p0 4 1 x3 fun p8 =>
 ldI .i64 p8 h3 fun n9 =>
 ixA p0 4 1 x4 fun p10 =>
 ldI .i64 p10 h3 fun n11 =>
 stN p2 4 [.int .i64 n5, .int .i64 n7, .int .i64 n9, .int .i64 n11] h3 fun h12 =>
 ldA p2 4 h12 fun cs13 =>
 K (.agg cs13) h12
theorem impl_Tile_sides_main_link (S : SatT) (K : AVal → H → Prop) (x0 : List AVal) (x1 : Int) (x2 : Int) (x3 : Int) (x4 : Int) (h : H) : cwp S tab impl_Tile_sides_M [] (bodyOf Try.f52) (kFun tab Try.f52.results.toList K) (fr0 Try.f52 [.agg x0, .int .i64 x1, .int .i64 x2, .int .i64 x3, .int .i64 x4]) h = impl_Tile_sides_main S K x0 x1 x2 x3 x4 h := by kernel_rfl
theorem impl_Tile_sides_call (x0 : List AVal) (x1 : Int) (x2 : Int) (x3 : Int) (x4 : Int) (h : H) (K : List AVal → H → Prop) (hm : impl_Tile_sides_main (Sat Try.prog) (fun v h' => ∃ r, v = .agg r ∧ K r h') x0 x1 x2 x3 x4 h) : callA (Sat Try.prog) i_impl_Tile_sides [.agg x0, .int .i64 x1, .int .i64 x2, .int .i64 x3, .int .i64 x4] h K := by
  have := Sat.ex tok mixed impl_Tile_sides_M Try.func52 (c := bodyOf Try.f52) (by kernel_rfl) (calls_of Try.func52 (c := bodyOf Try.f52) (by kernel_rfl) (by decide)) ((impl_Tile_sides_main_link _ _ x0 x1 x2 x3 x4 h).mpr hm)
  obtain ⟨v, h2, h3, r, rfl, h4⟩ := this; exact ⟨r, h2, h3, h4⟩

/-! ### loop.example/g01354/impl.isBoardSize -/
def impl_isBoardSize_M : Nat → List Nat := fun i => []
def impl_isBoardSize_main (S : SatT) (K : AVal → H → Prop) (x0 : Sl) (x1 : Int) (x2 : Int) (x3 : Int) (h : H) : Prop :=
 callB S i_impl_isBoardOf [.sl x0, .int .i64 x1] h fun b1 h0 =>
 bif b1 then
 callB S i_impl_within [.int .i64 x2, .int .i64 (1), .int .i64 (6)] h0 fun b3 h2 =>
 bif b3 then
 callB S i_impl_within [.int .i64 x3, .int .i64 (1), .int .i64 (6)] h2 fun b5 h4 =>
 bif b5 then
 K (.bool ((w64 (x2 * x3)) == (x0.len : Int))) h4
 else
 K (.bool false) h4
 else
 K (.bool false) h2
 else
 K (.bool false) h0
theorem impl_isBoardSize_main_link (S : SatT) (K : AVal → H → Prop) (x0 : Sl) (x1 : Int) (x2 : Int) (x3 : Int) (h : H) : cwp S tab impl_isBoardSize_M [] (bodyOf Try.f56) (kFun tab Try.f56.results.toList K) (fr0 Try.f56 [.sl x0, .int .i64 x1, .int .i64 x2, .int .i64 x3]) h = impl_isBoardSize_main S K x0 x1 x2 x3 h := by kernel_rfl
theorem impl_isBoardSize_call (x0 : Sl) (x1 : Int) (x2 : Int) (x3 : Int) (h : H) (K : Bool → H → Prop) (hm : impl_isBoardSize_main (Sat Try.prog) (fun v h' => ∃ r, v = .bool r ∧ K r h') x0 x1 x2 x3 h) : callB (Sat Try.prog) i_impl_isBoardSize [.sl x0, .int .i64 x1, .int .i64 x2, .int .i64 x3] h K := by
  have := Sat.ex tok mixed impl_isBoardSize_M Try.func56 (c := bodyOf Try.f56) (by kernel_rfl) (calls_of Try.func56 (c := bodyOf Try.f56) (by kernel_rfl) (by decide)) ((impl_isBoardSize_main_link _ _ x0 x1 x2 x3 h).mpr hm)
  obtain ⟨v, h2, h3, r, rfl, h4⟩ := this; exact ⟨r, h2, h3, h4⟩

/-! ### loop.example/g01354/impl.IsBoard -/
def impl_IsBoard_M : Nat → List Nat := fun i => []
def impl_IsBoard_main (S : SatT) (K : AVal → H → Prop) (x0 : Sl) (x1 : Int) (x2 : Sl) (h : H) : Prop :=
 callB S i_impl_isBoardOf [.sl x0, .int .i64 x1] h fun b1 h0 =>
 bif (!b1) then
 K (.tuple [.bool false, .int .i64 (2)]) h0
 else
 callB S i_impl_areRows [.sl x2] h0 fun b3 h2 =>
 bif (!b3) then
 K (.tuple [.bool false, .int .i64 (2)]) h2
 else
 callV S i_impl_placed [.sl x0, .int .i64 x1, .sl x2] h2 fun v5 h4 =>
 viaT v5 fun vs6 =>
 exS vs6 0 fun s7 =>
 viaT v5 fun vs8 =>
 exB vs8 1 fun b9 =>
 K (.tuple [.bool b9, .int .i64 (0)]) h4
theorem impl_IsBoard_main_link (S : SatT) (K : AVal → H → Prop) (x0 : Sl) (x1 : Int) (x2 : Sl) (h : H) : cwp S tab impl_IsBoard_M [] (bodyOf Try.f39) (kFun tab Try.f39.results.toList K) (fr0 Try.f39 [.sl x0, .int .i64 x1, .sl x2]) h = impl_IsBoard_main S K x0 x1 x2 h := by kernel_rfl
theorem impl_IsBoard_call (x0 : Sl) (x1 : Int) (x2 : Sl) (h : H) (K : AVal → H → Prop) (hm : impl_IsBoard_main (Sat Try.prog) (fun v h' => K v h') x0 x1 x2 h) : callV (Sat Try.prog) i_impl_IsBoard [.sl x0, .int .i64 x1, .sl x2] h K := by
  have := Sat.ex tok mixed impl_IsBoard_M Try.func39 (c := bodyOf Try.f39) (by kernel_rfl) (calls_of Try.func39 (c := bodyOf Try.f39) (by kernel_rfl) (by decide)) ((impl_IsBoard_main_link _ _ x0 x1 x2 h).mpr hm)
  exact this

/-! ### (loop.example/g01354/impl.Tile).class -/
def impl_Tile_class_M : Nat → List Nat := fun i => []
def impl_Tile_class_main (S : SatT) (K : AVal → H → Prop) (x0 : List AVal) (h : H) : Prop :=
 newK 4 x0 h fun p0 h1 =>
 newO [.int .i64 (0), .int .i64 (0), .int .i64 (0), .int .i64 (0)] h1 fun p2 h3 =>
 ldA p0 4 h3 fun cs4 =>
 callS S i_impl_Tile_turns [.agg cs4] h3 fun s6 h5 =>
 callA S i_slices_MinFunc_s_impl_Tile_impl_Tile_ [.sl s6, .func 79 []] h5 fun cs8 h7 =>
 stN p2 4 cs8 h7 fun h9 =>
 ldA p2 4 h9 fun cs10 =>
 K (.agg cs10) h9
theorem impl_Tile_class_main_link (S : SatT) (K : AVal → H → Prop) (x0 : List AVal) (h : H) : cwp S tab impl_Tile_class_M [] (bodyOf Try.f53) (kFun tab Try.f53.results.toList K) (fr0 Try.f53 [.agg x0]) h = impl_Tile_class_main S K x0 h := by kernel_rfl
theorem impl_Tile_class_call (x0 : List AVal) (h : H) (K : List AVal → H → Prop) (hm : impl_Tile_class_main (Sat Try.prog) (fun v h' => ∃ r, v = .agg r ∧ K r h') x0 h) : callA (Sat Try.prog) i_impl_Tile_class [.agg x0] h K := by
  have := Sat.ex tok mixed impl_Tile_class_M Try.func53 (c := bodyOf Try.f53) (by kernel_rfl) (calls_of Try.func53 (c := bodyOf Try.f53) (by kernel_rfl) (by decide)) ((impl_Tile_class_main_link _ _ x0 h).mpr hm)
  obtain ⟨v, h2, h3, r, rfl, h4⟩ := this; exact ⟨r, h2, h3, h4⟩

/-! ### loop.example/g01354/impl.isTile$1 -/
def impl_isTile_1_M : Nat → List Nat := fun i => []
def impl_isTile_1_main (S : SatT) (K : AVal → H → Prop) (x0 : Int) (x1 : Pt) (h : H) : Prop :=
 ldI .i64 x1 h fun n0 =>
 callB S i_impl_within [.int .i64 x0, .int .i64 (0), .int .i64 (w64 (n0 - (1)))] h fun b2 h1 =>
 K (.bool (!b2)) h1
theorem impl_isTile_1_main_link (S : SatT) (K : AVal → H → Prop) (x0 : Int) (x1 : Pt) (h : H) : cwp S tab impl_isTile_1_M [] (bodyOf Try.f91) (kFun tab Try.f91.results.toList K) (fr0 Try.f91 [.int .i64 x0, .ptr x1]) h = impl_isTile_1_main S K x0 x1 h := by kernel_rfl
theorem impl_isTile_1_call (x0 : Int) (x1 : Pt) (h : H) (K : Bool → H → Prop) (hm : impl_isTile_1_main (Sat Try.prog) (fun v h' => ∃ r, v = .bool r ∧ K r h') x0 x1 h) : callB (Sat Try.prog) i_impl_isTile_1 [.int .i64 x0, .ptr x1] h K := by
  have := Sat.ex tok mixed impl_isTile_1_M Try.func91 (c := bodyOf Try.f91) (by kernel_rfl) (calls_of Try.func91 (c := bodyOf Try.f91) (by kernel_rfl) (by decide)) ((impl_isTile_1_main_link _ _ x0 x1 h).mpr hm)
  obtain ⟨v, h2, h3, r, rfl, h4⟩ := this; exact ⟨r, h2, h3, h4⟩

/-! ### loop.example/g01354/impl.areTiles$1 -/
def impl_areTiles_1_M : Nat → List Nat := fun i => []
def impl_areTiles_1_main (S : SatT) (K : AVal → H → Prop) (x0 : List AVal) (h : H) : Prop :=
 newK 4 x0 h fun p0 h1 =>
 ldA p0 4 h1 fun cs2 =>
 callB S i_impl_isTile [.agg cs2, .int .i64 (6)] h1 fun b4 h3 =>
 K (.bool (!b4)) h3
theorem impl_areTiles_1_main_link (S : SatT) (K : AVal → H → Prop) (x0 : List AVal) (h : H) : cwp S tab impl_areTiles_1_M [] (bodyOf Try.f74) (kFun tab Try.f74.results.toList K) (fr0 Try.f74 [.agg x0]) h = impl_areTiles_1_main S K x0 h := by kernel_rfl
theorem impl_areTiles_1_call (x0 : List AVal) (h : H) (K : Bool → H → Prop) (hm : impl_areTiles_1_main (Sat Try.prog) (fun v h' => ∃ r, v = .bool r ∧ K r h') x0 h) : callB (Sat Try.prog) i_impl_areTiles_1 [.agg x0] h K := by
  have := Sat.ex tok mixed impl_areTiles_1_M Try.func74 (c := bodyOf Try.f74) (by kernel_rfl) (calls_of Try.func74 (c := bodyOf Try.f74) (by kernel_rfl) (by decide)) ((impl_areTiles_1_main_link _ _ x0 h).mpr hm)
  obtain ⟨v, h2, h3, r, rfl, h4⟩ := this; exact ⟨r, h2, h3, h4⟩

end Go.Proofs.Ytekfmmcolgjdmaa.Cl
