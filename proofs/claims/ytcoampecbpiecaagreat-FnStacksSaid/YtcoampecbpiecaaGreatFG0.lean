/- Typed forms of functions, and their links. No claim is stated here. -/
import Derived.Test.YtcoampecbpiecaaGreatFT
/- Typed forms of functions of the program, and their links. Printed by program. No claim is stated here. -/
set_option linter.unusedVariables false
namespace Go.Proofs.YtcoampecbpiecaaGreat.Cl
open Go
/-! ### loop.example/g01354/impl.pairs -/
def impl_pairs_M : Nat → List Nat := fun i => bif i == 2 then [0, 1, 5, 6, 8, 16, 17, 18, 22, 23] else bif i == 0 then [0, 1, 5, 6, 16, 17, 18] else []
def impl_pairs_ks2 (S : SatT) (K : AVal → H → Prop) : Kont := kSeq (cwp S tab impl_pairs_M [] (sub [1, 1, 1] (bodyOf Tryz.f51)) (kFun tab (Tryz.f51).results.toList K)) (kFun tab (Tryz.f51).results.toList K)
def impl_pairs_e0 (s0_ : Sl) (s1_ : Sl) (f5_ : AVal) (s6_ : Sl) (s16_ : Sl) (i17_ : Int) (i18_ : Int) : Frame := [.sl s0_, .sl s1_, U, U, U, f5_, .sl s6_, U, U, U, U, U, U, U, U, U, .sl s16_, .int .i64 i17_, .int .i64 i18_, U, U, U, U, U, U, U, U, U, U, U, U, U, U, U, U, U, U, U, U, U, U, U, U, U, U, U, U, U, U, U, U, U, U]
def impl_pairs_w0 (S : SatT) (K : AVal → H → Prop) : (Frame → H → Prop) → Frame → H → Prop := fun X fr h => cwp S tab impl_pairs_M (impl_pairs_M 0) (sub [1, 1, 0, 1, 0, 0] (bodyOf Tryz.f51)) (kSeq (fun fr h => X (mask (impl_pairs_M 0) fr) h) (kBlk 0 (impl_pairs_ks2 S K))) fr h
def impl_pairs_L0 (S : SatT) (K : AVal → H → Prop) (s0_ : Sl) (s1_ : Sl) (f5_ : AVal) (s6_ : Sl) (s16_ : Sl) (i17_ : Int) (i18_ : Int) (h : H) : Prop := loopK (impl_pairs_w0 S K) (impl_pairs_e0 s0_ s1_ f5_ s6_ s16_ i17_ i18_) h
def impl_pairs_ks6 (S : SatT) (K : AVal → H → Prop) (X0 : Frame → H → Prop) : Kont := kSeq (cwp S tab impl_pairs_M (impl_pairs_M 0) (sub [1, 1, 0, 1, 0, 0, 1, 1, 1] (bodyOf Tryz.f51)) (kSeq (fun fr h => X0 (mask (impl_pairs_M 0) fr) h) (kBlk 0 (impl_pairs_ks2 S K)))) (kSeq (fun fr h => X0 (mask (impl_pairs_M 0) fr) h) (kBlk 0 (impl_pairs_ks2 S K)))
def impl_pairs_e2 (s0_ : Sl) (s1_ : Sl) (f5_ : AVal) (s6_ : Sl) (p8_ : Pt) (s16_ : Sl) (i17_ : Int) (i18_ : Int) (a22_ : List AVal) (i23_ : Int) : Frame := [.sl s0_, .sl s1_, U, U, U, f5_, .sl s6_, U, .ptr p8_, U, U, U, U, U, U, U, .sl s16_, .int .i64 i17_, .int .i64 i18_, U, U, U, .agg a22_, .int .i64 i23_, U, U, U, U, U, U, U, U, U, U, U, U, U, U, U, U, U, U, U, U, U, U, U, U, U, U, U, U, U]
def impl_pairs_w2 (S : SatT) (K : AVal → H → Prop) (X0 : Frame → H → Prop) : (Frame → H → Prop) → Frame → H → Prop := fun X fr h => cwp S tab impl_pairs_M (impl_pairs_M 2) (sub [1, 1, 0, 1, 0, 0, 1, 1, 0, 0, 1, 1, 0, 0] (bodyOf Tryz.f51)) (kSeq (fun fr h => X (mask (impl_pairs_M 2) fr) h) (kBlk 2 (kBlk 1 (impl_pairs_ks6 S K X0)))) fr h
def impl_pairs_L2 (S : SatT) (K : AVal → H → Prop) (X0 : Frame → H → Prop) (s0_ : Sl) (s1_ : Sl) (f5_ : AVal) (s6_ : Sl) (p8_ : Pt) (s16_ : Sl) (i17_ : Int) (i18_ : Int) (a22_ : List AVal) (i23_ : Int) (h : H) : Prop := loopK (impl_pairs_w2 S K X0) (impl_pairs_e2 s0_ s1_ f5_ s6_ p8_ s16_ i17_ i18_ a22_ i23_) h
def impl_pairs_C1 (S : SatT) (K : AVal → H → Prop) (X0 : Frame → H → Prop) (s0_ : Sl) (s1_ : Sl) (f5_ : AVal) (s6_ : Sl) (s16_ : Sl) (i17_ : Int) (i18_ : Int) (h : H) : Prop :=
 X0 (impl_pairs_e0 s0_ s1_ f5_ s6_ s16_ i17_ (w64 (i18_ + (1)))) h
def impl_pairs_C2 (S : SatT) (K : AVal → H → Prop) (X0 : Frame → H → Prop) (s0_ : Sl) (s1_ : Sl) (f5_ : AVal) (s6_ : Sl) (s16_ : Sl) (i17_ : Int) (i18_ : Int) (h : H) : Prop :=
 impl_pairs_C1 S K X0 s0_ s1_ f5_ s6_ s16_ i17_ i18_ h
def impl_pairs_b2 (S : SatT) (K : AVal → H → Prop) (X0 : Frame → H → Prop) (X2 : Frame → H → Prop) (s0_ : Sl) (s1_ : Sl) (f5_ : AVal) (s6_ : Sl) (p8_ : Pt) (s16_ : Sl) (i17_ : Int) (i18_ : Int) (a22_ : List AVal) (i23_ : Int) (h : H) : Prop :=
 bif (decide (i23_ < (2))) then
 lenA a22_ 2 (
 partI .i64 a22_ i23_ fun n0 =>
 slotK 14 h fun h1 =>
 ixA p8_ 2 1 (0) fun p2 =>
 ldI .i64 p2 h1 fun n3 =>
 ixS s0_ 4 n3 fun p4 =>
 ldA p4 4 h1 fun cs5 =>
 ixA p8_ 2 1 (1) fun p6 =>
 ldI .i64 p6 h1 fun n7 =>
 ixS s1_ 4 n7 fun p8 =>
 ldA p8 4 h1 fun cs9 =>
 callA S i_impl_pairOf [.agg cs5, .agg cs9, .int .i64 n0] h1 fun cs11 h10 =>
 newOat [.int .i64 (0), .int .i64 (0)] h10 (h.length + 12) fun p12 h13 =>
(range h10 p8.o p8.n p8.off 4 = range h1 p8.o p8.n p8.off 4) ∧ (
(cell h10 p6 = cell h1 p6) ∧ (
(range h10 p4.o p4.n p4.off 4 = range h1 p4.o p4.n p4.off 4) ∧ (
(cell h10 p2 = cell h1 p2) ∧ (
(range h13 p8.o p8.n p8.off 4 = range h1 p8.o p8.n p8.off 4) ∧ (
(cell h13 p6 = cell h1 p6) ∧ (
(range h13 p4.o p4.n p4.off 4 = range h1 p4.o p4.n p4.off 4) ∧ (
(cell h13 p2 = cell h1 p2) ∧ (
 stN p12 2 cs11 h13 fun h14 =>
 ldA p12 2 h14 fun cs15 =>
 keyA 2 cs15 (
 mgetB f5_ (.agg cs15) h14 fun b16 =>
 bif (!b16) then
 ldA p12 2 h14 fun cs17 =>
 keyA 2 cs17 (
 mput f5_ (.agg cs17) (.bool true) h14 fun h18 =>
 ldA p12 2 h18 fun cs19 =>
 lenA cs19 2 (
 newS 1 2 (spl [.int .i64 (0), .int .i64 (0)] 0 2 cs19) h18 fun s20 h21 =>
 app s6_ s20 2 h21 fun s22 h23 =>
 X2 (impl_pairs_e2 s0_ s1_ f5_ s22 p8_ s16_ i17_ i18_ a22_ (w64 (i23_ + (1)))) h23))
 else
 X2 (impl_pairs_e2 s0_ s1_ f5_ s6_ p8_ s16_ i17_ i18_ a22_ (w64 (i23_ + (1)))) h14))))))))))
 else
 impl_pairs_C2 S K X0 s0_ s1_ f5_ s6_ s16_ i17_ i18_ h
theorem impl_pairs_link2 (S : SatT) (K : AVal → H → Prop) (X0 : Frame → H → Prop) (X2 : Frame → H → Prop) (s0_ : Sl) (s1_ : Sl) (f5_ : AVal) (s6_ : Sl) (p8_ : Pt) (s16_ : Sl) (i17_ : Int) (i18_ : Int) (a22_ : List AVal) (i23_ : Int) (h : H) : impl_pairs_w2 S K X0 X2 (impl_pairs_e2 s0_ s1_ f5_ s6_ p8_ s16_ i17_ i18_ a22_ i23_) h = impl_pairs_b2 S K X0 X2 s0_ s1_ f5_ s6_ p8_ s16_ i17_ i18_ a22_ i23_ h := by kernel_rfl
theorem impl_pairs_rule2 (S : SatT) (K : AVal → H → Prop) (X0 : Frame → H → Prop) (s0_ : Sl) (s1_ : Sl) (f5_ : AVal) (p8_ : Pt) (s16_ : Sl) (i17_ : Int) (i18_ : Int) (a22_ : List AVal) (I_ : Sl → Int → H → Prop) (m_ : Sl → Int → H → Nat)
    (hs : ∀ (X2 : Frame → H → Prop) (s6_ : Sl) (i23_ : Int) (h : H), I_ s6_ i23_ h → (∀ (s6_' : Sl) (i23_' : Int) (h' : H), I_ s6_' i23_' h' → m_ s6_' i23_' h' < m_ s6_ i23_ h → X2 (impl_pairs_e2 s0_ s1_ f5_ s6_' p8_ s16_ i17_ i18_ a22_ i23_') h') → impl_pairs_b2 S K X0 X2 s0_ s1_ f5_ s6_ p8_ s16_ i17_ i18_ a22_ i23_ h) (s6_ : Sl) (i23_ : Int) {h : H} (h0 : I_ s6_ i23_ h) : impl_pairs_L2 S K X0 s0_ s1_ f5_ s6_ p8_ s16_ i17_ i18_ a22_ i23_ h :=
  loop_rule (σ := (Sl) × (Int)) (fun s_ => impl_pairs_e2 s0_ s1_ f5_ (s_.1) p8_ s16_ i17_ i18_ a22_ (s_.2)) (fun s_ h => I_ (s_.1) (s_.2) h) (fun s_ h => m_ (s_.1) (s_.2) h)
    (fun X s_ h hi hx => (impl_pairs_link2 S K X0 X s0_ s1_ f5_ (s_.1) p8_ s16_ i17_ i18_ a22_ (s_.2) h).mpr (hs X (s_.1) (s_.2) h hi fun s6_' i23_' h' hi' hm' => hx (s6_', i23_') h' hi' hm')) (s6_, i23_) h0
def impl_pairs_C0 (S : SatT) (K : AVal → H → Prop) (s6_ : Sl) (h : H) : Prop :=
 callV S i_slices_SortFunc_s__2_int64__2_int64_ [.sl s6_, .func 103 []] h fun v1 h0 =>
 K (.sl s6_) h0
def impl_pairs_b0 (S : SatT) (K : AVal → H → Prop) (X0 : Frame → H → Prop) (s0_ : Sl) (s1_ : Sl) (f5_ : AVal) (s6_ : Sl) (s16_ : Sl) (i17_ : Int) (i18_ : Int) (h : H) : Prop :=
 bif (decide (i18_ < i17_)) then
 ixS s16_ 2 i18_ fun p0 =>
 ldA p0 2 h fun cs1 =>
 newO [.int .i64 (0), .int .i64 (0)] h fun p2 h3 =>
 stN p2 2 cs1 h3 fun h4 =>
 impl_pairs_L2 S K X0 s0_ s1_ f5_ s6_ p2 s16_ i17_ i18_ [.int .i64 (0), .int .i64 (2)] (0) h4
 else
 impl_pairs_C0 S K s6_ h
theorem impl_pairs_link0 (S : SatT) (K : AVal → H → Prop) (X0 : Frame → H → Prop) (s0_ : Sl) (s1_ : Sl) (f5_ : AVal) (s6_ : Sl) (s16_ : Sl) (i17_ : Int) (i18_ : Int) (h : H) : impl_pairs_w0 S K X0 (impl_pairs_e0 s0_ s1_ f5_ s6_ s16_ i17_ i18_) h = impl_pairs_b0 S K X0 s0_ s1_ f5_ s6_ s16_ i17_ i18_ h := by kernel_rfl
theorem impl_pairs_rule0 (S : SatT) (K : AVal → H → Prop) (s0_ : Sl) (s1_ : Sl) (f5_ : AVal) (s16_ : Sl) (i17_ : Int) (I_ : Sl → Int → H → Prop) (m_ : Sl → Int → H → Nat)
    (hs : ∀ (X0 : Frame → H → Prop) (s6_ : Sl) (i18_ : Int) (h : H), I_ s6_ i18_ h → (∀ (s6_' : Sl) (i18_' : Int) (h' : H), I_ s6_' i18_' h' → m_ s6_' i18_' h' < m_ s6_ i18_ h → X0 (impl_pairs_e0 s0_ s1_ f5_ s6_' s16_ i17_ i18_') h') → impl_pairs_b0 S K X0 s0_ s1_ f5_ s6_ s16_ i17_ i18_ h) (s6_ : Sl) (i18_ : Int) {h : H} (h0 : I_ s6_ i18_ h) : impl_pairs_L0 S K s0_ s1_ f5_ s6_ s16_ i17_ i18_ h :=
  loop_rule (σ := (Sl) × (Int)) (fun s_ => impl_pairs_e0 s0_ s1_ f5_ (s_.1) s16_ i17_ (s_.2)) (fun s_ h => I_ (s_.1) (s_.2) h) (fun s_ h => m_ (s_.1) (s_.2) h)
    (fun X s_ h hi hx => (impl_pairs_link0 S K X s0_ s1_ f5_ (s_.1) s16_ i17_ (s_.2) h).mpr (hs X (s_.1) (s_.2) h hi fun s6_' i18_' h' hi' hm' => hx (s6_', i18_') h' hi' hm')) (s6_, i18_) h0
def impl_pairs_main (S : SatT) (K : AVal → H → Prop) (x0 : Sl) (x1 : Sl) (h : H) : Prop :=
 newM h fun v0 h1 =>
 newS 0 2 [] h1 fun s2 h3 =>
 callS S i_impl_stacked [.sl x0, .sl x1] h3 fun s5 h4 =>
 impl_pairs_L0 S K x0 x1 v0 s2 s5 (s5.len : Int) (0) h4
theorem impl_pairs_main_link (S : SatT) (K : AVal → H → Prop) (x0 : Sl) (x1 : Sl) (h : H) : cwp S tab impl_pairs_M [] (bodyOf Tryz.f51) (kFun tab Tryz.f51.results.toList K) (fr0 Tryz.f51 [.sl x0, .sl x1]) h = impl_pairs_main S K x0 x1 h := by kernel_rfl
theorem impl_pairs_call (x0 : Sl) (x1 : Sl) (h : H) (K : Sl → H → Prop) (hm : impl_pairs_main (Sat Tryz.prog) (fun v h' => ∃ r, v = .sl r ∧ K r h') x0 x1 h) : callS (Sat Tryz.prog) i_impl_pairs [.sl x0, .sl x1] h K := by
  have := Sat.ex tok mixed impl_pairs_M Tryz.func51 (c := bodyOf Tryz.f51) (by kernel_rfl) (calls_of Tryz.func51 (c := bodyOf Tryz.f51) (by kernel_rfl) (by decide)) ((impl_pairs_main_link _ _ x0 x1 h).mpr hm)
  obtain ⟨v, h2, h3, r, rfl, h4⟩ := this; exact ⟨r, h2, h3, h4⟩

/-! ### loop.example/g01354/spec.l04Made -/
def spec_l04Made_M : Nat → List Nat := fun i => bif i == 2 then [2, 3, 4, 6, 7, 8, 9] else bif i == 0 then [2, 3, 4, 6, 7, 8] else []
def spec_l04Made_ks2 (S : SatT) (K : AVal → H → Prop) : Kont := kSeq (cwp S tab spec_l04Made_M [] (sub [1, 1, 1] (bodyOf Tryz.f50)) (kFun tab (Tryz.f50).results.toList K)) (kFun tab (Tryz.f50).results.toList K)
def spec_l04Made_e0 (p2_ : Pt) (p3_ : Pt) (p4_ : Pt) (s6_ : Sl) (s7_ : Sl) (i8_ : Int) : Frame := [U, U, .ptr p2_, .ptr p3_, .ptr p4_, U, .sl s6_, .sl s7_, .int .i64 i8_, U, U, U, U, U, U, U, U, U, U, U, U, U, U, U, U, U, U, U, U, U, U, U, U, U, U, U, U, U, U, U, U, U, U, U, U, U, U, U, U, U, U, U, U, U, U, U, U, U, U, U, U, U, U, U, U, U, U, U, U, U, U, U, U, U, U, U, U]
def spec_l04Made_w0 (S : SatT) (K : AVal → H → Prop) : (Frame → H → Prop) → Frame → H → Prop := fun X fr h => cwp S tab spec_l04Made_M (spec_l04Made_M 0) (sub [1, 1, 0, 1, 0, 0] (bodyOf Tryz.f50)) (kSeq (fun fr h => X (mask (spec_l04Made_M 0) fr) h) (kBlk 0 (spec_l04Made_ks2 S K))) fr h
def spec_l04Made_L0 (S : SatT) (K : AVal → H → Prop) (p2_ : Pt) (p3_ : Pt) (p4_ : Pt) (s6_ : Sl) (s7_ : Sl) (i8_ : Int) (h : H) : Prop := loopK (spec_l04Made_w0 S K) (spec_l04Made_e0 p2_ p3_ p4_ s6_ s7_ i8_) h
def spec_l04Made_ks6 (S : SatT) (K : AVal → H → Prop) (X0 : Frame → H → Prop) : Kont := kSeq (cwp S tab spec_l04Made_M (spec_l04Made_M 0) (sub [1, 1, 0, 1, 0, 0, 1, 1] (bodyOf Tryz.f50)) (kSeq (fun fr h => X0 (mask (spec_l04Made_M 0) fr) h) (kBlk 0 (spec_l04Made_ks2 S K)))) (kSeq (fun fr h => X0 (mask (spec_l04Made_M 0) fr) h) (kBlk 0 (spec_l04Made_ks2 S K)))
def spec_l04Made_e2 (p2_ : Pt) (p3_ : Pt) (p4_ : Pt) (s6_ : Sl) (s7_ : Sl) (i8_ : Int) (i9_ : Int) : Frame := [U, U, .ptr p2_, .ptr p3_, .ptr p4_, U, .sl s6_, .sl s7_, .int .i64 i8_, .int .i64 i9_, U, U, U, U, U, U, U, U, U, U, U, U, U, U, U, U, U, U, U, U, U, U, U, U, U, U, U, U, U, U, U, U, U, U, U, U, U, U, U, U, U, U, U, U, U, U, U, U, U, U, U, U, U, U, U, U, U, U, U, U, U, U, U, U, U, U, U]
def spec_l04Made_w2 (S : SatT) (K : AVal → H → Prop) (X0 : Frame → H → Prop) : (Frame → H → Prop) → Frame → H → Prop := fun X fr h => cwp S tab spec_l04Made_M (spec_l04Made_M 2) (sub [1, 1, 0, 1, 0, 0, 1, 0, 0, 1, 0, 0] (bodyOf Tryz.f50)) (kSeq (fun fr h => X (mask (spec_l04Made_M 2) fr) h) (kBlk 2 (kBlk 1 (spec_l04Made_ks6 S K X0)))) fr h
def spec_l04Made_L2 (S : SatT) (K : AVal → H → Prop) (X0 : Frame → H → Prop) (p2_ : Pt) (p3_ : Pt) (p4_ : Pt) (s6_ : Sl) (s7_ : Sl) (i8_ : Int) (i9_ : Int) (h : H) : Prop := loopK (spec_l04Made_w2 S K X0) (spec_l04Made_e2 p2_ p3_ p4_ s6_ s7_ i8_ i9_) h
def spec_l04Made_C1 (S : SatT) (K : AVal → H → Prop) (X0 : Frame → H → Prop) (p2_ : Pt) (p3_ : Pt) (p4_ : Pt) (s6_ : Sl) (s7_ : Sl) (i8_ : Int) (h : H) : Prop :=
 X0 (spec_l04Made_e0 p2_ p3_ p4_ s6_ s7_ (w64 (i8_ + (1)))) h
def spec_l04Made_C2 (S : SatT) (K : AVal → H → Prop) (X0 : Frame → H → Prop) (p2_ : Pt) (p3_ : Pt) (p4_ : Pt) (s6_ : Sl) (s7_ : Sl) (i8_ : Int) (h : H) : Prop :=
 spec_l04Made_C1 S K X0 p2_ p3_ p4_ s6_ s7_ i8_ h
def spec_l04Made_b2 (S : SatT) (K : AVal → H → Prop) (X0 : Frame → H → Prop) (X2 : Frame → H → Prop) (p2_ : Pt) (p3_ : Pt) (p4_ : Pt) (s6_ : Sl) (s7_ : Sl) (i8_ : Int) (i9_ : Int) (h : H) : Prop :=
 isPt p3_ (
 ldS (Pt.add p3_ 1) h fun s0 =>
 bif (decide (i9_ < (s0.len : Int))) then
 isPt p2_ (
 ldS (Pt.add p2_ 1) h fun s1 =>
 ixS s1 4 i8_ fun p2 =>
 ixA p2 4 1 (3) fun p3 =>
 ldI .i64 p3 h fun n4 =>
 isPt p3_ (
 ldS (Pt.add p3_ 1) h fun s5 =>
 ixS s5 4 i9_ fun p6 =>
 ixA p6 4 1 (1) fun p7 =>
 ldI .i64 p7 h fun n8 =>
 bif (n4 == n8) then
 isPt p2_ (
 ldS (Pt.add p2_ 1) h fun s9 =>
 ixS s9 4 i8_ fun p10 =>
 ldA p10 4 h fun cs11 =>
 isPt p3_ (
 ldS (Pt.add p3_ 1) h fun s12 =>
 ixS s12 4 i9_ fun p13 =>
 ldA p13 4 h fun cs14 =>
 callA S i_spec_l04Tile [.agg cs11, .agg cs14, .sl s6_] h fun cs16 h15 =>
 lenA cs16 4 (
 newS 1 4 (spl [.int .i64 (0), .int .i64 (0), .int .i64 (0), .int .i64 (0)] 0 4 cs16) h15 fun s17 h18 =>
 app s7_ s17 4 h18 fun s19 h20 =>
 X2 (spec_l04Made_e2 p2_ p3_ p4_ s6_ s19 i8_ (w64 (i9_ + (1)))) h20)))
 else
 X2 (spec_l04Made_e2 p2_ p3_ p4_ s6_ s7_ i8_ (w64 (i9_ + (1)))) h))
 else
 spec_l04Made_C2 S K X0 p2_ p3_ p4_ s6_ s7_ i8_ h)
theorem spec_l04Made_link2 (S : SatT) (K : AVal → H → Prop) (X0 : Frame → H → Prop) (X2 : Frame → H → Prop) (p2_ : Pt) (p3_ : Pt) (p4_ : Pt) (s6_ : Sl) (s7_ : Sl) (i8_ : Int) (i9_ : Int) (h : H) : spec_l04Made_w2 S K X0 X2 (spec_l04Made_e2 p2_ p3_ p4_ s6_ s7_ i8_ i9_) h = spec_l04Made_b2 S K X0 X2 p2_ p3_ p4_ s6_ s7_ i8_ i9_ h := by kernel_rfl
theorem spec_l04Made_rule2 (S : SatT) (K : AVal → H → Prop) (X0 : Frame → H → Prop) (p2_ : Pt) (p3_ : Pt) (p4_ : Pt) (s6_ : Sl) (i8_ : Int) (I_ : Sl → Int → H → Prop) (m_ : Sl → Int → H → Nat)
    (hs : ∀ (X2 : Frame → H → Prop) (s7_ : Sl) (i9_ : Int) (h : H), I_ s7_ i9_ h → (∀ (s7_' : Sl) (i9_' : Int) (h' : H), I_ s7_' i9_' h' → m_ s7_' i9_' h' < m_ s7_ i9_ h → X2 (spec_l04Made_e2 p2_ p3_ p4_ s6_ s7_' i8_ i9_') h') → spec_l04Made_b2 S K X0 X2 p2_ p3_ p4_ s6_ s7_ i8_ i9_ h) (s7_ : Sl) (i9_ : Int) {h : H} (h0 : I_ s7_ i9_ h) : spec_l04Made_L2 S K X0 p2_ p3_ p4_ s6_ s7_ i8_ i9_ h :=
  loop_rule (σ := (Sl) × (Int)) (fun s_ => spec_l04Made_e2 p2_ p3_ p4_ s6_ (s_.1) i8_ (s_.2)) (fun s_ h => I_ (s_.1) (s_.2) h) (fun s_ h => m_ (s_.1) (s_.2) h)
    (fun X s_ h hi hx => (spec_l04Made_link2 S K X0 X p2_ p3_ p4_ s6_ (s_.1) i8_ (s_.2) h).mpr (hs X (s_.1) (s_.2) h hi fun s7_' i9_' h' hi' hm' => hx (s7_', i9_') h' hi' hm')) (s7_, i9_) h0
def spec_l04Made_C0 (S : SatT) (K : AVal → H → Prop) (p2_ : Pt) (p3_ : Pt) (p4_ : Pt) (s6_ : Sl) (s7_ : Sl) (h : H) : Prop :=
 isPt p2_ (
 ldI .i64 (Pt.add p2_ 0) h fun n0 =>
 isPt p3_ (
 ldI .i64 (Pt.add p3_ 0) h fun n1 =>
 callS S i_spec_l01Sort [.sl s7_] h fun s3 h2 =>
 bif (decide ((mxI (mxI (s6_.len : Int) n0) n1) > (6))) then
 stN p4_ 2 [.int .i64 (0), .sl Sl.nil] h2 fun h4 =>
 ldA p4_ 2 h4 fun cs5 =>
 K (.tuple [.agg cs5, .int .i64 (3)]) h4
 else
 bif (decide ((s3.len : Int) > (16))) then
 stN p4_ 2 [.int .i64 (0), .sl Sl.nil] h2 fun h6 =>
 ldA p4_ 2 h6 fun cs7 =>
 K (.tuple [.agg cs7, .int .i64 (3)]) h6
 else
 callA S i_spec_l01Made [.int .i64 (mxI (mxI (s6_.len : Int) n0) n1), .sl s3] h2 fun cs9 h8 =>
 stN p4_ 2 cs9 h8 fun h10 =>
 ldA p4_ 2 h10 fun cs11 =>
 K (.tuple [.agg cs11, .int .i64 (0)]) h10))
def spec_l04Made_b0 (S : SatT) (K : AVal → H → Prop) (X0 : Frame → H → Prop) (p2_ : Pt) (p3_ : Pt) (p4_ : Pt) (s6_ : Sl) (s7_ : Sl) (i8_ : Int) (h : H) : Prop :=
 isPt p2_ (
 ldS (Pt.add p2_ 1) h fun s0 =>
 bif (decide (i8_ < (s0.len : Int))) then
 spec_l04Made_L2 S K X0 p2_ p3_ p4_ s6_ s7_ i8_ (0) h
 else
 spec_l04Made_C0 S K p2_ p3_ p4_ s6_ s7_ h)
theorem spec_l04Made_link0 (S : SatT) (K : AVal → H → Prop) (X0 : Frame → H → Prop) (p2_ : Pt) (p3_ : Pt) (p4_ : Pt) (s6_ : Sl) (s7_ : Sl) (i8_ : Int) (h : H) : spec_l04Made_w0 S K X0 (spec_l04Made_e0 p2_ p3_ p4_ s6_ s7_ i8_) h = spec_l04Made_b0 S K X0 p2_ p3_ p4_ s6_ s7_ i8_ h := by kernel_rfl
theorem spec_l04Made_rule0 (S : SatT) (K : AVal → H → Prop) (p2_ : Pt) (p3_ : Pt) (p4_ : Pt) (s6_ : Sl) (I_ : Sl → Int → H → Prop) (m_ : Sl → Int → H → Nat)
    (hs : ∀ (X0 : Frame → H → Prop) (s7_ : Sl) (i8_ : Int) (h : H), I_ s7_ i8_ h → (∀ (s7_' : Sl) (i8_' : Int) (h' : H), I_ s7_' i8_' h' → m_ s7_' i8_' h' < m_ s7_ i8_ h → X0 (spec_l04Made_e0 p2_ p3_ p4_ s6_ s7_' i8_') h') → spec_l04Made_b0 S K X0 p2_ p3_ p4_ s6_ s7_ i8_ h) (s7_ : Sl) (i8_ : Int) {h : H} (h0 : I_ s7_ i8_ h) : spec_l04Made_L0 S K p2_ p3_ p4_ s6_ s7_ i8_ h :=
  loop_rule (σ := (Sl) × (Int)) (fun s_ => spec_l04Made_e0 p2_ p3_ p4_ s6_ (s_.1) (s_.2)) (fun s_ h => I_ (s_.1) (s_.2) h) (fun s_ h => m_ (s_.1) (s_.2) h)
    (fun X s_ h hi hx => (spec_l04Made_link0 S K X p2_ p3_ p4_ s6_ (s_.1) (s_.2) h).mpr (hs X (s_.1) (s_.2) h hi fun s7_' i8_' h' hi' hm' => hx (s7_', i8_') h' hi' hm')) (s7_, i8_) h0
def spec_l04Made_main (S : SatT) (K : AVal → H → Prop) (x0 : List AVal) (x1 : List AVal) (h : H) : Prop :=
 newK 2 x0 h fun p0 h1 =>
 newK 2 x1 h1 fun p2 h3 =>
 newO [.int .i64 (0), .sl Sl.nil] h3 fun p4 h5 =>
 ldA p0 2 h5 fun cs6 =>
 ldA p2 2 h5 fun cs7 =>
 callS S i_spec_l04Pairs [.agg cs6, .agg cs7] h5 fun s9 h8 =>
 newS 0 4 [] h8 fun s10 h11 =>
 spec_l04Made_L0 S K p0 p2 p4 s9 s10 (0) h11
theorem spec_l04Made_main_link (S : SatT) (K : AVal → H → Prop) (x0 : List AVal) (x1 : List AVal) (h : H) : cwp S tab spec_l04Made_M [] (bodyOf Tryz.f50) (kFun tab Tryz.f50.results.toList K) (fr0 Tryz.f50 [.agg x0, .agg x1]) h = spec_l04Made_main S K x0 x1 h := by kernel_rfl
theorem spec_l04Made_call (x0 : List AVal) (x1 : List AVal) (h : H) (K : AVal → H → Prop) (hm : spec_l04Made_main (Sat Tryz.prog) (fun v h' => K v h') x0 x1 h) : callV (Sat Tryz.prog) i_spec_l04Made [.agg x0, .agg x1] h K := by
  have := Sat.ex tok mixed spec_l04Made_M Tryz.func50 (c := bodyOf Tryz.f50) (by kernel_rfl) (calls_of Tryz.func50 (c := bodyOf Tryz.f50) (by kernel_rfl) (by decide)) ((spec_l04Made_main_link _ _ x0 x1 h).mpr hm)
  exact this

/-! ### loop.example/g01354/impl.stacked -/
def impl_stacked_M : Nat → List Nat := fun i => bif i == 2 then [1, 5, 6, 7, 11, 12, 13, 18, 19, 20] else bif i == 0 then [1, 5, 11, 12, 13] else []
def impl_stacked_ks2 (S : SatT) (K : AVal → H → Prop) : Kont := kSeq (cwp S tab impl_stacked_M [] (sub [1, 1, 1] (bodyOf Tryz.f43)) (kFun tab (Tryz.f43).results.toList K)) (kFun tab (Tryz.f43).results.toList K)
def impl_stacked_e0 (s1_ : Sl) (s5_ : Sl) (s11_ : Sl) (i12_ : Int) (i13_ : Int) : Frame := [U, .sl s1_, U, U, U, .sl s5_, U, U, U, U, U, .sl s11_, .int .i64 i12_, .int .i64 i13_, U, U, U, U, U, U, U, U, U, U, U, U, U, U, U, U, U, U, U, U, U, U, U, U, U]
def impl_stacked_w0 (S : SatT) (K : AVal → H → Prop) : (Frame → H → Prop) → Frame → H → Prop := fun X fr h => cwp S tab impl_stacked_M (impl_stacked_M 0) (sub [1, 1, 0, 1, 0, 0] (bodyOf Tryz.f43)) (kSeq (fun fr h => X (mask (impl_stacked_M 0) fr) h) (kBlk 0 (impl_stacked_ks2 S K))) fr h
def impl_stacked_L0 (S : SatT) (K : AVal → H → Prop) (s1_ : Sl) (s5_ : Sl) (s11_ : Sl) (i12_ : Int) (i13_ : Int) (h : H) : Prop := loopK (impl_stacked_w0 S K) (impl_stacked_e0 s1_ s5_ s11_ i12_ i13_) h
def impl_stacked_ks6 (S : SatT) (K : AVal → H → Prop) (X0 : Frame → H → Prop) : Kont := kSeq (cwp S tab impl_stacked_M (impl_stacked_M 0) (sub [1, 1, 0, 1, 0, 0, 1, 1, 1] (bodyOf Tryz.f43)) (kSeq (fun fr h => X0 (mask (impl_stacked_M 0) fr) h) (kBlk 0 (impl_stacked_ks2 S K)))) (kSeq (fun fr h => X0 (mask (impl_stacked_M 0) fr) h) (kBlk 0 (impl_stacked_ks2 S K)))
def impl_stacked_e2 (s1_ : Sl) (s5_ : Sl) (i6_ : Int) (p7_ : Pt) (s11_ : Sl) (i12_ : Int) (i13_ : Int) (s18_ : Sl) (i19_ : Int) (i20_ : Int) : Frame := [U, .sl s1_, U, U, U, .sl s5_, .int .i64 i6_, .ptr p7_, U, U, U, .sl s11_, .int .i64 i12_, .int .i64 i13_, U, U, U, U, .sl s18_, .int .i64 i19_, .int .i64 i20_, U, U, U, U, U, U, U, U, U, U, U, U, U, U, U, U, U, U]
def impl_stacked_w2 (S : SatT) (K : AVal → H → Prop) (X0 : Frame → H → Prop) : (Frame → H → Prop) → Frame → H → Prop := fun X fr h => cwp S tab impl_stacked_M (impl_stacked_M 2) (sub [1, 1, 0, 1, 0, 0, 1, 1, 0, 0, 1, 1, 0, 0] (bodyOf Tryz.f43)) (kSeq (fun fr h => X (mask (impl_stacked_M 2) fr) h) (kBlk 2 (kBlk 1 (impl_stacked_ks6 S K X0)))) fr h
def impl_stacked_L2 (S : SatT) (K : AVal → H → Prop) (X0 : Frame → H → Prop) (s1_ : Sl) (s5_ : Sl) (i6_ : Int) (p7_ : Pt) (s11_ : Sl) (i12_ : Int) (i13_ : Int) (s18_ : Sl) (i19_ : Int) (i20_ : Int) (h : H) : Prop := loopK (impl_stacked_w2 S K X0) (impl_stacked_e2 s1_ s5_ i6_ p7_ s11_ i12_ i13_ s18_ i19_ i20_) h
def impl_stacked_C1 (S : SatT) (K : AVal → H → Prop) (X0 : Frame → H → Prop) (s1_ : Sl) (s5_ : Sl) (s11_ : Sl) (i12_ : Int) (i13_ : Int) (h : H) : Prop :=
 X0 (impl_stacked_e0 s1_ s5_ s11_ i12_ (w64 (i13_ + (1)))) h
def impl_stacked_C2 (S : SatT) (K : AVal → H → Prop) (X0 : Frame → H → Prop) (s1_ : Sl) (s5_ : Sl) (s11_ : Sl) (i12_ : Int) (i13_ : Int) (h : H) : Prop :=
 impl_stacked_C1 S K X0 s1_ s5_ s11_ i12_ i13_ h
def impl_stacked_b2 (S : SatT) (K : AVal → H → Prop) (X0 : Frame → H → Prop) (X2 : Frame → H → Prop) (s1_ : Sl) (s5_ : Sl) (i6_ : Int) (p7_ : Pt) (s11_ : Sl) (i12_ : Int) (i13_ : Int) (s18_ : Sl) (i19_ : Int) (i20_ : Int) (h : H) : Prop :=
 bif (decide (i20_ < i19_)) then
 ixS s18_ 4 i20_ fun p0 =>
 ldA p0 4 h fun cs1 =>
 newO [.int .i64 (0), .int .i64 (0), .int .i64 (0), .int .i64 (0)] h fun p2 h3 =>
 stN p2 4 cs1 h3 fun h4 =>
 ixA p7_ 4 1 (3) fun p5 =>
 ldI .i64 p5 h4 fun n6 =>
 ixA p2 4 1 (1) fun p7 =>
 ldI .i64 p7 h4 fun n8 =>
 bif (n6 == n8) then
 lenA [.int .i64 i6_, .int .i64 i20_] 2 (
 newS 1 2 (spl [.int .i64 (0), .int .i64 (0)] 0 2 [.int .i64 i6_, .int .i64 i20_]) h4 fun s9 h10 =>
 app s5_ s9 2 h10 fun s11 h12 =>
 X2 (impl_stacked_e2 s1_ s11 i6_ p7_ s11_ i12_ i13_ s18_ i19_ (w64 (i20_ + (1)))) h12)
 else
 X2 (impl_stacked_e2 s1_ s5_ i6_ p7_ s11_ i12_ i13_ s18_ i19_ (w64 (i20_ + (1)))) h4
 else
 impl_stacked_C2 S K X0 s1_ s5_ s11_ i12_ i13_ h
theorem impl_stacked_link2 (S : SatT) (K : AVal → H → Prop) (X0 : Frame → H → Prop) (X2 : Frame → H → Prop) (s1_ : Sl) (s5_ : Sl) (i6_ : Int) (p7_ : Pt) (s11_ : Sl) (i12_ : Int) (i13_ : Int) (s18_ : Sl) (i19_ : Int) (i20_ : Int) (h : H) : impl_stacked_w2 S K X0 X2 (impl_stacked_e2 s1_ s5_ i6_ p7_ s11_ i12_ i13_ s18_ i19_ i20_) h = impl_stacked_b2 S K X0 X2 s1_ s5_ i6_ p7_ s11_ i12_ i13_ s18_ i19_ i20_ h := by kernel_rfl
theorem impl_stacked_rule2 (S : SatT) (K : AVal → H → Prop) (X0 : Frame → H → Prop) (s1_ : Sl) (i6_ : Int) (p7_ : Pt) (s11_ : Sl) (i12_ : Int) (i13_ : Int) (s18_ : Sl) (i19_ : Int) (I_ : Sl → Int → H → Prop) (m_ : Sl → Int → H → Nat)
    (hs : ∀ (X2 : Frame → H → Prop) (s5_ : Sl) (i20_ : Int) (h : H), I_ s5_ i20_ h → (∀ (s5_' : Sl) (i20_' : Int) (h' : H), I_ s5_' i20_' h' → m_ s5_' i20_' h' < m_ s5_ i20_ h → X2 (impl_stacked_e2 s1_ s5_' i6_ p7_ s11_ i12_ i13_ s18_ i19_ i20_') h') → impl_stacked_b2 S K X0 X2 s1_ s5_ i6_ p7_ s11_ i12_ i13_ s18_ i19_ i20_ h) (s5_ : Sl) (i20_ : Int) {h : H} (h0 : I_ s5_ i20_ h) : impl_stacked_L2 S K X0 s1_ s5_ i6_ p7_ s11_ i12_ i13_ s18_ i19_ i20_ h :=
  loop_rule (σ := (Sl) × (Int)) (fun s_ => impl_stacked_e2 s1_ (s_.1) i6_ p7_ s11_ i12_ i13_ s18_ i19_ (s_.2)) (fun s_ h => I_ (s_.1) (s_.2) h) (fun s_ h => m_ (s_.1) (s_.2) h)
    (fun X s_ h hi hx => (impl_stacked_link2 S K X0 X s1_ (s_.1) i6_ p7_ s11_ i12_ i13_ s18_ i19_ (s_.2) h).mpr (hs X (s_.1) (s_.2) h hi fun s5_' i20_' h' hi' hm' => hx (s5_', i20_') h' hi' hm')) (s5_, i20_) h0
def impl_stacked_C0 (S : SatT) (K : AVal → H → Prop) (s5_ : Sl) (h : H) : Prop :=
 K (.sl s5_) h
def impl_stacked_b0 (S : SatT) (K : AVal → H → Prop) (X0 : Frame → H → Prop) (s1_ : Sl) (s5_ : Sl) (s11_ : Sl) (i12_ : Int) (i13_ : Int) (h : H) : Prop :=
 bif (decide (i13_ < i12_)) then
 ixS s11_ 4 i13_ fun p0 =>
 ldA p0 4 h fun cs1 =>
 newO [.int .i64 (0), .int .i64 (0), .int .i64 (0), .int .i64 (0)] h fun p2 h3 =>
 stN p2 4 cs1 h3 fun h4 =>
 impl_stacked_L2 S K X0 s1_ s5_ i13_ p2 s11_ i12_ i13_ s1_ (s1_.len : Int) (0) h4
 else
 impl_stacked_C0 S K s5_ h
theorem impl_stacked_link0 (S : SatT) (K : AVal → H → Prop) (X0 : Frame → H → Prop) (s1_ : Sl) (s5_ : Sl) (s11_ : Sl) (i12_ : Int) (i13_ : Int) (h : H) : impl_stacked_w0 S K X0 (impl_stacked_e0 s1_ s5_ s11_ i12_ i13_) h = impl_stacked_b0 S K X0 s1_ s5_ s11_ i12_ i13_ h := by kernel_rfl
theorem impl_stacked_rule0 (S : SatT) (K : AVal → H → Prop) (s1_ : Sl) (s11_ : Sl) (i12_ : Int) (I_ : Sl → Int → H → Prop) (m_ : Sl → Int → H → Nat)
    (hs : ∀ (X0 : Frame → H → Prop) (s5_ : Sl) (i13_ : Int) (h : H), I_ s5_ i13_ h → (∀ (s5_' : Sl) (i13_' : Int) (h' : H), I_ s5_' i13_' h' → m_ s5_' i13_' h' < m_ s5_ i13_ h → X0 (impl_stacked_e0 s1_ s5_' s11_ i12_ i13_') h') → impl_stacked_b0 S K X0 s1_ s5_ s11_ i12_ i13_ h) (s5_ : Sl) (i13_ : Int) {h : H} (h0 : I_ s5_ i13_ h) : impl_stacked_L0 S K s1_ s5_ s11_ i12_ i13_ h :=
  loop_rule (σ := (Sl) × (Int)) (fun s_ => impl_stacked_e0 s1_ (s_.1) s11_ i12_ (s_.2)) (fun s_ h => I_ (s_.1) (s_.2) h) (fun s_ h => m_ (s_.1) (s_.2) h)
    (fun X s_ h hi hx => (impl_stacked_link0 S K X s1_ (s_.1) s11_ i12_ (s_.2) h).mpr (hs X (s_.1) (s_.2) h hi fun s5_' i13_' h' hi' hm' => hx (s5_', i13_') h' hi' hm')) (s5_, i13_) h0
def impl_stacked_main (S : SatT) (K : AVal → H → Prop) (x0 : Sl) (x1 : Sl) (h : H) : Prop :=
 newS 0 2 [] h fun s0 h1 =>
 impl_stacked_L0 S K x1 s0 x0 (x0.len : Int) (0) h1
theorem impl_stacked_main_link (S : SatT) (K : AVal → H → Prop) (x0 : Sl) (x1 : Sl) (h : H) : cwp S tab impl_stacked_M [] (bodyOf Tryz.f43) (kFun tab Tryz.f43.results.toList K) (fr0 Tryz.f43 [.sl x0, .sl x1]) h = impl_stacked_main S K x0 x1 h := by kernel_rfl
theorem impl_stacked_call (x0 : Sl) (x1 : Sl) (h : H) (K : Sl → H → Prop) (hm : impl_stacked_main (Sat Tryz.prog) (fun v h' => ∃ r, v = .sl r ∧ K r h') x0 x1 h) : callS (Sat Tryz.prog) i_impl_stacked [.sl x0, .sl x1] h K := by
  have := Sat.ex tok mixed impl_stacked_M Tryz.func43 (c := bodyOf Tryz.f43) (by kernel_rfl) (calls_of Tryz.func43 (c := bodyOf Tryz.f43) (by kernel_rfl) (by decide)) ((impl_stacked_main_link _ _ x0 x1 h).mpr hm)
  obtain ⟨v, h2, h3, r, rfl, h4⟩ := this; exact ⟨r, h2, h3, h4⟩

/-! ### loop.example/g01354/laws.FnStacks -/
def laws_FnStacks_M : Nat → List Nat := fun i => []
def laws_FnStacks_main (S : SatT) (K : AVal → H → Prop) (x0 : Sl) (h : H) : Prop :=
 callB S i_laws_big [.sl x0] h fun b1 h0 =>
 bif b1 then
 K (.bool true) h0
 else
 callV S i_spec_DrawSplitRow [.sl x0] h0 fun v3 h2 =>
 viaT v3 fun vs4 =>
 exA vs4 0 fun cs5 =>
 viaT v3 fun vs6 =>
 exA vs6 1 fun cs7 =>
 viaT v3 fun vs8 =>
 exS vs8 2 fun s9 =>
 newO [.int .i64 (0), .sl Sl.nil] h2 fun p10 h11 =>
 newO [.int .i64 (0), .sl Sl.nil] h11 fun p12 h13 =>
 stN p10 2 cs5 h13 fun h14 =>
 stN p12 2 cs7 h14 fun h15 =>
 ldA p10 2 h15 fun cs16 =>
 ldA p12 2 h15 fun cs17 =>
 callV S i_impl_SplitRow [.agg cs16, .agg cs17, .sl s9] h15 fun v19 h18 =>
 viaT v19 fun vs20 =>
 exS vs20 0 fun s21 =>
 viaT v19 fun vs22 =>
 exS vs22 1 fun s23 =>
 viaT v19 fun vs24 =>
 exI .i64 vs24 2 fun n25 =>
 ldA p10 2 h18 fun cs26 =>
 ldA p12 2 h18 fun cs27 =>
 callV S i_spec_SplitRow [.agg cs26, .agg cs27, .sl s9] h18 fun v29 h28 =>
 viaT v29 fun vs30 =>
 exS vs30 0 fun s31 =>
 viaT v29 fun vs32 =>
 exS vs32 1 fun s33 =>
 viaT v29 fun vs34 =>
 exI .i64 vs34 2 fun n35 =>
 bif (n25 != n35) then
 K (.bool false) h28
 else
 callB S i_laws_likeInts [.sl s21, .sl s31] h28 fun b37 h36 =>
 bif (!b37) then
 K (.bool false) h36
 else
 callB S i_laws_likeInts [.sl s23, .sl s33] h36 fun b39 h38 =>
 bif (!b39) then
 K (.bool false) h38
 else
 callV S i_spec_DrawStackSets [.sl x0] h38 fun v41 h40 =>
 viaT v41 fun vs42 =>
 exA vs42 0 fun cs43 =>
 viaT v41 fun vs44 =>
 exA vs44 1 fun cs45 =>
 newO [.int .i64 (0), .sl Sl.nil] h40 fun p46 h47 =>
 newO [.int .i64 (0), .sl Sl.nil] h47 fun p48 h49 =>
 stN p46 2 cs43 h49 fun h50 =>
 stN p48 2 cs45 h50 fun h51 =>
 ldA p46 2 h51 fun cs52 =>
 ldA p48 2 h51 fun cs53 =>
 callV S i_impl_StackSets [.agg cs52, .agg cs53] h51 fun v55 h54 =>
 viaT v55 fun vs56 =>
 exA vs56 0 fun cs57 =>
 viaT v55 fun vs58 =>
 exI .i64 vs58 1 fun n59 =>
 newO [.int .i64 (0), .sl Sl.nil] h54 fun p60 h61 =>
 stN p60 2 cs57 h61 fun h62 =>
 ldA p46 2 h62 fun cs63 =>
 ldA p48 2 h62 fun cs64 =>
 callV S i_spec_StackSets [.agg cs63, .agg cs64] h62 fun v66 h65 =>
 viaT v66 fun vs67 =>
 exA vs67 0 fun cs68 =>
 viaT v66 fun vs69 =>
 exI .i64 vs69 1 fun n70 =>
 newO [.int .i64 (0), .sl Sl.nil] h65 fun p71 h72 =>
 stN p71 2 cs68 h72 fun h73 =>
 bif (n59 != n70) then
 K (.bool false) h73
 else
 ldA p60 2 h73 fun cs74 =>
 ldA p71 2 h73 fun cs75 =>
 callB S i_laws_set9 [.agg cs74, .agg cs75] h73 fun b77 h76 =>
 bif (!b77) then
 K (.bool false) h76
 else
 ldA p46 2 h76 fun cs78 =>
 ldA p48 2 h76 fun cs79 =>
 callV S i_impl_PairsOfStack [.agg cs78, .agg cs79] h76 fun v81 h80 =>
 viaT v81 fun vs82 =>
 exS vs82 0 fun s83 =>
 viaT v81 fun vs84 =>
 exI .i64 vs84 1 fun n85 =>
 ldA p46 2 h80 fun cs86 =>
 ldA p48 2 h80 fun cs87 =>
 callV S i_spec_PairsOfStack [.agg cs86, .agg cs87] h80 fun v89 h88 =>
 viaT v89 fun vs90 =>
 exS vs90 0 fun s91 =>
 viaT v89 fun vs92 =>
 exI .i64 vs92 1 fun n93 =>
 bif (n85 != n93) then
 K (.bool false) h88
 else
 callB S i_laws_rows9 [.sl s83, .sl s91] h88 fun b95 h94 =>
 bif (!b95) then
 K (.bool false) h94
 else
 bif (n59 == (0)) then
 bif (n85 != (0)) then
 K (.bool false) h94
 else
 ldA p60 2 h94 fun cs96 =>
 callB S i_impl_IsSet [.agg cs96] h94 fun b98 h97 =>
 bif (!b98) then
 K (.bool false) h97
 else
 isPt p60 (
 ldI .i64 (Pt.add p60 0) h97 fun n99 =>
 bif (decide ((s83.len : Int) > n99)) then
 K (.bool false) h97
 else
 isPt p60 (
 ldS (Pt.add p60 1) h97 fun s100 =>
 isPt p46 (
 ldS (Pt.add p46 1) h97 fun s101 =>
 isPt p48 (
 ldS (Pt.add p48 1) h97 fun s102 =>
 bif (decide ((s100.len : Int) > (w64 ((s101.len : Int) * (s102.len : Int))))) then
 K (.bool false) h97
 else
 bif (n25 != (0)) then
 K (.bool ((s21.len : Int) == (0))) h97
 else
 ldA p10 2 h97 fun cs103 =>
 callV S i_impl_WordsOfRow [.agg cs103, .sl s21] h97 fun v105 h104 =>
 viaT v105 fun vs106 =>
 exS vs106 0 fun s107 =>
 viaT v105 fun vs108 =>
 exS vs108 1 fun s109 =>
 viaT v105 fun vs110 =>
 exI .i64 vs110 2 fun n111 =>
 ldA p12 2 h104 fun cs112 =>
 callV S i_impl_WordsOfRow [.agg cs112, .sl s23] h104 fun v114 h113 =>
 viaT v114 fun vs115 =>
 exS vs115 0 fun s116 =>
 viaT v114 fun vs117 =>
 exS vs117 1 fun s118 =>
 viaT v114 fun vs119 =>
 exI .i64 vs119 2 fun n120 =>
 ldA p10 2 h113 fun cs121 =>
 ldA p12 2 h113 fun cs122 =>
 callV S i_impl_StackSets [.agg cs121, .agg cs122] h113 fun v124 h123 =>
 viaT v124 fun vs125 =>
 exA vs125 0 fun cs126 =>
 viaT v124 fun vs127 =>
 exI .i64 vs127 1 fun n128 =>
 newO [.int .i64 (0), .sl Sl.nil] h123 fun p129 h130 =>
 stN p129 2 cs126 h130 fun h131 =>
 ldA p129 2 h131 fun cs132 =>
 callV S i_impl_WordsOfRow [.agg cs132, .sl s9] h131 fun v134 h133 =>
 viaT v134 fun vs135 =>
 exS vs135 0 fun s136 =>
 viaT v134 fun vs137 =>
 exS vs137 1 fun s138 =>
 viaT v134 fun vs139 =>
 exI .i64 vs139 2 fun n140 =>
 bif (n111 == (0)) then
 bif (n120 == (0)) then
 callB S i_laws_likeInts [.sl s109, .sl s116] h133 fun b142 h141 =>
 bif b142 then
 bif (n128 == (0)) then
 bif (n140 == (0)) then
 callB S i_laws_likeInts [.sl s136, .sl s107] h141 fun b144 h143 =>
 bif b144 then
 callB S i_laws_likeInts [.sl s138, .sl s118] h143 fun b146 h145 =>
 K (.bool b146) h145
 else
 K (.bool false) h143
 else
 K (.bool false) h141
 else
 K (.bool false) h141
 else
 K (.bool false) h141
 else
 K (.bool false) h133
 else
 K (.bool false) h133))))
 else
 bif (n25 != (0)) then
 K (.bool ((s21.len : Int) == (0))) h94
 else
 ldA p10 2 h94 fun cs147 =>
 callV S i_impl_WordsOfRow [.agg cs147, .sl s21] h94 fun v149 h148 =>
 viaT v149 fun vs150 =>
 exS vs150 0 fun s151 =>
 viaT v149 fun vs152 =>
 exS vs152 1 fun s153 =>
 viaT v149 fun vs154 =>
 exI .i64 vs154 2 fun n155 =>
 ldA p12 2 h148 fun cs156 =>
 callV S i_impl_WordsOfRow [.agg cs156, .sl s23] h148 fun v158 h157 =>
 viaT v158 fun vs159 =>
 exS vs159 0 fun s160 =>
 viaT v158 fun vs161 =>
 exS vs161 1 fun s162 =>
 viaT v158 fun vs163 =>
 exI .i64 vs163 2 fun n164 =>
 ldA p10 2 h157 fun cs165 =>
 ldA p12 2 h157 fun cs166 =>
 callV S i_impl_StackSets [.agg cs165, .agg cs166] h157 fun v168 h167 =>
 viaT v168 fun vs169 =>
 exA vs169 0 fun cs170 =>
 viaT v168 fun vs171 =>
 exI .i64 vs171 1 fun n172 =>
 newO [.int .i64 (0), .sl Sl.nil] h167 fun p173 h174 =>
 stN p173 2 cs170 h174 fun h175 =>
 ldA p173 2 h175 fun cs176 =>
 callV S i_impl_WordsOfRow [.agg cs176, .sl s9] h175 fun v178 h177 =>
 viaT v178 fun vs179 =>
 exS vs179 0 fun s180 =>
 viaT v178 fun vs181 =>
 exS vs181 1 fun s182 =>
 viaT v178 fun vs183 =>
 exI .i64 vs183 2 fun n184 =>
 bif (n155 == (0)) then
 bif (n164 == (0)) then
 callB S i_laws_likeInts [.sl s153, .sl s160] h177 fun b186 h185 =>
 bif b186 then
 bif (n172 == (0)) then
 bif (n184 == (0)) then
 callB S i_laws_likeInts [.sl s180, .sl s151] h185 fun b188 h187 =>
 bif b188 then
 callB S i_laws_likeInts [.sl s182, .sl s162] h187 fun b190 h189 =>
 K (.bool b190) h189
 else
 K (.bool false) h187
 else
 K (.bool false) h185
 else
 K (.bool false) h185
 else
 K (.bool false) h185
 else
 K (.bool false) h177
 else
 K (.bool false) h177
theorem laws_FnStacks_main_link (S : SatT) (K : AVal → H → Prop) (x0 : Sl) (h : H) : cwp S tab laws_FnStacks_M [] (bodyOf Tryz.f3) (kFun tab Tryz.f3.results.toList K) (fr0 Tryz.f3 [.sl x0]) h = laws_FnStacks_main S K x0 h := by kernel_rfl
theorem laws_FnStacks_call (x0 : Sl) (h : H) (K : Bool → H → Prop) (hm : laws_FnStacks_main (Sat Tryz.prog) (fun v h' => ∃ r, v = .bool r ∧ K r h') x0 h) : callB (Sat Tryz.prog) i_laws_FnStacks [.sl x0] h K := by
  have := Sat.ex tok mixed laws_FnStacks_M Tryz.func3 (c := bodyOf Tryz.f3) (by kernel_rfl) (calls_of Tryz.func3 (c := bodyOf Tryz.f3) (by kernel_rfl) (by decide)) ((laws_FnStacks_main_link _ _ x0 h).mpr hm)
  obtain ⟨v, h2, h3, r, rfl, h4⟩ := this; exact ⟨r, h2, h3, h4⟩

/-! ### loop.example/g01354/spec.l01Draw -/
def spec_l01Draw_M : Nat → List Nat := fun i => []
def spec_l01Draw_main (S : SatT) (K : AVal → H → Prop) (x0 : Pt) (h : H) : Prop :=
 newO [.int .i64 (0), .sl Sl.nil] h fun p0 h1 =>
 callI S .i64 i_spec_l01Next [.ptr x0, .int .i64 (4)] h1 fun n3 h2 =>
 bif (n3 == (0)) then
 bif (n3 == (0)) then
 callA S i_spec_l01Small [.ptr x0] h2 fun cs5 h4 =>
 stN p0 2 cs5 h4 fun h6 =>
 ldA p0 2 h6 fun cs7 =>
 K (.agg cs7) h6
 else
 bif (n3 == (2)) then
 newS 3 1 [.int .i64 (2), .int .i64 (3), .int .i64 (4)] h2 fun s8 h9 =>
 callI S .i64 i_spec_l01Pick [.ptr x0, .sl s8] h9 fun n11 h10 =>
 callI S .i64 i_spec_l01Next [.ptr x0, .int .i64 (10)] h10 fun n13 h12 =>
 callA S i_spec_l01DrawOf [.ptr x0, .int .i64 n11, .int .i64 n13] h12 fun cs15 h14 =>
 newO [.int .i64 (0), .sl Sl.nil] h14 fun p16 h17 =>
 stN p16 2 cs15 h17 fun h18 =>
 isPt p16 (
 ldI .i64 (Pt.add p16 0) h18 fun n19 =>
 callI S .i64 i_spec_l01Next [.ptr x0, .int .i64 n19] h18 fun n21 h20 =>
 isPt p16 (
 ldI .i64 (Pt.add p16 0) h20 fun n22 =>
(cell h18 (Pt.add p16 0) = cell h20 (Pt.add p16 0)) ∧ (
 callI S .i64 i_spec_l01Next [.ptr x0, .int .i64 n22] h20 fun n24 h23 =>
 slotK 15 h23 fun h25 =>
 isPt p16 (
 ldI .i64 (Pt.add p16 0) h25 fun n26 =>
 isPt p16 (
 ldS (Pt.add p16 1) h25 fun s27 =>
 newSat 0 4 [] h25 (h23.length + 2) fun s28 h29 =>
(cell h29 (Pt.add p16 1) = cell h25 (Pt.add p16 1)) ∧ (
(cell h29 (Pt.add p16 0) = cell h25 (Pt.add p16 0)) ∧ (
 app s28 s27 4 h29 fun s30 h31 =>
(cell h31 (Pt.add p16 0) = cell h25 (Pt.add p16 0)) ∧ (
 lenA [.int .i64 n21, .int .i64 n24, .int .i64 n21, .int .i64 n24] 4 (
 newSat 1 4 (spl [.int .i64 (0), .int .i64 (0), .int .i64 (0), .int .i64 (0)] 0 4 [.int .i64 n21, .int .i64 n24, .int .i64 n21, .int .i64 n24]) h31 (h23.length + 11) fun s32 h33 =>
(cell h31 (Pt.add p16 1) = cell h25 (Pt.add p16 1)) ∧ (
(cell h33 (Pt.add p16 1) = cell h25 (Pt.add p16 1)) ∧ (
(cell h33 (Pt.add p16 0) = cell h25 (Pt.add p16 0)) ∧ (
 app s30 s32 4 h33 fun s34 h35 =>
(cell h35 (Pt.add p16 0) = cell h25 (Pt.add p16 0)) ∧ (
 callA S i_spec_l01Made [.int .i64 n26, .sl s34] h35 fun cs37 h36 =>
 stN p0 2 cs37 h36 fun h38 =>
 ldA p0 2 h38 fun cs39 =>
 K (.agg cs39) h38)))))))))))))
 else
 callI S .i64 i_spec_l01Next [.ptr x0, .int .i64 (6)] h2 fun n41 h40 =>
 callI S .i64 i_spec_l01Next [.ptr x0, .int .i64 (17)] h40 fun n43 h42 =>
 callA S i_spec_l01DrawOf [.ptr x0, .int .i64 (w64 ((1) + n41)), .int .i64 n43] h42 fun cs45 h44 =>
 stN p0 2 cs45 h44 fun h46 =>
 ldA p0 2 h46 fun cs47 =>
 K (.agg cs47) h46
 else
 bif (n3 == (1)) then
 callA S i_spec_l01Small [.ptr x0] h2 fun cs49 h48 =>
 stN p0 2 cs49 h48 fun h50 =>
 ldA p0 2 h50 fun cs51 =>
 K (.agg cs51) h50
 else
 bif (n3 == (2)) then
 newS 3 1 [.int .i64 (2), .int .i64 (3), .int .i64 (4)] h2 fun s52 h53 =>
 callI S .i64 i_spec_l01Pick [.ptr x0, .sl s52] h53 fun n55 h54 =>
 callI S .i64 i_spec_l01Next [.ptr x0, .int .i64 (10)] h54 fun n57 h56 =>
 callA S i_spec_l01DrawOf [.ptr x0, .int .i64 n55, .int .i64 n57] h56 fun cs59 h58 =>
 newO [.int .i64 (0), .sl Sl.nil] h58 fun p60 h61 =>
 stN p60 2 cs59 h61 fun h62 =>
 isPt p60 (
 ldI .i64 (Pt.add p60 0) h62 fun n63 =>
 callI S .i64 i_spec_l01Next [.ptr x0, .int .i64 n63] h62 fun n65 h64 =>
 isPt p60 (
 ldI .i64 (Pt.add p60 0) h64 fun n66 =>
(cell h62 (Pt.add p60 0) = cell h64 (Pt.add p60 0)) ∧ (
 callI S .i64 i_spec_l01Next [.ptr x0, .int .i64 n66] h64 fun n68 h67 =>
 slotK 15 h67 fun h69 =>
 isPt p60 (
 ldI .i64 (Pt.add p60 0) h69 fun n70 =>
 isPt p60 (
 ldS (Pt.add p60 1) h69 fun s71 =>
 newSat 0 4 [] h69 (h67.length + 2) fun s72 h73 =>
(cell h73 (Pt.add p60 1) = cell h69 (Pt.add p60 1)) ∧ (
(cell h73 (Pt.add p60 0) = cell h69 (Pt.add p60 0)) ∧ (
 app s72 s71 4 h73 fun s74 h75 =>
(cell h75 (Pt.add p60 0) = cell h69 (Pt.add p60 0)) ∧ (
 lenA [.int .i64 n65, .int .i64 n68, .int .i64 n65, .int .i64 n68] 4 (
 newSat 1 4 (spl [.int .i64 (0), .int .i64 (0), .int .i64 (0), .int .i64 (0)] 0 4 [.int .i64 n65, .int .i64 n68, .int .i64 n65, .int .i64 n68]) h75 (h67.length + 11) fun s76 h77 =>
(cell h75 (Pt.add p60 1) = cell h69 (Pt.add p60 1)) ∧ (
(cell h77 (Pt.add p60 1) = cell h69 (Pt.add p60 1)) ∧ (
(cell h77 (Pt.add p60 0) = cell h69 (Pt.add p60 0)) ∧ (
 app s74 s76 4 h77 fun s78 h79 =>
(cell h79 (Pt.add p60 0) = cell h69 (Pt.add p60 0)) ∧ (
 callA S i_spec_l01Made [.int .i64 n70, .sl s78] h79 fun cs81 h80 =>
 stN p0 2 cs81 h80 fun h82 =>
 ldA p0 2 h82 fun cs83 =>
 K (.agg cs83) h82)))))))))))))
 else
 callI S .i64 i_spec_l01Next [.ptr x0, .int .i64 (6)] h2 fun n85 h84 =>
 callI S .i64 i_spec_l01Next [.ptr x0, .int .i64 (17)] h84 fun n87 h86 =>
 callA S i_spec_l01DrawOf [.ptr x0, .int .i64 (w64 ((1) + n85)), .int .i64 n87] h86 fun cs89 h88 =>
 stN p0 2 cs89 h88 fun h90 =>
 ldA p0 2 h90 fun cs91 =>
 K (.agg cs91) h90
theorem spec_l01Draw_main_link (S : SatT) (K : AVal → H → Prop) (x0 : Pt) (h : H) : cwp S tab spec_l01Draw_M [] (bodyOf Tryz.f127) (kFun tab Tryz.f127.results.toList K) (fr0 Tryz.f127 [.ptr x0]) h = spec_l01Draw_main S K x0 h := by kernel_rfl
theorem spec_l01Draw_call (x0 : Pt) (h : H) (K : List AVal → H → Prop) (hm : spec_l01Draw_main (Sat Tryz.prog) (fun v h' => ∃ r, v = .agg r ∧ K r h') x0 h) : callA (Sat Tryz.prog) i_spec_l01Draw [.ptr x0] h K := by
  have := Sat.ex tok mixed spec_l01Draw_M Tryz.func127 (c := bodyOf Tryz.f127) (by kernel_rfl) (calls_of Tryz.func127 (c := bodyOf Tryz.f127) (by kernel_rfl) (by decide)) ((spec_l01Draw_main_link _ _ x0 h).mpr hm)
  obtain ⟨v, h2, h3, r, rfl, h4⟩ := this; exact ⟨r, h2, h3, h4⟩

/-! ### loop.example/g01354/impl.PairsOfStack -/
def impl_PairsOfStack_M : Nat → List Nat := fun i => bif i == 0 then [6, 19, 20, 21] else []
def impl_PairsOfStack_ks5 (S : SatT) (K : AVal → H → Prop) : Kont := kSeq (cwp S tab impl_PairsOfStack_M [] (sub [1, 1, 1, 1] (bodyOf Tryz.f14)) (kFun tab (Tryz.f14).results.toList K)) (kFun tab (Tryz.f14).results.toList K)
def impl_PairsOfStack_e0 (s6_ : Sl) (s19_ : Sl) (i20_ : Int) (i21_ : Int) : Frame := [U, U, U, U, U, U, .sl s6_, U, U, U, U, U, U, U, U, U, U, U, U, .sl s19_, .int .i64 i20_, .int .i64 i21_, U, U, U, U, U, U, U, U, U]
def impl_PairsOfStack_w0 (S : SatT) (K : AVal → H → Prop) : (Frame → H → Prop) → Frame → H → Prop := fun X fr h => cwp S tab impl_PairsOfStack_M (impl_PairsOfStack_M 0) (sub [1, 1, 1, 0, 1, 0, 0] (bodyOf Tryz.f14)) (kSeq (fun fr h => X (mask (impl_PairsOfStack_M 0) fr) h) (kBlk 0 (impl_PairsOfStack_ks5 S K))) fr h
def impl_PairsOfStack_L0 (S : SatT) (K : AVal → H → Prop) (s6_ : Sl) (s19_ : Sl) (i20_ : Int) (i21_ : Int) (h : H) : Prop := loopK (impl_PairsOfStack_w0 S K) (impl_PairsOfStack_e0 s6_ s19_ i20_ i21_) h
def impl_PairsOfStack_C0 (S : SatT) (K : AVal → H → Prop) (s6_ : Sl) (h : H) : Prop :=
 K (.tuple [.sl s6_, .int .i64 (0)]) h
def impl_PairsOfStack_b0 (S : SatT) (K : AVal → H → Prop) (X0 : Frame → H → Prop) (s6_ : Sl) (s19_ : Sl) (i20_ : Int) (i21_ : Int) (h : H) : Prop :=
 bif (decide (i21_ < i20_)) then
 ixS s19_ 2 i21_ fun p0 =>
 ldA p0 2 h fun cs1 =>
 newO [.int .i64 (0), .int .i64 (0)] h fun p2 h3 =>
 stN p2 2 cs1 h3 fun h4 =>
 cutA p2 2 1 (0) ((2 : Nat) : Int) fun s5 =>
 newS 1 1 [.sl s5] h4 fun s6 h7 =>
 app s6_ s6 1 h7 fun s8 h9 =>
 X0 (impl_PairsOfStack_e0 s8 s19_ i20_ (w64 (i21_ + (1)))) h9
 else
 impl_PairsOfStack_C0 S K s6_ h
theorem impl_PairsOfStack_link0 (S : SatT) (K : AVal → H → Prop) (X0 : Frame → H → Prop) (s6_ : Sl) (s19_ : Sl) (i20_ : Int) (i21_ : Int) (h : H) : impl_PairsOfStack_w0 S K X0 (impl_PairsOfStack_e0 s6_ s19_ i20_ i21_) h = impl_PairsOfStack_b0 S K X0 s6_ s19_ i20_ i21_ h := by kernel_rfl
theorem impl_PairsOfStack_rule0 (S : SatT) (K : AVal → H → Prop) (s19_ : Sl) (i20_ : Int) (I_ : Sl → Int → H → Prop) (m_ : Sl → Int → H → Nat)
    (hs : ∀ (X0 : Frame → H → Prop) (s6_ : Sl) (i21_ : Int) (h : H), I_ s6_ i21_ h → (∀ (s6_' : Sl) (i21_' : Int) (h' : H), I_ s6_' i21_' h' → m_ s6_' i21_' h' < m_ s6_ i21_ h → X0 (impl_PairsOfStack_e0 s6_' s19_ i20_ i21_') h') → impl_PairsOfStack_b0 S K X0 s6_ s19_ i20_ i21_ h) (s6_ : Sl) (i21_ : Int) {h : H} (h0 : I_ s6_ i21_ h) : impl_PairsOfStack_L0 S K s6_ s19_ i20_ i21_ h :=
  loop_rule (σ := (Sl) × (Int)) (fun s_ => impl_PairsOfStack_e0 (s_.1) s19_ i20_ (s_.2)) (fun s_ h => I_ (s_.1) (s_.2) h) (fun s_ h => m_ (s_.1) (s_.2) h)
    (fun X s_ h hi hx => (impl_PairsOfStack_link0 S K X (s_.1) s19_ i20_ (s_.2) h).mpr (hs X (s_.1) (s_.2) h hi fun s6_' i21_' h' hi' hm' => hx (s6_', i21_') h' hi' hm')) (s6_, i21_) h0
def impl_PairsOfStack_main (S : SatT) (K : AVal → H → Prop) (x0 : List AVal) (x1 : List AVal) (h : H) : Prop :=
 newK 2 x0 h fun p0 h1 =>
 newK 2 x1 h1 fun p2 h3 =>
 ldA p0 2 h3 fun cs4 =>
 ldA p2 2 h3 fun cs5 =>
 lenA cs4 2 (
 lenA cs5 2 (
 newS 2 2 (spl (spl [.int .i64 (0), .sl Sl.nil, .int .i64 (0), .sl Sl.nil] 0 2 cs4) 2 2 cs5) h3 fun s6 h7 =>
 callB S i_impl_areSets [.sl s6] h7 fun b9 h8 =>
 bif (!b9) then
 K (.tuple [.sl Sl.nil, .int .i64 (1)]) h8
 else
 newS 0 1 [] h8 fun s10 h11 =>
 isPt p0 (
 ldS (Pt.add p0 1) h11 fun s12 =>
 isPt p2 (
 ldS (Pt.add p2 1) h11 fun s13 =>
 callS S i_impl_pairs [.sl s12, .sl s13] h11 fun s15 h14 =>
 impl_PairsOfStack_L0 S K s10 s15 (s15.len : Int) (0) h14))))
theorem impl_PairsOfStack_main_link (S : SatT) (K : AVal → H → Prop) (x0 : List AVal) (x1 : List AVal) (h : H) : cwp S tab impl_PairsOfStack_M [] (bodyOf Tryz.f14) (kFun tab Tryz.f14.results.toList K) (fr0 Tryz.f14 [.agg x0, .agg x1]) h = impl_PairsOfStack_main S K x0 x1 h := by kernel_rfl
theorem impl_PairsOfStack_call (x0 : List AVal) (x1 : List AVal) (h : H) (K : AVal → H → Prop) (hm : impl_PairsOfStack_main (Sat Tryz.prog) (fun v h' => K v h') x0 x1 h) : callV (Sat Tryz.prog) i_impl_PairsOfStack [.agg x0, .agg x1] h K := by
  have := Sat.ex tok mixed impl_PairsOfStack_M Tryz.func14 (c := bodyOf Tryz.f14) (by kernel_rfl) (calls_of Tryz.func14 (c := bodyOf Tryz.f14) (by kernel_rfl) (by decide)) ((impl_PairsOfStack_main_link _ _ x0 x1 h).mpr hm)
  exact this

/-! ### (loop.example/g01354/impl.Set).isRow -/
def impl_Set_isRow_M : Nat → List Nat := fun i => bif i == 0 then [1, 2, 7, 8, 9] else []
def impl_Set_isRow_ks1 (S : SatT) (K : AVal → H → Prop) : Kont := kSeq (cwp S tab impl_Set_isRow_M [] (sub [1, 1] (bodyOf Tryz.f42)) (kFun tab (Tryz.f42).results.toList K)) (kFun tab (Tryz.f42).results.toList K)
def impl_Set_isRow_e0 (s1_ : Sl) (p2_ : Pt) (s7_ : Sl) (i8_ : Int) (i9_ : Int) : Frame := [U, .sl s1_, .ptr p2_, U, U, U, U, .sl s7_, .int .i64 i8_, .int .i64 i9_, U, U, U, U, U, U, U, U, U, U, U, U, U, U, U, U, U, U, U, U, U, U, U, U, U, U, U, U, U, U, U, U, U, U, U]
def impl_Set_isRow_w0 (S : SatT) (K : AVal → H → Prop) : (Frame → H → Prop) → Frame → H → Prop := fun X fr h => cwp S tab impl_Set_isRow_M (impl_Set_isRow_M 0) (sub [1, 0, 1, 0, 0] (bodyOf Tryz.f42)) (kSeq (fun fr h => X (mask (impl_Set_isRow_M 0) fr) h) (kBlk 0 (impl_Set_isRow_ks1 S K))) fr h
def impl_Set_isRow_L0 (S : SatT) (K : AVal → H → Prop) (s1_ : Sl) (p2_ : Pt) (s7_ : Sl) (i8_ : Int) (i9_ : Int) (h : H) : Prop := loopK (impl_Set_isRow_w0 S K) (impl_Set_isRow_e0 s1_ p2_ s7_ i8_ i9_) h
def impl_Set_isRow_C0 (S : SatT) (K : AVal → H → Prop) (s1_ : Sl) (h : H) : Prop :=
 callB S i_impl_within [.int .i64 (s1_.len : Int), .int .i64 (1), .int .i64 (20)] h fun b1 h0 =>
 K (.bool b1) h0
def impl_Set_isRow_b0 (S : SatT) (K : AVal → H → Prop) (X0 : Frame → H → Prop) (s1_ : Sl) (p2_ : Pt) (s7_ : Sl) (i8_ : Int) (i9_ : Int) (h : H) : Prop :=
 bif (decide (i9_ < i8_)) then
 ixS s7_ 1 i9_ fun p0 =>
 ldI .i64 p0 h fun n1 =>
 ldA p2_ 2 h fun cs2 =>
 callB S i_impl_Set_isNumber [.agg cs2, .int .i64 n1] h fun b4 h3 =>
 bif (!b4) then
 K (.bool false) h3
 else
 bif (decide (i9_ > (0))) then
 isPt p2_ (
 ldS (Pt.add p2_ 1) h3 fun s5 =>
 ixS s1_ 1 (w64 (i9_ - (1))) fun p6 =>
 ldI .i64 p6 h3 fun n7 =>
 ixS s5 4 n7 fun p8 =>
 ixA p8 4 1 (2) fun p9 =>
 ldI .i64 p9 h3 fun n10 =>
 isPt p2_ (
 ldS (Pt.add p2_ 1) h3 fun s11 =>
 ixS s11 4 n1 fun p12 =>
 ixA p12 4 1 (0) fun p13 =>
 ldI .i64 p13 h3 fun n14 =>
 bif (n10 != n14) then
 K (.bool false) h3
 else
 X0 (impl_Set_isRow_e0 s1_ p2_ s7_ i8_ (w64 (i9_ + (1)))) h3))
 else
 X0 (impl_Set_isRow_e0 s1_ p2_ s7_ i8_ (w64 (i9_ + (1)))) h3
 else
 impl_Set_isRow_C0 S K s1_ h
theorem impl_Set_isRow_link0 (S : SatT) (K : AVal → H → Prop) (X0 : Frame → H → Prop) (s1_ : Sl) (p2_ : Pt) (s7_ : Sl) (i8_ : Int) (i9_ : Int) (h : H) : impl_Set_isRow_w0 S K X0 (impl_Set_isRow_e0 s1_ p2_ s7_ i8_ i9_) h = impl_Set_isRow_b0 S K X0 s1_ p2_ s7_ i8_ i9_ h := by kernel_rfl
theorem impl_Set_isRow_rule0 (S : SatT) (K : AVal → H → Prop) (s1_ : Sl) (p2_ : Pt) (s7_ : Sl) (i8_ : Int) (I_ : Int → H → Prop) (m_ : Int → H → Nat)
    (hs : ∀ (X0 : Frame → H → Prop) (i9_ : Int) (h : H), I_ i9_ h → (∀ (i9_' : Int) (h' : H), I_ i9_' h' → m_ i9_' h' < m_ i9_ h → X0 (impl_Set_isRow_e0 s1_ p2_ s7_ i8_ i9_') h') → impl_Set_isRow_b0 S K X0 s1_ p2_ s7_ i8_ i9_ h) (i9_ : Int) {h : H} (h0 : I_ i9_ h) : impl_Set_isRow_L0 S K s1_ p2_ s7_ i8_ i9_ h :=
  loop_rule (σ := (Int)) (fun s_ => impl_Set_isRow_e0 s1_ p2_ s7_ i8_ (s_)) (fun s_ h => I_ (s_) h) (fun s_ h => m_ (s_) h)
    (fun X s_ h hi hx => (impl_Set_isRow_link0 S K X s1_ p2_ s7_ i8_ (s_) h).mpr (hs X (s_) h hi fun i9_' h' hi' hm' => hx (i9_') h' hi' hm')) (i9_) h0
def impl_Set_isRow_main (S : SatT) (K : AVal → H → Prop) (x0 : List AVal) (x1 : Sl) (h : H) : Prop :=
 newK 2 x0 h fun p0 h1 =>
 impl_Set_isRow_L0 S K x1 p0 x1 (x1.len : Int) (0) h1
theorem impl_Set_isRow_main_link (S : SatT) (K : AVal → H → Prop) (x0 : List AVal) (x1 : Sl) (h : H) : cwp S tab impl_Set_isRow_M [] (bodyOf Tryz.f42) (kFun tab Tryz.f42.results.toList K) (fr0 Tryz.f42 [.agg x0, .sl x1]) h = impl_Set_isRow_main S K x0 x1 h := by kernel_rfl
theorem impl_Set_isRow_call (x0 : List AVal) (x1 : Sl) (h : H) (K : Bool → H → Prop) (hm : impl_Set_isRow_main (Sat Tryz.prog) (fun v h' => ∃ r, v = .bool r ∧ K r h') x0 x1 h) : callB (Sat Tryz.prog) i_impl_Set_isRow [.agg x0, .sl x1] h K := by
  have := Sat.ex tok mixed impl_Set_isRow_M Tryz.func42 (c := bodyOf Tryz.f42) (by kernel_rfl) (calls_of Tryz.func42 (c := bodyOf Tryz.f42) (by kernel_rfl) (by decide)) ((impl_Set_isRow_main_link _ _ x0 x1 h).mpr hm)
  obtain ⟨v, h2, h3, r, rfl, h4⟩ := this; exact ⟨r, h2, h3, h4⟩

/-! ### slices.IndexFunc[[]int64,int64] -/
def slices_IndexFunc_s_int64_int64__M : Nat → List Nat := fun i => bif i == 0 then [0, 1, 7, 8] else []
def slices_IndexFunc_s_int64_int64__ks1 (S : SatT) (K : AVal → H → Prop) : Kont := kSeq (cwp S tab slices_IndexFunc_s_int64_int64__M [] (sub [1, 1] (bodyOf Tryz.f138)) (kFun tab (Tryz.f138).results.toList K)) (kFun tab (Tryz.f138).results.toList K)
def slices_IndexFunc_s_int64_int64__e0 (s0_ : Sl) (f1_ : AVal) (i7_ : Int) (i8_ : Int) : Frame := [.sl s0_, f1_, U, U, U, U, U, .int .i64 i7_, .int .i64 i8_, U, U, U, U, U, U, U, U, U, U]
def slices_IndexFunc_s_int64_int64__w0 (S : SatT) (K : AVal → H → Prop) : (Frame → H → Prop) → Frame → H → Prop := fun X fr h => cwp S tab slices_IndexFunc_s_int64_int64__M (slices_IndexFunc_s_int64_int64__M 0) (sub [1, 0, 1, 0, 0] (bodyOf Tryz.f138)) (kSeq (fun fr h => X (mask (slices_IndexFunc_s_int64_int64__M 0) fr) h) (kBlk 0 (slices_IndexFunc_s_int64_int64__ks1 S K))) fr h
def slices_IndexFunc_s_int64_int64__L0 (S : SatT) (K : AVal → H → Prop) (s0_ : Sl) (f1_ : AVal) (i7_ : Int) (i8_ : Int) (h : H) : Prop := loopK (slices_IndexFunc_s_int64_int64__w0 S K) (slices_IndexFunc_s_int64_int64__e0 s0_ f1_ i7_ i8_) h
def slices_IndexFunc_s_int64_int64__C0 (S : SatT) (K : AVal → H → Prop) (h : H) : Prop :=
 K (.int .i64 (-1)) h
def slices_IndexFunc_s_int64_int64__b0 (S : SatT) (K : AVal → H → Prop) (X0 : Frame → H → Prop) (s0_ : Sl) (f1_ : AVal) (i7_ : Int) (i8_ : Int) (h : H) : Prop :=
 bif (decide (i8_ < i7_)) then
 ixS s0_ 1 i8_ fun p0 =>
 ldI .i64 p0 h fun n1 =>
 viaF f1_ [.int .i64 n1] fun g2 ys3 =>
 callB S g2 ys3 h fun b5 h4 =>
 bif b5 then
 K (.int .i64 i8_) h4
 else
 X0 (slices_IndexFunc_s_int64_int64__e0 s0_ f1_ i7_ (w64 (i8_ + (1)))) h4
 else
 slices_IndexFunc_s_int64_int64__C0 S K h
theorem slices_IndexFunc_s_int64_int64__link0 (S : SatT) (K : AVal → H → Prop) (X0 : Frame → H → Prop) (s0_ : Sl) (f1_ : AVal) (i7_ : Int) (i8_ : Int) (h : H) : slices_IndexFunc_s_int64_int64__w0 S K X0 (slices_IndexFunc_s_int64_int64__e0 s0_ f1_ i7_ i8_) h = slices_IndexFunc_s_int64_int64__b0 S K X0 s0_ f1_ i7_ i8_ h := by kernel_rfl
theorem slices_IndexFunc_s_int64_int64__rule0 (S : SatT) (K : AVal → H → Prop) (s0_ : Sl) (f1_ : AVal) (i7_ : Int) (I_ : Int → H → Prop) (m_ : Int → H → Nat)
    (hs : ∀ (X0 : Frame → H → Prop) (i8_ : Int) (h : H), I_ i8_ h → (∀ (i8_' : Int) (h' : H), I_ i8_' h' → m_ i8_' h' < m_ i8_ h → X0 (slices_IndexFunc_s_int64_int64__e0 s0_ f1_ i7_ i8_') h') → slices_IndexFunc_s_int64_int64__b0 S K X0 s0_ f1_ i7_ i8_ h) (i8_ : Int) {h : H} (h0 : I_ i8_ h) : slices_IndexFunc_s_int64_int64__L0 S K s0_ f1_ i7_ i8_ h :=
  loop_rule (σ := (Int)) (fun s_ => slices_IndexFunc_s_int64_int64__e0 s0_ f1_ i7_ (s_)) (fun s_ h => I_ (s_) h) (fun s_ h => m_ (s_) h)
    (fun X s_ h hi hx => (slices_IndexFunc_s_int64_int64__link0 S K X s0_ f1_ i7_ (s_) h).mpr (hs X (s_) h hi fun i8_' h' hi' hm' => hx (i8_') h' hi' hm')) (i8_) h0
def slices_IndexFunc_s_int64_int64__main (S : SatT) (K : AVal → H → Prop) (x0 : Sl) (x1 : AVal) (h : H) : Prop :=
 slices_IndexFunc_s_int64_int64__L0 S K x0 x1 (x0.len : Int) (0) h
theorem slices_IndexFunc_s_int64_int64__main_link (S : SatT) (K : AVal → H → Prop) (x0 : Sl) (x1 : AVal) (h : H) : cwp S tab slices_IndexFunc_s_int64_int64__M [] (bodyOf Tryz.f138) (kFun tab Tryz.f138.results.toList K) (fr0 Tryz.f138 [.sl x0, x1]) h = slices_IndexFunc_s_int64_int64__main S K x0 x1 h := by kernel_rfl
theorem slices_IndexFunc_s_int64_int64__call (x0 : Sl) (x1 : AVal) (h : H) (K : Int → H → Prop) (hm : slices_IndexFunc_s_int64_int64__main (Sat Tryz.prog) (fun v h' => ∃ r, v = .int .i64 r ∧ K r h') x0 x1 h) : callI (Sat Tryz.prog) .i64 i_slices_IndexFunc_s_int64_int64_ [.sl x0, x1] h K := by
  have := Sat.ex tok mixed slices_IndexFunc_s_int64_int64__M Tryz.func138 (c := bodyOf Tryz.f138) (by kernel_rfl) (calls_of Tryz.func138 (c := bodyOf Tryz.f138) (by kernel_rfl) (by decide)) ((slices_IndexFunc_s_int64_int64__main_link _ _ x0 x1 h).mpr hm)
  obtain ⟨v, h2, h3, r, rfl, h4⟩ := this; exact ⟨r, h2, h3, h4⟩

/-! ### loop.example/g01354/spec.l01DrawOf -/
def spec_l01DrawOf_M : Nat → List Nat := fun i => bif i == 0 then [0, 1, 6, 7, 8] else []
def spec_l01DrawOf_ks2 (S : SatT) (K : AVal → H → Prop) : Kont := kSeq (cwp S tab spec_l01DrawOf_M [] (sub [1, 1, 1] (bodyOf Tryz.f132)) (kFun tab (Tryz.f132).results.toList K)) (kFun tab (Tryz.f132).results.toList K)
def spec_l01DrawOf_e0 (p0_ : Pt) (i1_ : Int) (p6_ : Pt) (s7_ : Sl) (i8_ : Int) : Frame := [.ptr p0_, .int .i64 i1_, U, U, U, U, .ptr p6_, .sl s7_, .int .i64 i8_, U, U, U, U, U, U, U, U, U, U, U, U, U, U, U]
def spec_l01DrawOf_w0 (S : SatT) (K : AVal → H → Prop) : (Frame → H → Prop) → Frame → H → Prop := fun X fr h => cwp S tab spec_l01DrawOf_M (spec_l01DrawOf_M 0) (sub [1, 1, 0, 1, 0, 0] (bodyOf Tryz.f132)) (kSeq (fun fr h => X (mask (spec_l01DrawOf_M 0) fr) h) (kBlk 0 (spec_l01DrawOf_ks2 S K))) fr h
def spec_l01DrawOf_L0 (S : SatT) (K : AVal → H → Prop) (p0_ : Pt) (i1_ : Int) (p6_ : Pt) (s7_ : Sl) (i8_ : Int) (h : H) : Prop := loopK (spec_l01DrawOf_w0 S K) (spec_l01DrawOf_e0 p0_ i1_ p6_ s7_ i8_) h
def spec_l01DrawOf_C0 (S : SatT) (K : AVal → H → Prop) (i1_ : Int) (p6_ : Pt) (s7_ : Sl) (h : H) : Prop :=
 callA S i_spec_l01Made [.int .i64 i1_, .sl s7_] h fun cs1 h0 =>
 stN p6_ 2 cs1 h0 fun h2 =>
 ldA p6_ 2 h2 fun cs3 =>
 K (.agg cs3) h2
def spec_l01DrawOf_b0 (S : SatT) (K : AVal → H → Prop) (X0 : Frame → H → Prop) (p0_ : Pt) (i1_ : Int) (p6_ : Pt) (s7_ : Sl) (i8_ : Int) (h : H) : Prop :=
 bif (decide (i8_ > (0))) then
 callA S i_spec_l01DrawTile [.ptr p0_, .int .i64 i1_] h fun cs1 h0 =>
 lenA cs1 4 (
 newS 1 4 (spl [.int .i64 (0), .int .i64 (0), .int .i64 (0), .int .i64 (0)] 0 4 cs1) h0 fun s2 h3 =>
 app s7_ s2 4 h3 fun s4 h5 =>
 X0 (spec_l01DrawOf_e0 p0_ i1_ p6_ s4 (w64 (i8_ - (1)))) h5)
 else
 spec_l01DrawOf_C0 S K i1_ p6_ s7_ h
theorem spec_l01DrawOf_link0 (S : SatT) (K : AVal → H → Prop) (X0 : Frame → H → Prop) (p0_ : Pt) (i1_ : Int) (p6_ : Pt) (s7_ : Sl) (i8_ : Int) (h : H) : spec_l01DrawOf_w0 S K X0 (spec_l01DrawOf_e0 p0_ i1_ p6_ s7_ i8_) h = spec_l01DrawOf_b0 S K X0 p0_ i1_ p6_ s7_ i8_ h := by kernel_rfl
theorem spec_l01DrawOf_rule0 (S : SatT) (K : AVal → H → Prop) (p0_ : Pt) (i1_ : Int) (p6_ : Pt) (I_ : Sl → Int → H → Prop) (m_ : Sl → Int → H → Nat)
    (hs : ∀ (X0 : Frame → H → Prop) (s7_ : Sl) (i8_ : Int) (h : H), I_ s7_ i8_ h → (∀ (s7_' : Sl) (i8_' : Int) (h' : H), I_ s7_' i8_' h' → m_ s7_' i8_' h' < m_ s7_ i8_ h → X0 (spec_l01DrawOf_e0 p0_ i1_ p6_ s7_' i8_') h') → spec_l01DrawOf_b0 S K X0 p0_ i1_ p6_ s7_ i8_ h) (s7_ : Sl) (i8_ : Int) {h : H} (h0 : I_ s7_ i8_ h) : spec_l01DrawOf_L0 S K p0_ i1_ p6_ s7_ i8_ h :=
  loop_rule (σ := (Sl) × (Int)) (fun s_ => spec_l01DrawOf_e0 p0_ i1_ p6_ (s_.1) (s_.2)) (fun s_ h => I_ (s_.1) (s_.2) h) (fun s_ h => m_ (s_.1) (s_.2) h)
    (fun X s_ h hi hx => (spec_l01DrawOf_link0 S K X p0_ i1_ p6_ (s_.1) (s_.2) h).mpr (hs X (s_.1) (s_.2) h hi fun s7_' i8_' h' hi' hm' => hx (s7_', i8_') h' hi' hm')) (s7_, i8_) h0
def spec_l01DrawOf_main (S : SatT) (K : AVal → H → Prop) (x0 : Pt) (x1 : Int) (x2 : Int) (h : H) : Prop :=
 newO [.int .i64 (0), .sl Sl.nil] h fun p0 h1 =>
 newS 0 4 [] h1 fun s2 h3 =>
 spec_l01DrawOf_L0 S K x0 x1 p0 s2 x2 h3
theorem spec_l01DrawOf_main_link (S : SatT) (K : AVal → H → Prop) (x0 : Pt) (x1 : Int) (x2 : Int) (h : H) : cwp S tab spec_l01DrawOf_M [] (bodyOf Tryz.f132) (kFun tab Tryz.f132.results.toList K) (fr0 Tryz.f132 [.ptr x0, .int .i64 x1, .int .i64 x2]) h = spec_l01DrawOf_main S K x0 x1 x2 h := by kernel_rfl
theorem spec_l01DrawOf_call (x0 : Pt) (x1 : Int) (x2 : Int) (h : H) (K : List AVal → H → Prop) (hm : spec_l01DrawOf_main (Sat Tryz.prog) (fun v h' => ∃ r, v = .agg r ∧ K r h') x0 x1 x2 h) : callA (Sat Tryz.prog) i_spec_l01DrawOf [.ptr x0, .int .i64 x1, .int .i64 x2] h K := by
  have := Sat.ex tok mixed spec_l01DrawOf_M Tryz.func132 (c := bodyOf Tryz.f132) (by kernel_rfl) (calls_of Tryz.func132 (c := bodyOf Tryz.f132) (by kernel_rfl) (by decide)) ((spec_l01DrawOf_main_link _ _ x0 x1 x2 h).mpr hm)
  obtain ⟨v, h2, h3, r, rfl, h4⟩ := this; exact ⟨r, h2, h3, h4⟩

/-! ### loop.example/g01354/spec.l01Is -/
def spec_l01Is_M : Nat → List Nat := fun i => bif i == 0 then [1, 3] else []
def spec_l01Is_ks5 (S : SatT) (K : AVal → H → Prop) : Kont := kSeq (cwp S tab spec_l01Is_M [] (sub [1, 1, 1] (bodyOf Tryz.f49)) (kFun tab (Tryz.f49).results.toList K)) (kFun tab (Tryz.f49).results.toList K)
def spec_l01Is_e0 (p1_ : Pt) (i3_ : Int) : Frame := [U, .ptr p1_, U, .int .i64 i3_, U, U, U, U, U, U, U, U, U, U, U, U, U, U, U, U, U, U, U, U, U, U, U, U, U, U, U, U, U, U, U, U, U, U, U, U, U, U, U, U, U, U, U, U, U]
def spec_l01Is_w0 (S : SatT) (K : AVal → H → Prop) : (Frame → H → Prop) → Frame → H → Prop := fun X fr h => cwp S tab spec_l01Is_M (spec_l01Is_M 0) (sub [1, 1, 0, 1, 0, 0] (bodyOf Tryz.f49)) (kSeq (fun fr h => X (mask (spec_l01Is_M 0) fr) h) (kBlk 0 (spec_l01Is_ks5 S K))) fr h
def spec_l01Is_L0 (S : SatT) (K : AVal → H → Prop) (p1_ : Pt) (i3_ : Int) (h : H) : Prop := loopK (spec_l01Is_w0 S K) (spec_l01Is_e0 p1_ i3_) h
def spec_l01Is_C0 (S : SatT) (K : AVal → H → Prop) (h : H) : Prop :=
 K (.bool true) h
def spec_l01Is_b0 (S : SatT) (K : AVal → H → Prop) (X0 : Frame → H → Prop) (p1_ : Pt) (i3_ : Int) (h : H) : Prop :=
 isPt p1_ (
 ldS (Pt.add p1_ 1) h fun s0 =>
 bif (decide (i3_ < (s0.len : Int))) then
 isPt p1_ (
 ldI .i64 (Pt.add p1_ 0) h fun n1 =>
 isPt p1_ (
 ldS (Pt.add p1_ 1) h fun s2 =>
 ixS s2 4 i3_ fun p3 =>
 ldA p3 4 h fun cs4 =>
 callB S i_spec_l01Tile [.int .i64 n1, .agg cs4] h fun b6 h5 =>
 bif (!b6) then
 K (.bool false) h5
 else
 bif (decide (i3_ > (0))) then
 isPt p1_ (
 ldS (Pt.add p1_ 1) h5 fun s7 =>
 ixS s7 4 (w64 (i3_ - (1))) fun p8 =>
 ldA p8 4 h5 fun cs9 =>
 isPt p1_ (
 ldS (Pt.add p1_ 1) h5 fun s10 =>
 ixS s10 4 i3_ fun p11 =>
 ldA p11 4 h5 fun cs12 =>
 callB S i_spec_l01Before [.agg cs9, .agg cs12] h5 fun b14 h13 =>
 bif (!b14) then
 K (.bool false) h13
 else
 X0 (spec_l01Is_e0 p1_ (w64 (i3_ + (1)))) h13))
 else
 X0 (spec_l01Is_e0 p1_ (w64 (i3_ + (1)))) h5))
 else
 spec_l01Is_C0 S K h)
theorem spec_l01Is_link0 (S : SatT) (K : AVal → H → Prop) (X0 : Frame → H → Prop) (p1_ : Pt) (i3_ : Int) (h : H) : spec_l01Is_w0 S K X0 (spec_l01Is_e0 p1_ i3_) h = spec_l01Is_b0 S K X0 p1_ i3_ h := by kernel_rfl
theorem spec_l01Is_rule0 (S : SatT) (K : AVal → H → Prop) (p1_ : Pt) (I_ : Int → H → Prop) (m_ : Int → H → Nat)
    (hs : ∀ (X0 : Frame → H → Prop) (i3_ : Int) (h : H), I_ i3_ h → (∀ (i3_' : Int) (h' : H), I_ i3_' h' → m_ i3_' h' < m_ i3_ h → X0 (spec_l01Is_e0 p1_ i3_') h') → spec_l01Is_b0 S K X0 p1_ i3_ h) (i3_ : Int) {h : H} (h0 : I_ i3_ h) : spec_l01Is_L0 S K p1_ i3_ h :=
  loop_rule (σ := (Int)) (fun s_ => spec_l01Is_e0 p1_ (s_)) (fun s_ h => I_ (s_) h) (fun s_ h => m_ (s_) h)
    (fun X s_ h hi hx => (spec_l01Is_link0 S K X p1_ (s_) h).mpr (hs X (s_) h hi fun i3_' h' hi' hm' => hx (i3_') h' hi' hm')) (i3_) h0
def spec_l01Is_main (S : SatT) (K : AVal → H → Prop) (x0 : List AVal) (h : H) : Prop :=
 newK 2 x0 h fun p0 h1 =>
 isPt p0 (
 ldI .i64 (Pt.add p0 0) h1 fun n2 =>
 callB S i_spec_l01In [.int .i64 n2, .int .i64 (1), .int .i64 (6)] h1 fun b4 h3 =>
 bif (!b4) then
 K (.bool false) h3
 else
 isPt p0 (
 ldS (Pt.add p0 1) h3 fun s5 =>
 bif (decide ((s5.len : Int) > (16))) then
 K (.bool false) h3
 else
 spec_l01Is_L0 S K p0 (0) h3))
theorem spec_l01Is_main_link (S : SatT) (K : AVal → H → Prop) (x0 : List AVal) (h : H) : cwp S tab spec_l01Is_M [] (bodyOf Tryz.f49) (kFun tab Tryz.f49.results.toList K) (fr0 Tryz.f49 [.agg x0]) h = spec_l01Is_main S K x0 h := by kernel_rfl
theorem spec_l01Is_call (x0 : List AVal) (h : H) (K : Bool → H → Prop) (hm : spec_l01Is_main (Sat Tryz.prog) (fun v h' => ∃ r, v = .bool r ∧ K r h') x0 h) : callB (Sat Tryz.prog) i_spec_l01Is [.agg x0] h K := by
  have := Sat.ex tok mixed spec_l01Is_M Tryz.func49 (c := bodyOf Tryz.f49) (by kernel_rfl) (calls_of Tryz.func49 (c := bodyOf Tryz.f49) (by kernel_rfl) (by decide)) ((spec_l01Is_main_link _ _ x0 h).mpr hm)
  obtain ⟨v, h2, h3, r, rfl, h4⟩ := this; exact ⟨r, h2, h3, h4⟩

/-! ### loop.example/g01354/spec.l01Before -/
def spec_l01Before_M : Nat → List Nat := fun i => bif i == 0 then [2, 3, 5] else []
def spec_l01Before_ks1 (S : SatT) (K : AVal → H → Prop) : Kont := kSeq (cwp S tab spec_l01Before_M [] (sub [1, 1] (bodyOf Tryz.f99)) (kFun tab (Tryz.f99).results.toList K)) (kFun tab (Tryz.f99).results.toList K)
def spec_l01Before_e0 (p2_ : Pt) (p3_ : Pt) (i5_ : Int) : Frame := [U, U, .ptr p2_, .ptr p3_, U, .int .i64 i5_, U, U, U, U, U, U, U, U, U, U, U, U, U, U, U, U, U, U]
def spec_l01Before_w0 (S : SatT) (K : AVal → H → Prop) : (Frame → H → Prop) → Frame → H → Prop := fun X fr h => cwp S tab spec_l01Before_M (spec_l01Before_M 0) (sub [1, 0, 1, 0, 0] (bodyOf Tryz.f99)) (kSeq (fun fr h => X (mask (spec_l01Before_M 0) fr) h) (kBlk 0 (spec_l01Before_ks1 S K))) fr h
def spec_l01Before_L0 (S : SatT) (K : AVal → H → Prop) (p2_ : Pt) (p3_ : Pt) (i5_ : Int) (h : H) : Prop := loopK (spec_l01Before_w0 S K) (spec_l01Before_e0 p2_ p3_ i5_) h
def spec_l01Before_C0 (S : SatT) (K : AVal → H → Prop) (h : H) : Prop :=
 K (.bool false) h
def spec_l01Before_b0 (S : SatT) (K : AVal → H → Prop) (X0 : Frame → H → Prop) (p2_ : Pt) (p3_ : Pt) (i5_ : Int) (h : H) : Prop :=
 bif (decide (i5_ < (4))) then
 ixA p2_ 4 1 i5_ fun p0 =>
 ldI .i64 p0 h fun n1 =>
 ixA p3_ 4 1 i5_ fun p2 =>
 ldI .i64 p2 h fun n3 =>
 bif (n1 != n3) then
 ixA p2_ 4 1 i5_ fun p4 =>
 ldI .i64 p4 h fun n5 =>
 ixA p3_ 4 1 i5_ fun p6 =>
 ldI .i64 p6 h fun n7 =>
 K (.bool (decide (n5 < n7))) h
 else
 X0 (spec_l01Before_e0 p2_ p3_ (w64 (i5_ + (1)))) h
 else
 spec_l01Before_C0 S K h
theorem spec_l01Before_link0 (S : SatT) (K : AVal → H → Prop) (X0 : Frame → H → Prop) (p2_ : Pt) (p3_ : Pt) (i5_ : Int) (h : H) : spec_l01Before_w0 S K X0 (spec_l01Before_e0 p2_ p3_ i5_) h = spec_l01Before_b0 S K X0 p2_ p3_ i5_ h := by kernel_rfl
theorem spec_l01Before_rule0 (S : SatT) (K : AVal → H → Prop) (p2_ : Pt) (p3_ : Pt) (I_ : Int → H → Prop) (m_ : Int → H → Nat)
    (hs : ∀ (X0 : Frame → H → Prop) (i5_ : Int) (h : H), I_ i5_ h → (∀ (i5_' : Int) (h' : H), I_ i5_' h' → m_ i5_' h' < m_ i5_ h → X0 (spec_l01Before_e0 p2_ p3_ i5_') h') → spec_l01Before_b0 S K X0 p2_ p3_ i5_ h) (i5_ : Int) {h : H} (h0 : I_ i5_ h) : spec_l01Before_L0 S K p2_ p3_ i5_ h :=
  loop_rule (σ := (Int)) (fun s_ => spec_l01Before_e0 p2_ p3_ (s_)) (fun s_ h => I_ (s_) h) (fun s_ h => m_ (s_) h)
    (fun X s_ h hi hx => (spec_l01Before_link0 S K X p2_ p3_ (s_) h).mpr (hs X (s_) h hi fun i5_' h' hi' hm' => hx (i5_') h' hi' hm')) (i5_) h0
def spec_l01Before_main (S : SatT) (K : AVal → H → Prop) (x0 : List AVal) (x1 : List AVal) (h : H) : Prop :=
 newK 4 x0 h fun p0 h1 =>
 newK 4 x1 h1 fun p2 h3 =>
 spec_l01Before_L0 S K p0 p2 (0) h3
theorem spec_l01Before_main_link (S : SatT) (K : AVal → H → Prop) (x0 : List AVal) (x1 : List AVal) (h : H) : cwp S tab spec_l01Before_M [] (bodyOf Tryz.f99) (kFun tab Tryz.f99.results.toList K) (fr0 Tryz.f99 [.agg x0, .agg x1]) h = spec_l01Before_main S K x0 x1 h := by kernel_rfl
theorem spec_l01Before_call (x0 : List AVal) (x1 : List AVal) (h : H) (K : Bool → H → Prop) (hm : spec_l01Before_main (Sat Tryz.prog) (fun v h' => ∃ r, v = .bool r ∧ K r h') x0 x1 h) : callB (Sat Tryz.prog) i_spec_l01Before [.agg x0, .agg x1] h K := by
  have := Sat.ex tok mixed spec_l01Before_M Tryz.func99 (c := bodyOf Tryz.f99) (by kernel_rfl) (calls_of Tryz.func99 (c := bodyOf Tryz.f99) (by kernel_rfl) (by decide)) ((spec_l01Before_main_link _ _ x0 x1 h).mpr hm)
  obtain ⟨v, h2, h3, r, rfl, h4⟩ := this; exact ⟨r, h2, h3, h4⟩

/-! ### loop.example/g01354/spec.l04Tile -/
def spec_l04Tile_M : Nat → List Nat := fun i => []
def spec_l04Tile_main (S : SatT) (K : AVal → H → Prop) (x0 : List AVal) (x1 : List AVal) (x2 : Sl) (h : H) : Prop :=
 newK 4 x0 h fun p0 h1 =>
 newK 4 x1 h1 fun p2 h3 =>
 newO [.int .i64 (0), .int .i64 (0), .int .i64 (0), .int .i64 (0)] h3 fun p4 h5 =>
 ixA p0 4 1 (0) fun p6 =>
 ldI .i64 p6 h5 fun n7 =>
 ixA p2 4 1 (0) fun p8 =>
 ldI .i64 p8 h5 fun n9 =>
 callI S .i64 i_spec_l04Find [.sl x2, .int .i64 (w64 ((w64 ((16) * n7)) + n9))] h5 fun n11 h10 =>
 ixA p0 4 1 (1) fun p12 =>
 ldI .i64 p12 h10 fun n13 =>
(cell h5 p12 = cell h10 p12) ∧ (
 ixA p0 4 1 (2) fun p14 =>
 ldI .i64 p14 h10 fun n15 =>
(cell h5 p14 = cell h10 p14) ∧ (
 ixA p2 4 1 (2) fun p16 =>
 ldI .i64 p16 h10 fun n17 =>
(cell h5 p16 = cell h10 p16) ∧ (
 callI S .i64 i_spec_l04Find [.sl x2, .int .i64 (w64 ((w64 ((16) * n15)) + n17))] h10 fun n19 h18 =>
(cell h18 p12 = cell h10 p12) ∧ (
 ixA p2 4 1 (3) fun p20 =>
 ldI .i64 p20 h18 fun n21 =>
(cell h10 p20 = cell h18 p20) ∧ (
(cell h5 p20 = cell h18 p20) ∧ (
 stN p4 4 [.int .i64 n11, .int .i64 n13, .int .i64 n19, .int .i64 n21] h18 fun h22 =>
 ldA p4 4 h22 fun cs23 =>
 K (.agg cs23) h22))))))
theorem spec_l04Tile_main_link (S : SatT) (K : AVal → H → Prop) (x0 : List AVal) (x1 : List AVal) (x2 : Sl) (h : H) : cwp S tab spec_l04Tile_M [] (bodyOf Tryz.f48) (kFun tab Tryz.f48.results.toList K) (fr0 Tryz.f48 [.agg x0, .agg x1, .sl x2]) h = spec_l04Tile_main S K x0 x1 x2 h := by kernel_rfl
theorem spec_l04Tile_call (x0 : List AVal) (x1 : List AVal) (x2 : Sl) (h : H) (K : List AVal → H → Prop) (hm : spec_l04Tile_main (Sat Tryz.prog) (fun v h' => ∃ r, v = .agg r ∧ K r h') x0 x1 x2 h) : callA (Sat Tryz.prog) i_spec_l04Tile [.agg x0, .agg x1, .sl x2] h K := by
  have := Sat.ex tok mixed spec_l04Tile_M Tryz.func48 (c := bodyOf Tryz.f48) (by kernel_rfl) (calls_of Tryz.func48 (c := bodyOf Tryz.f48) (by kernel_rfl) (by decide)) ((spec_l04Tile_main_link _ _ x0 x1 x2 h).mpr hm)
  obtain ⟨v, h2, h3, r, rfl, h4⟩ := this; exact ⟨r, h2, h3, h4⟩

/-! ### loop.example/g01354/impl.WordsOfRow -/
def impl_WordsOfRow_M : Nat → List Nat := fun i => []
def impl_WordsOfRow_main (S : SatT) (K : AVal → H → Prop) (x0 : List AVal) (x1 : Sl) (h : H) : Prop :=
 newK 2 x0 h fun p0 h1 =>
 newO [.sl x1] h1 fun p2 h3 =>
 ldA p0 2 h3 fun cs4 =>
 callI S .i64 i_impl_setCode [.agg cs4, .func 56 [.ptr p0, .ptr p2]] h3 fun n6 h5 =>
 bif (n6 != (0)) then
 K (.tuple [.sl Sl.nil, .sl Sl.nil, .int .i64 n6]) h5
 else
 ldA p0 2 h5 fun cs7 =>
 ldS p2 h5 fun s8 =>
 callS S i_impl_Set_word [.agg cs7, .sl s8, .int .i64 (1)] h5 fun s10 h9 =>
 ldA p0 2 h9 fun cs11 =>
(range h5 p0.o p0.n p0.off 2 = range h9 p0.o p0.n p0.off 2) ∧ (
 ldS p2 h9 fun s12 =>
(cell h5 p2 = cell h9 p2) ∧ (
 callS S i_impl_Set_word [.agg cs11, .sl s12, .int .i64 (3)] h9 fun s14 h13 =>
 K (.tuple [.sl s10, .sl s14, .int .i64 (0)]) h13))
theorem impl_WordsOfRow_main_link (S : SatT) (K : AVal → H → Prop) (x0 : List AVal) (x1 : Sl) (h : H) : cwp S tab impl_WordsOfRow_M [] (bodyOf Tryz.f18) (kFun tab Tryz.f18.results.toList K) (fr0 Tryz.f18 [.agg x0, .sl x1]) h = impl_WordsOfRow_main S K x0 x1 h := by kernel_rfl
theorem impl_WordsOfRow_call (x0 : List AVal) (x1 : Sl) (h : H) (K : AVal → H → Prop) (hm : impl_WordsOfRow_main (Sat Tryz.prog) (fun v h' => K v h') x0 x1 h) : callV (Sat Tryz.prog) i_impl_WordsOfRow [.agg x0, .sl x1] h K := by
  have := Sat.ex tok mixed impl_WordsOfRow_M Tryz.func18 (c := bodyOf Tryz.f18) (by kernel_rfl) (calls_of Tryz.func18 (c := bodyOf Tryz.f18) (by kernel_rfl) (by decide)) ((impl_WordsOfRow_main_link _ _ x0 x1 h).mpr hm)
  exact this

/-! ### cmp.Compare[int64] -/
def cmp_Compare_int64__M : Nat → List Nat := fun i => []
def cmp_Compare_int64__main (S : SatT) (K : AVal → H → Prop) (x0 : Int) (x1 : Int) (h : H) : Prop :=
 callB S i_cmp_isNaN_int64_ [.int .i64 x0] h fun b1 h0 =>
 callB S i_cmp_isNaN_int64_ [.int .i64 x1] h0 fun b3 h2 =>
 bif b1 then
 bif b3 then
 K (.int .i64 (0)) h2
 else
 K (.int .i64 (-1)) h2
 else
 bif b3 then
 K (.int .i64 (1)) h2
 else
 bif (decide (x0 < x1)) then
 K (.int .i64 (-1)) h2
 else
 bif (decide (x0 > x1)) then
 K (.int .i64 (1)) h2
 else
 K (.int .i64 (0)) h2
theorem cmp_Compare_int64__main_link (S : SatT) (K : AVal → H → Prop) (x0 : Int) (x1 : Int) (h : H) : cwp S tab cmp_Compare_int64__M [] (bodyOf Tryz.f137) (kFun tab Tryz.f137.results.toList K) (fr0 Tryz.f137 [.int .i64 x0, .int .i64 x1]) h = cmp_Compare_int64__main S K x0 x1 h := by kernel_rfl
theorem cmp_Compare_int64__call (x0 : Int) (x1 : Int) (h : H) (K : Int → H → Prop) (hm : cmp_Compare_int64__main (Sat Tryz.prog) (fun v h' => ∃ r, v = .int .i64 r ∧ K r h') x0 x1 h) : callI (Sat Tryz.prog) .i64 i_cmp_Compare_int64_ [.int .i64 x0, .int .i64 x1] h K := by
  have := Sat.ex tok mixed cmp_Compare_int64__M Tryz.func137 (c := bodyOf Tryz.f137) (by kernel_rfl) (calls_of Tryz.func137 (c := bodyOf Tryz.f137) (by kernel_rfl) (by decide)) ((cmp_Compare_int64__main_link _ _ x0 x1 h).mpr hm)
  obtain ⟨v, h2, h3, r, rfl, h4⟩ := this; exact ⟨r, h2, h3, h4⟩

/-! ### loop.example/g01354/spec.DrawStackSets -/
def spec_DrawStackSets_M : Nat → List Nat := fun i => []
def spec_DrawStackSets_main (S : SatT) (K : AVal → H → Prop) (x0 : Sl) (h : H) : Prop :=
 newO [.int .i64 (0), .sl Sl.nil] h fun p0 h1 =>
 newO [.int .i64 (0), .sl Sl.nil] h1 fun p2 h3 =>
 callV S i_spec_l04Two [.sl x0] h3 fun v5 h4 =>
 viaT v5 fun vs6 =>
 exA vs6 0 fun cs7 =>
 viaT v5 fun vs8 =>
 exA vs8 1 fun cs9 =>
 stN p0 2 cs7 h4 fun h10 =>
 stN p2 2 cs9 h10 fun h11 =>
 ldA p0 2 h11 fun cs12 =>
 ldA p2 2 h11 fun cs13 =>
 K (.tuple [.agg cs12, .agg cs13]) h11
theorem spec_DrawStackSets_main_link (S : SatT) (K : AVal → H → Prop) (x0 : Sl) (h : H) : cwp S tab spec_DrawStackSets_M [] (bodyOf Tryz.f10) (kFun tab Tryz.f10.results.toList K) (fr0 Tryz.f10 [.sl x0]) h = spec_DrawStackSets_main S K x0 h := by kernel_rfl
theorem spec_DrawStackSets_call (x0 : Sl) (h : H) (K : AVal → H → Prop) (hm : spec_DrawStackSets_main (Sat Tryz.prog) (fun v h' => K v h') x0 h) : callV (Sat Tryz.prog) i_spec_DrawStackSets [.sl x0] h K := by
  have := Sat.ex tok mixed spec_DrawStackSets_M Tryz.func10 (c := bodyOf Tryz.f10) (by kernel_rfl) (calls_of Tryz.func10 (c := bodyOf Tryz.f10) (by kernel_rfl) (by decide)) ((spec_DrawStackSets_main_link _ _ x0 h).mpr hm)
  exact this

/-! ### (loop.example/g01354/impl.Set).isNumber -/
def impl_Set_isNumber_M : Nat → List Nat := fun i => []
def impl_Set_isNumber_main (S : SatT) (K : AVal → H → Prop) (x0 : List AVal) (x1 : Int) (h : H) : Prop :=
 newK 2 x0 h fun p0 h1 =>
 isPt p0 (
 ldS (Pt.add p0 1) h1 fun s2 =>
 callB S i_impl_within [.int .i64 x1, .int .i64 (0), .int .i64 (w64 ((s2.len : Int) - (1)))] h1 fun b4 h3 =>
 K (.bool b4) h3)
theorem impl_Set_isNumber_main_link (S : SatT) (K : AVal → H → Prop) (x0 : List AVal) (x1 : Int) (h : H) : cwp S tab impl_Set_isNumber_M [] (bodyOf Tryz.f94) (kFun tab Tryz.f94.results.toList K) (fr0 Tryz.f94 [.agg x0, .int .i64 x1]) h = impl_Set_isNumber_main S K x0 x1 h := by kernel_rfl
theorem impl_Set_isNumber_call (x0 : List AVal) (x1 : Int) (h : H) (K : Bool → H → Prop) (hm : impl_Set_isNumber_main (Sat Tryz.prog) (fun v h' => ∃ r, v = .bool r ∧ K r h') x0 x1 h) : callB (Sat Tryz.prog) i_impl_Set_isNumber [.agg x0, .int .i64 x1] h K := by
  have := Sat.ex tok mixed impl_Set_isNumber_M Tryz.func94 (c := bodyOf Tryz.f94) (by kernel_rfl) (calls_of Tryz.func94 (c := bodyOf Tryz.f94) (by kernel_rfl) (by decide)) ((impl_Set_isNumber_main_link _ _ x0 x1 h).mpr hm)
  obtain ⟨v, h2, h3, r, rfl, h4⟩ := this; exact ⟨r, h2, h3, h4⟩

/-! ### loop.example/g01354/spec.l01Spoil -/
def spec_l01Spoil_M : Nat → List Nat := fun i => []
def spec_l01Spoil_main (S : SatT) (K : AVal → H → Prop) (x0 : Pt) (h : H) : Prop :=
 newO [.int .i64 (0), .sl Sl.nil] h fun p0 h1 =>
 callA S i_spec_l01Draw [.ptr x0] h1 fun cs3 h2 =>
 callA S i_spec_l01Bad [.ptr x0, .agg cs3] h2 fun cs5 h4 =>
 stN p0 2 cs5 h4 fun h6 =>
 ldA p0 2 h6 fun cs7 =>
 K (.agg cs7) h6
theorem spec_l01Spoil_main_link (S : SatT) (K : AVal → H → Prop) (x0 : Pt) (h : H) : cwp S tab spec_l01Spoil_M [] (bodyOf Tryz.f88) (kFun tab Tryz.f88.results.toList K) (fr0 Tryz.f88 [.ptr x0]) h = spec_l01Spoil_main S K x0 h := by kernel_rfl
theorem spec_l01Spoil_call (x0 : Pt) (h : H) (K : List AVal → H → Prop) (hm : spec_l01Spoil_main (Sat Tryz.prog) (fun v h' => ∃ r, v = .agg r ∧ K r h') x0 h) : callA (Sat Tryz.prog) i_spec_l01Spoil [.ptr x0] h K := by
  have := Sat.ex tok mixed spec_l01Spoil_M Tryz.func88 (c := bodyOf Tryz.f88) (by kernel_rfl) (calls_of Tryz.func88 (c := bodyOf Tryz.f88) (by kernel_rfl) (by decide)) ((spec_l01Spoil_main_link _ _ x0 h).mpr hm)
  obtain ⟨v, h2, h3, r, rfl, h4⟩ := this; exact ⟨r, h2, h3, h4⟩

/-! ### loop.example/g01354/spec.l01In -/
def spec_l01In_M : Nat → List Nat := fun i => []
def spec_l01In_main (S : SatT) (K : AVal → H → Prop) (x0 : Int) (x1 : Int) (x2 : Int) (h : H) : Prop :=
 bif (decide (x0 ≥ x1)) then
 K (.bool (decide (x0 ≤ x2))) h
 else
 K (.bool false) h
theorem spec_l01In_main_link (S : SatT) (K : AVal → H → Prop) (x0 : Int) (x1 : Int) (x2 : Int) (h : H) : cwp S tab spec_l01In_M [] (bodyOf Tryz.f65) (kFun tab Tryz.f65.results.toList K) (fr0 Tryz.f65 [.int .i64 x0, .int .i64 x1, .int .i64 x2]) h = spec_l01In_main S K x0 x1 x2 h := by kernel_rfl
theorem spec_l01In_call (x0 : Int) (x1 : Int) (x2 : Int) (h : H) (K : Bool → H → Prop) (hm : spec_l01In_main (Sat Tryz.prog) (fun v h' => ∃ r, v = .bool r ∧ K r h') x0 x1 x2 h) : callB (Sat Tryz.prog) i_spec_l01In [.int .i64 x0, .int .i64 x1, .int .i64 x2] h K := by
  have := Sat.ex tok mixed spec_l01In_M Tryz.func65 (c := bodyOf Tryz.f65) (by kernel_rfl) (calls_of Tryz.func65 (c := bodyOf Tryz.f65) (by kernel_rfl) (by decide)) ((spec_l01In_main_link _ _ x0 x1 x2 h).mpr hm)
  obtain ⟨v, h2, h3, r, rfl, h4⟩ := this; exact ⟨r, h2, h3, h4⟩

/-! ### loop.example/g01354/spec.l02DrawRow -/
def spec_l02DrawRow_M : Nat → List Nat := fun i => bif i == 2 then [0, 3, 5, 6, 7, 8, 9, 10] else bif i == 0 then [0, 3, 5, 6, 7] else []
def spec_l02DrawRow_ks8 (S : SatT) (K : AVal → H → Prop) : Kont := kSeq (cwp S tab spec_l02DrawRow_M [] (sub [1, 1, 1, 1, 1, 1] (bodyOf Tryz.f39)) (kFun tab (Tryz.f39).results.toList K)) (kFun tab (Tryz.f39).results.toList K)
def spec_l02DrawRow_e0 (p0_ : Pt) (p3_ : Pt) (s5_ : Sl) (i6_ : Int) (i7_ : Int) : Frame := [.ptr p0_, U, U, .ptr p3_, U, .sl s5_, .int .i64 i6_, .int .i64 i7_, U, U, U, U, U, U, U, U, U, U, U, U, U, U, U, U, U, U, U, U, U, U, U, U, U, U, U, U, U, U, U, U, U, U, U, U, U, U, U, U, U, U, U, U, U, U, U, U, U, U, U, U, U, U, U, U, U, U, U, U, U, U, U, U, U, U, U, U, U, U, U, U, U, U, U, U, U, U, U, U, U, U, U, U, U, U, U, U, U, U, U, U, U, U, U, U]
def spec_l02DrawRow_w0 (S : SatT) (K : AVal → H → Prop) : (Frame → H → Prop) → Frame → H → Prop := fun X fr h => cwp S tab spec_l02DrawRow_M (spec_l02DrawRow_M 0) (sub [1, 1, 1, 1, 1, 0, 1, 0, 0] (bodyOf Tryz.f39)) (kSeq (fun fr h => X (mask (spec_l02DrawRow_M 0) fr) h) (kBlk 0 (spec_l02DrawRow_ks8 S K))) fr h
def spec_l02DrawRow_L0 (S : SatT) (K : AVal → H → Prop) (p0_ : Pt) (p3_ : Pt) (s5_ : Sl) (i6_ : Int) (i7_ : Int) (h : H) : Prop := loopK (spec_l02DrawRow_w0 S K) (spec_l02DrawRow_e0 p0_ p3_ s5_ i6_ i7_) h
def spec_l02DrawRow_ks12 (S : SatT) (K : AVal → H → Prop) (X0 : Frame → H → Prop) : Kont := kSeq (cwp S tab spec_l02DrawRow_M (spec_l02DrawRow_M 0) (sub [1, 1, 1, 1, 1, 0, 1, 0, 0, 1, 1] (bodyOf Tryz.f39)) (kSeq (fun fr h => X0 (mask (spec_l02DrawRow_M 0) fr) h) (kBlk 0 (spec_l02DrawRow_ks8 S K)))) (kSeq (fun fr h => X0 (mask (spec_l02DrawRow_M 0) fr) h) (kBlk 0 (spec_l02DrawRow_ks8 S K)))
def spec_l02DrawRow_ks15 (S : SatT) (K : AVal → H → Prop) (X0 : Frame → H → Prop) : Kont := kSeq (cwp S tab spec_l02DrawRow_M (spec_l02DrawRow_M 1) (sub [1, 1, 1, 1, 1, 0, 1, 0, 0, 1, 0, 0, 1, 1, 1] (bodyOf Tryz.f39)) (kBlk 1 (spec_l02DrawRow_ks12 S K X0))) (kBlk 1 (spec_l02DrawRow_ks12 S K X0))
def spec_l02DrawRow_e2 (p0_ : Pt) (p3_ : Pt) (s5_ : Sl) (i6_ : Int) (i7_ : Int) (i8_ : Int) (b9_ : Bool) (i10_ : Int) : Frame := [.ptr p0_, U, U, .ptr p3_, U, .sl s5_, .int .i64 i6_, .int .i64 i7_, .int .i64 i8_, .bool b9_, .int .i64 i10_, U, U, U, U, U, U, U, U, U, U, U, U, U, U, U, U, U, U, U, U, U, U, U, U, U, U, U, U, U, U, U, U, U, U, U, U, U, U, U, U, U, U, U, U, U, U, U, U, U, U, U, U, U, U, U, U, U, U, U, U, U, U, U, U, U, U, U, U, U, U, U, U, U, U, U, U, U, U, U, U, U, U, U, U, U, U, U, U, U, U, U, U, U]
def spec_l02DrawRow_w2 (S : SatT) (K : AVal → H → Prop) (X0 : Frame → H → Prop) : (Frame → H → Prop) → Frame → H → Prop := fun X fr h => cwp S tab spec_l02DrawRow_M (spec_l02DrawRow_M 2) (sub [1, 1, 1, 1, 1, 0, 1, 0, 0, 1, 0, 0, 1, 1, 0, 1, 0, 0] (bodyOf Tryz.f39)) (kSeq (fun fr h => X (mask (spec_l02DrawRow_M 2) fr) h) (kBlk 2 (spec_l02DrawRow_ks15 S K X0))) fr h
def spec_l02DrawRow_L2 (S : SatT) (K : AVal → H → Prop) (X0 : Frame → H → Prop) (p0_ : Pt) (p3_ : Pt) (s5_ : Sl) (i6_ : Int) (i7_ : Int) (i8_ : Int) (b9_ : Bool) (i10_ : Int) (h : H) : Prop := loopK (spec_l02DrawRow_w2 S K X0) (spec_l02DrawRow_e2 p0_ p3_ s5_ i6_ i7_ i8_ b9_ i10_) h
def spec_l02DrawRow_C0 (S : SatT) (K : AVal → H → Prop) (p0_ : Pt) (p3_ : Pt) (s5_ : Sl) (h : H) : Prop :=
 callI S .i64 i_spec_l01Next [.ptr p0_, .int .i64 (24)] h fun n1 h0 =>
 bif (n1 == (0)) then
 isPt p3_ (
 ldS (Pt.add p3_ 1) h0 fun s2 =>
 callI S .i64 i_spec_l01Next [.ptr p0_, .int .i64 (s2.len : Int)] h0 fun n4 h3 =>
 newS 1 1 [.int .i64 n4] h3 fun s5 h6 =>
 app s5_ s5 1 h6 fun s7 h8 =>
 K (.sl s7) h8)
 else
 bif (n1 == (1)) then
 newS 3 1 [.int .i64 (-1), .int .i64 (16), .int .i64 (0)] h0 fun s9 h10 =>
 callI S .i64 i_spec_l01Pick [.ptr p0_, .sl s9] h10 fun n12 h11 =>
 ixS s5_ 1 (0) fun p13 =>
 st1 p13 (.int .i64 n12) h11 fun h14 =>
 K (.sl s5_) h14
 else
 bif (n1 == (2)) then
 newS 0 1 [] h0 fun s15 h16 =>
 K (.sl s15) h16
 else
 K (.sl s5_) h0
def spec_l02DrawRow_C1 (S : SatT) (K : AVal → H → Prop) (X0 : Frame → H → Prop) (p0_ : Pt) (p3_ : Pt) (s5_ : Sl) (i6_ : Int) (i7_ : Int) (h : H) : Prop :=
 X0 (spec_l02DrawRow_e0 p0_ p3_ s5_ i6_ (w64 (i7_ - (1)))) h
def spec_l02DrawRow_C2 (S : SatT) (K : AVal → H → Prop) (X0 : Frame → H → Prop) (p0_ : Pt) (p3_ : Pt) (s5_ : Sl) (i6_ : Int) (i7_ : Int) (b9_ : Bool) (h : H) : Prop :=
 bif (!b9_) then
 spec_l02DrawRow_C0 S K p0_ p3_ s5_ h
 else
 newS 1 1 [.int .i64 i6_] h fun s0 h1 =>
 app s5_ s0 1 h1 fun s2 h3 =>
 spec_l02DrawRow_C1 S K X0 p0_ p3_ s2 i6_ i7_ h3
def spec_l02DrawRow_b2 (S : SatT) (K : AVal → H → Prop) (X0 : Frame → H → Prop) (X2 : Frame → H → Prop) (p0_ : Pt) (p3_ : Pt) (s5_ : Sl) (i6_ : Int) (i7_ : Int) (i8_ : Int) (b9_ : Bool) (i10_ : Int) (h : H) : Prop :=
 isPt p3_ (
 ldS (Pt.add p3_ 1) h fun s0 =>
 bif (decide (i10_ < (s0.len : Int))) then
 bif (!b9_) then
 isPt p3_ (
 ldS (Pt.add p3_ 1) h fun s1 =>
 nz (s1.len : Int) (
 isPt p3_ (
 ldS (Pt.add p3_ 1) h fun s2 =>
 ixS s2 4 (Int.tmod (w64 (i8_ + i10_)) (s1.len : Int)) fun p3 =>
 ixA p3 4 1 (0) fun p4 =>
 ldI .i64 p4 h fun n5 =>
 isPt p3_ (
 ldS (Pt.add p3_ 1) h fun s6 =>
 ixS s6 4 i6_ fun p7 =>
 ixA p7 4 1 (2) fun p8 =>
 ldI .i64 p8 h fun n9 =>
 bif (n5 == n9) then
 X2 (spec_l02DrawRow_e2 p0_ p3_ s5_ (Int.tmod (w64 (i8_ + i10_)) (s1.len : Int)) i7_ i8_ true (w64 (i10_ + (1)))) h
 else
 X2 (spec_l02DrawRow_e2 p0_ p3_ s5_ i6_ i7_ i8_ b9_ (w64 (i10_ + (1)))) h))))
 else
 spec_l02DrawRow_C2 S K X0 p0_ p3_ s5_ i6_ i7_ b9_ h
 else
 spec_l02DrawRow_C2 S K X0 p0_ p3_ s5_ i6_ i7_ b9_ h)
theorem spec_l02DrawRow_link2 (S : SatT) (K : AVal → H → Prop) (X0 : Frame → H → Prop) (X2 : Frame → H → Prop) (p0_ : Pt) (p3_ : Pt) (s5_ : Sl) (i6_ : Int) (i7_ : Int) (i8_ : Int) (b9_ : Bool) (i10_ : Int) (h : H) : spec_l02DrawRow_w2 S K X0 X2 (spec_l02DrawRow_e2 p0_ p3_ s5_ i6_ i7_ i8_ b9_ i10_) h = spec_l02DrawRow_b2 S K X0 X2 p0_ p3_ s5_ i6_ i7_ i8_ b9_ i10_ h := by kernel_rfl
theorem spec_l02DrawRow_rule2 (S : SatT) (K : AVal → H → Prop) (X0 : Frame → H → Prop) (p0_ : Pt) (p3_ : Pt) (s5_ : Sl) (i7_ : Int) (i8_ : Int) (I_ : Int → Bool → Int → H → Prop) (m_ : Int → Bool → Int → H → Nat)
    (hs : ∀ (X2 : Frame → H → Prop) (i6_ : Int) (b9_ : Bool) (i10_ : Int) (h : H), I_ i6_ b9_ i10_ h → (∀ (i6_' : Int) (b9_' : Bool) (i10_' : Int) (h' : H), I_ i6_' b9_' i10_' h' → m_ i6_' b9_' i10_' h' < m_ i6_ b9_ i10_ h → X2 (spec_l02DrawRow_e2 p0_ p3_ s5_ i6_' i7_ i8_ b9_' i10_') h') → spec_l02DrawRow_b2 S K X0 X2 p0_ p3_ s5_ i6_ i7_ i8_ b9_ i10_ h) (i6_ : Int) (b9_ : Bool) (i10_ : Int) {h : H} (h0 : I_ i6_ b9_ i10_ h) : spec_l02DrawRow_L2 S K X0 p0_ p3_ s5_ i6_ i7_ i8_ b9_ i10_ h :=
  loop_rule (σ := (Int) × (Bool) × (Int)) (fun s_ => spec_l02DrawRow_e2 p0_ p3_ s5_ (s_.1) i7_ i8_ (s_.2.1) (s_.2.2)) (fun s_ h => I_ (s_.1) (s_.2.1) (s_.2.2) h) (fun s_ h => m_ (s_.1) (s_.2.1) (s_.2.2) h)
    (fun X s_ h hi hx => (spec_l02DrawRow_link2 S K X0 X p0_ p3_ s5_ (s_.1) i7_ i8_ (s_.2.1) (s_.2.2) h).mpr (hs X (s_.1) (s_.2.1) (s_.2.2) h hi fun i6_' b9_' i10_' h' hi' hm' => hx (i6_', b9_', i10_') h' hi' hm')) (i6_, b9_, i10_) h0
def spec_l02DrawRow_b0 (S : SatT) (K : AVal → H → Prop) (X0 : Frame → H → Prop) (p0_ : Pt) (p3_ : Pt) (s5_ : Sl) (i6_ : Int) (i7_ : Int) (h : H) : Prop :=
 bif (decide (i7_ > (0))) then
 isPt p3_ (
 ldS (Pt.add p3_ 1) h fun s0 =>
 callI S .i64 i_spec_l01Next [.ptr p0_, .int .i64 (s0.len : Int)] h fun n2 h1 =>
 spec_l02DrawRow_L2 S K X0 p0_ p3_ s5_ i6_ i7_ n2 false (0) h1)
 else
 spec_l02DrawRow_C0 S K p0_ p3_ s5_ h
theorem spec_l02DrawRow_link0 (S : SatT) (K : AVal → H → Prop) (X0 : Frame → H → Prop) (p0_ : Pt) (p3_ : Pt) (s5_ : Sl) (i6_ : Int) (i7_ : Int) (h : H) : spec_l02DrawRow_w0 S K X0 (spec_l02DrawRow_e0 p0_ p3_ s5_ i6_ i7_) h = spec_l02DrawRow_b0 S K X0 p0_ p3_ s5_ i6_ i7_ h := by kernel_rfl
theorem spec_l02DrawRow_rule0 (S : SatT) (K : AVal → H → Prop) (p0_ : Pt) (p3_ : Pt) (I_ : Sl → Int → Int → H → Prop) (m_ : Sl → Int → Int → H → Nat)
    (hs : ∀ (X0 : Frame → H → Prop) (s5_ : Sl) (i6_ : Int) (i7_ : Int) (h : H), I_ s5_ i6_ i7_ h → (∀ (s5_' : Sl) (i6_' : Int) (i7_' : Int) (h' : H), I_ s5_' i6_' i7_' h' → m_ s5_' i6_' i7_' h' < m_ s5_ i6_ i7_ h → X0 (spec_l02DrawRow_e0 p0_ p3_ s5_' i6_' i7_') h') → spec_l02DrawRow_b0 S K X0 p0_ p3_ s5_ i6_ i7_ h) (s5_ : Sl) (i6_ : Int) (i7_ : Int) {h : H} (h0 : I_ s5_ i6_ i7_ h) : spec_l02DrawRow_L0 S K p0_ p3_ s5_ i6_ i7_ h :=
  loop_rule (σ := (Sl) × (Int) × (Int)) (fun s_ => spec_l02DrawRow_e0 p0_ p3_ (s_.1) (s_.2.1) (s_.2.2)) (fun s_ h => I_ (s_.1) (s_.2.1) (s_.2.2) h) (fun s_ h => m_ (s_.1) (s_.2.1) (s_.2.2) h)
    (fun X s_ h hi hx => (spec_l02DrawRow_link0 S K X p0_ p3_ (s_.1) (s_.2.1) (s_.2.2) h).mpr (hs X (s_.1) (s_.2.1) (s_.2.2) h hi fun s5_' i6_' i7_' h' hi' hm' => hx (s5_', i6_', i7_') h' hi' hm')) (s5_, i6_, i7_) h0
def spec_l02DrawRow_main (S : SatT) (K : AVal → H → Prop) (x0 : Pt) (x1 : List AVal) (h : H) : Prop :=
 newK 2 x1 h fun p0 h1 =>
 newS 0 1 [] h1 fun s2 h3 =>
 ldA p0 2 h3 fun cs4 =>
 callB S i_spec_l01Is [.agg cs4] h3 fun b6 h5 =>
 bif (!b6) then
 newS 1 1 [.int .i64 (0)] h5 fun s7 h8 =>
 K (.sl s7) h8
 else
 isPt p0 (
 ldS (Pt.add p0 1) h5 fun s9 =>
 bif ((s9.len : Int) == (0)) then
 newS 1 1 [.int .i64 (0)] h5 fun s10 h11 =>
 K (.sl s10) h11
 else
 isPt p0 (
 ldS (Pt.add p0 1) h5 fun s12 =>
 callI S .i64 i_spec_l01Next [.ptr x0, .int .i64 (s12.len : Int)] h5 fun n14 h13 =>
 newS 1 1 [.int .i64 n14] h13 fun s15 h16 =>
 app s2 s15 1 h16 fun s17 h18 =>
 callI S .i64 i_spec_l01Next [.ptr x0, .int .i64 (8)] h18 fun n20 h19 =>
 spec_l02DrawRow_L0 S K x0 p0 s17 n14 n20 h19))
theorem spec_l02DrawRow_main_link (S : SatT) (K : AVal → H → Prop) (x0 : Pt) (x1 : List AVal) (h : H) : cwp S tab spec_l02DrawRow_M [] (bodyOf Tryz.f39) (kFun tab Tryz.f39.results.toList K) (fr0 Tryz.f39 [.ptr x0, .agg x1]) h = spec_l02DrawRow_main S K x0 x1 h := by kernel_rfl
theorem spec_l02DrawRow_call (x0 : Pt) (x1 : List AVal) (h : H) (K : Sl → H → Prop) (hm : spec_l02DrawRow_main (Sat Tryz.prog) (fun v h' => ∃ r, v = .sl r ∧ K r h') x0 x1 h) : callS (Sat Tryz.prog) i_spec_l02DrawRow [.ptr x0, .agg x1] h K := by
  have := Sat.ex tok mixed spec_l02DrawRow_M Tryz.func39 (c := bodyOf Tryz.f39) (by kernel_rfl) (calls_of Tryz.func39 (c := bodyOf Tryz.f39) (by kernel_rfl) (by decide)) ((spec_l02DrawRow_main_link _ _ x0 x1 h).mpr hm)
  obtain ⟨v, h2, h3, r, rfl, h4⟩ := this; exact ⟨r, h2, h3, h4⟩

/-! ### loop.example/g01354/spec.l01Named -/
def spec_l01Named_M : Nat → List Nat := fun i => bif i == 0 then [0, 2, 4, 5, 6] else []
def spec_l01Named_ks3 (S : SatT) (K : AVal → H → Prop) : Kont := kSeq (cwp S tab spec_l01Named_M [] (sub [1, 1, 1, 1] (bodyOf Tryz.f129)) (kFun tab (Tryz.f129).results.toList K)) (kFun tab (Tryz.f129).results.toList K)
def spec_l01Named_e0 (f0_ : AVal) (p2_ : Pt) (s4_ : Sl) (s5_ : Sl) (i6_ : Int) : Frame := [f0_, U, .ptr p2_, U, .sl s4_, .sl s5_, .int .i64 i6_, U, U, U, U, U, U, U, U, U, U, U, U, U, U, U, U, U, U, U, U, U, U, U, U, U, U]
def spec_l01Named_w0 (S : SatT) (K : AVal → H → Prop) : (Frame → H → Prop) → Frame → H → Prop := fun X fr h => cwp S tab spec_l01Named_M (spec_l01Named_M 0) (sub [1, 1, 1, 0, 1, 0, 0] (bodyOf Tryz.f129)) (kSeq (fun fr h => X (mask (spec_l01Named_M 0) fr) h) (kBlk 0 (spec_l01Named_ks3 S K))) fr h
def spec_l01Named_L0 (S : SatT) (K : AVal → H → Prop) (f0_ : AVal) (p2_ : Pt) (s4_ : Sl) (s5_ : Sl) (i6_ : Int) (h : H) : Prop := loopK (spec_l01Named_w0 S K) (spec_l01Named_e0 f0_ p2_ s4_ s5_ i6_) h
def spec_l01Named_C0 (S : SatT) (K : AVal → H → Prop) (p2_ : Pt) (h : H) : Prop :=
 stN p2_ 2 [.int .i64 (0), .sl Sl.nil] h fun h0 =>
 ldA p2_ 2 h0 fun cs1 =>
 K (.tuple [.agg cs1, .bool false]) h0
def spec_l01Named_b0 (S : SatT) (K : AVal → H → Prop) (X0 : Frame → H → Prop) (f0_ : AVal) (p2_ : Pt) (s4_ : Sl) (s5_ : Sl) (i6_ : Int) (h : H) : Prop :=
 bif (decide (i6_ < (s4_.len : Int))) then
 ixS s4_ 1 i6_ fun p0 =>
 ldV p0 h fun v1 =>
 strEq v1 f0_ fun b2 =>
 bif b2 then
 ixS s5_ 1 i6_ fun p3 =>
 ldV p3 h fun v4 =>
 callV S i_spec_l01Read [v4] h fun v6 h5 =>
 viaT v6 fun vs7 =>
 exA vs7 0 fun cs8 =>
 viaT v6 fun vs9 =>
 exB vs9 1 fun b10 =>
 newO [.int .i64 (0), .sl Sl.nil] h5 fun p11 h12 =>
 stN p11 2 cs8 h12 fun h13 =>
 ldA p11 2 h13 fun cs14 =>
 stN p2_ 2 cs14 h13 fun h15 =>
 ldA p2_ 2 h15 fun cs16 =>
 K (.tuple [.agg cs16, .bool true]) h15
 else
 X0 (spec_l01Named_e0 f0_ p2_ s4_ s5_ (w64 (i6_ + (1)))) h
 else
 spec_l01Named_C0 S K p2_ h
theorem spec_l01Named_link0 (S : SatT) (K : AVal → H → Prop) (X0 : Frame → H → Prop) (f0_ : AVal) (p2_ : Pt) (s4_ : Sl) (s5_ : Sl) (i6_ : Int) (h : H) : spec_l01Named_w0 S K X0 (spec_l01Named_e0 f0_ p2_ s4_ s5_ i6_) h = spec_l01Named_b0 S K X0 f0_ p2_ s4_ s5_ i6_ h := by kernel_rfl
theorem spec_l01Named_rule0 (S : SatT) (K : AVal → H → Prop) (f0_ : AVal) (p2_ : Pt) (s4_ : Sl) (s5_ : Sl) (I_ : Int → H → Prop) (m_ : Int → H → Nat)
    (hs : ∀ (X0 : Frame → H → Prop) (i6_ : Int) (h : H), I_ i6_ h → (∀ (i6_' : Int) (h' : H), I_ i6_' h' → m_ i6_' h' < m_ i6_ h → X0 (spec_l01Named_e0 f0_ p2_ s4_ s5_ i6_') h') → spec_l01Named_b0 S K X0 f0_ p2_ s4_ s5_ i6_ h) (i6_ : Int) {h : H} (h0 : I_ i6_ h) : spec_l01Named_L0 S K f0_ p2_ s4_ s5_ i6_ h :=
  loop_rule (σ := (Int)) (fun s_ => spec_l01Named_e0 f0_ p2_ s4_ s5_ (s_)) (fun s_ h => I_ (s_) h) (fun s_ h => m_ (s_) h)
    (fun X s_ h hi hx => (spec_l01Named_link0 S K X f0_ p2_ s4_ s5_ (s_) h).mpr (hs X (s_) h hi fun i6_' h' hi' hm' => hx (i6_') h' hi' hm')) (i6_) h0
def spec_l01Named_main (S : SatT) (K : AVal → H → Prop) (x0 : AVal) (h : H) : Prop :=
 newO [.int .i64 (0), .sl Sl.nil] h fun p0 h1 =>
 callS S i_spec_l01Names [] h1 fun s3 h2 =>
 newS 8 1 [.str (⟨#[49, 58, 48, 48, 48, 48]⟩ : ByteArray), .str (⟨#[50, 58, 48, 48, 49, 49, 44, 49, 49, 48, 48]⟩ : ByteArray), .str (⟨#[50, 58, 48, 48, 48, 48, 44, 48, 49, 48, 49, 44, 49, 48, 49, 48, 44, 49, 49, 49, 49]⟩ : ByteArray), .str (⟨#[50, 58, 48, 48, 48, 48, 44, 48, 49, 49, 48, 44, 49, 48, 48, 49, 44, 49, 49, 49, 49]⟩ : ByteArray), .str (⟨#[50, 58, 48, 48, 48, 48, 44, 48, 49, 49, 49, 44, 49, 48, 49, 49, 44, 49, 49, 48, 48]⟩ : ByteArray), .str (⟨#[50, 58, 48, 48, 48, 48, 44, 48, 48, 49, 49, 44, 48, 49, 48, 49, 44, 49, 49, 49, 48]⟩ : ByteArray), .str (⟨#[50, 58, 48, 48, 48, 49]⟩ : ByteArray), .str (⟨#[51, 58, 48, 49, 50, 48, 44, 49, 50, 48, 49, 44, 50, 48, 49, 50]⟩ : ByteArray)] h2 fun s4 h5 =>
 spec_l01Named_L0 S K x0 p0 s3 s4 (0) h5
theorem spec_l01Named_main_link (S : SatT) (K : AVal → H → Prop) (x0 : AVal) (h : H) : cwp S tab spec_l01Named_M [] (bodyOf Tryz.f129) (kFun tab Tryz.f129.results.toList K) (fr0 Tryz.f129 [x0]) h = spec_l01Named_main S K x0 h := by kernel_rfl
theorem spec_l01Named_call (x0 : AVal) (h : H) (K : AVal → H → Prop) (hm : spec_l01Named_main (Sat Tryz.prog) (fun v h' => K v h') x0 h) : callV (Sat Tryz.prog) i_spec_l01Named [x0] h K := by
  have := Sat.ex tok mixed spec_l01Named_M Tryz.func129 (c := bodyOf Tryz.f129) (by kernel_rfl) (calls_of Tryz.func129 (c := bodyOf Tryz.f129) (by kernel_rfl) (by decide)) ((spec_l01Named_main_link _ _ x0 h).mpr hm)
  exact this

/-! ### slices.Compare[[]int64,int64] -/
def slices_Compare_s_int64_int64__M : Nat → List Nat := fun i => bif i == 0 then [0, 1, 9, 10, 11] else []
def slices_Compare_s_int64_int64__ks1 (S : SatT) (K : AVal → H → Prop) : Kont := kSeq (cwp S tab slices_Compare_s_int64_int64__M [] (sub [1, 1] (bodyOf Tryz.f104)) (kFun tab (Tryz.f104).results.toList K)) (kFun tab (Tryz.f104).results.toList K)
def slices_Compare_s_int64_int64__e0 (s0_ : Sl) (s1_ : Sl) (s9_ : Sl) (i10_ : Int) (i11_ : Int) : Frame := [.sl s0_, .sl s1_, U, U, U, U, U, U, U, .sl s9_, .int .i64 i10_, .int .i64 i11_, U, U, U, U, U, U, U, U, U, U, U, U, U, U, U, U, U, U, U, U, U, U, U, U]
def slices_Compare_s_int64_int64__w0 (S : SatT) (K : AVal → H → Prop) : (Frame → H → Prop) → Frame → H → Prop := fun X fr h => cwp S tab slices_Compare_s_int64_int64__M (slices_Compare_s_int64_int64__M 0) (sub [1, 0, 1, 0, 0] (bodyOf Tryz.f104)) (kSeq (fun fr h => X (mask (slices_Compare_s_int64_int64__M 0) fr) h) (kBlk 0 (slices_Compare_s_int64_int64__ks1 S K))) fr h
def slices_Compare_s_int64_int64__L0 (S : SatT) (K : AVal → H → Prop) (s0_ : Sl) (s1_ : Sl) (s9_ : Sl) (i10_ : Int) (i11_ : Int) (h : H) : Prop := loopK (slices_Compare_s_int64_int64__w0 S K) (slices_Compare_s_int64_int64__e0 s0_ s1_ s9_ i10_ i11_) h
def slices_Compare_s_int64_int64__C0 (S : SatT) (K : AVal → H → Prop) (s0_ : Sl) (s1_ : Sl) (h : H) : Prop :=
 bif (decide ((s0_.len : Int) < (s1_.len : Int))) then
 K (.int .i64 (-1)) h
 else
 K (.int .i64 (0)) h
def slices_Compare_s_int64_int64__b0 (S : SatT) (K : AVal → H → Prop) (X0 : Frame → H → Prop) (s0_ : Sl) (s1_ : Sl) (s9_ : Sl) (i10_ : Int) (i11_ : Int) (h : H) : Prop :=
 bif (decide (i11_ < i10_)) then
 ixS s9_ 1 i11_ fun p0 =>
 ldI .i64 p0 h fun n1 =>
 bif (decide (i11_ ≥ (s1_.len : Int))) then
 K (.int .i64 (1)) h
 else
 ixS s1_ 1 i11_ fun p2 =>
 ldI .i64 p2 h fun n3 =>
 callI S .i64 i_cmp_Compare_int64_ [.int .i64 n1, .int .i64 n3] h fun n5 h4 =>
 bif (n5 != (0)) then
 K (.int .i64 n5) h4
 else
 X0 (slices_Compare_s_int64_int64__e0 s0_ s1_ s9_ i10_ (w64 (i11_ + (1)))) h4
 else
 slices_Compare_s_int64_int64__C0 S K s0_ s1_ h
theorem slices_Compare_s_int64_int64__link0 (S : SatT) (K : AVal → H → Prop) (X0 : Frame → H → Prop) (s0_ : Sl) (s1_ : Sl) (s9_ : Sl) (i10_ : Int) (i11_ : Int) (h : H) : slices_Compare_s_int64_int64__w0 S K X0 (slices_Compare_s_int64_int64__e0 s0_ s1_ s9_ i10_ i11_) h = slices_Compare_s_int64_int64__b0 S K X0 s0_ s1_ s9_ i10_ i11_ h := by kernel_rfl
theorem slices_Compare_s_int64_int64__rule0 (S : SatT) (K : AVal → H → Prop) (s0_ : Sl) (s1_ : Sl) (s9_ : Sl) (i10_ : Int) (I_ : Int → H → Prop) (m_ : Int → H → Nat)
    (hs : ∀ (X0 : Frame → H → Prop) (i11_ : Int) (h : H), I_ i11_ h → (∀ (i11_' : Int) (h' : H), I_ i11_' h' → m_ i11_' h' < m_ i11_ h → X0 (slices_Compare_s_int64_int64__e0 s0_ s1_ s9_ i10_ i11_') h') → slices_Compare_s_int64_int64__b0 S K X0 s0_ s1_ s9_ i10_ i11_ h) (i11_ : Int) {h : H} (h0 : I_ i11_ h) : slices_Compare_s_int64_int64__L0 S K s0_ s1_ s9_ i10_ i11_ h :=
  loop_rule (σ := (Int)) (fun s_ => slices_Compare_s_int64_int64__e0 s0_ s1_ s9_ i10_ (s_)) (fun s_ h => I_ (s_) h) (fun s_ h => m_ (s_) h)
    (fun X s_ h hi hx => (slices_Compare_s_int64_int64__link0 S K X s0_ s1_ s9_ i10_ (s_) h).mpr (hs X (s_) h hi fun i11_' h' hi' hm' => hx (i11_') h' hi' hm')) (i11_) h0
def slices_Compare_s_int64_int64__main (S : SatT) (K : AVal → H → Prop) (x0 : Sl) (x1 : Sl) (h : H) : Prop :=
 slices_Compare_s_int64_int64__L0 S K x0 x1 x0 (x0.len : Int) (0) h
theorem slices_Compare_s_int64_int64__main_link (S : SatT) (K : AVal → H → Prop) (x0 : Sl) (x1 : Sl) (h : H) : cwp S tab slices_Compare_s_int64_int64__M [] (bodyOf Tryz.f104) (kFun tab Tryz.f104.results.toList K) (fr0 Tryz.f104 [.sl x0, .sl x1]) h = slices_Compare_s_int64_int64__main S K x0 x1 h := by kernel_rfl
theorem slices_Compare_s_int64_int64__call (x0 : Sl) (x1 : Sl) (h : H) (K : Int → H → Prop) (hm : slices_Compare_s_int64_int64__main (Sat Tryz.prog) (fun v h' => ∃ r, v = .int .i64 r ∧ K r h') x0 x1 h) : callI (Sat Tryz.prog) .i64 i_slices_Compare_s_int64_int64_ [.sl x0, .sl x1] h K := by
  have := Sat.ex tok mixed slices_Compare_s_int64_int64__M Tryz.func104 (c := bodyOf Tryz.f104) (by kernel_rfl) (calls_of Tryz.func104 (c := bodyOf Tryz.f104) (by kernel_rfl) (by decide)) ((slices_Compare_s_int64_int64__main_link _ _ x0 x1 h).mpr hm)
  obtain ⟨v, h2, h3, r, rfl, h4⟩ := this; exact ⟨r, h2, h3, h4⟩

/-! ### loop.example/g01354/spec.l01Split -/
def spec_l01Split_M : Nat → List Nat := fun i => bif i == 0 then [0, 1, 5, 6, 7] else []
def spec_l01Split_ks3 (S : SatT) (K : AVal → H → Prop) : Kont := kSeq (cwp S tab spec_l01Split_M [] (sub [1, 1, 1, 1] (bodyOf Tryz.f159)) (kFun tab (Tryz.f159).results.toList K)) (kFun tab (Tryz.f159).results.toList K)
def spec_l01Split_e0 (f0_ : AVal) (i1_ : Int) (s5_ : Sl) (i6_ : Int) (i7_ : Int) : Frame := [f0_, .int .u8 i1_, U, U, U, .sl s5_, .int .i64 i6_, .int .i64 i7_, U, U, U, U, U, U, U, U, U, U, U, U, U, U, U, U, U, U, U, U, U, U, U, U, U, U, U]
def spec_l01Split_w0 (S : SatT) (K : AVal → H → Prop) : (Frame → H → Prop) → Frame → H → Prop := fun X fr h => cwp S tab spec_l01Split_M (spec_l01Split_M 0) (sub [1, 1, 1, 0, 1, 0, 0] (bodyOf Tryz.f159)) (kSeq (fun fr h => X (mask (spec_l01Split_M 0) fr) h) (kBlk 0 (spec_l01Split_ks3 S K))) fr h
def spec_l01Split_L0 (S : SatT) (K : AVal → H → Prop) (f0_ : AVal) (i1_ : Int) (s5_ : Sl) (i6_ : Int) (i7_ : Int) (h : H) : Prop := loopK (spec_l01Split_w0 S K) (spec_l01Split_e0 f0_ i1_ s5_ i6_ i7_) h
def spec_l01Split_C0 (S : SatT) (K : AVal → H → Prop) (f0_ : AVal) (s5_ : Sl) (i6_ : Int) (h : H) : Prop :=
 viaStr f0_ fun t0 =>
 cutStr t0 i6_ (t0.size : Int) fun t1 =>
 newS 1 1 [.str t1] h fun s2 h3 =>
 app s5_ s2 1 h3 fun s4 h5 =>
 K (.sl s4) h5
def spec_l01Split_b0 (S : SatT) (K : AVal → H → Prop) (X0 : Frame → H → Prop) (f0_ : AVal) (i1_ : Int) (s5_ : Sl) (i6_ : Int) (i7_ : Int) (h : H) : Prop :=
 viaStr f0_ fun t0 =>
 bif (decide (i7_ < (t0.size : Int))) then
 viaStr f0_ fun t1 =>
 ixStr t1 i7_ fun n2 =>
 bif (n2 == i1_) then
 viaStr f0_ fun t3 =>
 cutStr t3 i6_ i7_ fun t4 =>
 newS 1 1 [.str t4] h fun s5 h6 =>
 app s5_ s5 1 h6 fun s7 h8 =>
 X0 (spec_l01Split_e0 f0_ i1_ s7 (w64 (i7_ + (1))) (w64 (i7_ + (1)))) h8
 else
 X0 (spec_l01Split_e0 f0_ i1_ s5_ i6_ (w64 (i7_ + (1)))) h
 else
 spec_l01Split_C0 S K f0_ s5_ i6_ h
theorem spec_l01Split_link0 (S : SatT) (K : AVal → H → Prop) (X0 : Frame → H → Prop) (f0_ : AVal) (i1_ : Int) (s5_ : Sl) (i6_ : Int) (i7_ : Int) (h : H) : spec_l01Split_w0 S K X0 (spec_l01Split_e0 f0_ i1_ s5_ i6_ i7_) h = spec_l01Split_b0 S K X0 f0_ i1_ s5_ i6_ i7_ h := by kernel_rfl
theorem spec_l01Split_rule0 (S : SatT) (K : AVal → H → Prop) (f0_ : AVal) (i1_ : Int) (I_ : Sl → Int → Int → H → Prop) (m_ : Sl → Int → Int → H → Nat)
    (hs : ∀ (X0 : Frame → H → Prop) (s5_ : Sl) (i6_ : Int) (i7_ : Int) (h : H), I_ s5_ i6_ i7_ h → (∀ (s5_' : Sl) (i6_' : Int) (i7_' : Int) (h' : H), I_ s5_' i6_' i7_' h' → m_ s5_' i6_' i7_' h' < m_ s5_ i6_ i7_ h → X0 (spec_l01Split_e0 f0_ i1_ s5_' i6_' i7_') h') → spec_l01Split_b0 S K X0 f0_ i1_ s5_ i6_ i7_ h) (s5_ : Sl) (i6_ : Int) (i7_ : Int) {h : H} (h0 : I_ s5_ i6_ i7_ h) : spec_l01Split_L0 S K f0_ i1_ s5_ i6_ i7_ h :=
  loop_rule (σ := (Sl) × (Int) × (Int)) (fun s_ => spec_l01Split_e0 f0_ i1_ (s_.1) (s_.2.1) (s_.2.2)) (fun s_ h => I_ (s_.1) (s_.2.1) (s_.2.2) h) (fun s_ h => m_ (s_.1) (s_.2.1) (s_.2.2) h)
    (fun X s_ h hi hx => (spec_l01Split_link0 S K X f0_ i1_ (s_.1) (s_.2.1) (s_.2.2) h).mpr (hs X (s_.1) (s_.2.1) (s_.2.2) h hi fun s5_' i6_' i7_' h' hi' hm' => hx (s5_', i6_', i7_') h' hi' hm')) (s5_, i6_, i7_) h0
def spec_l01Split_main (S : SatT) (K : AVal → H → Prop) (x0 : AVal) (x1 : Int) (h : H) : Prop :=
 newS 0 1 [] h fun s0 h1 =>
 spec_l01Split_L0 S K x0 x1 s0 (0) (0) h1
theorem spec_l01Split_main_link (S : SatT) (K : AVal → H → Prop) (x0 : AVal) (x1 : Int) (h : H) : cwp S tab spec_l01Split_M [] (bodyOf Tryz.f159) (kFun tab Tryz.f159.results.toList K) (fr0 Tryz.f159 [x0, .int .u8 x1]) h = spec_l01Split_main S K x0 x1 h := by kernel_rfl
theorem spec_l01Split_call (x0 : AVal) (x1 : Int) (h : H) (K : Sl → H → Prop) (hm : spec_l01Split_main (Sat Tryz.prog) (fun v h' => ∃ r, v = .sl r ∧ K r h') x0 x1 h) : callS (Sat Tryz.prog) i_spec_l01Split [x0, .int .u8 x1] h K := by
  have := Sat.ex tok mixed spec_l01Split_M Tryz.func159 (c := bodyOf Tryz.f159) (by kernel_rfl) (calls_of Tryz.func159 (c := bodyOf Tryz.f159) (by kernel_rfl) (by decide)) ((spec_l01Split_main_link _ _ x0 x1 h).mpr hm)
  obtain ⟨v, h2, h3, r, rfl, h4⟩ := this; exact ⟨r, h2, h3, h4⟩

/-! ### loop.example/g01354/impl.IsSet -/
def impl_IsSet_M : Nat → List Nat := fun i => bif i == 0 then [1, 6, 7, 8] else []
def impl_IsSet_ks1 (S : SatT) (K : AVal → H → Prop) : Kont := kSeq (cwp S tab impl_IsSet_M [] (sub [1, 1] (bodyOf Tryz.f17)) (kFun tab (Tryz.f17).results.toList K)) (kFun tab (Tryz.f17).results.toList K)
def impl_IsSet_e0 (p1_ : Pt) (s6_ : Sl) (i7_ : Int) (i8_ : Int) : Frame := [U, .ptr p1_, U, U, U, U, .sl s6_, .int .i64 i7_, .int .i64 i8_, U, U, U, U, U, U, U, U, U, U, U, U, U, U, U, U, U, U, U, U, U, U, U, U, U, U, U, U, U, U, U, U, U, U]
def impl_IsSet_w0 (S : SatT) (K : AVal → H → Prop) : (Frame → H → Prop) → Frame → H → Prop := fun X fr h => cwp S tab impl_IsSet_M (impl_IsSet_M 0) (sub [1, 0, 1, 0, 0] (bodyOf Tryz.f17)) (kSeq (fun fr h => X (mask (impl_IsSet_M 0) fr) h) (kBlk 0 (impl_IsSet_ks1 S K))) fr h
def impl_IsSet_L0 (S : SatT) (K : AVal → H → Prop) (p1_ : Pt) (s6_ : Sl) (i7_ : Int) (i8_ : Int) (h : H) : Prop := loopK (impl_IsSet_w0 S K) (impl_IsSet_e0 p1_ s6_ i7_ i8_) h
def impl_IsSet_C0 (S : SatT) (K : AVal → H → Prop) (p1_ : Pt) (h : H) : Prop :=
 isPt p1_ (
 ldI .i64 (Pt.add p1_ 0) h fun n0 =>
 callB S i_impl_within [.int .i64 n0, .int .i64 (1), .int .i64 (6)] h fun b2 h1 =>
 bif b2 then
 isPt p1_ (
 ldS (Pt.add p1_ 1) h1 fun s3 =>
 K (.bool (decide ((s3.len : Int) ≤ (16)))) h1)
 else
 K (.bool false) h1)
def impl_IsSet_b0 (S : SatT) (K : AVal → H → Prop) (X0 : Frame → H → Prop) (p1_ : Pt) (s6_ : Sl) (i7_ : Int) (i8_ : Int) (h : H) : Prop :=
 bif (decide (i8_ < i7_)) then
 ixS s6_ 4 i8_ fun p0 =>
 ldA p0 4 h fun cs1 =>
 newO [.int .i64 (0), .int .i64 (0), .int .i64 (0), .int .i64 (0)] h fun p2 h3 =>
 stN p2 4 cs1 h3 fun h4 =>
 ldA p2 4 h4 fun cs5 =>
 isPt p1_ (
 ldI .i64 (Pt.add p1_ 0) h4 fun n6 =>
 callB S i_impl_isTile [.agg cs5, .int .i64 n6] h4 fun b8 h7 =>
 bif (!b8) then
 K (.bool false) h7
 else
 bif (decide (i8_ > (0))) then
 isPt p1_ (
 ldS (Pt.add p1_ 1) h7 fun s9 =>
 ixS s9 4 (w64 (i8_ - (1))) fun p10 =>
 ldA p10 4 h7 fun cs11 =>
 ldA p2 4 h7 fun cs12 =>
 callI S .i64 i_impl_compare [.agg cs11, .agg cs12] h7 fun n14 h13 =>
 bif (decide (n14 ≥ (0))) then
 K (.bool false) h13
 else
 X0 (impl_IsSet_e0 p1_ s6_ i7_ (w64 (i8_ + (1)))) h13)
 else
 X0 (impl_IsSet_e0 p1_ s6_ i7_ (w64 (i8_ + (1)))) h7)
 else
 impl_IsSet_C0 S K p1_ h
theorem impl_IsSet_link0 (S : SatT) (K : AVal → H → Prop) (X0 : Frame → H → Prop) (p1_ : Pt) (s6_ : Sl) (i7_ : Int) (i8_ : Int) (h : H) : impl_IsSet_w0 S K X0 (impl_IsSet_e0 p1_ s6_ i7_ i8_) h = impl_IsSet_b0 S K X0 p1_ s6_ i7_ i8_ h := by kernel_rfl
theorem impl_IsSet_rule0 (S : SatT) (K : AVal → H → Prop) (p1_ : Pt) (s6_ : Sl) (i7_ : Int) (I_ : Int → H → Prop) (m_ : Int → H → Nat)
    (hs : ∀ (X0 : Frame → H → Prop) (i8_ : Int) (h : H), I_ i8_ h → (∀ (i8_' : Int) (h' : H), I_ i8_' h' → m_ i8_' h' < m_ i8_ h → X0 (impl_IsSet_e0 p1_ s6_ i7_ i8_') h') → impl_IsSet_b0 S K X0 p1_ s6_ i7_ i8_ h) (i8_ : Int) {h : H} (h0 : I_ i8_ h) : impl_IsSet_L0 S K p1_ s6_ i7_ i8_ h :=
  loop_rule (σ := (Int)) (fun s_ => impl_IsSet_e0 p1_ s6_ i7_ (s_)) (fun s_ h => I_ (s_) h) (fun s_ h => m_ (s_) h)
    (fun X s_ h hi hx => (impl_IsSet_link0 S K X p1_ s6_ i7_ (s_) h).mpr (hs X (s_) h hi fun i8_' h' hi' hm' => hx (i8_') h' hi' hm')) (i8_) h0
def impl_IsSet_main (S : SatT) (K : AVal → H → Prop) (x0 : List AVal) (h : H) : Prop :=
 newK 2 x0 h fun p0 h1 =>
 isPt p0 (
 ldS (Pt.add p0 1) h1 fun s2 =>
 impl_IsSet_L0 S K p0 s2 (s2.len : Int) (0) h1)
theorem impl_IsSet_main_link (S : SatT) (K : AVal → H → Prop) (x0 : List AVal) (h : H) : cwp S tab impl_IsSet_M [] (bodyOf Tryz.f17) (kFun tab Tryz.f17.results.toList K) (fr0 Tryz.f17 [.agg x0]) h = impl_IsSet_main S K x0 h := by kernel_rfl
theorem impl_IsSet_call (x0 : List AVal) (h : H) (K : Bool → H → Prop) (hm : impl_IsSet_main (Sat Tryz.prog) (fun v h' => ∃ r, v = .bool r ∧ K r h') x0 h) : callB (Sat Tryz.prog) i_impl_IsSet [.agg x0] h K := by
  have := Sat.ex tok mixed impl_IsSet_M Tryz.func17 (c := bodyOf Tryz.f17) (by kernel_rfl) (calls_of Tryz.func17 (c := bodyOf Tryz.f17) (by kernel_rfl) (by decide)) ((impl_IsSet_main_link _ _ x0 h).mpr hm)
  obtain ⟨v, h2, h3, r, rfl, h4⟩ := this; exact ⟨r, h2, h3, h4⟩

/-! ### loop.example/g01354/laws.likeInts -/
def laws_likeInts_M : Nat → List Nat := fun i => bif i == 0 then [0, 1, 5] else []
def laws_likeInts_ks4 (S : SatT) (K : AVal → H → Prop) : Kont := kSeq (cwp S tab laws_likeInts_M [] (sub [1, 1, 1] (bodyOf Tryz.f9)) (kFun tab (Tryz.f9).results.toList K)) (kFun tab (Tryz.f9).results.toList K)
def laws_likeInts_e0 (s0_ : Sl) (s1_ : Sl) (i5_ : Int) : Frame := [.sl s0_, .sl s1_, U, U, U, .int .i64 i5_, U, U, U, U, U, U, U, U, U, U, U, U, U, U, U, U, U, U, U, U]
def laws_likeInts_w0 (S : SatT) (K : AVal → H → Prop) : (Frame → H → Prop) → Frame → H → Prop := fun X fr h => cwp S tab laws_likeInts_M (laws_likeInts_M 0) (sub [1, 1, 0, 1, 0, 0] (bodyOf Tryz.f9)) (kSeq (fun fr h => X (mask (laws_likeInts_M 0) fr) h) (kBlk 0 (laws_likeInts_ks4 S K))) fr h
def laws_likeInts_L0 (S : SatT) (K : AVal → H → Prop) (s0_ : Sl) (s1_ : Sl) (i5_ : Int) (h : H) : Prop := loopK (laws_likeInts_w0 S K) (laws_likeInts_e0 s0_ s1_ i5_) h
def laws_likeInts_C0 (S : SatT) (K : AVal → H → Prop) (h : H) : Prop :=
 K (.bool true) h
def laws_likeInts_b0 (S : SatT) (K : AVal → H → Prop) (X0 : Frame → H → Prop) (s0_ : Sl) (s1_ : Sl) (i5_ : Int) (h : H) : Prop :=
 bif (decide (i5_ < (s0_.len : Int))) then
 ixS s0_ 1 i5_ fun p0 =>
 ldI .i64 p0 h fun n1 =>
 ixS s1_ 1 i5_ fun p2 =>
 ldI .i64 p2 h fun n3 =>
 bif (n1 != n3) then
 K (.bool false) h
 else
 X0 (laws_likeInts_e0 s0_ s1_ (w64 (i5_ + (1)))) h
 else
 laws_likeInts_C0 S K h
theorem laws_likeInts_link0 (S : SatT) (K : AVal → H → Prop) (X0 : Frame → H → Prop) (s0_ : Sl) (s1_ : Sl) (i5_ : Int) (h : H) : laws_likeInts_w0 S K X0 (laws_likeInts_e0 s0_ s1_ i5_) h = laws_likeInts_b0 S K X0 s0_ s1_ i5_ h := by kernel_rfl
theorem laws_likeInts_rule0 (S : SatT) (K : AVal → H → Prop) (s0_ : Sl) (s1_ : Sl) (I_ : Int → H → Prop) (m_ : Int → H → Nat)
    (hs : ∀ (X0 : Frame → H → Prop) (i5_ : Int) (h : H), I_ i5_ h → (∀ (i5_' : Int) (h' : H), I_ i5_' h' → m_ i5_' h' < m_ i5_ h → X0 (laws_likeInts_e0 s0_ s1_ i5_') h') → laws_likeInts_b0 S K X0 s0_ s1_ i5_ h) (i5_ : Int) {h : H} (h0 : I_ i5_ h) : laws_likeInts_L0 S K s0_ s1_ i5_ h :=
  loop_rule (σ := (Int)) (fun s_ => laws_likeInts_e0 s0_ s1_ (s_)) (fun s_ h => I_ (s_) h) (fun s_ h => m_ (s_) h)
    (fun X s_ h hi hx => (laws_likeInts_link0 S K X s0_ s1_ (s_) h).mpr (hs X (s_) h hi fun i5_' h' hi' hm' => hx (i5_') h' hi' hm')) (i5_) h0
def laws_likeInts_main (S : SatT) (K : AVal → H → Prop) (x0 : Sl) (x1 : Sl) (h : H) : Prop :=
 bif ((x0.len : Int) != (x1.len : Int)) then
 K (.bool false) h
 else
 laws_likeInts_L0 S K x0 x1 (0) h
theorem laws_likeInts_main_link (S : SatT) (K : AVal → H → Prop) (x0 : Sl) (x1 : Sl) (h : H) : cwp S tab laws_likeInts_M [] (bodyOf Tryz.f9) (kFun tab Tryz.f9.results.toList K) (fr0 Tryz.f9 [.sl x0, .sl x1]) h = laws_likeInts_main S K x0 x1 h := by kernel_rfl
theorem laws_likeInts_call (x0 : Sl) (x1 : Sl) (h : H) (K : Bool → H → Prop) (hm : laws_likeInts_main (Sat Tryz.prog) (fun v h' => ∃ r, v = .bool r ∧ K r h') x0 x1 h) : callB (Sat Tryz.prog) i_laws_likeInts [.sl x0, .sl x1] h K := by
  have := Sat.ex tok mixed laws_likeInts_M Tryz.func9 (c := bodyOf Tryz.f9) (by kernel_rfl) (calls_of Tryz.func9 (c := bodyOf Tryz.f9) (by kernel_rfl) (by decide)) ((laws_likeInts_main_link _ _ x0 x1 h).mpr hm)
  obtain ⟨v, h2, h3, r, rfl, h4⟩ := this; exact ⟨r, h2, h3, h4⟩

/-! ### loop.example/g01354/spec.l01Tile -/
def spec_l01Tile_M : Nat → List Nat := fun i => bif i == 0 then [0, 3, 5] else []
def spec_l01Tile_ks1 (S : SatT) (K : AVal → H → Prop) : Kont := kSeq (cwp S tab spec_l01Tile_M [] (sub [1, 1] (bodyOf Tryz.f98)) (kFun tab (Tryz.f98).results.toList K)) (kFun tab (Tryz.f98).results.toList K)
def spec_l01Tile_e0 (i0_ : Int) (p3_ : Pt) (i5_ : Int) : Frame := [.int .i64 i0_, U, U, .ptr p3_, U, .int .i64 i5_, U, U, U, U, U, U, U, U, U, U, U]
def spec_l01Tile_w0 (S : SatT) (K : AVal → H → Prop) : (Frame → H → Prop) → Frame → H → Prop := fun X fr h => cwp S tab spec_l01Tile_M (spec_l01Tile_M 0) (sub [1, 0, 1, 0, 0] (bodyOf Tryz.f98)) (kSeq (fun fr h => X (mask (spec_l01Tile_M 0) fr) h) (kBlk 0 (spec_l01Tile_ks1 S K))) fr h
def spec_l01Tile_L0 (S : SatT) (K : AVal → H → Prop) (i0_ : Int) (p3_ : Pt) (i5_ : Int) (h : H) : Prop := loopK (spec_l01Tile_w0 S K) (spec_l01Tile_e0 i0_ p3_ i5_) h
def spec_l01Tile_C0 (S : SatT) (K : AVal → H → Prop) (h : H) : Prop :=
 K (.bool true) h
def spec_l01Tile_b0 (S : SatT) (K : AVal → H → Prop) (X0 : Frame → H → Prop) (i0_ : Int) (p3_ : Pt) (i5_ : Int) (h : H) : Prop :=
 bif (decide (i5_ < (4))) then
 ixA p3_ 4 1 i5_ fun p0 =>
 ldI .i64 p0 h fun n1 =>
 callB S i_spec_l01In [.int .i64 n1, .int .i64 (0), .int .i64 (w64 (i0_ - (1)))] h fun b3 h2 =>
 bif (!b3) then
 K (.bool false) h2
 else
 X0 (spec_l01Tile_e0 i0_ p3_ (w64 (i5_ + (1)))) h2
 else
 spec_l01Tile_C0 S K h
theorem spec_l01Tile_link0 (S : SatT) (K : AVal → H → Prop) (X0 : Frame → H → Prop) (i0_ : Int) (p3_ : Pt) (i5_ : Int) (h : H) : spec_l01Tile_w0 S K X0 (spec_l01Tile_e0 i0_ p3_ i5_) h = spec_l01Tile_b0 S K X0 i0_ p3_ i5_ h := by kernel_rfl
theorem spec_l01Tile_rule0 (S : SatT) (K : AVal → H → Prop) (i0_ : Int) (p3_ : Pt) (I_ : Int → H → Prop) (m_ : Int → H → Nat)
    (hs : ∀ (X0 : Frame → H → Prop) (i5_ : Int) (h : H), I_ i5_ h → (∀ (i5_' : Int) (h' : H), I_ i5_' h' → m_ i5_' h' < m_ i5_ h → X0 (spec_l01Tile_e0 i0_ p3_ i5_') h') → spec_l01Tile_b0 S K X0 i0_ p3_ i5_ h) (i5_ : Int) {h : H} (h0 : I_ i5_ h) : spec_l01Tile_L0 S K i0_ p3_ i5_ h :=
  loop_rule (σ := (Int)) (fun s_ => spec_l01Tile_e0 i0_ p3_ (s_)) (fun s_ h => I_ (s_) h) (fun s_ h => m_ (s_) h)
    (fun X s_ h hi hx => (spec_l01Tile_link0 S K X i0_ p3_ (s_) h).mpr (hs X (s_) h hi fun i5_' h' hi' hm' => hx (i5_') h' hi' hm')) (i5_) h0
def spec_l01Tile_main (S : SatT) (K : AVal → H → Prop) (x0 : Int) (x1 : List AVal) (h : H) : Prop :=
 newK 4 x1 h fun p0 h1 =>
 spec_l01Tile_L0 S K x0 p0 (0) h1
theorem spec_l01Tile_main_link (S : SatT) (K : AVal → H → Prop) (x0 : Int) (x1 : List AVal) (h : H) : cwp S tab spec_l01Tile_M [] (bodyOf Tryz.f98) (kFun tab Tryz.f98.results.toList K) (fr0 Tryz.f98 [.int .i64 x0, .agg x1]) h = spec_l01Tile_main S K x0 x1 h := by kernel_rfl
theorem spec_l01Tile_call (x0 : Int) (x1 : List AVal) (h : H) (K : Bool → H → Prop) (hm : spec_l01Tile_main (Sat Tryz.prog) (fun v h' => ∃ r, v = .bool r ∧ K r h') x0 x1 h) : callB (Sat Tryz.prog) i_spec_l01Tile [.int .i64 x0, .agg x1] h K := by
  have := Sat.ex tok mixed spec_l01Tile_M Tryz.func98 (c := bodyOf Tryz.f98) (by kernel_rfl) (calls_of Tryz.func98 (c := bodyOf Tryz.f98) (by kernel_rfl) (by decide)) ((spec_l01Tile_main_link _ _ x0 x1 h).mpr hm)
  obtain ⟨v, h2, h3, r, rfl, h4⟩ := this; exact ⟨r, h2, h3, h4⟩

/-! ### loop.example/g01354/spec.l01Bad -/
def spec_l01Bad_M : Nat → List Nat := fun i => []
def spec_l01Bad_main (S : SatT) (K : AVal → H → Prop) (x0 : Pt) (x1 : List AVal) (h : H) : Prop :=
 newK 2 x1 h fun p0 h1 =>
 newO [.int .i64 (0), .sl Sl.nil] h1 fun p2 h3 =>
 newS 0 4 [] h3 fun s4 h5 =>
 isPt p0 (
 ldS (Pt.add p0 1) h5 fun s6 =>
 app s4 s6 4 h5 fun s7 h8 =>
 callI S .i64 i_spec_l01Next [.ptr x0, .int .i64 (50)] h8 fun n10 h9 =>
 bif (n10 == (0)) then
 newS 3 1 [.int .i64 (0), .int .i64 (7), .int .i64 (-1)] h9 fun s11 h12 =>
 callI S .i64 i_spec_l01Pick [.ptr x0, .sl s11] h12 fun n14 h13 =>
 stN p2 2 [.int .i64 n14, .sl s7] h13 fun h15 =>
 ldA p2 2 h15 fun cs16 =>
 K (.agg cs16) h15
 else
 bif (n10 == (1)) then
 isPt p0 (
 ldI .i64 (Pt.add p0 0) h9 fun n17 =>
 newS 2 1 [.int .i64 (0), .int .i64 (-1)] h9 fun s18 h19 =>
(cell h19 (Pt.add p0 0) = cell h9 (Pt.add p0 0)) ∧ (
 callI S .i64 i_spec_l01Pick [.ptr x0, .sl s18] h19 fun n21 h20 =>
(cell h20 (Pt.add p0 0) = cell h9 (Pt.add p0 0)) ∧ (
 lenA [.int .i64 n17, .int .i64 (0), .int .i64 (0), .int .i64 n21] 4 (
 newS 1 4 (spl [.int .i64 (0), .int .i64 (0), .int .i64 (0), .int .i64 (0)] 0 4 [.int .i64 n17, .int .i64 (0), .int .i64 (0), .int .i64 n21]) h20 fun s22 h23 =>
 app s7 s22 4 h23 fun s24 h25 =>
 isPt p0 (
 ldI .i64 (Pt.add p0 0) h25 fun n26 =>
 stN p2 2 [.int .i64 n26, .sl s24] h25 fun h27 =>
 ldA p2 2 h27 fun cs28 =>
 K (.agg cs28) h27)))))
 else
 bif (n10 == (2)) then
 isPt p0 (
 ldI .i64 (Pt.add p0 0) h9 fun n29 =>
 callA S i_spec_l01DrawTile [.ptr x0, .int .i64 n29] h9 fun cs31 h30 =>
 lenA cs31 4 (
 newS 1 4 (spl [.int .i64 (0), .int .i64 (0), .int .i64 (0), .int .i64 (0)] 0 4 cs31) h30 fun s32 h33 =>
 app s7 s32 4 h33 fun s34 h35 =>
 isPt p0 (
 ldI .i64 (Pt.add p0 0) h35 fun n36 =>
 stN p2 2 [.int .i64 n36, .sl s34] h35 fun h37 =>
 ldA p2 2 h37 fun cs38 =>
 K (.agg cs38) h37)))
 else
 bif (n10 == (3)) then
 bif (decide ((s7.len : Int) > (1))) then
 ixS s7 4 (0) fun p39 =>
 ldA p39 4 h9 fun cs40 =>
 newO [.int .i64 (0), .int .i64 (0), .int .i64 (0), .int .i64 (0)] h9 fun p41 h42 =>
 stN p41 4 cs40 h42 fun h43 =>
 ixS s7 4 (1) fun p44 =>
 ldA p44 4 h43 fun cs45 =>
 ixS s7 4 (0) fun p46 =>
 stN p46 4 cs45 h43 fun h47 =>
 ldA p41 4 h47 fun cs48 =>
 ixS s7 4 (1) fun p49 =>
 stN p49 4 cs48 h47 fun h50 =>
 isPt p0 (
 ldI .i64 (Pt.add p0 0) h50 fun n51 =>
 stN p2 2 [.int .i64 n51, .sl s7] h50 fun h52 =>
 ldA p2 2 h52 fun cs53 =>
 K (.agg cs53) h52)
 else
 isPt p0 (
 ldI .i64 (Pt.add p0 0) h9 fun n54 =>
 stN p2 2 [.int .i64 n54, .sl s7] h9 fun h55 =>
 ldA p2 2 h55 fun cs56 =>
 K (.agg cs56) h55)
 else
 ldA p0 2 h9 fun cs57 =>
 stN p2 2 cs57 h9 fun h58 =>
 ldA p2 2 h58 fun cs59 =>
 K (.agg cs59) h58)
theorem spec_l01Bad_main_link (S : SatT) (K : AVal → H → Prop) (x0 : Pt) (x1 : List AVal) (h : H) : cwp S tab spec_l01Bad_M [] (bodyOf Tryz.f108) (kFun tab Tryz.f108.results.toList K) (fr0 Tryz.f108 [.ptr x0, .agg x1]) h = spec_l01Bad_main S K x0 x1 h := by kernel_rfl
theorem spec_l01Bad_call (x0 : Pt) (x1 : List AVal) (h : H) (K : List AVal → H → Prop) (hm : spec_l01Bad_main (Sat Tryz.prog) (fun v h' => ∃ r, v = .agg r ∧ K r h') x0 x1 h) : callA (Sat Tryz.prog) i_spec_l01Bad [.ptr x0, .agg x1] h K := by
  have := Sat.ex tok mixed spec_l01Bad_M Tryz.func108 (c := bodyOf Tryz.f108) (by kernel_rfl) (calls_of Tryz.func108 (c := bodyOf Tryz.f108) (by kernel_rfl) (by decide)) ((spec_l01Bad_main_link _ _ x0 x1 h).mpr hm)
  obtain ⟨v, h2, h3, r, rfl, h4⟩ := this; exact ⟨r, h2, h3, h4⟩

/-! ### loop.example/g01354/spec.l01Next -/
def spec_l01Next_M : Nat → List Nat := fun i => []
def spec_l01Next_main (S : SatT) (K : AVal → H → Prop) (x0 : Pt) (x1 : Int) (h : H) : Prop :=
 bif (decide (x1 < (1))) then
 K (.int .i64 (0)) h
 else
 nilC (.ptr x0) (
 isPt x0 (
 ldI .u64 (Pt.add x0 2) h fun n0 =>
 nilC (.ptr x0) (
 isPt x0 (
 st1 (Pt.add x0 2) (.int .u64 (IntKind.wrap .u64 ((IntKind.wrap .u64 (n0 * (6364136223846793005))) + (1442695040888963407)))) h fun h1 =>
 nilC (.ptr x0) (
 isPt x0 (
 ldI .u64 (Pt.add x0 2) h1 fun n2 =>
 nn (33) (
 nilC (.ptr x0) (
 isPt x0 (
 ldI .i64 (Pt.add x0 1) h1 fun n3 =>
 nilC (.ptr x0) (
 isPt x0 (
 ldS (Pt.add x0 0) h1 fun s4 =>
 bif (decide (n3 < (s4.len : Int))) then
 nilC (.ptr x0) (
 isPt x0 (
 ldS (Pt.add x0 0) h1 fun s5 =>
 nilC (.ptr x0) (
 isPt x0 (
 ldI .i64 (Pt.add x0 1) h1 fun n6 =>
 ixS s5 1 n6 fun p7 =>
 ldI .u8 p7 h1 fun n8 =>
 nilC (.ptr x0) (
 isPt x0 (
 ldI .i64 (Pt.add x0 1) h1 fun n9 =>
 nilC (.ptr x0) (
 isPt x0 (
 st1 (Pt.add x0 1) (.int .i64 (w64 (n9 + (1)))) h1 fun h10 =>
 nz x1 (
 K (.int .i64 (Int.tmod (w64 ((w64 ((bitsOp .and .u64 (shrI .u64 n2 (33)) (16777215)))) + (w64 (n8)))) x1)) h10)))))))))
 else
 nz x1 (
 K (.int .i64 (Int.tmod (w64 ((bitsOp .and .u64 (shrI .u64 n2 (33)) (16777215)))) x1)) h1))))))))))))
theorem spec_l01Next_main_link (S : SatT) (K : AVal → H → Prop) (x0 : Pt) (x1 : Int) (h : H) : cwp S tab spec_l01Next_M [] (bodyOf Tryz.f87) (kFun tab Tryz.f87.results.toList K) (fr0 Tryz.f87 [.ptr x0, .int .i64 x1]) h = spec_l01Next_main S K x0 x1 h := by kernel_rfl
theorem spec_l01Next_call (x0 : Pt) (x1 : Int) (h : H) (K : Int → H → Prop) (hm : spec_l01Next_main (Sat Tryz.prog) (fun v h' => ∃ r, v = .int .i64 r ∧ K r h') x0 x1 h) : callI (Sat Tryz.prog) .i64 i_spec_l01Next [.ptr x0, .int .i64 x1] h K := by
  have := Sat.ex tok mixed spec_l01Next_M Tryz.func87 (c := bodyOf Tryz.f87) (by kernel_rfl) (calls_of Tryz.func87 (c := bodyOf Tryz.f87) (by kernel_rfl) (by decide)) ((spec_l01Next_main_link _ _ x0 x1 h).mpr hm)
  obtain ⟨v, h2, h3, r, rfl, h4⟩ := this; exact ⟨r, h2, h3, h4⟩

/-! ### loop.example/g01354/impl.StackSets -/
def impl_StackSets_M : Nat → List Nat := fun i => []
def impl_StackSets_main (S : SatT) (K : AVal → H → Prop) (x0 : List AVal) (x1 : List AVal) (h : H) : Prop :=
 newK 2 x0 h fun p0 h1 =>
 newK 2 x1 h1 fun p2 h3 =>
 newO [.int .i64 (0), .sl Sl.nil] h3 fun p4 h5 =>
 ldA p0 2 h5 fun cs6 =>
 ldA p2 2 h5 fun cs7 =>
 lenA cs6 2 (
 lenA cs7 2 (
 newS 2 2 (spl (spl [.int .i64 (0), .sl Sl.nil, .int .i64 (0), .sl Sl.nil] 0 2 cs6) 2 2 cs7) h5 fun s8 h9 =>
 callB S i_impl_areSets [.sl s8] h9 fun b11 h10 =>
 bif (!b11) then
 stN p4 2 [.int .i64 (0), .sl Sl.nil] h10 fun h12 =>
 ldA p4 2 h12 fun cs13 =>
 K (.tuple [.agg cs13, .int .i64 (1)]) h12
 else
 ldA p0 2 h10 fun cs14 =>
 ldA p2 2 h10 fun cs15 =>
 callV S i_impl_stack [.agg cs14, .agg cs15] h10 fun v17 h16 =>
 viaT v17 fun vs18 =>
 exA vs18 0 fun cs19 =>
 viaT v17 fun vs20 =>
 exI .i64 vs20 1 fun n21 =>
 stN p4 2 cs19 h16 fun h22 =>
 ldA p4 2 h22 fun cs23 =>
 K (.tuple [.agg cs23, .int .i64 n21]) h22))
theorem impl_StackSets_main_link (S : SatT) (K : AVal → H → Prop) (x0 : List AVal) (x1 : List AVal) (h : H) : cwp S tab impl_StackSets_M [] (bodyOf Tryz.f11) (kFun tab Tryz.f11.results.toList K) (fr0 Tryz.f11 [.agg x0, .agg x1]) h = impl_StackSets_main S K x0 x1 h := by kernel_rfl
theorem impl_StackSets_call (x0 : List AVal) (x1 : List AVal) (h : H) (K : AVal → H → Prop) (hm : impl_StackSets_main (Sat Tryz.prog) (fun v h' => K v h') x0 x1 h) : callV (Sat Tryz.prog) i_impl_StackSets [.agg x0, .agg x1] h K := by
  have := Sat.ex tok mixed impl_StackSets_M Tryz.func11 (c := bodyOf Tryz.f11) (by kernel_rfl) (calls_of Tryz.func11 (c := bodyOf Tryz.f11) (by kernel_rfl) (by decide)) ((impl_StackSets_main_link _ _ x0 x1 h).mpr hm)
  exact this

/-! ### loop.example/g01354/impl.stack -/
def impl_stack_M : Nat → List Nat := fun i => []
def impl_stack_main (S : SatT) (K : AVal → H → Prop) (x0 : List AVal) (x1 : List AVal) (h : H) : Prop :=
 newK 2 x0 h fun p0 h1 =>
 newK 2 x1 h1 fun p2 h3 =>
 newO [.int .i64 (0), .sl Sl.nil] h3 fun p4 h5 =>
 isPt p0 (
 ldS (Pt.add p0 1) h5 fun s6 =>
 isPt p2 (
 ldS (Pt.add p2 1) h5 fun s7 =>
 callV S i_impl_stackTiles [.sl s6, .sl s7] h5 fun v9 h8 =>
 viaT v9 fun vs10 =>
 exS vs10 0 fun s11 =>
 viaT v9 fun vs12 =>
 exI .i64 vs12 1 fun n13 =>
 isPt p0 (
 ldI .i64 (Pt.add p0 0) h8 fun n14 =>
 isPt p2 (
 ldI .i64 (Pt.add p2 0) h8 fun n15 =>
 callV S i_impl_limited [.int .i64 (mxI (mxI n13 n14) n15), .sl s11] h8 fun v17 h16 =>
 viaT v17 fun vs18 =>
 exA vs18 0 fun cs19 =>
 viaT v17 fun vs20 =>
 exI .i64 vs20 1 fun n21 =>
 stN p4 2 cs19 h16 fun h22 =>
 ldA p4 2 h22 fun cs23 =>
 K (.tuple [.agg cs23, .int .i64 n21]) h22))))
theorem impl_stack_main_link (S : SatT) (K : AVal → H → Prop) (x0 : List AVal) (x1 : List AVal) (h : H) : cwp S tab impl_stack_M [] (bodyOf Tryz.f41) (kFun tab Tryz.f41.results.toList K) (fr0 Tryz.f41 [.agg x0, .agg x1]) h = impl_stack_main S K x0 x1 h := by kernel_rfl
theorem impl_stack_call (x0 : List AVal) (x1 : List AVal) (h : H) (K : AVal → H → Prop) (hm : impl_stack_main (Sat Tryz.prog) (fun v h' => K v h') x0 x1 h) : callV (Sat Tryz.prog) i_impl_stack [.agg x0, .agg x1] h K := by
  have := Sat.ex tok mixed impl_stack_M Tryz.func41 (c := bodyOf Tryz.f41) (by kernel_rfl) (calls_of Tryz.func41 (c := bodyOf Tryz.f41) (by kernel_rfl) (by decide)) ((impl_stack_main_link _ _ x0 x1 h).mpr hm)
  exact this

/-! ### loop.example/g01354/spec.l04Two -/
def spec_l04Two_M : Nat → List Nat := fun i => []
def spec_l04Two_main (S : SatT) (K : AVal → H → Prop) (x0 : Sl) (h : H) : Prop :=
 newO [.int .i64 (0), .sl Sl.nil] h fun p0 h1 =>
 newO [.int .i64 (0), .sl Sl.nil] h1 fun p2 h3 =>
 callP S i_spec_l01From [.sl x0] h3 fun p5 h4 =>
 callI S .i64 i_spec_l01Next [.ptr p5, .int .i64 (8)] h4 fun n7 h6 =>
 bif (n7 == (0)) then
 callA S i_spec_l01Spoil [.ptr p5] h6 fun cs9 h8 =>
 callA S i_spec_l01Spoil [.ptr p5] h8 fun cs11 h10 =>
 stN p0 2 cs9 h10 fun h12 =>
 stN p2 2 cs11 h12 fun h13 =>
 ldA p0 2 h13 fun cs14 =>
 ldA p2 2 h13 fun cs15 =>
 K (.tuple [.agg cs14, .agg cs15]) h13
 else
 callA S i_spec_l01Small [.ptr p5] h6 fun cs17 h16 =>
 callA S i_spec_l01Small [.ptr p5] h16 fun cs19 h18 =>
 stN p0 2 cs17 h18 fun h20 =>
 stN p2 2 cs19 h20 fun h21 =>
 ldA p0 2 h21 fun cs22 =>
 ldA p2 2 h21 fun cs23 =>
 K (.tuple [.agg cs22, .agg cs23]) h21
theorem spec_l04Two_main_link (S : SatT) (K : AVal → H → Prop) (x0 : Sl) (h : H) : cwp S tab spec_l04Two_M [] (bodyOf Tryz.f38) (kFun tab Tryz.f38.results.toList K) (fr0 Tryz.f38 [.sl x0]) h = spec_l04Two_main S K x0 h := by kernel_rfl
theorem spec_l04Two_call (x0 : Sl) (h : H) (K : AVal → H → Prop) (hm : spec_l04Two_main (Sat Tryz.prog) (fun v h' => K v h') x0 h) : callV (Sat Tryz.prog) i_spec_l04Two [.sl x0] h K := by
  have := Sat.ex tok mixed spec_l04Two_M Tryz.func38 (c := bodyOf Tryz.f38) (by kernel_rfl) (calls_of Tryz.func38 (c := bodyOf Tryz.f38) (by kernel_rfl) (by decide)) ((spec_l04Two_main_link _ _ x0 h).mpr hm)
  exact this

/-! ### loop.example/g01354/spec.l01DrawTile -/
def spec_l01DrawTile_M : Nat → List Nat := fun i => []
def spec_l01DrawTile_main (S : SatT) (K : AVal → H → Prop) (x0 : Pt) (x1 : Int) (h : H) : Prop :=
 newO [.int .i64 (0), .int .i64 (0), .int .i64 (0), .int .i64 (0)] h fun p0 h1 =>
 callI S .i64 i_spec_l01Next [.ptr x0, .int .i64 x1] h1 fun n3 h2 =>
 callI S .i64 i_spec_l01Next [.ptr x0, .int .i64 x1] h2 fun n5 h4 =>
 callI S .i64 i_spec_l01Next [.ptr x0, .int .i64 x1] h4 fun n7 h6 =>
 callI S .i64 i_spec_l01Next [.ptr x0, .int .i64 x1] h6 fun n9 h8 =>
 stN p0 4 [.int .i64 n3, .int .i64 n5, .int .i64 n7, .int .i64 n9] h8 fun h10 =>
 ldA p0 4 h10 fun cs11 =>
 K (.agg cs11) h10
theorem spec_l01DrawTile_main_link (S : SatT) (K : AVal → H → Prop) (x0 : Pt) (x1 : Int) (h : H) : cwp S tab spec_l01DrawTile_M [] (bodyOf Tryz.f139) (kFun tab Tryz.f139.results.toList K) (fr0 Tryz.f139 [.ptr x0, .int .i64 x1]) h = spec_l01DrawTile_main S K x0 x1 h := by kernel_rfl
theorem spec_l01DrawTile_call (x0 : Pt) (x1 : Int) (h : H) (K : List AVal → H → Prop) (hm : spec_l01DrawTile_main (Sat Tryz.prog) (fun v h' => ∃ r, v = .agg r ∧ K r h') x0 x1 h) : callA (Sat Tryz.prog) i_spec_l01DrawTile [.ptr x0, .int .i64 x1] h K := by
  have := Sat.ex tok mixed spec_l01DrawTile_M Tryz.func139 (c := bodyOf Tryz.f139) (by kernel_rfl) (calls_of Tryz.func139 (c := bodyOf Tryz.f139) (by kernel_rfl) (by decide)) ((spec_l01DrawTile_main_link _ _ x0 x1 h).mpr hm)
  obtain ⟨v, h2, h3, r, rfl, h4⟩ := this; exact ⟨r, h2, h3, h4⟩

/-! ### loop.example/g01354/impl.pairOf -/
def impl_pairOf_M : Nat → List Nat := fun i => []
def impl_pairOf_main (S : SatT) (K : AVal → H → Prop) (x0 : List AVal) (x1 : List AVal) (x2 : Int) (h : H) : Prop :=
 newK 4 x0 h fun p0 h1 =>
 newK 4 x1 h1 fun p2 h3 =>
 newO [.int .i64 (0), .int .i64 (0)] h3 fun p4 h5 =>
 ixA p0 4 1 x2 fun p6 =>
 ldI .i64 p6 h5 fun n7 =>
 ixA p2 4 1 x2 fun p8 =>
 ldI .i64 p8 h5 fun n9 =>
 stN p4 2 [.int .i64 n7, .int .i64 n9] h5 fun h10 =>
 ldA p4 2 h10 fun cs11 =>
 K (.agg cs11) h10
theorem impl_pairOf_main_link (S : SatT) (K : AVal → H → Prop) (x0 : List AVal) (x1 : List AVal) (x2 : Int) (h : H) : cwp S tab impl_pairOf_M [] (bodyOf Tryz.f95) (kFun tab Tryz.f95.results.toList K) (fr0 Tryz.f95 [.agg x0, .agg x1, .int .i64 x2]) h = impl_pairOf_main S K x0 x1 x2 h := by kernel_rfl
theorem impl_pairOf_call (x0 : List AVal) (x1 : List AVal) (x2 : Int) (h : H) (K : List AVal → H → Prop) (hm : impl_pairOf_main (Sat Tryz.prog) (fun v h' => ∃ r, v = .agg r ∧ K r h') x0 x1 x2 h) : callA (Sat Tryz.prog) i_impl_pairOf [.agg x0, .agg x1, .int .i64 x2] h K := by
  have := Sat.ex tok mixed impl_pairOf_M Tryz.func95 (c := bodyOf Tryz.f95) (by kernel_rfl) (calls_of Tryz.func95 (c := bodyOf Tryz.f95) (by kernel_rfl) (by decide)) ((impl_pairOf_main_link _ _ x0 x1 x2 h).mpr hm)
  obtain ⟨v, h2, h3, r, rfl, h4⟩ := this; exact ⟨r, h2, h3, h4⟩

/-! ### slices.ContainsFunc[[]int64,int64] -/
def slices_ContainsFunc_s_int64_int64__M : Nat → List Nat := fun i => []
def slices_ContainsFunc_s_int64_int64__main (S : SatT) (K : AVal → H → Prop) (x0 : Sl) (x1 : AVal) (h : H) : Prop :=
 callI S .i64 i_slices_IndexFunc_s_int64_int64_ [.sl x0, x1] h fun n1 h0 =>
 K (.bool (decide (n1 ≥ (0)))) h0
theorem slices_ContainsFunc_s_int64_int64__main_link (S : SatT) (K : AVal → H → Prop) (x0 : Sl) (x1 : AVal) (h : H) : cwp S tab slices_ContainsFunc_s_int64_int64__M [] (bodyOf Tryz.f105) (kFun tab Tryz.f105.results.toList K) (fr0 Tryz.f105 [.sl x0, x1]) h = slices_ContainsFunc_s_int64_int64__main S K x0 x1 h := by kernel_rfl
theorem slices_ContainsFunc_s_int64_int64__call (x0 : Sl) (x1 : AVal) (h : H) (K : Bool → H → Prop) (hm : slices_ContainsFunc_s_int64_int64__main (Sat Tryz.prog) (fun v h' => ∃ r, v = .bool r ∧ K r h') x0 x1 h) : callB (Sat Tryz.prog) i_slices_ContainsFunc_s_int64_int64_ [.sl x0, x1] h K := by
  have := Sat.ex tok mixed slices_ContainsFunc_s_int64_int64__M Tryz.func105 (c := bodyOf Tryz.f105) (by kernel_rfl) (calls_of Tryz.func105 (c := bodyOf Tryz.f105) (by kernel_rfl) (by decide)) ((slices_ContainsFunc_s_int64_int64__main_link _ _ x0 x1 h).mpr hm)
  obtain ⟨v, h2, h3, r, rfl, h4⟩ := this; exact ⟨r, h2, h3, h4⟩

/-! ### slices.SortedFunc[loop.example/g01354/impl.Tile] -/
def slices_SortedFunc_impl_Tile__M : Nat → List Nat := fun i => []
def slices_SortedFunc_impl_Tile__main (S : SatT) (K : AVal → H → Prop) (x0 : AVal) (x1 : AVal) (h : H) : Prop :=
 callS S i_slices_Collect_impl_Tile_ [x0] h fun s1 h0 =>
 callV S i_slices_SortFunc_s_impl_Tile_impl_Tile_ [.sl s1, x1] h0 fun v3 h2 =>
 K (.sl s1) h2
theorem slices_SortedFunc_impl_Tile__main_link (S : SatT) (K : AVal → H → Prop) (x0 : AVal) (x1 : AVal) (h : H) : cwp S tab slices_SortedFunc_impl_Tile__M [] (bodyOf Tryz.f145) (kFun tab Tryz.f145.results.toList K) (fr0 Tryz.f145 [x0, x1]) h = slices_SortedFunc_impl_Tile__main S K x0 x1 h := by kernel_rfl
theorem slices_SortedFunc_impl_Tile__call (x0 : AVal) (x1 : AVal) (h : H) (K : Sl → H → Prop) (hm : slices_SortedFunc_impl_Tile__main (Sat Tryz.prog) (fun v h' => ∃ r, v = .sl r ∧ K r h') x0 x1 h) : callS (Sat Tryz.prog) i_slices_SortedFunc_impl_Tile_ [x0, x1] h K := by
  have := Sat.ex tok mixed slices_SortedFunc_impl_Tile__M Tryz.func145 (c := bodyOf Tryz.f145) (by kernel_rfl) (calls_of Tryz.func145 (c := bodyOf Tryz.f145) (by kernel_rfl) (by decide)) ((slices_SortedFunc_impl_Tile__main_link _ _ x0 x1 h).mpr hm)
  obtain ⟨v, h2, h3, r, rfl, h4⟩ := this; exact ⟨r, h2, h3, h4⟩

/-! ### loop.example/g01354/impl.setCode -/
def impl_setCode_M : Nat → List Nat := fun i => []
def impl_setCode_main (S : SatT) (K : AVal → H → Prop) (x0 : List AVal) (x1 : AVal) (h : H) : Prop :=
 newK 2 x0 h fun p0 h1 =>
 ldA p0 2 h1 fun cs2 =>
 callB S i_impl_IsSet [.agg cs2] h1 fun b4 h3 =>
 bif (!b4) then
 K (.int .i64 (1)) h3
 else
 viaF x1 [] fun g5 ys6 =>
 callB S g5 ys6 h3 fun b8 h7 =>
 bif (!b8) then
 K (.int .i64 (2)) h7
 else
 K (.int .i64 (0)) h7
theorem impl_setCode_main_link (S : SatT) (K : AVal → H → Prop) (x0 : List AVal) (x1 : AVal) (h : H) : cwp S tab impl_setCode_M [] (bodyOf Tryz.f55) (kFun tab Tryz.f55.results.toList K) (fr0 Tryz.f55 [.agg x0, x1]) h = impl_setCode_main S K x0 x1 h := by kernel_rfl
theorem impl_setCode_call (x0 : List AVal) (x1 : AVal) (h : H) (K : Int → H → Prop) (hm : impl_setCode_main (Sat Tryz.prog) (fun v h' => ∃ r, v = .int .i64 r ∧ K r h') x0 x1 h) : callI (Sat Tryz.prog) .i64 i_impl_setCode [.agg x0, x1] h K := by
  have := Sat.ex tok mixed impl_setCode_M Tryz.func55 (c := bodyOf Tryz.f55) (by kernel_rfl) (calls_of Tryz.func55 (c := bodyOf Tryz.f55) (by kernel_rfl) (by decide)) ((impl_setCode_main_link _ _ x0 x1 h).mpr hm)
  obtain ⟨v, h2, h3, r, rfl, h4⟩ := this; exact ⟨r, h2, h3, h4⟩

/-! ### loop.example/g01354/spec.l01Made -/
def spec_l01Made_M : Nat → List Nat := fun i => []
def spec_l01Made_main (S : SatT) (K : AVal → H → Prop) (x0 : Int) (x1 : Sl) (h : H) : Prop :=
 newO [.int .i64 (0), .sl Sl.nil] h fun p0 h1 =>
 callS S i_spec_l01Sort [.sl x1] h1 fun s3 h2 =>
 stN p0 2 [.int .i64 x0, .sl s3] h2 fun h4 =>
 ldA p0 2 h4 fun cs5 =>
 K (.agg cs5) h4
theorem spec_l01Made_main_link (S : SatT) (K : AVal → H → Prop) (x0 : Int) (x1 : Sl) (h : H) : cwp S tab spec_l01Made_M [] (bodyOf Tryz.f101) (kFun tab Tryz.f101.results.toList K) (fr0 Tryz.f101 [.int .i64 x0, .sl x1]) h = spec_l01Made_main S K x0 x1 h := by kernel_rfl
theorem spec_l01Made_call (x0 : Int) (x1 : Sl) (h : H) (K : List AVal → H → Prop) (hm : spec_l01Made_main (Sat Tryz.prog) (fun v h' => ∃ r, v = .agg r ∧ K r h') x0 x1 h) : callA (Sat Tryz.prog) i_spec_l01Made [.int .i64 x0, .sl x1] h K := by
  have := Sat.ex tok mixed spec_l01Made_M Tryz.func101 (c := bodyOf Tryz.f101) (by kernel_rfl) (calls_of Tryz.func101 (c := bodyOf Tryz.f101) (by kernel_rfl) (by decide)) ((spec_l01Made_main_link _ _ x0 x1 h).mpr hm)
  obtain ⟨v, h2, h3, r, rfl, h4⟩ := this; exact ⟨r, h2, h3, h4⟩

/-! ### loop.example/g01354/impl.within -/
def impl_within_M : Nat → List Nat := fun i => []
def impl_within_main (S : SatT) (K : AVal → H → Prop) (x0 : Int) (x1 : Int) (x2 : Int) (h : H) : Prop :=
 bif (decide (x0 ≥ x1)) then
 K (.bool (decide (x0 ≤ x2))) h
 else
 K (.bool false) h
theorem impl_within_main_link (S : SatT) (K : AVal → H → Prop) (x0 : Int) (x1 : Int) (x2 : Int) (h : H) : cwp S tab impl_within_M [] (bodyOf Tryz.f54) (kFun tab Tryz.f54.results.toList K) (fr0 Tryz.f54 [.int .i64 x0, .int .i64 x1, .int .i64 x2]) h = impl_within_main S K x0 x1 x2 h := by kernel_rfl
theorem impl_within_call (x0 : Int) (x1 : Int) (x2 : Int) (h : H) (K : Bool → H → Prop) (hm : impl_within_main (Sat Tryz.prog) (fun v h' => ∃ r, v = .bool r ∧ K r h') x0 x1 x2 h) : callB (Sat Tryz.prog) i_impl_within [.int .i64 x0, .int .i64 x1, .int .i64 x2] h K := by
  have := Sat.ex tok mixed impl_within_M Tryz.func54 (c := bodyOf Tryz.f54) (by kernel_rfl) (calls_of Tryz.func54 (c := bodyOf Tryz.f54) (by kernel_rfl) (by decide)) ((impl_within_main_link _ _ x0 x1 x2 h).mpr hm)
  obtain ⟨v, h2, h3, r, rfl, h4⟩ := this; exact ⟨r, h2, h3, h4⟩

/-! ### loop.example/g01354/impl.areSets$1 -/
def impl_areSets_1_M : Nat → List Nat := fun i => []
def impl_areSets_1_main (S : SatT) (K : AVal → H → Prop) (x0 : List AVal) (h : H) : Prop :=
 newK 2 x0 h fun p0 h1 =>
 ldA p0 2 h1 fun cs2 =>
 callB S i_impl_IsSet [.agg cs2] h1 fun b4 h3 =>
 K (.bool (!b4)) h3
theorem impl_areSets_1_main_link (S : SatT) (K : AVal → H → Prop) (x0 : List AVal) (h : H) : cwp S tab impl_areSets_1_M [] (bodyOf Tryz.f92) (kFun tab Tryz.f92.results.toList K) (fr0 Tryz.f92 [.agg x0]) h = impl_areSets_1_main S K x0 h := by kernel_rfl
theorem impl_areSets_1_call (x0 : List AVal) (h : H) (K : Bool → H → Prop) (hm : impl_areSets_1_main (Sat Tryz.prog) (fun v h' => ∃ r, v = .bool r ∧ K r h') x0 h) : callB (Sat Tryz.prog) i_impl_areSets_1 [.agg x0] h K := by
  have := Sat.ex tok mixed impl_areSets_1_M Tryz.func92 (c := bodyOf Tryz.f92) (by kernel_rfl) (calls_of Tryz.func92 (c := bodyOf Tryz.f92) (by kernel_rfl) (by decide)) ((impl_areSets_1_main_link _ _ x0 h).mpr hm)
  obtain ⟨v, h2, h3, r, rfl, h4⟩ := this; exact ⟨r, h2, h3, h4⟩

/-! ### loop.example/g01354/laws.big -/
def laws_big_M : Nat → List Nat := fun i => []
def laws_big_main (S : SatT) (K : AVal → H → Prop) (x0 : Sl) (h : H) : Prop :=
 K (.bool (decide ((x0.len : Int) > (4096)))) h
theorem laws_big_main_link (S : SatT) (K : AVal → H → Prop) (x0 : Sl) (h : H) : cwp S tab laws_big_M [] (bodyOf Tryz.f5) (kFun tab Tryz.f5.results.toList K) (fr0 Tryz.f5 [.sl x0]) h = laws_big_main S K x0 h := by kernel_rfl
theorem laws_big_call (x0 : Sl) (h : H) (K : Bool → H → Prop) (hm : laws_big_main (Sat Tryz.prog) (fun v h' => ∃ r, v = .bool r ∧ K r h') x0 h) : callB (Sat Tryz.prog) i_laws_big [.sl x0] h K := by
  have := Sat.ex tok mixed laws_big_M Tryz.func5 (c := bodyOf Tryz.f5) (by kernel_rfl) (calls_of Tryz.func5 (c := bodyOf Tryz.f5) (by kernel_rfl) (by decide)) ((laws_big_main_link _ _ x0 h).mpr hm)
  obtain ⟨v, h2, h3, r, rfl, h4⟩ := this; exact ⟨r, h2, h3, h4⟩

/-! ### loop.example/g01354/spec.SplitRow -/
def spec_SplitRow_M : Nat → List Nat := fun i => bif i == 4 then [2, 3, 4, 9, 11, 12, 13, 14, 15, 16, 17] else bif i == 2 then [2, 3, 4, 9, 11, 12, 13, 14, 15, 16] else bif i == 0 then [2, 3, 4, 9, 11, 12, 13, 14] else []
def spec_SplitRow_ks8 (S : SatT) (K : AVal → H → Prop) : Kont := kSeq (cwp S tab spec_SplitRow_M [] (sub [1, 1, 1, 1, 1, 1] (bodyOf Tryz.f8)) (kFun tab (Tryz.f8).results.toList K)) (kFun tab (Tryz.f8).results.toList K)
def spec_SplitRow_e0 (s2_ : Sl) (p3_ : Pt) (p4_ : Pt) (p9_ : Pt) (s11_ : Sl) (s12_ : Sl) (s13_ : Sl) (i14_ : Int) : Frame := [U, U, .sl s2_, .ptr p3_, .ptr p4_, U, U, U, U, .ptr p9_, U, .sl s11_, .sl s12_, .sl s13_, .int .i64 i14_, U, U, U, U, U, U, U, U, U, U, U, U, U, U, U, U, U, U, U, U, U, U, U, U, U, U, U, U, U, U, U, U, U, U, U, U, U, U, U, U, U, U, U, U, U, U, U, U, U, U, U, U, U, U, U, U, U, U, U, U, U, U, U, U, U, U, U, U, U, U, U, U, U, U, U, U, U, U, U, U, U, U, U, U, U, U, U, U, U, U, U, U, U, U, U, U, U, U, U]
def spec_SplitRow_w0 (S : SatT) (K : AVal → H → Prop) : (Frame → H → Prop) → Frame → H → Prop := fun X fr h => cwp S tab spec_SplitRow_M (spec_SplitRow_M 0) (sub [1, 1, 1, 1, 1, 0, 1, 0, 0] (bodyOf Tryz.f8)) (kSeq (fun fr h => X (mask (spec_SplitRow_M 0) fr) h) (kBlk 0 (spec_SplitRow_ks8 S K))) fr h
def spec_SplitRow_L0 (S : SatT) (K : AVal → H → Prop) (s2_ : Sl) (p3_ : Pt) (p4_ : Pt) (p9_ : Pt) (s11_ : Sl) (s12_ : Sl) (s13_ : Sl) (i14_ : Int) (h : H) : Prop := loopK (spec_SplitRow_w0 S K) (spec_SplitRow_e0 s2_ p3_ p4_ p9_ s11_ s12_ s13_ i14_) h
def spec_SplitRow_ks12 (S : SatT) (K : AVal → H → Prop) (X0 : Frame → H → Prop) : Kont := kSeq (cwp S tab spec_SplitRow_M (spec_SplitRow_M 0) (sub [1, 1, 1, 1, 1, 0, 1, 0, 0, 1, 1] (bodyOf Tryz.f8)) (kSeq (fun fr h => X0 (mask (spec_SplitRow_M 0) fr) h) (kBlk 0 (spec_SplitRow_ks8 S K)))) (kSeq (fun fr h => X0 (mask (spec_SplitRow_M 0) fr) h) (kBlk 0 (spec_SplitRow_ks8 S K)))
def spec_SplitRow_e2 (s2_ : Sl) (p3_ : Pt) (p4_ : Pt) (p9_ : Pt) (s11_ : Sl) (s12_ : Sl) (s13_ : Sl) (i14_ : Int) (b15_ : Bool) (i16_ : Int) : Frame := [U, U, .sl s2_, .ptr p3_, .ptr p4_, U, U, U, U, .ptr p9_, U, .sl s11_, .sl s12_, .sl s13_, .int .i64 i14_, .bool b15_, .int .i64 i16_, U, U, U, U, U, U, U, U, U, U, U, U, U, U, U, U, U, U, U, U, U, U, U, U, U, U, U, U, U, U, U, U, U, U, U, U, U, U, U, U, U, U, U, U, U, U, U, U, U, U, U, U, U, U, U, U, U, U, U, U, U, U, U, U, U, U, U, U, U, U, U, U, U, U, U, U, U, U, U, U, U, U, U, U, U, U, U, U, U, U, U, U, U, U, U, U, U]
def spec_SplitRow_w2 (S : SatT) (K : AVal → H → Prop) (X0 : Frame → H → Prop) : (Frame → H → Prop) → Frame → H → Prop := fun X fr h => cwp S tab spec_SplitRow_M (spec_SplitRow_M 2) (sub [1, 1, 1, 1, 1, 0, 1, 0, 0, 1, 0, 0, 1, 1, 0, 0] (bodyOf Tryz.f8)) (kSeq (fun fr h => X (mask (spec_SplitRow_M 2) fr) h) (kBlk 2 (kBlk 1 (spec_SplitRow_ks12 S K X0)))) fr h
def spec_SplitRow_L2 (S : SatT) (K : AVal → H → Prop) (X0 : Frame → H → Prop) (s2_ : Sl) (p3_ : Pt) (p4_ : Pt) (p9_ : Pt) (s11_ : Sl) (s12_ : Sl) (s13_ : Sl) (i14_ : Int) (b15_ : Bool) (i16_ : Int) (h : H) : Prop := loopK (spec_SplitRow_w2 S K X0) (spec_SplitRow_e2 s2_ p3_ p4_ p9_ s11_ s12_ s13_ i14_ b15_ i16_) h
def spec_SplitRow_ks17 (S : SatT) (K : AVal → H → Prop) (X0 : Frame → H → Prop) (X2 : Frame → H → Prop) : Kont := kSeq (cwp S tab spec_SplitRow_M (spec_SplitRow_M 2) (sub [1, 1, 1, 1, 1, 0, 1, 0, 0, 1, 0, 0, 1, 1, 0, 0, 1, 1] (bodyOf Tryz.f8)) (kSeq (fun fr h => X2 (mask (spec_SplitRow_M 2) fr) h) (kBlk 2 (kBlk 1 (spec_SplitRow_ks12 S K X0))))) (kSeq (fun fr h => X2 (mask (spec_SplitRow_M 2) fr) h) (kBlk 2 (kBlk 1 (spec_SplitRow_ks12 S K X0))))
def spec_SplitRow_e4 (s2_ : Sl) (p3_ : Pt) (p4_ : Pt) (p9_ : Pt) (s11_ : Sl) (s12_ : Sl) (s13_ : Sl) (i14_ : Int) (b15_ : Bool) (i16_ : Int) (i17_ : Int) : Frame := [U, U, .sl s2_, .ptr p3_, .ptr p4_, U, U, U, U, .ptr p9_, U, .sl s11_, .sl s12_, .sl s13_, .int .i64 i14_, .bool b15_, .int .i64 i16_, .int .i64 i17_, U, U, U, U, U, U, U, U, U, U, U, U, U, U, U, U, U, U, U, U, U, U, U, U, U, U, U, U, U, U, U, U, U, U, U, U, U, U, U, U, U, U, U, U, U, U, U, U, U, U, U, U, U, U, U, U, U, U, U, U, U, U, U, U, U, U, U, U, U, U, U, U, U, U, U, U, U, U, U, U, U, U, U, U, U, U, U, U, U, U, U, U, U, U, U, U]
def spec_SplitRow_w4 (S : SatT) (K : AVal → H → Prop) (X0 : Frame → H → Prop) (X2 : Frame → H → Prop) : (Frame → H → Prop) → Frame → H → Prop := fun X fr h => cwp S tab spec_SplitRow_M (spec_SplitRow_M 4) (sub [1, 1, 1, 1, 1, 0, 1, 0, 0, 1, 0, 0, 1, 1, 0, 0, 1, 0, 0, 1, 0, 0] (bodyOf Tryz.f8)) (kSeq (fun fr h => X (mask (spec_SplitRow_M 4) fr) h) (kBlk 4 (kBlk 3 (spec_SplitRow_ks17 S K X0 X2)))) fr h
def spec_SplitRow_L4 (S : SatT) (K : AVal → H → Prop) (X0 : Frame → H → Prop) (X2 : Frame → H → Prop) (s2_ : Sl) (p3_ : Pt) (p4_ : Pt) (p9_ : Pt) (s11_ : Sl) (s12_ : Sl) (s13_ : Sl) (i14_ : Int) (b15_ : Bool) (i16_ : Int) (i17_ : Int) (h : H) : Prop := loopK (spec_SplitRow_w4 S K X0 X2) (spec_SplitRow_e4 s2_ p3_ p4_ p9_ s11_ s12_ s13_ i14_ b15_ i16_ i17_) h
def spec_SplitRow_C3 (S : SatT) (K : AVal → H → Prop) (X0 : Frame → H → Prop) (X2 : Frame → H → Prop) (s2_ : Sl) (p3_ : Pt) (p4_ : Pt) (p9_ : Pt) (s11_ : Sl) (s12_ : Sl) (s13_ : Sl) (i14_ : Int) (b15_ : Bool) (i16_ : Int) (h : H) : Prop :=
 X2 (spec_SplitRow_e2 s2_ p3_ p4_ p9_ s11_ s12_ s13_ i14_ b15_ (w64 (i16_ + (1)))) h
def spec_SplitRow_C4 (S : SatT) (K : AVal → H → Prop) (X0 : Frame → H → Prop) (X2 : Frame → H → Prop) (s2_ : Sl) (p3_ : Pt) (p4_ : Pt) (p9_ : Pt) (s11_ : Sl) (s12_ : Sl) (s13_ : Sl) (i14_ : Int) (b15_ : Bool) (i16_ : Int) (h : H) : Prop :=
 spec_SplitRow_C3 S K X0 X2 s2_ p3_ p4_ p9_ s11_ s12_ s13_ i14_ b15_ i16_ h
def spec_SplitRow_b4 (S : SatT) (K : AVal → H → Prop) (X0 : Frame → H → Prop) (X2 : Frame → H → Prop) (X4 : Frame → H → Prop) (s2_ : Sl) (p3_ : Pt) (p4_ : Pt) (p9_ : Pt) (s11_ : Sl) (s12_ : Sl) (s13_ : Sl) (i14_ : Int) (b15_ : Bool) (i16_ : Int) (i17_ : Int) (h : H) : Prop :=
 isPt p4_ (
 ldS (Pt.add p4_ 1) h fun s0 =>
 bif (decide (i17_ < (s0.len : Int))) then
 bif (!b15_) then
 isPt p3_ (
 ldS (Pt.add p3_ 1) h fun s1 =>
 ixS s1 4 i16_ fun p2 =>
 ixA p2 4 1 (3) fun p3 =>
 ldI .i64 p3 h fun n4 =>
 isPt p4_ (
 ldS (Pt.add p4_ 1) h fun s5 =>
 ixS s5 4 i17_ fun p6 =>
 ixA p6 4 1 (1) fun p7 =>
 ldI .i64 p7 h fun n8 =>
 bif (n4 == n8) then
 isPt p3_ (
 ldS (Pt.add p3_ 1) h fun s9 =>
 ixS s9 4 i16_ fun p10 =>
 ldA p10 4 h fun cs11 =>
 isPt p4_ (
 ldS (Pt.add p4_ 1) h fun s12 =>
 ixS s12 4 i17_ fun p13 =>
 ldA p13 4 h fun cs14 =>
 callA S i_spec_l04Tile [.agg cs11, .agg cs14, .sl s11_] h fun cs16 h15 =>
 isPt p9_ (
 ldS (Pt.add p9_ 1) h15 fun s17 =>
(cell h (Pt.add p9_ 1) = cell h15 (Pt.add p9_ 1)) ∧ (
 ixS s2_ 1 i14_ fun p18 =>
 ldI .i64 p18 h15 fun n19 =>
(cell h p18 = cell h15 p18) ∧ (
 ixS s17 4 n19 fun p20 =>
 ldA p20 4 h15 fun cs21 =>
(range h p20.o p20.n p20.off 4 = range h15 p20.o p20.n p20.off 4) ∧ (
 eqA .i64 4 cs16 cs21 fun b22 =>
 bif b22 then
 newS 1 1 [.int .i64 i16_] h15 fun s23 h24 =>
 app s12_ s23 1 h24 fun s25 h26 =>
 newS 1 1 [.int .i64 i17_] h26 fun s27 h28 =>
 app s13_ s27 1 h28 fun s29 h30 =>
 X4 (spec_SplitRow_e4 s2_ p3_ p4_ p9_ s11_ s25 s29 i14_ true i16_ (w64 (i17_ + (1)))) h30
 else
 X4 (spec_SplitRow_e4 s2_ p3_ p4_ p9_ s11_ s12_ s13_ i14_ b15_ i16_ (w64 (i17_ + (1)))) h15))))))
 else
 X4 (spec_SplitRow_e4 s2_ p3_ p4_ p9_ s11_ s12_ s13_ i14_ b15_ i16_ (w64 (i17_ + (1)))) h))
 else
 spec_SplitRow_C4 S K X0 X2 s2_ p3_ p4_ p9_ s11_ s12_ s13_ i14_ b15_ i16_ h
 else
 spec_SplitRow_C4 S K X0 X2 s2_ p3_ p4_ p9_ s11_ s12_ s13_ i14_ b15_ i16_ h)
theorem spec_SplitRow_link4 (S : SatT) (K : AVal → H → Prop) (X0 : Frame → H → Prop) (X2 : Frame → H → Prop) (X4 : Frame → H → Prop) (s2_ : Sl) (p3_ : Pt) (p4_ : Pt) (p9_ : Pt) (s11_ : Sl) (s12_ : Sl) (s13_ : Sl) (i14_ : Int) (b15_ : Bool) (i16_ : Int) (i17_ : Int) (h : H) : spec_SplitRow_w4 S K X0 X2 X4 (spec_SplitRow_e4 s2_ p3_ p4_ p9_ s11_ s12_ s13_ i14_ b15_ i16_ i17_) h = spec_SplitRow_b4 S K X0 X2 X4 s2_ p3_ p4_ p9_ s11_ s12_ s13_ i14_ b15_ i16_ i17_ h := by kernel_rfl
theorem spec_SplitRow_rule4 (S : SatT) (K : AVal → H → Prop) (X0 : Frame → H → Prop) (X2 : Frame → H → Prop) (s2_ : Sl) (p3_ : Pt) (p4_ : Pt) (p9_ : Pt) (s11_ : Sl) (i14_ : Int) (i16_ : Int) (I_ : Sl → Sl → Bool → Int → H → Prop) (m_ : Sl → Sl → Bool → Int → H → Nat)
    (hs : ∀ (X4 : Frame → H → Prop) (s12_ : Sl) (s13_ : Sl) (b15_ : Bool) (i17_ : Int) (h : H), I_ s12_ s13_ b15_ i17_ h → (∀ (s12_' : Sl) (s13_' : Sl) (b15_' : Bool) (i17_' : Int) (h' : H), I_ s12_' s13_' b15_' i17_' h' → m_ s12_' s13_' b15_' i17_' h' < m_ s12_ s13_ b15_ i17_ h → X4 (spec_SplitRow_e4 s2_ p3_ p4_ p9_ s11_ s12_' s13_' i14_ b15_' i16_ i17_') h') → spec_SplitRow_b4 S K X0 X2 X4 s2_ p3_ p4_ p9_ s11_ s12_ s13_ i14_ b15_ i16_ i17_ h) (s12_ : Sl) (s13_ : Sl) (b15_ : Bool) (i17_ : Int) {h : H} (h0 : I_ s12_ s13_ b15_ i17_ h) : spec_SplitRow_L4 S K X0 X2 s2_ p3_ p4_ p9_ s11_ s12_ s13_ i14_ b15_ i16_ i17_ h :=
  loop_rule (σ := (Sl) × (Sl) × (Bool) × (Int)) (fun s_ => spec_SplitRow_e4 s2_ p3_ p4_ p9_ s11_ (s_.1) (s_.2.1) i14_ (s_.2.2.1) i16_ (s_.2.2.2)) (fun s_ h => I_ (s_.1) (s_.2.1) (s_.2.2.1) (s_.2.2.2) h) (fun s_ h => m_ (s_.1) (s_.2.1) (s_.2.2.1) (s_.2.2.2) h)
    (fun X s_ h hi hx => (spec_SplitRow_link4 S K X0 X2 X s2_ p3_ p4_ p9_ s11_ (s_.1) (s_.2.1) i14_ (s_.2.2.1) i16_ (s_.2.2.2) h).mpr (hs X (s_.1) (s_.2.1) (s_.2.2.1) (s_.2.2.2) h hi fun s12_' s13_' b15_' i17_' h' hi' hm' => hx (s12_', s13_', b15_', i17_') h' hi' hm')) (s12_, s13_, b15_, i17_) h0
def spec_SplitRow_C1 (S : SatT) (K : AVal → H → Prop) (X0 : Frame → H → Prop) (s2_ : Sl) (p3_ : Pt) (p4_ : Pt) (p9_ : Pt) (s11_ : Sl) (s12_ : Sl) (s13_ : Sl) (i14_ : Int) (h : H) : Prop :=
 X0 (spec_SplitRow_e0 s2_ p3_ p4_ p9_ s11_ s12_ s13_ (w64 (i14_ + (1)))) h
def spec_SplitRow_C2 (S : SatT) (K : AVal → H → Prop) (X0 : Frame → H → Prop) (s2_ : Sl) (p3_ : Pt) (p4_ : Pt) (p9_ : Pt) (s11_ : Sl) (s12_ : Sl) (s13_ : Sl) (i14_ : Int) (h : H) : Prop :=
 spec_SplitRow_C1 S K X0 s2_ p3_ p4_ p9_ s11_ s12_ s13_ i14_ h
def spec_SplitRow_b2 (S : SatT) (K : AVal → H → Prop) (X0 : Frame → H → Prop) (X2 : Frame → H → Prop) (s2_ : Sl) (p3_ : Pt) (p4_ : Pt) (p9_ : Pt) (s11_ : Sl) (s12_ : Sl) (s13_ : Sl) (i14_ : Int) (b15_ : Bool) (i16_ : Int) (h : H) : Prop :=
 isPt p3_ (
 ldS (Pt.add p3_ 1) h fun s0 =>
 bif (decide (i16_ < (s0.len : Int))) then
 bif (!b15_) then
 spec_SplitRow_L4 S K X0 X2 s2_ p3_ p4_ p9_ s11_ s12_ s13_ i14_ b15_ i16_ (0) h
 else
 spec_SplitRow_C2 S K X0 s2_ p3_ p4_ p9_ s11_ s12_ s13_ i14_ h
 else
 spec_SplitRow_C2 S K X0 s2_ p3_ p4_ p9_ s11_ s12_ s13_ i14_ h)
theorem spec_SplitRow_link2 (S : SatT) (K : AVal → H → Prop) (X0 : Frame → H → Prop) (X2 : Frame → H → Prop) (s2_ : Sl) (p3_ : Pt) (p4_ : Pt) (p9_ : Pt) (s11_ : Sl) (s12_ : Sl) (s13_ : Sl) (i14_ : Int) (b15_ : Bool) (i16_ : Int) (h : H) : spec_SplitRow_w2 S K X0 X2 (spec_SplitRow_e2 s2_ p3_ p4_ p9_ s11_ s12_ s13_ i14_ b15_ i16_) h = spec_SplitRow_b2 S K X0 X2 s2_ p3_ p4_ p9_ s11_ s12_ s13_ i14_ b15_ i16_ h := by kernel_rfl
theorem spec_SplitRow_rule2 (S : SatT) (K : AVal → H → Prop) (X0 : Frame → H → Prop) (s2_ : Sl) (p3_ : Pt) (p4_ : Pt) (p9_ : Pt) (s11_ : Sl) (i14_ : Int) (I_ : Sl → Sl → Bool → Int → H → Prop) (m_ : Sl → Sl → Bool → Int → H → Nat)
    (hs : ∀ (X2 : Frame → H → Prop) (s12_ : Sl) (s13_ : Sl) (b15_ : Bool) (i16_ : Int) (h : H), I_ s12_ s13_ b15_ i16_ h → (∀ (s12_' : Sl) (s13_' : Sl) (b15_' : Bool) (i16_' : Int) (h' : H), I_ s12_' s13_' b15_' i16_' h' → m_ s12_' s13_' b15_' i16_' h' < m_ s12_ s13_ b15_ i16_ h → X2 (spec_SplitRow_e2 s2_ p3_ p4_ p9_ s11_ s12_' s13_' i14_ b15_' i16_') h') → spec_SplitRow_b2 S K X0 X2 s2_ p3_ p4_ p9_ s11_ s12_ s13_ i14_ b15_ i16_ h) (s12_ : Sl) (s13_ : Sl) (b15_ : Bool) (i16_ : Int) {h : H} (h0 : I_ s12_ s13_ b15_ i16_ h) : spec_SplitRow_L2 S K X0 s2_ p3_ p4_ p9_ s11_ s12_ s13_ i14_ b15_ i16_ h :=
  loop_rule (σ := (Sl) × (Sl) × (Bool) × (Int)) (fun s_ => spec_SplitRow_e2 s2_ p3_ p4_ p9_ s11_ (s_.1) (s_.2.1) i14_ (s_.2.2.1) (s_.2.2.2)) (fun s_ h => I_ (s_.1) (s_.2.1) (s_.2.2.1) (s_.2.2.2) h) (fun s_ h => m_ (s_.1) (s_.2.1) (s_.2.2.1) (s_.2.2.2) h)
    (fun X s_ h hi hx => (spec_SplitRow_link2 S K X0 X s2_ p3_ p4_ p9_ s11_ (s_.1) (s_.2.1) i14_ (s_.2.2.1) (s_.2.2.2) h).mpr (hs X (s_.1) (s_.2.1) (s_.2.2.1) (s_.2.2.2) h hi fun s12_' s13_' b15_' i16_' h' hi' hm' => hx (s12_', s13_', b15_', i16_') h' hi' hm')) (s12_, s13_, b15_, i16_) h0
def spec_SplitRow_C0 (S : SatT) (K : AVal → H → Prop) (s12_ : Sl) (s13_ : Sl) (h : H) : Prop :=
 K (.tuple [.sl s12_, .sl s13_, .int .i64 (0)]) h
def spec_SplitRow_b0 (S : SatT) (K : AVal → H → Prop) (X0 : Frame → H → Prop) (s2_ : Sl) (p3_ : Pt) (p4_ : Pt) (p9_ : Pt) (s11_ : Sl) (s12_ : Sl) (s13_ : Sl) (i14_ : Int) (h : H) : Prop :=
 bif (decide (i14_ < (s2_.len : Int))) then
 spec_SplitRow_L2 S K X0 s2_ p3_ p4_ p9_ s11_ s12_ s13_ i14_ false (0) h
 else
 spec_SplitRow_C0 S K s12_ s13_ h
theorem spec_SplitRow_link0 (S : SatT) (K : AVal → H → Prop) (X0 : Frame → H → Prop) (s2_ : Sl) (p3_ : Pt) (p4_ : Pt) (p9_ : Pt) (s11_ : Sl) (s12_ : Sl) (s13_ : Sl) (i14_ : Int) (h : H) : spec_SplitRow_w0 S K X0 (spec_SplitRow_e0 s2_ p3_ p4_ p9_ s11_ s12_ s13_ i14_) h = spec_SplitRow_b0 S K X0 s2_ p3_ p4_ p9_ s11_ s12_ s13_ i14_ h := by kernel_rfl
theorem spec_SplitRow_rule0 (S : SatT) (K : AVal → H → Prop) (s2_ : Sl) (p3_ : Pt) (p4_ : Pt) (p9_ : Pt) (s11_ : Sl) (I_ : Sl → Sl → Int → H → Prop) (m_ : Sl → Sl → Int → H → Nat)
    (hs : ∀ (X0 : Frame → H → Prop) (s12_ : Sl) (s13_ : Sl) (i14_ : Int) (h : H), I_ s12_ s13_ i14_ h → (∀ (s12_' : Sl) (s13_' : Sl) (i14_' : Int) (h' : H), I_ s12_' s13_' i14_' h' → m_ s12_' s13_' i14_' h' < m_ s12_ s13_ i14_ h → X0 (spec_SplitRow_e0 s2_ p3_ p4_ p9_ s11_ s12_' s13_' i14_') h') → spec_SplitRow_b0 S K X0 s2_ p3_ p4_ p9_ s11_ s12_ s13_ i14_ h) (s12_ : Sl) (s13_ : Sl) (i14_ : Int) {h : H} (h0 : I_ s12_ s13_ i14_ h) : spec_SplitRow_L0 S K s2_ p3_ p4_ p9_ s11_ s12_ s13_ i14_ h :=
  loop_rule (σ := (Sl) × (Sl) × (Int)) (fun s_ => spec_SplitRow_e0 s2_ p3_ p4_ p9_ s11_ (s_.1) (s_.2.1) (s_.2.2)) (fun s_ h => I_ (s_.1) (s_.2.1) (s_.2.2) h) (fun s_ h => m_ (s_.1) (s_.2.1) (s_.2.2) h)
    (fun X s_ h hi hx => (spec_SplitRow_link0 S K X s2_ p3_ p4_ p9_ s11_ (s_.1) (s_.2.1) (s_.2.2) h).mpr (hs X (s_.1) (s_.2.1) (s_.2.2) h hi fun s12_' s13_' i14_' h' hi' hm' => hx (s12_', s13_', i14_') h' hi' hm')) (s12_, s13_, i14_) h0
def spec_SplitRow_main (S : SatT) (K : AVal → H → Prop) (x0 : List AVal) (x1 : List AVal) (x2 : Sl) (h : H) : Prop :=
 newK 2 x0 h fun p0 h1 =>
 newK 2 x1 h1 fun p2 h3 =>
 ldA p0 2 h3 fun cs4 =>
 ldA p2 2 h3 fun cs5 =>
 callV S i_spec_StackSets [.agg cs4, .agg cs5] h3 fun v7 h6 =>
 viaT v7 fun vs8 =>
 exA vs8 0 fun cs9 =>
 viaT v7 fun vs10 =>
 exI .i64 vs10 1 fun n11 =>
 newO [.int .i64 (0), .sl Sl.nil] h6 fun p12 h13 =>
 stN p12 2 cs9 h13 fun h14 =>
 bif (n11 == (0)) then
 ldA p12 2 h14 fun cs15 =>
 callB S i_spec_l02Row [.agg cs15, .sl x2] h14 fun b17 h16 =>
 bif (!b17) then
 bif ((2) != (0)) then
 K (.tuple [.sl Sl.nil, .sl Sl.nil, .int .i64 (2)]) h16
 else
 ldA p0 2 h16 fun cs18 =>
 ldA p2 2 h16 fun cs19 =>
 callS S i_spec_l04Pairs [.agg cs18, .agg cs19] h16 fun s21 h20 =>
 newS 0 1 [] h20 fun s22 h23 =>
 newS 0 1 [] h23 fun s24 h25 =>
 spec_SplitRow_L0 S K x2 p0 p2 p12 s21 s22 s24 (0) h25
 else
 bif (n11 != (0)) then
 K (.tuple [.sl Sl.nil, .sl Sl.nil, .int .i64 n11]) h16
 else
 ldA p0 2 h16 fun cs26 =>
 ldA p2 2 h16 fun cs27 =>
 callS S i_spec_l04Pairs [.agg cs26, .agg cs27] h16 fun s29 h28 =>
 newS 0 1 [] h28 fun s30 h31 =>
 newS 0 1 [] h31 fun s32 h33 =>
 spec_SplitRow_L0 S K x2 p0 p2 p12 s29 s30 s32 (0) h33
 else
 bif (n11 != (0)) then
 K (.tuple [.sl Sl.nil, .sl Sl.nil, .int .i64 n11]) h14
 else
 ldA p0 2 h14 fun cs34 =>
 ldA p2 2 h14 fun cs35 =>
 callS S i_spec_l04Pairs [.agg cs34, .agg cs35] h14 fun s37 h36 =>
 newS 0 1 [] h36 fun s38 h39 =>
 newS 0 1 [] h39 fun s40 h41 =>
 spec_SplitRow_L0 S K x2 p0 p2 p12 s37 s38 s40 (0) h41
theorem spec_SplitRow_main_link (S : SatT) (K : AVal → H → Prop) (x0 : List AVal) (x1 : List AVal) (x2 : Sl) (h : H) : cwp S tab spec_SplitRow_M [] (bodyOf Tryz.f8) (kFun tab Tryz.f8.results.toList K) (fr0 Tryz.f8 [.agg x0, .agg x1, .sl x2]) h = spec_SplitRow_main S K x0 x1 x2 h := by kernel_rfl
theorem spec_SplitRow_call (x0 : List AVal) (x1 : List AVal) (x2 : Sl) (h : H) (K : AVal → H → Prop) (hm : spec_SplitRow_main (Sat Tryz.prog) (fun v h' => K v h') x0 x1 x2 h) : callV (Sat Tryz.prog) i_spec_SplitRow [.agg x0, .agg x1, .sl x2] h K := by
  have := Sat.ex tok mixed spec_SplitRow_M Tryz.func8 (c := bodyOf Tryz.f8) (by kernel_rfl) (calls_of Tryz.func8 (c := bodyOf Tryz.f8) (by kernel_rfl) (by decide)) ((spec_SplitRow_main_link _ _ x0 x1 x2 h).mpr hm)
  exact this

/-! ### loop.example/g01354/impl.stackTiles -/
def impl_stackTiles_M : Nat → List Nat := fun i => bif i == 2 then [0, 1, 6, 7, 10, 33, 34, 35] else bif i == 0 then [0, 1, 6, 7, 19, 20, 21] else []
def impl_stackTiles_ks2 (S : SatT) (K : AVal → H → Prop) : Kont := kSeq (cwp S tab impl_stackTiles_M [] (sub [1, 1, 1] (bodyOf Tryz.f44)) (kFun tab (Tryz.f44).results.toList K)) (kFun tab (Tryz.f44).results.toList K)
def impl_stackTiles_e0 (s0_ : Sl) (s1_ : Sl) (f6_ : AVal) (s7_ : Sl) (s19_ : Sl) (i20_ : Int) (i21_ : Int) : Frame := [.sl s0_, .sl s1_, U, U, U, U, f6_, .sl s7_, U, U, U, U, U, U, U, U, U, U, U, .sl s19_, .int .i64 i20_, .int .i64 i21_, U, U, U, U, U, U, U, U, U, U, U, U, U, U, U, U, U, U, U, U, U, U, U, U, U, U, U, U, U, U, U, U, U, U, U, U, U, U, U, U, U, U, U, U, U, U, U, U, U]
def impl_stackTiles_w0 (S : SatT) (K : AVal → H → Prop) : (Frame → H → Prop) → Frame → H → Prop := fun X fr h => cwp S tab impl_stackTiles_M (impl_stackTiles_M 0) (sub [1, 1, 0, 1, 0, 0] (bodyOf Tryz.f44)) (kSeq (fun fr h => X (mask (impl_stackTiles_M 0) fr) h) (kBlk 0 (impl_stackTiles_ks2 S K))) fr h
def impl_stackTiles_L0 (S : SatT) (K : AVal → H → Prop) (s0_ : Sl) (s1_ : Sl) (f6_ : AVal) (s7_ : Sl) (s19_ : Sl) (i20_ : Int) (i21_ : Int) (h : H) : Prop := loopK (impl_stackTiles_w0 S K) (impl_stackTiles_e0 s0_ s1_ f6_ s7_ s19_ i20_ i21_) h
def impl_stackTiles_ks9 (S : SatT) (K : AVal → H → Prop) : Kont := kSeq (cwp S tab impl_stackTiles_M [] (sub [1, 1, 1, 1, 1] (bodyOf Tryz.f44)) (kFun tab (Tryz.f44).results.toList K)) (kFun tab (Tryz.f44).results.toList K)
def impl_stackTiles_e2 (s0_ : Sl) (s1_ : Sl) (f6_ : AVal) (s7_ : Sl) (s10_ : Sl) (s33_ : Sl) (i34_ : Int) (i35_ : Int) : Frame := [.sl s0_, .sl s1_, U, U, U, U, f6_, .sl s7_, U, U, .sl s10_, U, U, U, U, U, U, U, U, U, U, U, U, U, U, U, U, U, U, U, U, U, U, .sl s33_, .int .i64 i34_, .int .i64 i35_, U, U, U, U, U, U, U, U, U, U, U, U, U, U, U, U, U, U, U, U, U, U, U, U, U, U, U, U, U, U, U, U, U, U, U]
def impl_stackTiles_w2 (S : SatT) (K : AVal → H → Prop) : (Frame → H → Prop) → Frame → H → Prop := fun X fr h => cwp S tab impl_stackTiles_M (impl_stackTiles_M 2) (sub [1, 1, 1, 1, 0, 1, 0, 0] (bodyOf Tryz.f44)) (kSeq (fun fr h => X (mask (impl_stackTiles_M 2) fr) h) (kBlk 2 (impl_stackTiles_ks9 S K))) fr h
def impl_stackTiles_L2 (S : SatT) (K : AVal → H → Prop) (s0_ : Sl) (s1_ : Sl) (f6_ : AVal) (s7_ : Sl) (s10_ : Sl) (s33_ : Sl) (i34_ : Int) (i35_ : Int) (h : H) : Prop := loopK (impl_stackTiles_w2 S K) (impl_stackTiles_e2 s0_ s1_ f6_ s7_ s10_ s33_ i34_ i35_) h
def impl_stackTiles_C2 (S : SatT) (K : AVal → H → Prop) (s7_ : Sl) (s10_ : Sl) (h : H) : Prop :=
 K (.tuple [.sl s10_, .int .i64 (s7_.len : Int)]) h
def impl_stackTiles_b2 (S : SatT) (K : AVal → H → Prop) (X2 : Frame → H → Prop) (s0_ : Sl) (s1_ : Sl) (f6_ : AVal) (s7_ : Sl) (s10_ : Sl) (s33_ : Sl) (i34_ : Int) (i35_ : Int) (h : H) : Prop :=
 bif (decide (i35_ < i34_)) then
 ixS s33_ 2 i35_ fun p0 =>
 ldA p0 2 h fun cs1 =>
 newO [.int .i64 (0), .int .i64 (0)] h fun p2 h3 =>
 stN p2 2 cs1 h3 fun h4 =>
 slotK 14 h4 fun h5 =>
 ixA p2 2 1 (0) fun p6 =>
 ldI .i64 p6 h5 fun n7 =>
 ixS s0_ 4 n7 fun p8 =>
 ldA p8 4 h5 fun cs9 =>
 ixA p2 2 1 (1) fun p10 =>
 ldI .i64 p10 h5 fun n11 =>
 ixS s1_ 4 n11 fun p12 =>
 ldA p12 4 h5 fun cs13 =>
 newOat [.int .i64 (0), .int .i64 (0), .int .i64 (0), .int .i64 (0)] h5 (h4.length + 10) fun p14 h15 =>
(range h15 p12.o p12.n p12.off 4 = range h5 p12.o p12.n p12.off 4) ∧ (
(cell h15 p10 = cell h5 p10) ∧ (
(range h15 p8.o p8.n p8.off 4 = range h5 p8.o p8.n p8.off 4) ∧ (
(cell h15 p6 = cell h5 p6) ∧ (
 newOat [.int .i64 (0), .int .i64 (0), .int .i64 (0), .int .i64 (0)] h15 (h4.length + 11) fun p16 h17 =>
(range h17 p12.o p12.n p12.off 4 = range h5 p12.o p12.n p12.off 4) ∧ (
(cell h17 p10 = cell h5 p10) ∧ (
(range h17 p8.o p8.n p8.off 4 = range h5 p8.o p8.n p8.off 4) ∧ (
(cell h17 p6 = cell h5 p6) ∧ (
 stN p14 4 cs9 h17 fun h18 =>
(range h18 p12.o p12.n p12.off 4 = range h5 p12.o p12.n p12.off 4) ∧ (
(cell h18 p10 = cell h5 p10) ∧ (
 stN p16 4 cs13 h18 fun h19 =>
 ldA p14 4 h19 fun cs20 =>
 ldA p16 4 h19 fun cs21 =>
 callA S i_impl_pairOf [.agg cs20, .agg cs21, .int .i64 (0)] h19 fun cs23 h22 =>
 keyA 2 cs23 (
 mgetI .i64 f6_ (.agg cs23) h22 fun n24 =>
 ixA p14 4 1 (1) fun p25 =>
 ldI .i64 p25 h22 fun n26 =>
(cell h19 p25 = cell h22 p25) ∧ (
 ldA p14 4 h22 fun cs27 =>
(range h19 p14.o p14.n p14.off 4 = range h22 p14.o p14.n p14.off 4) ∧ (
 ldA p16 4 h22 fun cs28 =>
(range h19 p16.o p16.n p16.off 4 = range h22 p16.o p16.n p16.off 4) ∧ (
 callA S i_impl_pairOf [.agg cs27, .agg cs28, .int .i64 (2)] h22 fun cs30 h29 =>
(cell h29 p25 = cell h22 p25) ∧ (
 sameM f6_ h22 h29 ∧ (
 keyA 2 cs30 (
 mgetI .i64 f6_ (.agg cs30) h29 fun n31 =>
 ixA p16 4 1 (3) fun p32 =>
 ldI .i64 p32 h29 fun n33 =>
(cell h22 p32 = cell h29 p32) ∧ (
(cell h19 p32 = cell h29 p32) ∧ (
 lenA [.int .i64 n24, .int .i64 n26, .int .i64 n31, .int .i64 n33] 4 (
 newS 1 4 (spl [.int .i64 (0), .int .i64 (0), .int .i64 (0), .int .i64 (0)] 0 4 [.int .i64 n24, .int .i64 n26, .int .i64 n31, .int .i64 n33]) h29 fun s34 h35 =>
 app s10_ s34 4 h35 fun s36 h37 =>
 X2 (impl_stackTiles_e2 s0_ s1_ f6_ s7_ s36 s33_ i34_ (w64 (i35_ + (1)))) h37))))))))))))))))))))
 else
 impl_stackTiles_C2 S K s7_ s10_ h
theorem impl_stackTiles_link2 (S : SatT) (K : AVal → H → Prop) (X2 : Frame → H → Prop) (s0_ : Sl) (s1_ : Sl) (f6_ : AVal) (s7_ : Sl) (s10_ : Sl) (s33_ : Sl) (i34_ : Int) (i35_ : Int) (h : H) : impl_stackTiles_w2 S K X2 (impl_stackTiles_e2 s0_ s1_ f6_ s7_ s10_ s33_ i34_ i35_) h = impl_stackTiles_b2 S K X2 s0_ s1_ f6_ s7_ s10_ s33_ i34_ i35_ h := by kernel_rfl
theorem impl_stackTiles_rule2 (S : SatT) (K : AVal → H → Prop) (s0_ : Sl) (s1_ : Sl) (f6_ : AVal) (s7_ : Sl) (s33_ : Sl) (i34_ : Int) (I_ : Sl → Int → H → Prop) (m_ : Sl → Int → H → Nat)
    (hs : ∀ (X2 : Frame → H → Prop) (s10_ : Sl) (i35_ : Int) (h : H), I_ s10_ i35_ h → (∀ (s10_' : Sl) (i35_' : Int) (h' : H), I_ s10_' i35_' h' → m_ s10_' i35_' h' < m_ s10_ i35_ h → X2 (impl_stackTiles_e2 s0_ s1_ f6_ s7_ s10_' s33_ i34_ i35_') h') → impl_stackTiles_b2 S K X2 s0_ s1_ f6_ s7_ s10_ s33_ i34_ i35_ h) (s10_ : Sl) (i35_ : Int) {h : H} (h0 : I_ s10_ i35_ h) : impl_stackTiles_L2 S K s0_ s1_ f6_ s7_ s10_ s33_ i34_ i35_ h :=
  loop_rule (σ := (Sl) × (Int)) (fun s_ => impl_stackTiles_e2 s0_ s1_ f6_ s7_ (s_.1) s33_ i34_ (s_.2)) (fun s_ h => I_ (s_.1) (s_.2) h) (fun s_ h => m_ (s_.1) (s_.2) h)
    (fun X s_ h hi hx => (impl_stackTiles_link2 S K X s0_ s1_ f6_ s7_ (s_.1) s33_ i34_ (s_.2) h).mpr (hs X (s_.1) (s_.2) h hi fun s10_' i35_' h' hi' hm' => hx (s10_', i35_') h' hi' hm')) (s10_, i35_) h0
def impl_stackTiles_C0 (S : SatT) (K : AVal → H → Prop) (s0_ : Sl) (s1_ : Sl) (f6_ : AVal) (s7_ : Sl) (h : H) : Prop :=
 newS 0 4 [] h fun s0 h1 =>
 callS S i_impl_stacked [.sl s0_, .sl s1_] h1 fun s3 h2 =>
 impl_stackTiles_L2 S K s0_ s1_ f6_ s7_ s0 s3 (s3.len : Int) (0) h2
def impl_stackTiles_b0 (S : SatT) (K : AVal → H → Prop) (X0 : Frame → H → Prop) (s0_ : Sl) (s1_ : Sl) (f6_ : AVal) (s7_ : Sl) (s19_ : Sl) (i20_ : Int) (i21_ : Int) (h : H) : Prop :=
 bif (decide (i21_ < i20_)) then
 ixS s19_ 2 i21_ fun p0 =>
 ldA p0 2 h fun cs1 =>
 newO [.int .i64 (0), .int .i64 (0)] h fun p2 h3 =>
 stN p2 2 cs1 h3 fun h4 =>
 ldA p2 2 h4 fun cs5 =>
 keyA 2 cs5 (
 mput f6_ (.agg cs5) (.int .i64 i21_) h4 fun h6 =>
 X0 (impl_stackTiles_e0 s0_ s1_ f6_ s7_ s19_ i20_ (w64 (i21_ + (1)))) h6)
 else
 impl_stackTiles_C0 S K s0_ s1_ f6_ s7_ h
theorem impl_stackTiles_link0 (S : SatT) (K : AVal → H → Prop) (X0 : Frame → H → Prop) (s0_ : Sl) (s1_ : Sl) (f6_ : AVal) (s7_ : Sl) (s19_ : Sl) (i20_ : Int) (i21_ : Int) (h : H) : impl_stackTiles_w0 S K X0 (impl_stackTiles_e0 s0_ s1_ f6_ s7_ s19_ i20_ i21_) h = impl_stackTiles_b0 S K X0 s0_ s1_ f6_ s7_ s19_ i20_ i21_ h := by kernel_rfl
theorem impl_stackTiles_rule0 (S : SatT) (K : AVal → H → Prop) (s0_ : Sl) (s1_ : Sl) (f6_ : AVal) (s7_ : Sl) (s19_ : Sl) (i20_ : Int) (I_ : Int → H → Prop) (m_ : Int → H → Nat)
    (hs : ∀ (X0 : Frame → H → Prop) (i21_ : Int) (h : H), I_ i21_ h → (∀ (i21_' : Int) (h' : H), I_ i21_' h' → m_ i21_' h' < m_ i21_ h → X0 (impl_stackTiles_e0 s0_ s1_ f6_ s7_ s19_ i20_ i21_') h') → impl_stackTiles_b0 S K X0 s0_ s1_ f6_ s7_ s19_ i20_ i21_ h) (i21_ : Int) {h : H} (h0 : I_ i21_ h) : impl_stackTiles_L0 S K s0_ s1_ f6_ s7_ s19_ i20_ i21_ h :=
  loop_rule (σ := (Int)) (fun s_ => impl_stackTiles_e0 s0_ s1_ f6_ s7_ s19_ i20_ (s_)) (fun s_ h => I_ (s_) h) (fun s_ h => m_ (s_) h)
    (fun X s_ h hi hx => (impl_stackTiles_link0 S K X s0_ s1_ f6_ s7_ s19_ i20_ (s_) h).mpr (hs X (s_) h hi fun i21_' h' hi' hm' => hx (i21_') h' hi' hm')) (i21_) h0
def impl_stackTiles_main (S : SatT) (K : AVal → H → Prop) (x0 : Sl) (x1 : Sl) (h : H) : Prop :=
 newM h fun v0 h1 =>
 callS S i_impl_pairs [.sl x0, .sl x1] h1 fun s3 h2 =>
 impl_stackTiles_L0 S K x0 x1 v0 s3 s3 (s3.len : Int) (0) h2
theorem impl_stackTiles_main_link (S : SatT) (K : AVal → H → Prop) (x0 : Sl) (x1 : Sl) (h : H) : cwp S tab impl_stackTiles_M [] (bodyOf Tryz.f44) (kFun tab Tryz.f44.results.toList K) (fr0 Tryz.f44 [.sl x0, .sl x1]) h = impl_stackTiles_main S K x0 x1 h := by kernel_rfl
theorem impl_stackTiles_call (x0 : Sl) (x1 : Sl) (h : H) (K : AVal → H → Prop) (hm : impl_stackTiles_main (Sat Tryz.prog) (fun v h' => K v h') x0 x1 h) : callV (Sat Tryz.prog) i_impl_stackTiles [.sl x0, .sl x1] h K := by
  have := Sat.ex tok mixed impl_stackTiles_M Tryz.func44 (c := bodyOf Tryz.f44) (by kernel_rfl) (calls_of Tryz.func44 (c := bodyOf Tryz.f44) (by kernel_rfl) (by decide)) ((impl_stackTiles_main_link _ _ x0 x1 h).mpr hm)
  exact this

/-! ### loop.example/g01354/spec.l01Sort -/
def spec_l01Sort_M : Nat → List Nat := fun i => bif i == 2 then [0, 3, 4, 5] else bif i == 0 then [0, 3, 4] else []
def spec_l01Sort_ks2 (S : SatT) (K : AVal → H → Prop) : Kont := kSeq (cwp S tab spec_l01Sort_M [] (sub [1, 1, 1] (bodyOf Tryz.f100)) (kFun tab (Tryz.f100).results.toList K)) (kFun tab (Tryz.f100).results.toList K)
def spec_l01Sort_e0 (s0_ : Sl) (s3_ : Sl) (i4_ : Int) : Frame := [.sl s0_, U, U, .sl s3_, .int .i64 i4_, U, U, U, U, U, U, U, U, U, U, U, U, U, U, U, U, U, U, U, U, U, U, U, U, U, U, U, U, U, U, U, U, U, U, U, U, U, U, U, U, U, U, U, U, U, U, U, U, U, U, U, U, U, U, U, U, U, U]
def spec_l01Sort_w0 (S : SatT) (K : AVal → H → Prop) : (Frame → H → Prop) → Frame → H → Prop := fun X fr h => cwp S tab spec_l01Sort_M (spec_l01Sort_M 0) (sub [1, 1, 0, 1, 0, 0] (bodyOf Tryz.f100)) (kSeq (fun fr h => X (mask (spec_l01Sort_M 0) fr) h) (kBlk 0 (spec_l01Sort_ks2 S K))) fr h
def spec_l01Sort_L0 (S : SatT) (K : AVal → H → Prop) (s0_ : Sl) (s3_ : Sl) (i4_ : Int) (h : H) : Prop := loopK (spec_l01Sort_w0 S K) (spec_l01Sort_e0 s0_ s3_ i4_) h
def spec_l01Sort_ks6 (S : SatT) (K : AVal → H → Prop) (X0 : Frame → H → Prop) : Kont := kSeq (cwp S tab spec_l01Sort_M (spec_l01Sort_M 0) (sub [1, 1, 0, 1, 0, 0, 1, 1] (bodyOf Tryz.f100)) (kSeq (fun fr h => X0 (mask (spec_l01Sort_M 0) fr) h) (kBlk 0 (spec_l01Sort_ks2 S K)))) (kSeq (fun fr h => X0 (mask (spec_l01Sort_M 0) fr) h) (kBlk 0 (spec_l01Sort_ks2 S K)))
def spec_l01Sort_ks8 (S : SatT) (K : AVal → H → Prop) (X0 : Frame → H → Prop) : Kont := kSeq (cwp S tab spec_l01Sort_M (spec_l01Sort_M 1) (sub [1, 1, 0, 1, 0, 0, 1, 0, 0, 1, 1] (bodyOf Tryz.f100)) (kBlk 1 (spec_l01Sort_ks6 S K X0))) (kBlk 1 (spec_l01Sort_ks6 S K X0))
def spec_l01Sort_e2 (s0_ : Sl) (s3_ : Sl) (i4_ : Int) (i5_ : Int) : Frame := [.sl s0_, U, U, .sl s3_, .int .i64 i4_, .int .i64 i5_, U, U, U, U, U, U, U, U, U, U, U, U, U, U, U, U, U, U, U, U, U, U, U, U, U, U, U, U, U, U, U, U, U, U, U, U, U, U, U, U, U, U, U, U, U, U, U, U, U, U, U, U, U, U, U, U, U]
def spec_l01Sort_w2 (S : SatT) (K : AVal → H → Prop) (X0 : Frame → H → Prop) : (Frame → H → Prop) → Frame → H → Prop := fun X fr h => cwp S tab spec_l01Sort_M (spec_l01Sort_M 2) (sub [1, 1, 0, 1, 0, 0, 1, 0, 0, 1, 0, 0, 0] (bodyOf Tryz.f100)) (kSeq (fun fr h => X (mask (spec_l01Sort_M 2) fr) h) (kBlk 2 (spec_l01Sort_ks8 S K X0))) fr h
def spec_l01Sort_L2 (S : SatT) (K : AVal → H → Prop) (X0 : Frame → H → Prop) (s0_ : Sl) (s3_ : Sl) (i4_ : Int) (i5_ : Int) (h : H) : Prop := loopK (spec_l01Sort_w2 S K X0) (spec_l01Sort_e2 s0_ s3_ i4_ i5_) h
def spec_l01Sort_C1 (S : SatT) (K : AVal → H → Prop) (X0 : Frame → H → Prop) (s0_ : Sl) (s3_ : Sl) (i4_ : Int) (h : H) : Prop :=
 X0 (spec_l01Sort_e0 s0_ s3_ (w64 (i4_ + (1)))) h
def spec_l01Sort_C2 (S : SatT) (K : AVal → H → Prop) (X0 : Frame → H → Prop) (s0_ : Sl) (s3_ : Sl) (i4_ : Int) (i5_ : Int) (h : H) : Prop :=
 bif (decide (i5_ > (0))) then
 ixS s3_ 4 (w64 (i5_ - (1))) fun p0 =>
 ldA p0 4 h fun cs1 =>
 ixS s0_ 4 i4_ fun p2 =>
 ldA p2 4 h fun cs3 =>
 eqA .i64 4 cs1 cs3 fun b4 =>
 bif b4 then
 spec_l01Sort_C1 S K X0 s0_ s3_ i4_ h
 else
 ixS s0_ 4 i4_ fun p5 =>
 ldA p5 4 h fun cs6 =>
 lenA cs6 4 (
 newS 1 4 (spl [.int .i64 (0), .int .i64 (0), .int .i64 (0), .int .i64 (0)] 0 4 cs6) h fun s7 h8 =>
 cut s3_ 4 i5_ (s3_.len : Int) h8 fun s9 =>
 okS h s3_ ∧ (
 app s7 s9 4 h8 fun s10 h11 =>
 newS 0 4 [] h11 fun s12 h13 =>
 cut s3_ 4 (0) i5_ h13 fun s14 =>
 app s12 s14 4 h13 fun s15 h16 =>
 app s15 s10 4 h16 fun s17 h18 =>
 spec_l01Sort_C1 S K X0 s0_ s17 i4_ h18))
 else
 ixS s0_ 4 i4_ fun p19 =>
 ldA p19 4 h fun cs20 =>
 lenA cs20 4 (
 newS 1 4 (spl [.int .i64 (0), .int .i64 (0), .int .i64 (0), .int .i64 (0)] 0 4 cs20) h fun s21 h22 =>
 cut s3_ 4 i5_ (s3_.len : Int) h22 fun s23 =>
 okS h s3_ ∧ (
 app s21 s23 4 h22 fun s24 h25 =>
 newS 0 4 [] h25 fun s26 h27 =>
 cut s3_ 4 (0) i5_ h27 fun s28 =>
 app s26 s28 4 h27 fun s29 h30 =>
 app s29 s24 4 h30 fun s31 h32 =>
 spec_l01Sort_C1 S K X0 s0_ s31 i4_ h32))
def spec_l01Sort_b2 (S : SatT) (K : AVal → H → Prop) (X0 : Frame → H → Prop) (X2 : Frame → H → Prop) (s0_ : Sl) (s3_ : Sl) (i4_ : Int) (i5_ : Int) (h : H) : Prop :=
 bif (decide (i5_ > (0))) then
 ixS s0_ 4 i4_ fun p0 =>
 ldA p0 4 h fun cs1 =>
 ixS s3_ 4 (w64 (i5_ - (1))) fun p2 =>
 ldA p2 4 h fun cs3 =>
 callB S i_spec_l01Before [.agg cs1, .agg cs3] h fun b5 h4 =>
 bif b5 then
 X2 (spec_l01Sort_e2 s0_ s3_ i4_ (w64 (i5_ - (1)))) h4
 else
 spec_l01Sort_C2 S K X0 s0_ s3_ i4_ i5_ h4
 else
 spec_l01Sort_C2 S K X0 s0_ s3_ i4_ i5_ h
theorem spec_l01Sort_link2 (S : SatT) (K : AVal → H → Prop) (X0 : Frame → H → Prop) (X2 : Frame → H → Prop) (s0_ : Sl) (s3_ : Sl) (i4_ : Int) (i5_ : Int) (h : H) : spec_l01Sort_w2 S K X0 X2 (spec_l01Sort_e2 s0_ s3_ i4_ i5_) h = spec_l01Sort_b2 S K X0 X2 s0_ s3_ i4_ i5_ h := by kernel_rfl
theorem spec_l01Sort_rule2 (S : SatT) (K : AVal → H → Prop) (X0 : Frame → H → Prop) (s0_ : Sl) (s3_ : Sl) (i4_ : Int) (I_ : Int → H → Prop) (m_ : Int → H → Nat)
    (hs : ∀ (X2 : Frame → H → Prop) (i5_ : Int) (h : H), I_ i5_ h → (∀ (i5_' : Int) (h' : H), I_ i5_' h' → m_ i5_' h' < m_ i5_ h → X2 (spec_l01Sort_e2 s0_ s3_ i4_ i5_') h') → spec_l01Sort_b2 S K X0 X2 s0_ s3_ i4_ i5_ h) (i5_ : Int) {h : H} (h0 : I_ i5_ h) : spec_l01Sort_L2 S K X0 s0_ s3_ i4_ i5_ h :=
  loop_rule (σ := (Int)) (fun s_ => spec_l01Sort_e2 s0_ s3_ i4_ (s_)) (fun s_ h => I_ (s_) h) (fun s_ h => m_ (s_) h)
    (fun X s_ h hi hx => (spec_l01Sort_link2 S K X0 X s0_ s3_ i4_ (s_) h).mpr (hs X (s_) h hi fun i5_' h' hi' hm' => hx (i5_') h' hi' hm')) (i5_) h0
def spec_l01Sort_C0 (S : SatT) (K : AVal → H → Prop) (s3_ : Sl) (h : H) : Prop :=
 K (.sl s3_) h
def spec_l01Sort_b0 (S : SatT) (K : AVal → H → Prop) (X0 : Frame → H → Prop) (s0_ : Sl) (s3_ : Sl) (i4_ : Int) (h : H) : Prop :=
 bif (decide (i4_ < (s0_.len : Int))) then
 spec_l01Sort_L2 S K X0 s0_ s3_ i4_ (s3_.len : Int) h
 else
 spec_l01Sort_C0 S K s3_ h
theorem spec_l01Sort_link0 (S : SatT) (K : AVal → H → Prop) (X0 : Frame → H → Prop) (s0_ : Sl) (s3_ : Sl) (i4_ : Int) (h : H) : spec_l01Sort_w0 S K X0 (spec_l01Sort_e0 s0_ s3_ i4_) h = spec_l01Sort_b0 S K X0 s0_ s3_ i4_ h := by kernel_rfl
theorem spec_l01Sort_rule0 (S : SatT) (K : AVal → H → Prop) (s0_ : Sl) (I_ : Sl → Int → H → Prop) (m_ : Sl → Int → H → Nat)
    (hs : ∀ (X0 : Frame → H → Prop) (s3_ : Sl) (i4_ : Int) (h : H), I_ s3_ i4_ h → (∀ (s3_' : Sl) (i4_' : Int) (h' : H), I_ s3_' i4_' h' → m_ s3_' i4_' h' < m_ s3_ i4_ h → X0 (spec_l01Sort_e0 s0_ s3_' i4_') h') → spec_l01Sort_b0 S K X0 s0_ s3_ i4_ h) (s3_ : Sl) (i4_ : Int) {h : H} (h0 : I_ s3_ i4_ h) : spec_l01Sort_L0 S K s0_ s3_ i4_ h :=
  loop_rule (σ := (Sl) × (Int)) (fun s_ => spec_l01Sort_e0 s0_ (s_.1) (s_.2)) (fun s_ h => I_ (s_.1) (s_.2) h) (fun s_ h => m_ (s_.1) (s_.2) h)
    (fun X s_ h hi hx => (spec_l01Sort_link0 S K X s0_ (s_.1) (s_.2) h).mpr (hs X (s_.1) (s_.2) h hi fun s3_' i4_' h' hi' hm' => hx (s3_', i4_') h' hi' hm')) (s3_, i4_) h0
def spec_l01Sort_main (S : SatT) (K : AVal → H → Prop) (x0 : Sl) (h : H) : Prop :=
 newS 0 4 [] h fun s0 h1 =>
 spec_l01Sort_L0 S K x0 s0 (0) h1
theorem spec_l01Sort_main_link (S : SatT) (K : AVal → H → Prop) (x0 : Sl) (h : H) : cwp S tab spec_l01Sort_M [] (bodyOf Tryz.f100) (kFun tab Tryz.f100.results.toList K) (fr0 Tryz.f100 [.sl x0]) h = spec_l01Sort_main S K x0 h := by kernel_rfl
theorem spec_l01Sort_call (x0 : Sl) (h : H) (K : Sl → H → Prop) (hm : spec_l01Sort_main (Sat Tryz.prog) (fun v h' => ∃ r, v = .sl r ∧ K r h') x0 h) : callS (Sat Tryz.prog) i_spec_l01Sort [.sl x0] h K := by
  have := Sat.ex tok mixed spec_l01Sort_M Tryz.func100 (c := bodyOf Tryz.f100) (by kernel_rfl) (calls_of Tryz.func100 (c := bodyOf Tryz.f100) (by kernel_rfl) (by decide)) ((spec_l01Sort_main_link _ _ x0 h).mpr hm)
  obtain ⟨v, h2, h3, r, rfl, h4⟩ := this; exact ⟨r, h2, h3, h4⟩

/-! ### loop.example/g01354/impl.SplitRow -/
def impl_SplitRow_M : Nat → List Nat := fun i => bif i == 1 then [9, 11, 12, 13, 14, 54, 55, 56] else []
def impl_SplitRow_ks12 (S : SatT) (K : AVal → H → Prop) : Kont := kSeq (cwp S tab impl_SplitRow_M [] (sub [1, 1, 1, 1, 1, 1, 1] (bodyOf Tryz.f7)) (kFun tab (Tryz.f7).results.toList K)) (kFun tab (Tryz.f7).results.toList K)
def impl_SplitRow_e1 (p9_ : Pt) (s11_ : Sl) (s12_ : Sl) (s13_ : Sl) (s14_ : Sl) (s54_ : Sl) (i55_ : Int) (i56_ : Int) : Frame := [U, U, U, U, U, U, U, U, U, .ptr p9_, U, .sl s11_, .sl s12_, .sl s13_, .sl s14_, U, U, U, U, U, U, U, U, U, U, U, U, U, U, U, U, U, U, U, U, U, U, U, U, U, U, U, U, U, U, U, U, U, U, U, U, U, U, U, .sl s54_, .int .i64 i55_, .int .i64 i56_, U, U, U, U, U, U, U, U, U, U, U, U, U, U, U, U, U, U, U, U, U, U, U, U, U, U]
def impl_SplitRow_w1 (S : SatT) (K : AVal → H → Prop) : (Frame → H → Prop) → Frame → H → Prop := fun X fr h => cwp S tab impl_SplitRow_M (impl_SplitRow_M 1) (sub [1, 1, 1, 1, 1, 1, 0, 1, 0, 0] (bodyOf Tryz.f7)) (kSeq (fun fr h => X (mask (impl_SplitRow_M 1) fr) h) (kBlk 1 (impl_SplitRow_ks12 S K))) fr h
def impl_SplitRow_L1 (S : SatT) (K : AVal → H → Prop) (p9_ : Pt) (s11_ : Sl) (s12_ : Sl) (s13_ : Sl) (s14_ : Sl) (s54_ : Sl) (i55_ : Int) (i56_ : Int) (h : H) : Prop := loopK (impl_SplitRow_w1 S K) (impl_SplitRow_e1 p9_ s11_ s12_ s13_ s14_ s54_ i55_ i56_) h
def impl_SplitRow_C1 (S : SatT) (K : AVal → H → Prop) (s11_ : Sl) (s12_ : Sl) (h : H) : Prop :=
 K (.tuple [.sl s11_, .sl s12_, .int .i64 (0)]) h
def impl_SplitRow_b1 (S : SatT) (K : AVal → H → Prop) (X1 : Frame → H → Prop) (p9_ : Pt) (s11_ : Sl) (s12_ : Sl) (s13_ : Sl) (s14_ : Sl) (s54_ : Sl) (i55_ : Int) (i56_ : Int) (h : H) : Prop :=
 bif (decide (i56_ < i55_)) then
 ixS s54_ 1 i56_ fun p0 =>
 ldI .i64 p0 h fun n1 =>
 isPt p9_ (
 ldS (Pt.add p9_ 1) h fun s2 =>
 ixS s2 4 n1 fun p3 =>
 ldA p3 4 h fun cs4 =>
 callI S .i64 i_slices_Index_s_impl_Tile_impl_Tile_ [.sl s14_, .agg cs4] h fun n6 h5 =>
 ixS s13_ 2 n6 fun p7 =>
 ldA p7 2 h5 fun cs8 =>
 newO [.int .i64 (0), .int .i64 (0)] h5 fun p9 h10 =>
 stN p9 2 cs8 h10 fun h11 =>
 slotK 12 h11 fun h12 =>
 ixA p9 2 1 (0) fun p13 =>
 ldI .i64 p13 h12 fun n14 =>
 ixA p9 2 1 (1) fun p15 =>
 ldI .i64 p15 h12 fun n16 =>
 newSat 1 1 [.int .i64 n14] h12 (h11.length + 3) fun s17 h18 =>
(cell h18 p15 = cell h12 p15) ∧ (
 app s11_ s17 1 h18 fun s19 h20 =>
(cell h20 p15 = cell h12 p15) ∧ (
 newSat 1 1 [.int .i64 n16] h20 (h11.length + 8) fun s21 h22 =>
(cell h20 p13 = cell h12 p13) ∧ (
(cell h22 p13 = cell h12 p13) ∧ (
 app s12_ s21 1 h22 fun s23 h24 =>
 X1 (impl_SplitRow_e1 p9_ s19 s23 s13_ s14_ s54_ i55_ (w64 (i56_ + (1)))) h24)))))
 else
 impl_SplitRow_C1 S K s11_ s12_ h
theorem impl_SplitRow_link1 (S : SatT) (K : AVal → H → Prop) (X1 : Frame → H → Prop) (p9_ : Pt) (s11_ : Sl) (s12_ : Sl) (s13_ : Sl) (s14_ : Sl) (s54_ : Sl) (i55_ : Int) (i56_ : Int) (h : H) : impl_SplitRow_w1 S K X1 (impl_SplitRow_e1 p9_ s11_ s12_ s13_ s14_ s54_ i55_ i56_) h = impl_SplitRow_b1 S K X1 p9_ s11_ s12_ s13_ s14_ s54_ i55_ i56_ h := by kernel_rfl
theorem impl_SplitRow_rule1 (S : SatT) (K : AVal → H → Prop) (p9_ : Pt) (s13_ : Sl) (s14_ : Sl) (s54_ : Sl) (i55_ : Int) (I_ : Sl → Sl → Int → H → Prop) (m_ : Sl → Sl → Int → H → Nat)
    (hs : ∀ (X1 : Frame → H → Prop) (s11_ : Sl) (s12_ : Sl) (i56_ : Int) (h : H), I_ s11_ s12_ i56_ h → (∀ (s11_' : Sl) (s12_' : Sl) (i56_' : Int) (h' : H), I_ s11_' s12_' i56_' h' → m_ s11_' s12_' i56_' h' < m_ s11_ s12_ i56_ h → X1 (impl_SplitRow_e1 p9_ s11_' s12_' s13_ s14_ s54_ i55_ i56_') h') → impl_SplitRow_b1 S K X1 p9_ s11_ s12_ s13_ s14_ s54_ i55_ i56_ h) (s11_ : Sl) (s12_ : Sl) (i56_ : Int) {h : H} (h0 : I_ s11_ s12_ i56_ h) : impl_SplitRow_L1 S K p9_ s11_ s12_ s13_ s14_ s54_ i55_ i56_ h :=
  loop_rule (σ := (Sl) × (Sl) × (Int)) (fun s_ => impl_SplitRow_e1 p9_ (s_.1) (s_.2.1) s13_ s14_ s54_ i55_ (s_.2.2)) (fun s_ h => I_ (s_.1) (s_.2.1) (s_.2.2) h) (fun s_ h => m_ (s_.1) (s_.2.1) (s_.2.2) h)
    (fun X s_ h hi hx => (impl_SplitRow_link1 S K X p9_ (s_.1) (s_.2.1) s13_ s14_ s54_ i55_ (s_.2.2) h).mpr (hs X (s_.1) (s_.2.1) (s_.2.2) h hi fun s11_' s12_' i56_' h' hi' hm' => hx (s11_', s12_', i56_') h' hi' hm')) (s11_, s12_, i56_) h0
def impl_SplitRow_main (S : SatT) (K : AVal → H → Prop) (x0 : List AVal) (x1 : List AVal) (x2 : Sl) (h : H) : Prop :=
 newK 2 x0 h fun p0 h1 =>
 newK 2 x1 h1 fun p2 h3 =>
 ldA p0 2 h3 fun cs4 =>
 ldA p2 2 h3 fun cs5 =>
 lenA cs4 2 (
 lenA cs5 2 (
 newS 2 2 (spl (spl [.int .i64 (0), .sl Sl.nil, .int .i64 (0), .sl Sl.nil] 0 2 cs4) 2 2 cs5) h3 fun s6 h7 =>
 callB S i_impl_areSets [.sl s6] h7 fun b9 h8 =>
 bif (!b9) then
 K (.tuple [.sl Sl.nil, .sl Sl.nil, .int .i64 (1)]) h8
 else
 ldA p0 2 h8 fun cs10 =>
 ldA p2 2 h8 fun cs11 =>
 callV S i_impl_stack [.agg cs10, .agg cs11] h8 fun v13 h12 =>
 viaT v13 fun vs14 =>
 exA vs14 0 fun cs15 =>
 viaT v13 fun vs16 =>
 exI .i64 vs16 1 fun n17 =>
 newO [.int .i64 (0), .sl Sl.nil] h12 fun p18 h19 =>
 stN p18 2 cs15 h19 fun h20 =>
 bif (n17 != (0)) then
 K (.tuple [.sl Sl.nil, .sl Sl.nil, .int .i64 n17]) h20
 else
 ldA p18 2 h20 fun cs21 =>
 callB S i_impl_Set_isRow [.agg cs21, .sl x2] h20 fun b23 h22 =>
 bif (!b23) then
 K (.tuple [.sl Sl.nil, .sl Sl.nil, .int .i64 (2)]) h22
 else
 newS 0 1 [] h22 fun s24 h25 =>
 newS 0 1 [] h25 fun s26 h27 =>
 isPt p0 (
 ldS (Pt.add p0 1) h27 fun s28 =>
 isPt p2 (
 ldS (Pt.add p2 1) h27 fun s29 =>
 callS S i_impl_stacked [.sl s28, .sl s29] h27 fun s31 h30 =>
 isPt p0 (
 ldS (Pt.add p0 1) h30 fun s32 =>
 isPt p2 (
 ldS (Pt.add p2 1) h30 fun s33 =>
 callV S i_impl_stackTiles [.sl s32, .sl s33] h30 fun v35 h34 =>
 viaT v35 fun vs36 =>
 exS vs36 0 fun s37 =>
 viaT v35 fun vs38 =>
 exI .i64 vs38 1 fun n39 =>
 impl_SplitRow_L1 S K p18 s24 s26 s31 s37 x2 (x2.len : Int) (0) h34))))))
theorem impl_SplitRow_main_link (S : SatT) (K : AVal → H → Prop) (x0 : List AVal) (x1 : List AVal) (x2 : Sl) (h : H) : cwp S tab impl_SplitRow_M [] (bodyOf Tryz.f7) (kFun tab Tryz.f7.results.toList K) (fr0 Tryz.f7 [.agg x0, .agg x1, .sl x2]) h = impl_SplitRow_main S K x0 x1 x2 h := by kernel_rfl
theorem impl_SplitRow_call (x0 : List AVal) (x1 : List AVal) (x2 : Sl) (h : H) (K : AVal → H → Prop) (hm : impl_SplitRow_main (Sat Tryz.prog) (fun v h' => K v h') x0 x1 x2 h) : callV (Sat Tryz.prog) i_impl_SplitRow [.agg x0, .agg x1, .sl x2] h K := by
  have := Sat.ex tok mixed impl_SplitRow_M Tryz.func7 (c := bodyOf Tryz.f7) (by kernel_rfl) (calls_of Tryz.func7 (c := bodyOf Tryz.f7) (by kernel_rfl) (by decide)) ((impl_SplitRow_main_link _ _ x0 x1 x2 h).mpr hm)
  exact this

/-! ### loop.example/g01354/spec.l01Read -/
def spec_l01Read_M : Nat → List Nat := fun i => bif i == 0 then [2, 5, 6, 7] else []
def spec_l01Read_ks6 (S : SatT) (K : AVal → H → Prop) : Kont := kSeq (cwp S tab spec_l01Read_M [] (sub [1, 1, 1, 1, 1] (bodyOf Tryz.f144)) (kFun tab (Tryz.f144).results.toList K)) (kFun tab (Tryz.f144).results.toList K)
def spec_l01Read_e0 (p2_ : Pt) (p5_ : Pt) (s6_ : Sl) (i7_ : Int) : Frame := [U, U, .ptr p2_, U, U, .ptr p5_, .sl s6_, .int .i64 i7_, U, U, U, U, U, U, U, U, U, U, U, U, U, U, U, U, U, U, U, U, U, U, U, U, U, U, U, U, U, U, U, U, U, U, U, U, U, U, U, U, U, U, U, U, U, U, U, U, U, U, U, U, U, U, U, U, U, U, U, U, U, U]
def spec_l01Read_w0 (S : SatT) (K : AVal → H → Prop) : (Frame → H → Prop) → Frame → H → Prop := fun X fr h => cwp S tab spec_l01Read_M (spec_l01Read_M 0) (sub [1, 1, 1, 1, 0, 1, 0, 1, 1, 0, 0] (bodyOf Tryz.f144)) (kSeq (fun fr h => X (mask (spec_l01Read_M 0) fr) h) (kBlk 0 (spec_l01Read_ks6 S K))) fr h
def spec_l01Read_L0 (S : SatT) (K : AVal → H → Prop) (p2_ : Pt) (p5_ : Pt) (s6_ : Sl) (i7_ : Int) (h : H) : Prop := loopK (spec_l01Read_w0 S K) (spec_l01Read_e0 p2_ p5_ s6_ i7_) h
def spec_l01Read_C0 (S : SatT) (K : AVal → H → Prop) (p2_ : Pt) (p5_ : Pt) (h : H) : Prop :=
 ldA p5_ 2 h fun cs0 =>
 callB S i_spec_l01Is [.agg cs0] h fun b2 h1 =>
 bif (!b2) then
 stN p2_ 2 [.int .i64 (0), .sl Sl.nil] h1 fun h3 =>
 ldA p2_ 2 h3 fun cs4 =>
 K (.tuple [.agg cs4, .bool false]) h3
 else
 ldA p5_ 2 h1 fun cs5 =>
 stN p2_ 2 cs5 h1 fun h6 =>
 ldA p2_ 2 h6 fun cs7 =>
 K (.tuple [.agg cs7, .bool true]) h6
def spec_l01Read_b0 (S : SatT) (K : AVal → H → Prop) (X0 : Frame → H → Prop) (p2_ : Pt) (p5_ : Pt) (s6_ : Sl) (i7_ : Int) (h : H) : Prop :=
 bif (decide (i7_ < (s6_.len : Int))) then
 ixS s6_ 1 i7_ fun p0 =>
 ldV p0 h fun v1 =>
 viaStr v1 fun t2 =>
 bif ((t2.size : Int) != (4)) then
 stN p2_ 2 [.int .i64 (0), .sl Sl.nil] h fun h3 =>
 ldA p2_ 2 h3 fun cs4 =>
 K (.tuple [.agg cs4, .bool false]) h3
 else
 isPt p5_ (
 ldS (Pt.add p5_ 1) h fun s5 =>
 viaStr v1 fun t6 =>
 ixStr t6 (0) fun n7 =>
 viaStr v1 fun t8 =>
 ixStr t8 (1) fun n9 =>
 viaStr v1 fun t10 =>
 ixStr t10 (2) fun n11 =>
 viaStr v1 fun t12 =>
 ixStr t12 (3) fun n13 =>
 lenA [.int .i64 (w64 ((w64 (n7)) - (48))), .int .i64 (w64 ((w64 (n9)) - (48))), .int .i64 (w64 ((w64 (n11)) - (48))), .int .i64 (w64 ((w64 (n13)) - (48)))] 4 (
 newS 1 4 (spl [.int .i64 (0), .int .i64 (0), .int .i64 (0), .int .i64 (0)] 0 4 [.int .i64 (w64 ((w64 (n7)) - (48))), .int .i64 (w64 ((w64 (n9)) - (48))), .int .i64 (w64 ((w64 (n11)) - (48))), .int .i64 (w64 ((w64 (n13)) - (48)))]) h fun s14 h15 =>
(cell h15 (Pt.add p5_ 1) = cell h (Pt.add p5_ 1)) ∧ (
 app s5 s14 4 h15 fun s16 h17 =>
 isPt p5_ (
 st1 (Pt.add p5_ 1) (.sl s16) h17 fun h18 =>
 X0 (spec_l01Read_e0 p2_ p5_ s6_ (w64 (i7_ + (1)))) h18))))
 else
 spec_l01Read_C0 S K p2_ p5_ h
theorem spec_l01Read_link0 (S : SatT) (K : AVal → H → Prop) (X0 : Frame → H → Prop) (p2_ : Pt) (p5_ : Pt) (s6_ : Sl) (i7_ : Int) (h : H) : spec_l01Read_w0 S K X0 (spec_l01Read_e0 p2_ p5_ s6_ i7_) h = spec_l01Read_b0 S K X0 p2_ p5_ s6_ i7_ h := by kernel_rfl
theorem spec_l01Read_rule0 (S : SatT) (K : AVal → H → Prop) (p2_ : Pt) (p5_ : Pt) (s6_ : Sl) (I_ : Int → H → Prop) (m_ : Int → H → Nat)
    (hs : ∀ (X0 : Frame → H → Prop) (i7_ : Int) (h : H), I_ i7_ h → (∀ (i7_' : Int) (h' : H), I_ i7_' h' → m_ i7_' h' < m_ i7_ h → X0 (spec_l01Read_e0 p2_ p5_ s6_ i7_') h') → spec_l01Read_b0 S K X0 p2_ p5_ s6_ i7_ h) (i7_ : Int) {h : H} (h0 : I_ i7_ h) : spec_l01Read_L0 S K p2_ p5_ s6_ i7_ h :=
  loop_rule (σ := (Int)) (fun s_ => spec_l01Read_e0 p2_ p5_ s6_ (s_)) (fun s_ h => I_ (s_) h) (fun s_ h => m_ (s_) h)
    (fun X s_ h hi hx => (spec_l01Read_link0 S K X p2_ p5_ s6_ (s_) h).mpr (hs X (s_) h hi fun i7_' h' hi' hm' => hx (i7_') h' hi' hm')) (i7_) h0
def spec_l01Read_main (S : SatT) (K : AVal → H → Prop) (x0 : AVal) (h : H) : Prop :=
 newO [.int .i64 (0), .sl Sl.nil] h fun p0 h1 =>
 callS S i_spec_l01Split [x0, .int .u8 (58)] h1 fun s3 h2 =>
 bif ((s3.len : Int) != (2)) then
 stN p0 2 [.int .i64 (0), .sl Sl.nil] h2 fun h4 =>
 ldA p0 2 h4 fun cs5 =>
 K (.tuple [.agg cs5, .bool false]) h4
 else
 ixS s3 1 (0) fun p6 =>
 ldV p6 h2 fun v7 =>
 callI S .i64 i_spec_l01Number [v7] h2 fun n9 h8 =>
 newS 0 4 [] h8 fun s10 h11 =>
 newO [.int .i64 (0), .sl Sl.nil] h11 fun p12 h13 =>
 stN p12 2 [.int .i64 n9, .sl s10] h13 fun h14 =>
 ixS s3 1 (1) fun p15 =>
 ldV p15 h14 fun v16 =>
 strEq v16 (.str ByteArray.empty) fun b17 =>
 bif (!b17) then
 ixS s3 1 (1) fun p18 =>
 ldV p18 h14 fun v19 =>
 callS S i_spec_l01Split [v19, .int .u8 (44)] h14 fun s21 h20 =>
 spec_l01Read_L0 S K p0 p12 s21 (0) h20
 else
 ldA p12 2 h14 fun cs22 =>
 callB S i_spec_l01Is [.agg cs22] h14 fun b24 h23 =>
 bif (!b24) then
 stN p0 2 [.int .i64 (0), .sl Sl.nil] h23 fun h25 =>
 ldA p0 2 h25 fun cs26 =>
 K (.tuple [.agg cs26, .bool false]) h25
 else
 ldA p12 2 h23 fun cs27 =>
 stN p0 2 cs27 h23 fun h28 =>
 ldA p0 2 h28 fun cs29 =>
 K (.tuple [.agg cs29, .bool true]) h28
theorem spec_l01Read_main_link (S : SatT) (K : AVal → H → Prop) (x0 : AVal) (h : H) : cwp S tab spec_l01Read_M [] (bodyOf Tryz.f144) (kFun tab Tryz.f144.results.toList K) (fr0 Tryz.f144 [x0]) h = spec_l01Read_main S K x0 h := by kernel_rfl
theorem spec_l01Read_call (x0 : AVal) (h : H) (K : AVal → H → Prop) (hm : spec_l01Read_main (Sat Tryz.prog) (fun v h' => K v h') x0 h) : callV (Sat Tryz.prog) i_spec_l01Read [x0] h K := by
  have := Sat.ex tok mixed spec_l01Read_M Tryz.func144 (c := bodyOf Tryz.f144) (by kernel_rfl) (calls_of Tryz.func144 (c := bodyOf Tryz.f144) (by kernel_rfl) (by decide)) ((spec_l01Read_main_link _ _ x0 h).mpr hm)
  exact this

/-! ### loop.example/g01354/spec.l01Renamed -/
def spec_l01Renamed_M : Nat → List Nat := fun i => bif i == 0 then [1, 2, 4, 5, 6] else []
def spec_l01Renamed_ks2 (S : SatT) (K : AVal → H → Prop) : Kont := kSeq (cwp S tab spec_l01Renamed_M [] (sub [1, 1, 1] (bodyOf Tryz.f130)) (kFun tab (Tryz.f130).results.toList K)) (kFun tab (Tryz.f130).results.toList K)
def spec_l01Renamed_e0 (s1_ : Sl) (p2_ : Pt) (p4_ : Pt) (s5_ : Sl) (i6_ : Int) : Frame := [U, .sl s1_, .ptr p2_, U, .ptr p4_, .sl s5_, .int .i64 i6_, U, U, U, U, U, U, U, U, U, U, U, U, U, U, U, U, U, U, U, U, U, U, U, U, U, U, U, U, U, U, U, U, U, U, U, U, U, U, U, U, U, U]
def spec_l01Renamed_w0 (S : SatT) (K : AVal → H → Prop) : (Frame → H → Prop) → Frame → H → Prop := fun X fr h => cwp S tab spec_l01Renamed_M (spec_l01Renamed_M 0) (sub [1, 1, 0, 1, 0, 0] (bodyOf Tryz.f130)) (kSeq (fun fr h => X (mask (spec_l01Renamed_M 0) fr) h) (kBlk 0 (spec_l01Renamed_ks2 S K))) fr h
def spec_l01Renamed_L0 (S : SatT) (K : AVal → H → Prop) (s1_ : Sl) (p2_ : Pt) (p4_ : Pt) (s5_ : Sl) (i6_ : Int) (h : H) : Prop := loopK (spec_l01Renamed_w0 S K) (spec_l01Renamed_e0 s1_ p2_ p4_ s5_ i6_) h
def spec_l01Renamed_C0 (S : SatT) (K : AVal → H → Prop) (p2_ : Pt) (p4_ : Pt) (s5_ : Sl) (h : H) : Prop :=
 isPt p2_ (
 ldI .i64 (Pt.add p2_ 0) h fun n0 =>
 callA S i_spec_l01Made [.int .i64 n0, .sl s5_] h fun cs2 h1 =>
 stN p4_ 2 cs2 h1 fun h3 =>
 ldA p4_ 2 h3 fun cs4 =>
 K (.agg cs4) h3)
def spec_l01Renamed_b0 (S : SatT) (K : AVal → H → Prop) (X0 : Frame → H → Prop) (s1_ : Sl) (p2_ : Pt) (p4_ : Pt) (s5_ : Sl) (i6_ : Int) (h : H) : Prop :=
 isPt p2_ (
 ldS (Pt.add p2_ 1) h fun s0 =>
 bif (decide (i6_ < (s0.len : Int))) then
 isPt p2_ (
 ldS (Pt.add p2_ 1) h fun s1 =>
 ixS s1 4 i6_ fun p2 =>
 ldA p2 4 h fun cs3 =>
 newO [.int .i64 (0), .int .i64 (0), .int .i64 (0), .int .i64 (0)] h fun p4 h5 =>
 stN p4 4 cs3 h5 fun h6 =>
 ixA p4 4 1 (0) fun p7 =>
 ldI .i64 p7 h6 fun n8 =>
 ixS s1_ 1 n8 fun p9 =>
 ldI .i64 p9 h6 fun n10 =>
 ixA p4 4 1 (1) fun p11 =>
 ldI .i64 p11 h6 fun n12 =>
 ixS s1_ 1 n12 fun p13 =>
 ldI .i64 p13 h6 fun n14 =>
 ixA p4 4 1 (2) fun p15 =>
 ldI .i64 p15 h6 fun n16 =>
 ixS s1_ 1 n16 fun p17 =>
 ldI .i64 p17 h6 fun n18 =>
 ixA p4 4 1 (3) fun p19 =>
 ldI .i64 p19 h6 fun n20 =>
 ixS s1_ 1 n20 fun p21 =>
 ldI .i64 p21 h6 fun n22 =>
 lenA [.int .i64 n10, .int .i64 n14, .int .i64 n18, .int .i64 n22] 4 (
 newS 1 4 (spl [.int .i64 (0), .int .i64 (0), .int .i64 (0), .int .i64 (0)] 0 4 [.int .i64 n10, .int .i64 n14, .int .i64 n18, .int .i64 n22]) h6 fun s23 h24 =>
 app s5_ s23 4 h24 fun s25 h26 =>
 X0 (spec_l01Renamed_e0 s1_ p2_ p4_ s25 (w64 (i6_ + (1)))) h26))
 else
 spec_l01Renamed_C0 S K p2_ p4_ s5_ h)
theorem spec_l01Renamed_link0 (S : SatT) (K : AVal → H → Prop) (X0 : Frame → H → Prop) (s1_ : Sl) (p2_ : Pt) (p4_ : Pt) (s5_ : Sl) (i6_ : Int) (h : H) : spec_l01Renamed_w0 S K X0 (spec_l01Renamed_e0 s1_ p2_ p4_ s5_ i6_) h = spec_l01Renamed_b0 S K X0 s1_ p2_ p4_ s5_ i6_ h := by kernel_rfl
theorem spec_l01Renamed_rule0 (S : SatT) (K : AVal → H → Prop) (s1_ : Sl) (p2_ : Pt) (p4_ : Pt) (I_ : Sl → Int → H → Prop) (m_ : Sl → Int → H → Nat)
    (hs : ∀ (X0 : Frame → H → Prop) (s5_ : Sl) (i6_ : Int) (h : H), I_ s5_ i6_ h → (∀ (s5_' : Sl) (i6_' : Int) (h' : H), I_ s5_' i6_' h' → m_ s5_' i6_' h' < m_ s5_ i6_ h → X0 (spec_l01Renamed_e0 s1_ p2_ p4_ s5_' i6_') h') → spec_l01Renamed_b0 S K X0 s1_ p2_ p4_ s5_ i6_ h) (s5_ : Sl) (i6_ : Int) {h : H} (h0 : I_ s5_ i6_ h) : spec_l01Renamed_L0 S K s1_ p2_ p4_ s5_ i6_ h :=
  loop_rule (σ := (Sl) × (Int)) (fun s_ => spec_l01Renamed_e0 s1_ p2_ p4_ (s_.1) (s_.2)) (fun s_ h => I_ (s_.1) (s_.2) h) (fun s_ h => m_ (s_.1) (s_.2) h)
    (fun X s_ h hi hx => (spec_l01Renamed_link0 S K X s1_ p2_ p4_ (s_.1) (s_.2) h).mpr (hs X (s_.1) (s_.2) h hi fun s5_' i6_' h' hi' hm' => hx (s5_', i6_') h' hi' hm')) (s5_, i6_) h0
def spec_l01Renamed_main (S : SatT) (K : AVal → H → Prop) (x0 : List AVal) (x1 : Sl) (h : H) : Prop :=
 newK 2 x0 h fun p0 h1 =>
 newO [.int .i64 (0), .sl Sl.nil] h1 fun p2 h3 =>
 newS 0 4 [] h3 fun s4 h5 =>
 spec_l01Renamed_L0 S K x1 p0 p2 s4 (0) h5
theorem spec_l01Renamed_main_link (S : SatT) (K : AVal → H → Prop) (x0 : List AVal) (x1 : Sl) (h : H) : cwp S tab spec_l01Renamed_M [] (bodyOf Tryz.f130) (kFun tab Tryz.f130.results.toList K) (fr0 Tryz.f130 [.agg x0, .sl x1]) h = spec_l01Renamed_main S K x0 x1 h := by kernel_rfl
theorem spec_l01Renamed_call (x0 : List AVal) (x1 : Sl) (h : H) (K : List AVal → H → Prop) (hm : spec_l01Renamed_main (Sat Tryz.prog) (fun v h' => ∃ r, v = .agg r ∧ K r h') x0 x1 h) : callA (Sat Tryz.prog) i_spec_l01Renamed [.agg x0, .sl x1] h K := by
  have := Sat.ex tok mixed spec_l01Renamed_M Tryz.func130 (c := bodyOf Tryz.f130) (by kernel_rfl) (calls_of Tryz.func130 (c := bodyOf Tryz.f130) (by kernel_rfl) (by decide)) ((spec_l01Renamed_main_link _ _ x0 x1 h).mpr hm)
  obtain ⟨v, h2, h3, r, rfl, h4⟩ := this; exact ⟨r, h2, h3, h4⟩

/-! ### slices.IndexFunc[[]loop.example/g01354/impl.Set,loop.example/g01354/impl.Set] -/
def slices_IndexFunc_s_impl_Set_impl_Set__M : Nat → List Nat := fun i => bif i == 0 then [0, 1, 7, 8] else []
def slices_IndexFunc_s_impl_Set_impl_Set__ks1 (S : SatT) (K : AVal → H → Prop) : Kont := kSeq (cwp S tab slices_IndexFunc_s_impl_Set_impl_Set__M [] (sub [1, 1] (bodyOf Tryz.f133)) (kFun tab (Tryz.f133).results.toList K)) (kFun tab (Tryz.f133).results.toList K)
def slices_IndexFunc_s_impl_Set_impl_Set__e0 (s0_ : Sl) (f1_ : AVal) (i7_ : Int) (i8_ : Int) : Frame := [.sl s0_, f1_, U, U, U, U, U, .int .i64 i7_, .int .i64 i8_, U, U, U, U, U, U, U, U, U, U]
def slices_IndexFunc_s_impl_Set_impl_Set__w0 (S : SatT) (K : AVal → H → Prop) : (Frame → H → Prop) → Frame → H → Prop := fun X fr h => cwp S tab slices_IndexFunc_s_impl_Set_impl_Set__M (slices_IndexFunc_s_impl_Set_impl_Set__M 0) (sub [1, 0, 1, 0, 0] (bodyOf Tryz.f133)) (kSeq (fun fr h => X (mask (slices_IndexFunc_s_impl_Set_impl_Set__M 0) fr) h) (kBlk 0 (slices_IndexFunc_s_impl_Set_impl_Set__ks1 S K))) fr h
def slices_IndexFunc_s_impl_Set_impl_Set__L0 (S : SatT) (K : AVal → H → Prop) (s0_ : Sl) (f1_ : AVal) (i7_ : Int) (i8_ : Int) (h : H) : Prop := loopK (slices_IndexFunc_s_impl_Set_impl_Set__w0 S K) (slices_IndexFunc_s_impl_Set_impl_Set__e0 s0_ f1_ i7_ i8_) h
def slices_IndexFunc_s_impl_Set_impl_Set__C0 (S : SatT) (K : AVal → H → Prop) (h : H) : Prop :=
 K (.int .i64 (-1)) h
def slices_IndexFunc_s_impl_Set_impl_Set__b0 (S : SatT) (K : AVal → H → Prop) (X0 : Frame → H → Prop) (s0_ : Sl) (f1_ : AVal) (i7_ : Int) (i8_ : Int) (h : H) : Prop :=
 bif (decide (i8_ < i7_)) then
 ixS s0_ 2 i8_ fun p0 =>
 ldA p0 2 h fun cs1 =>
 viaF f1_ [.agg cs1] fun g2 ys3 =>
 callB S g2 ys3 h fun b5 h4 =>
 bif b5 then
 K (.int .i64 i8_) h4
 else
 X0 (slices_IndexFunc_s_impl_Set_impl_Set__e0 s0_ f1_ i7_ (w64 (i8_ + (1)))) h4
 else
 slices_IndexFunc_s_impl_Set_impl_Set__C0 S K h
theorem slices_IndexFunc_s_impl_Set_impl_Set__link0 (S : SatT) (K : AVal → H → Prop) (X0 : Frame → H → Prop) (s0_ : Sl) (f1_ : AVal) (i7_ : Int) (i8_ : Int) (h : H) : slices_IndexFunc_s_impl_Set_impl_Set__w0 S K X0 (slices_IndexFunc_s_impl_Set_impl_Set__e0 s0_ f1_ i7_ i8_) h = slices_IndexFunc_s_impl_Set_impl_Set__b0 S K X0 s0_ f1_ i7_ i8_ h := by kernel_rfl
theorem slices_IndexFunc_s_impl_Set_impl_Set__rule0 (S : SatT) (K : AVal → H → Prop) (s0_ : Sl) (f1_ : AVal) (i7_ : Int) (I_ : Int → H → Prop) (m_ : Int → H → Nat)
    (hs : ∀ (X0 : Frame → H → Prop) (i8_ : Int) (h : H), I_ i8_ h → (∀ (i8_' : Int) (h' : H), I_ i8_' h' → m_ i8_' h' < m_ i8_ h → X0 (slices_IndexFunc_s_impl_Set_impl_Set__e0 s0_ f1_ i7_ i8_') h') → slices_IndexFunc_s_impl_Set_impl_Set__b0 S K X0 s0_ f1_ i7_ i8_ h) (i8_ : Int) {h : H} (h0 : I_ i8_ h) : slices_IndexFunc_s_impl_Set_impl_Set__L0 S K s0_ f1_ i7_ i8_ h :=
  loop_rule (σ := (Int)) (fun s_ => slices_IndexFunc_s_impl_Set_impl_Set__e0 s0_ f1_ i7_ (s_)) (fun s_ h => I_ (s_) h) (fun s_ h => m_ (s_) h)
    (fun X s_ h hi hx => (slices_IndexFunc_s_impl_Set_impl_Set__link0 S K X s0_ f1_ i7_ (s_) h).mpr (hs X (s_) h hi fun i8_' h' hi' hm' => hx (i8_') h' hi' hm')) (i8_) h0
def slices_IndexFunc_s_impl_Set_impl_Set__main (S : SatT) (K : AVal → H → Prop) (x0 : Sl) (x1 : AVal) (h : H) : Prop :=
 slices_IndexFunc_s_impl_Set_impl_Set__L0 S K x0 x1 (x0.len : Int) (0) h
theorem slices_IndexFunc_s_impl_Set_impl_Set__main_link (S : SatT) (K : AVal → H → Prop) (x0 : Sl) (x1 : AVal) (h : H) : cwp S tab slices_IndexFunc_s_impl_Set_impl_Set__M [] (bodyOf Tryz.f133) (kFun tab Tryz.f133.results.toList K) (fr0 Tryz.f133 [.sl x0, x1]) h = slices_IndexFunc_s_impl_Set_impl_Set__main S K x0 x1 h := by kernel_rfl
theorem slices_IndexFunc_s_impl_Set_impl_Set__call (x0 : Sl) (x1 : AVal) (h : H) (K : Int → H → Prop) (hm : slices_IndexFunc_s_impl_Set_impl_Set__main (Sat Tryz.prog) (fun v h' => ∃ r, v = .int .i64 r ∧ K r h') x0 x1 h) : callI (Sat Tryz.prog) .i64 i_slices_IndexFunc_s_impl_Set_impl_Set_ [.sl x0, x1] h K := by
  have := Sat.ex tok mixed slices_IndexFunc_s_impl_Set_impl_Set__M Tryz.func133 (c := bodyOf Tryz.f133) (by kernel_rfl) (calls_of Tryz.func133 (c := bodyOf Tryz.f133) (by kernel_rfl) (by decide)) ((slices_IndexFunc_s_impl_Set_impl_Set__main_link _ _ x0 x1 h).mpr hm)
  obtain ⟨v, h2, h3, r, rfl, h4⟩ := this; exact ⟨r, h2, h3, h4⟩

/-! ### loop.example/g01354/spec.PairsOfStack -/
def spec_PairsOfStack_M : Nat → List Nat := fun i => bif i == 0 then [6, 7, 8] else []
def spec_PairsOfStack_ks6 (S : SatT) (K : AVal → H → Prop) : Kont := kSeq (cwp S tab spec_PairsOfStack_M [] (sub [1, 1, 1, 1] (bodyOf Tryz.f15)) (kFun tab (Tryz.f15).results.toList K)) (kFun tab (Tryz.f15).results.toList K)
def spec_PairsOfStack_e0 (s6_ : Sl) (s7_ : Sl) (i8_ : Int) : Frame := [U, U, U, U, U, U, .sl s6_, .sl s7_, .int .i64 i8_, U, U, U, U, U, U, U, U, U, U, U, U, U, U, U, U, U, U, U, U, U, U, U, U, U, U, U, U, U, U, U, U, U]
def spec_PairsOfStack_w0 (S : SatT) (K : AVal → H → Prop) : (Frame → H → Prop) → Frame → H → Prop := fun X fr h => cwp S tab spec_PairsOfStack_M (spec_PairsOfStack_M 0) (sub [1, 1, 1, 0, 1, 0, 0] (bodyOf Tryz.f15)) (kSeq (fun fr h => X (mask (spec_PairsOfStack_M 0) fr) h) (kBlk 0 (spec_PairsOfStack_ks6 S K))) fr h
def spec_PairsOfStack_L0 (S : SatT) (K : AVal → H → Prop) (s6_ : Sl) (s7_ : Sl) (i8_ : Int) (h : H) : Prop := loopK (spec_PairsOfStack_w0 S K) (spec_PairsOfStack_e0 s6_ s7_ i8_) h
def spec_PairsOfStack_C0 (S : SatT) (K : AVal → H → Prop) (s7_ : Sl) (h : H) : Prop :=
 K (.tuple [.sl s7_, .int .i64 (0)]) h
def spec_PairsOfStack_b0 (S : SatT) (K : AVal → H → Prop) (X0 : Frame → H → Prop) (s6_ : Sl) (s7_ : Sl) (i8_ : Int) (h : H) : Prop :=
 bif (decide (i8_ < (s6_.len : Int))) then
 ixS s6_ 1 i8_ fun p0 =>
 ldI .i64 p0 h fun n1 =>
 nz (16) (
 ixS s6_ 1 i8_ fun p2 =>
 ldI .i64 p2 h fun n3 =>
 nz (16) (
 newS 2 1 [.int .i64 (w64 (Int.tdiv n1 (16))), .int .i64 (Int.tmod n3 (16))] h fun s4 h5 =>
 newS 1 1 [.sl s4] h5 fun s6 h7 =>
 app s7_ s6 1 h7 fun s8 h9 =>
 X0 (spec_PairsOfStack_e0 s6_ s8 (w64 (i8_ + (1)))) h9))
 else
 spec_PairsOfStack_C0 S K s7_ h
theorem spec_PairsOfStack_link0 (S : SatT) (K : AVal → H → Prop) (X0 : Frame → H → Prop) (s6_ : Sl) (s7_ : Sl) (i8_ : Int) (h : H) : spec_PairsOfStack_w0 S K X0 (spec_PairsOfStack_e0 s6_ s7_ i8_) h = spec_PairsOfStack_b0 S K X0 s6_ s7_ i8_ h := by kernel_rfl
theorem spec_PairsOfStack_rule0 (S : SatT) (K : AVal → H → Prop) (s6_ : Sl) (I_ : Sl → Int → H → Prop) (m_ : Sl → Int → H → Nat)
    (hs : ∀ (X0 : Frame → H → Prop) (s7_ : Sl) (i8_ : Int) (h : H), I_ s7_ i8_ h → (∀ (s7_' : Sl) (i8_' : Int) (h' : H), I_ s7_' i8_' h' → m_ s7_' i8_' h' < m_ s7_ i8_ h → X0 (spec_PairsOfStack_e0 s6_ s7_' i8_') h') → spec_PairsOfStack_b0 S K X0 s6_ s7_ i8_ h) (s7_ : Sl) (i8_ : Int) {h : H} (h0 : I_ s7_ i8_ h) : spec_PairsOfStack_L0 S K s6_ s7_ i8_ h :=
  loop_rule (σ := (Sl) × (Int)) (fun s_ => spec_PairsOfStack_e0 s6_ (s_.1) (s_.2)) (fun s_ h => I_ (s_.1) (s_.2) h) (fun s_ h => m_ (s_.1) (s_.2) h)
    (fun X s_ h hi hx => (spec_PairsOfStack_link0 S K X s6_ (s_.1) (s_.2) h).mpr (hs X (s_.1) (s_.2) h hi fun s7_' i8_' h' hi' hm' => hx (s7_', i8_') h' hi' hm')) (s7_, i8_) h0
def spec_PairsOfStack_main (S : SatT) (K : AVal → H → Prop) (x0 : List AVal) (x1 : List AVal) (h : H) : Prop :=
 newK 2 x0 h fun p0 h1 =>
 newK 2 x1 h1 fun p2 h3 =>
 ldA p0 2 h3 fun cs4 =>
 callB S i_spec_l01Is [.agg cs4] h3 fun b6 h5 =>
 bif (!b6) then
 K (.tuple [.sl Sl.nil, .int .i64 (1)]) h5
 else
 ldA p2 2 h5 fun cs7 =>
 callB S i_spec_l01Is [.agg cs7] h5 fun b9 h8 =>
 bif (!b9) then
 K (.tuple [.sl Sl.nil, .int .i64 (1)]) h8
 else
 ldA p0 2 h8 fun cs10 =>
 ldA p2 2 h8 fun cs11 =>
 callS S i_spec_l04Pairs [.agg cs10, .agg cs11] h8 fun s13 h12 =>
 newS 0 1 [] h12 fun s14 h15 =>
 spec_PairsOfStack_L0 S K s13 s14 (0) h15
theorem spec_PairsOfStack_main_link (S : SatT) (K : AVal → H → Prop) (x0 : List AVal) (x1 : List AVal) (h : H) : cwp S tab spec_PairsOfStack_M [] (bodyOf Tryz.f15) (kFun tab Tryz.f15.results.toList K) (fr0 Tryz.f15 [.agg x0, .agg x1]) h = spec_PairsOfStack_main S K x0 x1 h := by kernel_rfl
theorem spec_PairsOfStack_call (x0 : List AVal) (x1 : List AVal) (h : H) (K : AVal → H → Prop) (hm : spec_PairsOfStack_main (Sat Tryz.prog) (fun v h' => K v h') x0 x1 h) : callV (Sat Tryz.prog) i_spec_PairsOfStack [.agg x0, .agg x1] h K := by
  have := Sat.ex tok mixed spec_PairsOfStack_M Tryz.func15 (c := bodyOf Tryz.f15) (by kernel_rfl) (calls_of Tryz.func15 (c := bodyOf Tryz.f15) (by kernel_rfl) (by decide)) ((spec_PairsOfStack_main_link _ _ x0 x1 h).mpr hm)
  exact this

/-! ### loop.example/g01354/spec.l01Number -/
def spec_l01Number_M : Nat → List Nat := fun i => bif i == 0 then [0, 3, 4] else []
def spec_l01Number_ks7 (S : SatT) (K : AVal → H → Prop) : Kont := kSeq (cwp S tab spec_l01Number_M [] (sub [1, 1, 1, 1] (bodyOf Tryz.f160)) (kFun tab (Tryz.f160).results.toList K)) (kFun tab (Tryz.f160).results.toList K)
def spec_l01Number_e0 (f0_ : AVal) (i3_ : Int) (i4_ : Int) : Frame := [f0_, U, U, .int .i64 i3_, .int .i64 i4_, U, U, U, U, U, U, U, U, U, U, U, U, U, U, U, U, U, U, U, U, U, U, U, U, U, U, U, U, U, U, U, U, U, U, U, U, U, U, U, U, U, U, U]
def spec_l01Number_w0 (S : SatT) (K : AVal → H → Prop) : (Frame → H → Prop) → Frame → H → Prop := fun X fr h => cwp S tab spec_l01Number_M (spec_l01Number_M 0) (sub [1, 1, 1, 0, 1, 0, 0] (bodyOf Tryz.f160)) (kSeq (fun fr h => X (mask (spec_l01Number_M 0) fr) h) (kBlk 0 (spec_l01Number_ks7 S K))) fr h
def spec_l01Number_L0 (S : SatT) (K : AVal → H → Prop) (f0_ : AVal) (i3_ : Int) (i4_ : Int) (h : H) : Prop := loopK (spec_l01Number_w0 S K) (spec_l01Number_e0 f0_ i3_ i4_) h
def spec_l01Number_C0 (S : SatT) (K : AVal → H → Prop) (i3_ : Int) (h : H) : Prop :=
 K (.int .i64 i3_) h
def spec_l01Number_b0 (S : SatT) (K : AVal → H → Prop) (X0 : Frame → H → Prop) (f0_ : AVal) (i3_ : Int) (i4_ : Int) (h : H) : Prop :=
 viaStr f0_ fun t0 =>
 bif (decide (i4_ < (t0.size : Int))) then
 viaStr f0_ fun t1 =>
 ixStr t1 i4_ fun n2 =>
 bif (decide (n2 < (48))) then
 K (.int .i64 (-1)) h
 else
 viaStr f0_ fun t3 =>
 ixStr t3 i4_ fun n4 =>
 bif (decide (n4 > (57))) then
 K (.int .i64 (-1)) h
 else
 viaStr f0_ fun t5 =>
 ixStr t5 i4_ fun n6 =>
 X0 (spec_l01Number_e0 f0_ (w64 ((w64 (i3_ * (10))) + (w64 ((IntKind.wrap .u8 (n6 - (48))))))) (w64 (i4_ + (1)))) h
 else
 spec_l01Number_C0 S K i3_ h
theorem spec_l01Number_link0 (S : SatT) (K : AVal → H → Prop) (X0 : Frame → H → Prop) (f0_ : AVal) (i3_ : Int) (i4_ : Int) (h : H) : spec_l01Number_w0 S K X0 (spec_l01Number_e0 f0_ i3_ i4_) h = spec_l01Number_b0 S K X0 f0_ i3_ i4_ h := by kernel_rfl
theorem spec_l01Number_rule0 (S : SatT) (K : AVal → H → Prop) (f0_ : AVal) (I_ : Int → Int → H → Prop) (m_ : Int → Int → H → Nat)
    (hs : ∀ (X0 : Frame → H → Prop) (i3_ : Int) (i4_ : Int) (h : H), I_ i3_ i4_ h → (∀ (i3_' : Int) (i4_' : Int) (h' : H), I_ i3_' i4_' h' → m_ i3_' i4_' h' < m_ i3_ i4_ h → X0 (spec_l01Number_e0 f0_ i3_' i4_') h') → spec_l01Number_b0 S K X0 f0_ i3_ i4_ h) (i3_ : Int) (i4_ : Int) {h : H} (h0 : I_ i3_ i4_ h) : spec_l01Number_L0 S K f0_ i3_ i4_ h :=
  loop_rule (σ := (Int) × (Int)) (fun s_ => spec_l01Number_e0 f0_ (s_.1) (s_.2)) (fun s_ h => I_ (s_.1) (s_.2) h) (fun s_ h => m_ (s_.1) (s_.2) h)
    (fun X s_ h hi hx => (spec_l01Number_link0 S K X f0_ (s_.1) (s_.2) h).mpr (hs X (s_.1) (s_.2) h hi fun i3_' i4_' h' hi' hm' => hx (i3_', i4_') h' hi' hm')) (i3_, i4_) h0
def spec_l01Number_main (S : SatT) (K : AVal → H → Prop) (x0 : AVal) (h : H) : Prop :=
 viaStr x0 fun t0 =>
 bif ((t0.size : Int) == (0)) then
 K (.int .i64 (-1)) h
 else
 viaStr x0 fun t1 =>
 bif (decide ((t1.size : Int) > (9))) then
 K (.int .i64 (-1)) h
 else
 viaStr x0 fun t2 =>
 bif (decide ((t2.size : Int) > (1))) then
 viaStr x0 fun t3 =>
 ixStr t3 (0) fun n4 =>
 bif (n4 == (48)) then
 K (.int .i64 (-1)) h
 else
 spec_l01Number_L0 S K x0 (0) (0) h
 else
 spec_l01Number_L0 S K x0 (0) (0) h
theorem spec_l01Number_main_link (S : SatT) (K : AVal → H → Prop) (x0 : AVal) (h : H) : cwp S tab spec_l01Number_M [] (bodyOf Tryz.f160) (kFun tab Tryz.f160.results.toList K) (fr0 Tryz.f160 [x0]) h = spec_l01Number_main S K x0 h := by kernel_rfl
theorem spec_l01Number_call (x0 : AVal) (h : H) (K : Int → H → Prop) (hm : spec_l01Number_main (Sat Tryz.prog) (fun v h' => ∃ r, v = .int .i64 r ∧ K r h') x0 h) : callI (Sat Tryz.prog) .i64 i_spec_l01Number [x0] h K := by
  have := Sat.ex tok mixed spec_l01Number_M Tryz.func160 (c := bodyOf Tryz.f160) (by kernel_rfl) (calls_of Tryz.func160 (c := bodyOf Tryz.f160) (by kernel_rfl) (by decide)) ((spec_l01Number_main_link _ _ x0 h).mpr hm)
  obtain ⟨v, h2, h3, r, rfl, h4⟩ := this; exact ⟨r, h2, h3, h4⟩

/-! ### loop.example/g01354/spec.l02Row -/
def spec_l02Row_M : Nat → List Nat := fun i => bif i == 0 then [1, 2, 5] else []
def spec_l02Row_ks5 (S : SatT) (K : AVal → H → Prop) : Kont := kSeq (cwp S tab spec_l02Row_M [] (sub [1, 1, 1] (bodyOf Tryz.f46)) (kFun tab (Tryz.f46).results.toList K)) (kFun tab (Tryz.f46).results.toList K)
def spec_l02Row_e0 (s1_ : Sl) (p2_ : Pt) (i5_ : Int) : Frame := [U, .sl s1_, .ptr p2_, U, U, .int .i64 i5_, U, U, U, U, U, U, U, U, U, U, U, U, U, U, U, U, U, U, U, U, U, U, U, U, U, U, U, U, U, U, U, U, U, U, U, U, U, U, U, U, U, U, U, U, U, U, U, U]
def spec_l02Row_w0 (S : SatT) (K : AVal → H → Prop) : (Frame → H → Prop) → Frame → H → Prop := fun X fr h => cwp S tab spec_l02Row_M (spec_l02Row_M 0) (sub [1, 1, 0, 1, 0, 0] (bodyOf Tryz.f46)) (kSeq (fun fr h => X (mask (spec_l02Row_M 0) fr) h) (kBlk 0 (spec_l02Row_ks5 S K))) fr h
def spec_l02Row_L0 (S : SatT) (K : AVal → H → Prop) (s1_ : Sl) (p2_ : Pt) (i5_ : Int) (h : H) : Prop := loopK (spec_l02Row_w0 S K) (spec_l02Row_e0 s1_ p2_ i5_) h
def spec_l02Row_C0 (S : SatT) (K : AVal → H → Prop) (h : H) : Prop :=
 K (.bool true) h
def spec_l02Row_b0 (S : SatT) (K : AVal → H → Prop) (X0 : Frame → H → Prop) (s1_ : Sl) (p2_ : Pt) (i5_ : Int) (h : H) : Prop :=
 bif (decide (i5_ < (s1_.len : Int))) then
 ixS s1_ 1 i5_ fun p0 =>
 ldI .i64 p0 h fun n1 =>
 isPt p2_ (
 ldS (Pt.add p2_ 1) h fun s2 =>
 callB S i_spec_l01In [.int .i64 n1, .int .i64 (0), .int .i64 (w64 ((s2.len : Int) - (1)))] h fun b4 h3 =>
 bif (!b4) then
 K (.bool false) h3
 else
 bif (decide (i5_ > (0))) then
 isPt p2_ (
 ldS (Pt.add p2_ 1) h3 fun s5 =>
 ixS s1_ 1 (w64 (i5_ - (1))) fun p6 =>
 ldI .i64 p6 h3 fun n7 =>
 ixS s5 4 n7 fun p8 =>
 ixA p8 4 1 (2) fun p9 =>
 ldI .i64 p9 h3 fun n10 =>
 isPt p2_ (
 ldS (Pt.add p2_ 1) h3 fun s11 =>
 ixS s1_ 1 i5_ fun p12 =>
 ldI .i64 p12 h3 fun n13 =>
 ixS s11 4 n13 fun p14 =>
 ixA p14 4 1 (0) fun p15 =>
 ldI .i64 p15 h3 fun n16 =>
 bif (n10 != n16) then
 K (.bool false) h3
 else
 X0 (spec_l02Row_e0 s1_ p2_ (w64 (i5_ + (1)))) h3))
 else
 X0 (spec_l02Row_e0 s1_ p2_ (w64 (i5_ + (1)))) h3)
 else
 spec_l02Row_C0 S K h
theorem spec_l02Row_link0 (S : SatT) (K : AVal → H → Prop) (X0 : Frame → H → Prop) (s1_ : Sl) (p2_ : Pt) (i5_ : Int) (h : H) : spec_l02Row_w0 S K X0 (spec_l02Row_e0 s1_ p2_ i5_) h = spec_l02Row_b0 S K X0 s1_ p2_ i5_ h := by kernel_rfl
theorem spec_l02Row_rule0 (S : SatT) (K : AVal → H → Prop) (s1_ : Sl) (p2_ : Pt) (I_ : Int → H → Prop) (m_ : Int → H → Nat)
    (hs : ∀ (X0 : Frame → H → Prop) (i5_ : Int) (h : H), I_ i5_ h → (∀ (i5_' : Int) (h' : H), I_ i5_' h' → m_ i5_' h' < m_ i5_ h → X0 (spec_l02Row_e0 s1_ p2_ i5_') h') → spec_l02Row_b0 S K X0 s1_ p2_ i5_ h) (i5_ : Int) {h : H} (h0 : I_ i5_ h) : spec_l02Row_L0 S K s1_ p2_ i5_ h :=
  loop_rule (σ := (Int)) (fun s_ => spec_l02Row_e0 s1_ p2_ (s_)) (fun s_ h => I_ (s_) h) (fun s_ h => m_ (s_) h)
    (fun X s_ h hi hx => (spec_l02Row_link0 S K X s1_ p2_ (s_) h).mpr (hs X (s_) h hi fun i5_' h' hi' hm' => hx (i5_') h' hi' hm')) (i5_) h0
def spec_l02Row_main (S : SatT) (K : AVal → H → Prop) (x0 : List AVal) (x1 : Sl) (h : H) : Prop :=
 newK 2 x0 h fun p0 h1 =>
 bif (decide ((x1.len : Int) < (1))) then
 K (.bool false) h1
 else
 bif (decide ((x1.len : Int) > (20))) then
 K (.bool false) h1
 else
 spec_l02Row_L0 S K x1 p0 (0) h1
theorem spec_l02Row_main_link (S : SatT) (K : AVal → H → Prop) (x0 : List AVal) (x1 : Sl) (h : H) : cwp S tab spec_l02Row_M [] (bodyOf Tryz.f46) (kFun tab Tryz.f46.results.toList K) (fr0 Tryz.f46 [.agg x0, .sl x1]) h = spec_l02Row_main S K x0 x1 h := by kernel_rfl
theorem spec_l02Row_call (x0 : List AVal) (x1 : Sl) (h : H) (K : Bool → H → Prop) (hm : spec_l02Row_main (Sat Tryz.prog) (fun v h' => ∃ r, v = .bool r ∧ K r h') x0 x1 h) : callB (Sat Tryz.prog) i_spec_l02Row [.agg x0, .sl x1] h K := by
  have := Sat.ex tok mixed spec_l02Row_M Tryz.func46 (c := bodyOf Tryz.f46) (by kernel_rfl) (calls_of Tryz.func46 (c := bodyOf Tryz.f46) (by kernel_rfl) (by decide)) ((spec_l02Row_main_link _ _ x0 x1 h).mpr hm)
  obtain ⟨v, h2, h3, r, rfl, h4⟩ := this; exact ⟨r, h2, h3, h4⟩

/-! ### loop.example/g01354/spec.l04Find -/
def spec_l04Find_M : Nat → List Nat := fun i => bif i == 0 then [0, 1, 5, 6] else []
def spec_l04Find_ks2 (S : SatT) (K : AVal → H → Prop) : Kont := kSeq (cwp S tab spec_l04Find_M [] (sub [1, 1, 1] (bodyOf Tryz.f97)) (kFun tab (Tryz.f97).results.toList K)) (kFun tab (Tryz.f97).results.toList K)
def spec_l04Find_e0 (s0_ : Sl) (i1_ : Int) (i5_ : Int) (i6_ : Int) : Frame := [.sl s0_, .int .i64 i1_, U, U, U, .int .i64 i5_, .int .i64 i6_, U, U, U, U, U, U, U, U, U, U, U, U, U, U, U, U, U, U, U, U, U, U, U, U, U, U, U, U, U, U, U, U]
def spec_l04Find_w0 (S : SatT) (K : AVal → H → Prop) : (Frame → H → Prop) → Frame → H → Prop := fun X fr h => cwp S tab spec_l04Find_M (spec_l04Find_M 0) (sub [1, 1, 0, 0, 0] (bodyOf Tryz.f97)) (kSeq (fun fr h => X (mask (spec_l04Find_M 0) fr) h) (kBlk 0 (spec_l04Find_ks2 S K))) fr h
def spec_l04Find_L0 (S : SatT) (K : AVal → H → Prop) (s0_ : Sl) (i1_ : Int) (i5_ : Int) (i6_ : Int) (h : H) : Prop := loopK (spec_l04Find_w0 S K) (spec_l04Find_e0 s0_ i1_ i5_ i6_) h
def spec_l04Find_C0 (S : SatT) (K : AVal → H → Prop) (s0_ : Sl) (i1_ : Int) (i5_ : Int) (h : H) : Prop :=
 bif (decide (i5_ < (s0_.len : Int))) then
 ixS s0_ 1 i5_ fun p0 =>
 ldI .i64 p0 h fun n1 =>
 bif (n1 == i1_) then
 K (.int .i64 i5_) h
 else
 K (.int .i64 (-1)) h
 else
 K (.int .i64 (-1)) h
def spec_l04Find_b0 (S : SatT) (K : AVal → H → Prop) (X0 : Frame → H → Prop) (s0_ : Sl) (i1_ : Int) (i5_ : Int) (i6_ : Int) (h : H) : Prop :=
 bif (decide (i5_ < i6_)) then
 nz (2) (
 ixS s0_ 1 (w64 (Int.tdiv (w64 (i5_ + i6_)) (2))) fun p0 =>
 ldI .i64 p0 h fun n1 =>
 bif (decide (n1 < i1_)) then
 X0 (spec_l04Find_e0 s0_ i1_ (w64 ((w64 (Int.tdiv (w64 (i5_ + i6_)) (2))) + (1))) i6_) h
 else
 X0 (spec_l04Find_e0 s0_ i1_ i5_ (w64 (Int.tdiv (w64 (i5_ + i6_)) (2)))) h)
 else
 spec_l04Find_C0 S K s0_ i1_ i5_ h
theorem spec_l04Find_link0 (S : SatT) (K : AVal → H → Prop) (X0 : Frame → H → Prop) (s0_ : Sl) (i1_ : Int) (i5_ : Int) (i6_ : Int) (h : H) : spec_l04Find_w0 S K X0 (spec_l04Find_e0 s0_ i1_ i5_ i6_) h = spec_l04Find_b0 S K X0 s0_ i1_ i5_ i6_ h := by kernel_rfl
theorem spec_l04Find_rule0 (S : SatT) (K : AVal → H → Prop) (s0_ : Sl) (i1_ : Int) (I_ : Int → Int → H → Prop) (m_ : Int → Int → H → Nat)
    (hs : ∀ (X0 : Frame → H → Prop) (i5_ : Int) (i6_ : Int) (h : H), I_ i5_ i6_ h → (∀ (i5_' : Int) (i6_' : Int) (h' : H), I_ i5_' i6_' h' → m_ i5_' i6_' h' < m_ i5_ i6_ h → X0 (spec_l04Find_e0 s0_ i1_ i5_' i6_') h') → spec_l04Find_b0 S K X0 s0_ i1_ i5_ i6_ h) (i5_ : Int) (i6_ : Int) {h : H} (h0 : I_ i5_ i6_ h) : spec_l04Find_L0 S K s0_ i1_ i5_ i6_ h :=
  loop_rule (σ := (Int) × (Int)) (fun s_ => spec_l04Find_e0 s0_ i1_ (s_.1) (s_.2)) (fun s_ h => I_ (s_.1) (s_.2) h) (fun s_ h => m_ (s_.1) (s_.2) h)
    (fun X s_ h hi hx => (spec_l04Find_link0 S K X s0_ i1_ (s_.1) (s_.2) h).mpr (hs X (s_.1) (s_.2) h hi fun i5_' i6_' h' hi' hm' => hx (i5_', i6_') h' hi' hm')) (i5_, i6_) h0
def spec_l04Find_main (S : SatT) (K : AVal → H → Prop) (x0 : Sl) (x1 : Int) (h : H) : Prop :=
 spec_l04Find_L0 S K x0 x1 (0) (x0.len : Int) h
theorem spec_l04Find_main_link (S : SatT) (K : AVal → H → Prop) (x0 : Sl) (x1 : Int) (h : H) : cwp S tab spec_l04Find_M [] (bodyOf Tryz.f97) (kFun tab Tryz.f97.results.toList K) (fr0 Tryz.f97 [.sl x0, .int .i64 x1]) h = spec_l04Find_main S K x0 x1 h := by kernel_rfl
theorem spec_l04Find_call (x0 : Sl) (x1 : Int) (h : H) (K : Int → H → Prop) (hm : spec_l04Find_main (Sat Tryz.prog) (fun v h' => ∃ r, v = .int .i64 r ∧ K r h') x0 x1 h) : callI (Sat Tryz.prog) .i64 i_spec_l04Find [.sl x0, .int .i64 x1] h K := by
  have := Sat.ex tok mixed spec_l04Find_M Tryz.func97 (c := bodyOf Tryz.f97) (by kernel_rfl) (calls_of Tryz.func97 (c := bodyOf Tryz.f97) (by kernel_rfl) (by decide)) ((spec_l04Find_main_link _ _ x0 x1 h).mpr hm)
  obtain ⟨v, h2, h3, r, rfl, h4⟩ := this; exact ⟨r, h2, h3, h4⟩

/-! ### loop.example/g01354/laws.rows9 -/
def laws_rows9_M : Nat → List Nat := fun i => bif i == 0 then [0, 1, 5] else []
def laws_rows9_ks4 (S : SatT) (K : AVal → H → Prop) : Kont := kSeq (cwp S tab laws_rows9_M [] (sub [1, 1, 1] (bodyOf Tryz.f16)) (kFun tab (Tryz.f16).results.toList K)) (kFun tab (Tryz.f16).results.toList K)
def laws_rows9_e0 (s0_ : Sl) (s1_ : Sl) (i5_ : Int) : Frame := [.sl s0_, .sl s1_, U, U, U, .int .i64 i5_, U, U, U, U, U, U, U, U, U, U, U, U, U, U, U, U, U, U, U, U, U]
def laws_rows9_w0 (S : SatT) (K : AVal → H → Prop) : (Frame → H → Prop) → Frame → H → Prop := fun X fr h => cwp S tab laws_rows9_M (laws_rows9_M 0) (sub [1, 1, 0, 1, 0, 0] (bodyOf Tryz.f16)) (kSeq (fun fr h => X (mask (laws_rows9_M 0) fr) h) (kBlk 0 (laws_rows9_ks4 S K))) fr h
def laws_rows9_L0 (S : SatT) (K : AVal → H → Prop) (s0_ : Sl) (s1_ : Sl) (i5_ : Int) (h : H) : Prop := loopK (laws_rows9_w0 S K) (laws_rows9_e0 s0_ s1_ i5_) h
def laws_rows9_C0 (S : SatT) (K : AVal → H → Prop) (h : H) : Prop :=
 K (.bool true) h
def laws_rows9_b0 (S : SatT) (K : AVal → H → Prop) (X0 : Frame → H → Prop) (s0_ : Sl) (s1_ : Sl) (i5_ : Int) (h : H) : Prop :=
 bif (decide (i5_ < (s0_.len : Int))) then
 ixS s0_ 1 i5_ fun p0 =>
 ldS p0 h fun s1 =>
 ixS s1_ 1 i5_ fun p2 =>
 ldS p2 h fun s3 =>
 callB S i_laws_likeInts [.sl s1, .sl s3] h fun b5 h4 =>
 bif (!b5) then
 K (.bool false) h4
 else
 X0 (laws_rows9_e0 s0_ s1_ (w64 (i5_ + (1)))) h4
 else
 laws_rows9_C0 S K h
theorem laws_rows9_link0 (S : SatT) (K : AVal → H → Prop) (X0 : Frame → H → Prop) (s0_ : Sl) (s1_ : Sl) (i5_ : Int) (h : H) : laws_rows9_w0 S K X0 (laws_rows9_e0 s0_ s1_ i5_) h = laws_rows9_b0 S K X0 s0_ s1_ i5_ h := by kernel_rfl
theorem laws_rows9_rule0 (S : SatT) (K : AVal → H → Prop) (s0_ : Sl) (s1_ : Sl) (I_ : Int → H → Prop) (m_ : Int → H → Nat)
    (hs : ∀ (X0 : Frame → H → Prop) (i5_ : Int) (h : H), I_ i5_ h → (∀ (i5_' : Int) (h' : H), I_ i5_' h' → m_ i5_' h' < m_ i5_ h → X0 (laws_rows9_e0 s0_ s1_ i5_') h') → laws_rows9_b0 S K X0 s0_ s1_ i5_ h) (i5_ : Int) {h : H} (h0 : I_ i5_ h) : laws_rows9_L0 S K s0_ s1_ i5_ h :=
  loop_rule (σ := (Int)) (fun s_ => laws_rows9_e0 s0_ s1_ (s_)) (fun s_ h => I_ (s_) h) (fun s_ h => m_ (s_) h)
    (fun X s_ h hi hx => (laws_rows9_link0 S K X s0_ s1_ (s_) h).mpr (hs X (s_) h hi fun i5_' h' hi' hm' => hx (i5_') h' hi' hm')) (i5_) h0
def laws_rows9_main (S : SatT) (K : AVal → H → Prop) (x0 : Sl) (x1 : Sl) (h : H) : Prop :=
 bif ((x0.len : Int) != (x1.len : Int)) then
 K (.bool false) h
 else
 laws_rows9_L0 S K x0 x1 (0) h
theorem laws_rows9_main_link (S : SatT) (K : AVal → H → Prop) (x0 : Sl) (x1 : Sl) (h : H) : cwp S tab laws_rows9_M [] (bodyOf Tryz.f16) (kFun tab Tryz.f16.results.toList K) (fr0 Tryz.f16 [.sl x0, .sl x1]) h = laws_rows9_main S K x0 x1 h := by kernel_rfl
theorem laws_rows9_call (x0 : Sl) (x1 : Sl) (h : H) (K : Bool → H → Prop) (hm : laws_rows9_main (Sat Tryz.prog) (fun v h' => ∃ r, v = .bool r ∧ K r h') x0 x1 h) : callB (Sat Tryz.prog) i_laws_rows9 [.sl x0, .sl x1] h K := by
  have := Sat.ex tok mixed laws_rows9_M Tryz.func16 (c := bodyOf Tryz.f16) (by kernel_rfl) (calls_of Tryz.func16 (c := bodyOf Tryz.f16) (by kernel_rfl) (by decide)) ((laws_rows9_main_link _ _ x0 x1 h).mpr hm)
  obtain ⟨v, h2, h3, r, rfl, h4⟩ := this; exact ⟨r, h2, h3, h4⟩

/-! ### loop.example/g01354/spec.l01Small -/
def spec_l01Small_M : Nat → List Nat := fun i => []
def spec_l01Small_main (S : SatT) (K : AVal → H → Prop) (x0 : Pt) (h : H) : Prop :=
 newO [.int .i64 (0), .sl Sl.nil] h fun p0 h1 =>
 callI S .i64 i_spec_l01Next [.ptr x0, .int .i64 (3)] h1 fun n3 h2 =>
 bif (n3 == (0)) then
 callS S i_spec_l01Names [] h2 fun s5 h4 =>
 callI S .i64 i_spec_l01Next [.ptr x0, .int .i64 (s5.len : Int)] h4 fun n7 h6 =>
 ixS s5 1 n7 fun p8 =>
 ldV p8 h6 fun v9 =>
 callV S i_spec_l01Named [v9] h6 fun v11 h10 =>
 viaT v11 fun vs12 =>
 exA vs12 0 fun cs13 =>
 viaT v11 fun vs14 =>
 exB vs14 1 fun b15 =>
 newO [.int .i64 (0), .sl Sl.nil] h10 fun p16 h17 =>
 stN p16 2 cs13 h17 fun h18 =>
 ldA p16 2 h18 fun cs19 =>
 isPt p16 (
 ldI .i64 (Pt.add p16 0) h18 fun n20 =>
 callS S i_spec_l01DrawOrder [.ptr x0, .int .i64 n20] h18 fun s22 h21 =>
(range h21 p16.o p16.n p16.off 2 = range h18 p16.o p16.n p16.off 2) ∧ (
 callA S i_spec_l01Renamed [.agg cs19, .sl s22] h21 fun cs24 h23 =>
 stN p0 2 cs24 h23 fun h25 =>
 ldA p0 2 h25 fun cs26 =>
 K (.agg cs26) h25))
 else
 newS 5 1 [.int .i64 (1), .int .i64 (2), .int .i64 (2), .int .i64 (2), .int .i64 (3)] h2 fun s27 h28 =>
 callI S .i64 i_spec_l01Pick [.ptr x0, .sl s27] h28 fun n30 h29 =>
 newS 3 1 [.int .i64 (3), .int .i64 (6), .int .i64 (9)] h29 fun s31 h32 =>
 callI S .i64 i_spec_l01Pick [.ptr x0, .sl s31] h32 fun n34 h33 =>
 callI S .i64 i_spec_l01Next [.ptr x0, .int .i64 n34] h33 fun n36 h35 =>
 callA S i_spec_l01DrawOf [.ptr x0, .int .i64 n30, .int .i64 n36] h35 fun cs38 h37 =>
 stN p0 2 cs38 h37 fun h39 =>
 ldA p0 2 h39 fun cs40 =>
 K (.agg cs40) h39
theorem spec_l01Small_main_link (S : SatT) (K : AVal → H → Prop) (x0 : Pt) (h : H) : cwp S tab spec_l01Small_M [] (bodyOf Tryz.f89) (kFun tab Tryz.f89.results.toList K) (fr0 Tryz.f89 [.ptr x0]) h = spec_l01Small_main S K x0 h := by kernel_rfl
theorem spec_l01Small_call (x0 : Pt) (h : H) (K : List AVal → H → Prop) (hm : spec_l01Small_main (Sat Tryz.prog) (fun v h' => ∃ r, v = .agg r ∧ K r h') x0 h) : callA (Sat Tryz.prog) i_spec_l01Small [.ptr x0] h K := by
  have := Sat.ex tok mixed spec_l01Small_M Tryz.func89 (c := bodyOf Tryz.f89) (by kernel_rfl) (calls_of Tryz.func89 (c := bodyOf Tryz.f89) (by kernel_rfl) (by decide)) ((spec_l01Small_main_link _ _ x0 h).mpr hm)
  obtain ⟨v, h2, h3, r, rfl, h4⟩ := this; exact ⟨r, h2, h3, h4⟩

/-! ### loop.example/g01354/spec.StackSets -/
def spec_StackSets_M : Nat → List Nat := fun i => []
def spec_StackSets_main (S : SatT) (K : AVal → H → Prop) (x0 : List AVal) (x1 : List AVal) (h : H) : Prop :=
 newK 2 x0 h fun p0 h1 =>
 newK 2 x1 h1 fun p2 h3 =>
 newO [.int .i64 (0), .sl Sl.nil] h3 fun p4 h5 =>
 ldA p0 2 h5 fun cs6 =>
 callB S i_spec_l01Is [.agg cs6] h5 fun b8 h7 =>
 bif (!b8) then
 stN p4 2 [.int .i64 (0), .sl Sl.nil] h7 fun h9 =>
 ldA p4 2 h9 fun cs10 =>
 K (.tuple [.agg cs10, .int .i64 (1)]) h9
 else
 ldA p2 2 h7 fun cs11 =>
 callB S i_spec_l01Is [.agg cs11] h7 fun b13 h12 =>
 bif (!b13) then
 stN p4 2 [.int .i64 (0), .sl Sl.nil] h12 fun h14 =>
 ldA p4 2 h14 fun cs15 =>
 K (.tuple [.agg cs15, .int .i64 (1)]) h14
 else
 ldA p0 2 h12 fun cs16 =>
 ldA p2 2 h12 fun cs17 =>
 callV S i_spec_l04Made [.agg cs16, .agg cs17] h12 fun v19 h18 =>
 viaT v19 fun vs20 =>
 exA vs20 0 fun cs21 =>
 viaT v19 fun vs22 =>
 exI .i64 vs22 1 fun n23 =>
 newO [.int .i64 (0), .sl Sl.nil] h18 fun p24 h25 =>
 stN p24 2 cs21 h25 fun h26 =>
 ldA p24 2 h26 fun cs27 =>
 stN p4 2 cs27 h26 fun h28 =>
 ldA p4 2 h28 fun cs29 =>
 K (.tuple [.agg cs29, .int .i64 n23]) h28
theorem spec_StackSets_main_link (S : SatT) (K : AVal → H → Prop) (x0 : List AVal) (x1 : List AVal) (h : H) : cwp S tab spec_StackSets_M [] (bodyOf Tryz.f12) (kFun tab Tryz.f12.results.toList K) (fr0 Tryz.f12 [.agg x0, .agg x1]) h = spec_StackSets_main S K x0 x1 h := by kernel_rfl
theorem spec_StackSets_call (x0 : List AVal) (x1 : List AVal) (h : H) (K : AVal → H → Prop) (hm : spec_StackSets_main (Sat Tryz.prog) (fun v h' => K v h') x0 x1 h) : callV (Sat Tryz.prog) i_spec_StackSets [.agg x0, .agg x1] h K := by
  have := Sat.ex tok mixed spec_StackSets_M Tryz.func12 (c := bodyOf Tryz.f12) (by kernel_rfl) (calls_of Tryz.func12 (c := bodyOf Tryz.f12) (by kernel_rfl) (by decide)) ((spec_StackSets_main_link _ _ x0 x1 h).mpr hm)
  exact this

/-! ### loop.example/g01354/impl.setOf -/
def impl_setOf_M : Nat → List Nat := fun i => []
def impl_setOf_main (S : SatT) (K : AVal → H → Prop) (x0 : Int) (x1 : Sl) (h : H) : Prop :=
 newO [.int .i64 (0), .sl Sl.nil] h fun p0 h1 =>
 callV S i_slices_Values_s_impl_Tile_impl_Tile_ [.sl x1] h1 fun v3 h2 =>
 callS S i_slices_SortedFunc_impl_Tile_ [v3, .func 53 []] h2 fun s5 h4 =>
 callS S i_slices_Compact_s_impl_Tile_impl_Tile_ [.sl s5] h4 fun s7 h6 =>
 newO [.int .i64 (0), .sl Sl.nil] h6 fun p8 h9 =>
 stN p8 2 [.int .i64 x0, .sl s7] h9 fun h10 =>
 ldA p8 2 h10 fun cs11 =>
 isPt p8 (
 ldI .i64 (Pt.add p8 0) h10 fun n12 =>
 bif (decide (n12 ≤ (6))) then
 isPt p8 (
 ldS (Pt.add p8 1) h10 fun s13 =>
 stN p0 2 cs11 h10 fun h14 =>
(cell h14 (Pt.add p8 1) = cell h10 (Pt.add p8 1)) ∧ (
 ldA p0 2 h14 fun cs15 =>
 K (.tuple [.agg cs15, .bool (decide ((s13.len : Int) ≤ (16)))]) h14))
 else
 stN p0 2 cs11 h10 fun h16 =>
 ldA p0 2 h16 fun cs17 =>
 K (.tuple [.agg cs17, .bool false]) h16)
theorem impl_setOf_main_link (S : SatT) (K : AVal → H → Prop) (x0 : Int) (x1 : Sl) (h : H) : cwp S tab impl_setOf_M [] (bodyOf Tryz.f134) (kFun tab Tryz.f134.results.toList K) (fr0 Tryz.f134 [.int .i64 x0, .sl x1]) h = impl_setOf_main S K x0 x1 h := by kernel_rfl
theorem impl_setOf_call (x0 : Int) (x1 : Sl) (h : H) (K : AVal → H → Prop) (hm : impl_setOf_main (Sat Tryz.prog) (fun v h' => K v h') x0 x1 h) : callV (Sat Tryz.prog) i_impl_setOf [.int .i64 x0, .sl x1] h K := by
  have := Sat.ex tok mixed impl_setOf_M Tryz.func134 (c := bodyOf Tryz.f134) (by kernel_rfl) (calls_of Tryz.func134 (c := bodyOf Tryz.f134) (by kernel_rfl) (by decide)) ((impl_setOf_main_link _ _ x0 x1 h).mpr hm)
  exact this

/-! ### loop.example/g01354/impl.limited -/
def impl_limited_M : Nat → List Nat := fun i => []
def impl_limited_main (S : SatT) (K : AVal → H → Prop) (x0 : Int) (x1 : Sl) (h : H) : Prop :=
 newO [.int .i64 (0), .sl Sl.nil] h fun p0 h1 =>
 callV S i_impl_setOf [.int .i64 x0, .sl x1] h1 fun v3 h2 =>
 viaT v3 fun vs4 =>
 exA vs4 0 fun cs5 =>
 viaT v3 fun vs6 =>
 exB vs6 1 fun b7 =>
 newO [.int .i64 (0), .sl Sl.nil] h2 fun p8 h9 =>
 stN p8 2 cs5 h9 fun h10 =>
 bif (!b7) then
 stN p0 2 [.int .i64 (0), .sl Sl.nil] h10 fun h11 =>
 ldA p0 2 h11 fun cs12 =>
 K (.tuple [.agg cs12, .int .i64 (3)]) h11
 else
 ldA p8 2 h10 fun cs13 =>
 stN p0 2 cs13 h10 fun h14 =>
 ldA p0 2 h14 fun cs15 =>
 K (.tuple [.agg cs15, .int .i64 (0)]) h14
theorem impl_limited_main_link (S : SatT) (K : AVal → H → Prop) (x0 : Int) (x1 : Sl) (h : H) : cwp S tab impl_limited_M [] (bodyOf Tryz.f93) (kFun tab Tryz.f93.results.toList K) (fr0 Tryz.f93 [.int .i64 x0, .sl x1]) h = impl_limited_main S K x0 x1 h := by kernel_rfl
theorem impl_limited_call (x0 : Int) (x1 : Sl) (h : H) (K : AVal → H → Prop) (hm : impl_limited_main (Sat Tryz.prog) (fun v h' => K v h') x0 x1 h) : callV (Sat Tryz.prog) i_impl_limited [.int .i64 x0, .sl x1] h K := by
  have := Sat.ex tok mixed impl_limited_M Tryz.func93 (c := bodyOf Tryz.f93) (by kernel_rfl) (calls_of Tryz.func93 (c := bodyOf Tryz.f93) (by kernel_rfl) (by decide)) ((impl_limited_main_link _ _ x0 x1 h).mpr hm)
  exact this

/-! ### slices.ContainsFunc[[]loop.example/g01354/impl.Set,loop.example/g01354/impl.Set] -/
def slices_ContainsFunc_s_impl_Set_impl_Set__M : Nat → List Nat := fun i => []
def slices_ContainsFunc_s_impl_Set_impl_Set__main (S : SatT) (K : AVal → H → Prop) (x0 : Sl) (x1 : AVal) (h : H) : Prop :=
 callI S .i64 i_slices_IndexFunc_s_impl_Set_impl_Set_ [.sl x0, x1] h fun n1 h0 =>
 K (.bool (decide (n1 ≥ (0)))) h0
theorem slices_ContainsFunc_s_impl_Set_impl_Set__main_link (S : SatT) (K : AVal → H → Prop) (x0 : Sl) (x1 : AVal) (h : H) : cwp S tab slices_ContainsFunc_s_impl_Set_impl_Set__M [] (bodyOf Tryz.f91) (kFun tab Tryz.f91.results.toList K) (fr0 Tryz.f91 [.sl x0, x1]) h = slices_ContainsFunc_s_impl_Set_impl_Set__main S K x0 x1 h := by kernel_rfl
theorem slices_ContainsFunc_s_impl_Set_impl_Set__call (x0 : Sl) (x1 : AVal) (h : H) (K : Bool → H → Prop) (hm : slices_ContainsFunc_s_impl_Set_impl_Set__main (Sat Tryz.prog) (fun v h' => ∃ r, v = .bool r ∧ K r h') x0 x1 h) : callB (Sat Tryz.prog) i_slices_ContainsFunc_s_impl_Set_impl_Set_ [.sl x0, x1] h K := by
  have := Sat.ex tok mixed slices_ContainsFunc_s_impl_Set_impl_Set__M Tryz.func91 (c := bodyOf Tryz.f91) (by kernel_rfl) (calls_of Tryz.func91 (c := bodyOf Tryz.f91) (by kernel_rfl) (by decide)) ((slices_ContainsFunc_s_impl_Set_impl_Set__main_link _ _ x0 x1 h).mpr hm)
  obtain ⟨v, h2, h3, r, rfl, h4⟩ := this; exact ⟨r, h2, h3, h4⟩

/-! ### loop.example/g01354/impl.compare -/
def impl_compare_M : Nat → List Nat := fun i => []
def impl_compare_main (S : SatT) (K : AVal → H → Prop) (x0 : List AVal) (x1 : List AVal) (h : H) : Prop :=
 newK 4 x0 h fun p0 h1 =>
 newK 4 x1 h1 fun p2 h3 =>
 cutA p0 4 1 (0) ((4 : Nat) : Int) fun s4 =>
 cutA p2 4 1 (0) ((4 : Nat) : Int) fun s5 =>
 callI S .i64 i_slices_Compare_s_int64_int64_ [.sl s4, .sl s5] h3 fun n7 h6 =>
 K (.int .i64 n7) h6
theorem impl_compare_main_link (S : SatT) (K : AVal → H → Prop) (x0 : List AVal) (x1 : List AVal) (h : H) : cwp S tab impl_compare_M [] (bodyOf Tryz.f53) (kFun tab Tryz.f53.results.toList K) (fr0 Tryz.f53 [.agg x0, .agg x1]) h = impl_compare_main S K x0 x1 h := by kernel_rfl
theorem impl_compare_call (x0 : List AVal) (x1 : List AVal) (h : H) (K : Int → H → Prop) (hm : impl_compare_main (Sat Tryz.prog) (fun v h' => ∃ r, v = .int .i64 r ∧ K r h') x0 x1 h) : callI (Sat Tryz.prog) .i64 i_impl_compare [.agg x0, .agg x1] h K := by
  have := Sat.ex tok mixed impl_compare_M Tryz.func53 (c := bodyOf Tryz.f53) (by kernel_rfl) (calls_of Tryz.func53 (c := bodyOf Tryz.f53) (by kernel_rfl) (by decide)) ((impl_compare_main_link _ _ x0 x1 h).mpr hm)
  obtain ⟨v, h2, h3, r, rfl, h4⟩ := this; exact ⟨r, h2, h3, h4⟩

/-! ### slices.Values[[]loop.example/g01354/impl.Tile,loop.example/g01354/impl.Tile] -/
def slices_Values_s_impl_Tile_impl_Tile__M : Nat → List Nat := fun i => []
def slices_Values_s_impl_Tile_impl_Tile__main (S : SatT) (K : AVal → H → Prop) (x0 : Sl) (h : H) : Prop :=
 newO [.sl x0] h fun p0 h1 =>
 K (.func 163 [.ptr p0]) h1
theorem slices_Values_s_impl_Tile_impl_Tile__main_link (S : SatT) (K : AVal → H → Prop) (x0 : Sl) (h : H) : cwp S tab slices_Values_s_impl_Tile_impl_Tile__M [] (bodyOf Tryz.f146) (kFun tab Tryz.f146.results.toList K) (fr0 Tryz.f146 [.sl x0]) h = slices_Values_s_impl_Tile_impl_Tile__main S K x0 h := by kernel_rfl
theorem slices_Values_s_impl_Tile_impl_Tile__call (x0 : Sl) (h : H) (K : AVal → H → Prop) (hm : slices_Values_s_impl_Tile_impl_Tile__main (Sat Tryz.prog) (fun v h' => K v h') x0 h) : callV (Sat Tryz.prog) i_slices_Values_s_impl_Tile_impl_Tile_ [.sl x0] h K := by
  have := Sat.ex tok mixed slices_Values_s_impl_Tile_impl_Tile__M Tryz.func146 (c := bodyOf Tryz.f146) (by kernel_rfl) (calls_of Tryz.func146 (c := bodyOf Tryz.f146) (by kernel_rfl) (by decide)) ((slices_Values_s_impl_Tile_impl_Tile__main_link _ _ x0 h).mpr hm)
  exact this

/-! ### slices.Collect[loop.example/g01354/impl.Tile] -/
def slices_Collect_impl_Tile__M : Nat → List Nat := fun i => []
def slices_Collect_impl_Tile__main (S : SatT) (K : AVal → H → Prop) (x0 : AVal) (h : H) : Prop :=
 callS S i_slices_AppendSeq_s_impl_Tile_impl_Tile_ [.sl Sl.nil, x0] h fun s1 h0 =>
 K (.sl s1) h0
theorem slices_Collect_impl_Tile__main_link (S : SatT) (K : AVal → H → Prop) (x0 : AVal) (h : H) : cwp S tab slices_Collect_impl_Tile__M [] (bodyOf Tryz.f161) (kFun tab Tryz.f161.results.toList K) (fr0 Tryz.f161 [x0]) h = slices_Collect_impl_Tile__main S K x0 h := by kernel_rfl
theorem slices_Collect_impl_Tile__call (x0 : AVal) (h : H) (K : Sl → H → Prop) (hm : slices_Collect_impl_Tile__main (Sat Tryz.prog) (fun v h' => ∃ r, v = .sl r ∧ K r h') x0 h) : callS (Sat Tryz.prog) i_slices_Collect_impl_Tile_ [x0] h K := by
  have := Sat.ex tok mixed slices_Collect_impl_Tile__M Tryz.func161 (c := bodyOf Tryz.f161) (by kernel_rfl) (calls_of Tryz.func161 (c := bodyOf Tryz.f161) (by kernel_rfl) (by decide)) ((slices_Collect_impl_Tile__main_link _ _ x0 h).mpr hm)
  obtain ⟨v, h2, h3, r, rfl, h4⟩ := this; exact ⟨r, h2, h3, h4⟩

/-! ### loop.example/g01354/impl.isTile$1 -/
def impl_isTile_1_M : Nat → List Nat := fun i => []
def impl_isTile_1_main (S : SatT) (K : AVal → H → Prop) (x0 : Int) (x1 : Pt) (h : H) : Prop :=
 ldI .i64 x1 h fun n0 =>
 callB S i_impl_within [.int .i64 x0, .int .i64 (0), .int .i64 (w64 (n0 - (1)))] h fun b2 h1 =>
 K (.bool (!b2)) h1
theorem impl_isTile_1_main_link (S : SatT) (K : AVal → H → Prop) (x0 : Int) (x1 : Pt) (h : H) : cwp S tab impl_isTile_1_M [] (bodyOf Tryz.f106) (kFun tab Tryz.f106.results.toList K) (fr0 Tryz.f106 [.int .i64 x0, .ptr x1]) h = impl_isTile_1_main S K x0 x1 h := by kernel_rfl
theorem impl_isTile_1_call (x0 : Int) (x1 : Pt) (h : H) (K : Bool → H → Prop) (hm : impl_isTile_1_main (Sat Tryz.prog) (fun v h' => ∃ r, v = .bool r ∧ K r h') x0 x1 h) : callB (Sat Tryz.prog) i_impl_isTile_1 [.int .i64 x0, .ptr x1] h K := by
  have := Sat.ex tok mixed impl_isTile_1_M Tryz.func106 (c := bodyOf Tryz.f106) (by kernel_rfl) (calls_of Tryz.func106 (c := bodyOf Tryz.f106) (by kernel_rfl) (by decide)) ((impl_isTile_1_main_link _ _ x0 x1 h).mpr hm)
  obtain ⟨v, h2, h3, r, rfl, h4⟩ := this; exact ⟨r, h2, h3, h4⟩

/-! ### loop.example/g01354/impl.areSets -/
def impl_areSets_M : Nat → List Nat := fun i => []
def impl_areSets_main (S : SatT) (K : AVal → H → Prop) (x0 : Sl) (h : H) : Prop :=
 callB S i_slices_ContainsFunc_s_impl_Set_impl_Set_ [.sl x0, .func 92 []] h fun b1 h0 =>
 K (.bool (!b1)) h0
theorem impl_areSets_main_link (S : SatT) (K : AVal → H → Prop) (x0 : Sl) (h : H) : cwp S tab impl_areSets_M [] (bodyOf Tryz.f40) (kFun tab Tryz.f40.results.toList K) (fr0 Tryz.f40 [.sl x0]) h = impl_areSets_main S K x0 h := by kernel_rfl
theorem impl_areSets_call (x0 : Sl) (h : H) (K : Bool → H → Prop) (hm : impl_areSets_main (Sat Tryz.prog) (fun v h' => ∃ r, v = .bool r ∧ K r h') x0 h) : callB (Sat Tryz.prog) i_impl_areSets [.sl x0] h K := by
  have := Sat.ex tok mixed impl_areSets_M Tryz.func40 (c := bodyOf Tryz.f40) (by kernel_rfl) (calls_of Tryz.func40 (c := bodyOf Tryz.f40) (by kernel_rfl) (by decide)) ((impl_areSets_main_link _ _ x0 h).mpr hm)
  obtain ⟨v, h2, h3, r, rfl, h4⟩ := this; exact ⟨r, h2, h3, h4⟩

/-! ### cmp.isNaN[int64] -/
def cmp_isNaN_int64__M : Nat → List Nat := fun i => []
def cmp_isNaN_int64__main (S : SatT) (K : AVal → H → Prop) (x0 : Int) (h : H) : Prop :=
 K (.bool (x0 != x0)) h
theorem cmp_isNaN_int64__main_link (S : SatT) (K : AVal → H → Prop) (x0 : Int) (h : H) : cwp S tab cmp_isNaN_int64__M [] (bodyOf Tryz.f158) (kFun tab Tryz.f158.results.toList K) (fr0 Tryz.f158 [.int .i64 x0]) h = cmp_isNaN_int64__main S K x0 h := by kernel_rfl
theorem cmp_isNaN_int64__call (x0 : Int) (h : H) (K : Bool → H → Prop) (hm : cmp_isNaN_int64__main (Sat Tryz.prog) (fun v h' => ∃ r, v = .bool r ∧ K r h') x0 h) : callB (Sat Tryz.prog) i_cmp_isNaN_int64_ [.int .i64 x0] h K := by
  have := Sat.ex tok mixed cmp_isNaN_int64__M Tryz.func158 (c := bodyOf Tryz.f158) (by kernel_rfl) (calls_of Tryz.func158 (c := bodyOf Tryz.f158) (by kernel_rfl) (by decide)) ((cmp_isNaN_int64__main_link _ _ x0 h).mpr hm)
  obtain ⟨v, h2, h3, r, rfl, h4⟩ := this; exact ⟨r, h2, h3, h4⟩

/-! ### slices.Compact[[]loop.example/g01354/impl.Tile,loop.example/g01354/impl.Tile] -/
def slices_Compact_s_impl_Tile_impl_Tile__M : Nat → List Nat := fun i => bif i == 2 then [0, 3, 4, 5] else bif i == 0 then [0, 3] else []
def slices_Compact_s_impl_Tile_impl_Tile__ks4 (S : SatT) (K : AVal → H → Prop) : Kont := kSeq (cwp S tab slices_Compact_s_impl_Tile_impl_Tile__M [] (sub [1, 1, 1] (bodyOf Tryz.f147)) (kFun tab (Tryz.f147).results.toList K)) (kFun tab (Tryz.f147).results.toList K)
def slices_Compact_s_impl_Tile_impl_Tile__e0 (s0_ : Sl) (i3_ : Int) : Frame := [.sl s0_, U, U, .int .i64 i3_, U, U, U, U, U, U, U, U, U, U, U, U, U, U, U, U, U, U, U, U, U, U, U, U, U, U, U, U, U, U, U, U, U, U, U, U, U, U, U, U, U, U, U, U, U, U, U, U, U, U, U, U, U, U, U, U, U]
def slices_Compact_s_impl_Tile_impl_Tile__w0 (S : SatT) (K : AVal → H → Prop) : (Frame → H → Prop) → Frame → H → Prop := fun X fr h => cwp S tab slices_Compact_s_impl_Tile_impl_Tile__M (slices_Compact_s_impl_Tile_impl_Tile__M 0) (sub [1, 1, 0, 1, 0, 0] (bodyOf Tryz.f147)) (kSeq (fun fr h => X (mask (slices_Compact_s_impl_Tile_impl_Tile__M 0) fr) h) (kBlk 0 (slices_Compact_s_impl_Tile_impl_Tile__ks4 S K))) fr h
def slices_Compact_s_impl_Tile_impl_Tile__L0 (S : SatT) (K : AVal → H → Prop) (s0_ : Sl) (i3_ : Int) (h : H) : Prop := loopK (slices_Compact_s_impl_Tile_impl_Tile__w0 S K) (slices_Compact_s_impl_Tile_impl_Tile__e0 s0_ i3_) h
def slices_Compact_s_impl_Tile_impl_Tile__ks8 (S : SatT) (K : AVal → H → Prop) (X0 : Frame → H → Prop) : Kont := kSeq (cwp S tab slices_Compact_s_impl_Tile_impl_Tile__M (slices_Compact_s_impl_Tile_impl_Tile__M 0) (sub [1, 1, 0, 1, 0, 0, 1, 1] (bodyOf Tryz.f147)) (kSeq (fun fr h => X0 (mask (slices_Compact_s_impl_Tile_impl_Tile__M 0) fr) h) (kBlk 0 (slices_Compact_s_impl_Tile_impl_Tile__ks4 S K)))) (kSeq (fun fr h => X0 (mask (slices_Compact_s_impl_Tile_impl_Tile__M 0) fr) h) (kBlk 0 (slices_Compact_s_impl_Tile_impl_Tile__ks4 S K)))
def slices_Compact_s_impl_Tile_impl_Tile__ks11 (S : SatT) (K : AVal → H → Prop) (X0 : Frame → H → Prop) : Kont := kSeq (cwp S tab slices_Compact_s_impl_Tile_impl_Tile__M (slices_Compact_s_impl_Tile_impl_Tile__M 1) (sub [1, 1, 0, 1, 0, 0, 1, 0, 0, 1, 0, 1, 1] (bodyOf Tryz.f147)) (kBlk 1 (slices_Compact_s_impl_Tile_impl_Tile__ks8 S K X0))) (kBlk 1 (slices_Compact_s_impl_Tile_impl_Tile__ks8 S K X0))
def slices_Compact_s_impl_Tile_impl_Tile__e2 (s0_ : Sl) (i3_ : Int) (s4_ : Sl) (i5_ : Int) : Frame := [.sl s0_, U, U, .int .i64 i3_, .sl s4_, .int .i64 i5_, U, U, U, U, U, U, U, U, U, U, U, U, U, U, U, U, U, U, U, U, U, U, U, U, U, U, U, U, U, U, U, U, U, U, U, U, U, U, U, U, U, U, U, U, U, U, U, U, U, U, U, U, U, U, U]
def slices_Compact_s_impl_Tile_impl_Tile__w2 (S : SatT) (K : AVal → H → Prop) (X0 : Frame → H → Prop) : (Frame → H → Prop) → Frame → H → Prop := fun X fr h => cwp S tab slices_Compact_s_impl_Tile_impl_Tile__M (slices_Compact_s_impl_Tile_impl_Tile__M 2) (sub [1, 1, 0, 1, 0, 0, 1, 0, 0, 1, 0, 1, 0, 1, 0, 0] (bodyOf Tryz.f147)) (kSeq (fun fr h => X (mask (slices_Compact_s_impl_Tile_impl_Tile__M 2) fr) h) (kBlk 2 (slices_Compact_s_impl_Tile_impl_Tile__ks11 S K X0))) fr h
def slices_Compact_s_impl_Tile_impl_Tile__L2 (S : SatT) (K : AVal → H → Prop) (X0 : Frame → H → Prop) (s0_ : Sl) (i3_ : Int) (s4_ : Sl) (i5_ : Int) (h : H) : Prop := loopK (slices_Compact_s_impl_Tile_impl_Tile__w2 S K X0) (slices_Compact_s_impl_Tile_impl_Tile__e2 s0_ i3_ s4_ i5_) h
def slices_Compact_s_impl_Tile_impl_Tile__C2 (S : SatT) (K : AVal → H → Prop) (X0 : Frame → H → Prop) (s0_ : Sl) (i3_ : Int) (h : H) : Prop :=
 cut s0_ 4 i3_ (s0_.len : Int) h fun s0 =>
 clearS s0 [.int .i64 (0), .int .i64 (0), .int .i64 (0), .int .i64 (0)] h fun h1 =>
 cut s0_ 4 (0) i3_ h1 fun s2 =>
 K (.sl s2) h1
def slices_Compact_s_impl_Tile_impl_Tile__b2 (S : SatT) (K : AVal → H → Prop) (X0 : Frame → H → Prop) (X2 : Frame → H → Prop) (s0_ : Sl) (i3_ : Int) (s4_ : Sl) (i5_ : Int) (h : H) : Prop :=
 bif (decide (i5_ < (s4_.len : Int))) then
 ixS s4_ 4 i5_ fun p0 =>
 ldA p0 4 h fun cs1 =>
 ixS s4_ 4 (w64 (i5_ - (1))) fun p2 =>
 ldA p2 4 h fun cs3 =>
 eqA .i64 4 cs1 cs3 fun b4 =>
 bif (!b4) then
 ixS s4_ 4 i5_ fun p5 =>
 ldA p5 4 h fun cs6 =>
 ixS s0_ 4 i3_ fun p7 =>
 stN p7 4 cs6 h fun h8 =>
 X2 (slices_Compact_s_impl_Tile_impl_Tile__e2 s0_ (w64 (i3_ + (1))) s4_ (w64 (i5_ + (1)))) h8
 else
 X2 (slices_Compact_s_impl_Tile_impl_Tile__e2 s0_ i3_ s4_ (w64 (i5_ + (1)))) h
 else
 slices_Compact_s_impl_Tile_impl_Tile__C2 S K X0 s0_ i3_ h
theorem slices_Compact_s_impl_Tile_impl_Tile__link2 (S : SatT) (K : AVal → H → Prop) (X0 : Frame → H → Prop) (X2 : Frame → H → Prop) (s0_ : Sl) (i3_ : Int) (s4_ : Sl) (i5_ : Int) (h : H) : slices_Compact_s_impl_Tile_impl_Tile__w2 S K X0 X2 (slices_Compact_s_impl_Tile_impl_Tile__e2 s0_ i3_ s4_ i5_) h = slices_Compact_s_impl_Tile_impl_Tile__b2 S K X0 X2 s0_ i3_ s4_ i5_ h := by kernel_rfl
theorem slices_Compact_s_impl_Tile_impl_Tile__rule2 (S : SatT) (K : AVal → H → Prop) (X0 : Frame → H → Prop) (s0_ : Sl) (s4_ : Sl) (I_ : Int → Int → H → Prop) (m_ : Int → Int → H → Nat)
    (hs : ∀ (X2 : Frame → H → Prop) (i3_ : Int) (i5_ : Int) (h : H), I_ i3_ i5_ h → (∀ (i3_' : Int) (i5_' : Int) (h' : H), I_ i3_' i5_' h' → m_ i3_' i5_' h' < m_ i3_ i5_ h → X2 (slices_Compact_s_impl_Tile_impl_Tile__e2 s0_ i3_' s4_ i5_') h') → slices_Compact_s_impl_Tile_impl_Tile__b2 S K X0 X2 s0_ i3_ s4_ i5_ h) (i3_ : Int) (i5_ : Int) {h : H} (h0 : I_ i3_ i5_ h) : slices_Compact_s_impl_Tile_impl_Tile__L2 S K X0 s0_ i3_ s4_ i5_ h :=
  loop_rule (σ := (Int) × (Int)) (fun s_ => slices_Compact_s_impl_Tile_impl_Tile__e2 s0_ (s_.1) s4_ (s_.2)) (fun s_ h => I_ (s_.1) (s_.2) h) (fun s_ h => m_ (s_.1) (s_.2) h)
    (fun X s_ h hi hx => (slices_Compact_s_impl_Tile_impl_Tile__link2 S K X0 X s0_ (s_.1) s4_ (s_.2) h).mpr (hs X (s_.1) (s_.2) h hi fun i3_' i5_' h' hi' hm' => hx (i3_', i5_') h' hi' hm')) (i3_, i5_) h0
def slices_Compact_s_impl_Tile_impl_Tile__C1 (S : SatT) (K : AVal → H → Prop) (X0 : Frame → H → Prop) (s0_ : Sl) (i3_ : Int) (h : H) : Prop :=
 X0 (slices_Compact_s_impl_Tile_impl_Tile__e0 s0_ (w64 (i3_ + (1)))) h
def slices_Compact_s_impl_Tile_impl_Tile__C0 (S : SatT) (K : AVal → H → Prop) (s0_ : Sl) (h : H) : Prop :=
 K (.sl s0_) h
def slices_Compact_s_impl_Tile_impl_Tile__b0 (S : SatT) (K : AVal → H → Prop) (X0 : Frame → H → Prop) (s0_ : Sl) (i3_ : Int) (h : H) : Prop :=
 bif (decide (i3_ < (s0_.len : Int))) then
 ixS s0_ 4 i3_ fun p0 =>
 ldA p0 4 h fun cs1 =>
 ixS s0_ 4 (w64 (i3_ - (1))) fun p2 =>
 ldA p2 4 h fun cs3 =>
 eqA .i64 4 cs1 cs3 fun b4 =>
 bif b4 then
 cut s0_ 4 i3_ (s0_.len : Int) h fun s5 =>
 slices_Compact_s_impl_Tile_impl_Tile__L2 S K X0 s0_ i3_ s5 (1) h
 else
 slices_Compact_s_impl_Tile_impl_Tile__C1 S K X0 s0_ i3_ h
 else
 slices_Compact_s_impl_Tile_impl_Tile__C0 S K s0_ h
theorem slices_Compact_s_impl_Tile_impl_Tile__link0 (S : SatT) (K : AVal → H → Prop) (X0 : Frame → H → Prop) (s0_ : Sl) (i3_ : Int) (h : H) : slices_Compact_s_impl_Tile_impl_Tile__w0 S K X0 (slices_Compact_s_impl_Tile_impl_Tile__e0 s0_ i3_) h = slices_Compact_s_impl_Tile_impl_Tile__b0 S K X0 s0_ i3_ h := by kernel_rfl
theorem slices_Compact_s_impl_Tile_impl_Tile__rule0 (S : SatT) (K : AVal → H → Prop) (s0_ : Sl) (I_ : Int → H → Prop) (m_ : Int → H → Nat)
    (hs : ∀ (X0 : Frame → H → Prop) (i3_ : Int) (h : H), I_ i3_ h → (∀ (i3_' : Int) (h' : H), I_ i3_' h' → m_ i3_' h' < m_ i3_ h → X0 (slices_Compact_s_impl_Tile_impl_Tile__e0 s0_ i3_') h') → slices_Compact_s_impl_Tile_impl_Tile__b0 S K X0 s0_ i3_ h) (i3_ : Int) {h : H} (h0 : I_ i3_ h) : slices_Compact_s_impl_Tile_impl_Tile__L0 S K s0_ i3_ h :=
  loop_rule (σ := (Int)) (fun s_ => slices_Compact_s_impl_Tile_impl_Tile__e0 s0_ (s_)) (fun s_ h => I_ (s_) h) (fun s_ h => m_ (s_) h)
    (fun X s_ h hi hx => (slices_Compact_s_impl_Tile_impl_Tile__link0 S K X s0_ (s_) h).mpr (hs X (s_) h hi fun i3_' h' hi' hm' => hx (i3_') h' hi' hm')) (i3_) h0
def slices_Compact_s_impl_Tile_impl_Tile__main (S : SatT) (K : AVal → H → Prop) (x0 : Sl) (h : H) : Prop :=
 bif (decide ((x0.len : Int) < (2))) then
 K (.sl x0) h
 else
 slices_Compact_s_impl_Tile_impl_Tile__L0 S K x0 (1) h
theorem slices_Compact_s_impl_Tile_impl_Tile__main_link (S : SatT) (K : AVal → H → Prop) (x0 : Sl) (h : H) : cwp S tab slices_Compact_s_impl_Tile_impl_Tile__M [] (bodyOf Tryz.f147) (kFun tab Tryz.f147.results.toList K) (fr0 Tryz.f147 [.sl x0]) h = slices_Compact_s_impl_Tile_impl_Tile__main S K x0 h := by kernel_rfl
theorem slices_Compact_s_impl_Tile_impl_Tile__call (x0 : Sl) (h : H) (K : Sl → H → Prop) (hm : slices_Compact_s_impl_Tile_impl_Tile__main (Sat Tryz.prog) (fun v h' => ∃ r, v = .sl r ∧ K r h') x0 h) : callS (Sat Tryz.prog) i_slices_Compact_s_impl_Tile_impl_Tile_ [.sl x0] h K := by
  have := Sat.ex tok mixed slices_Compact_s_impl_Tile_impl_Tile__M Tryz.func147 (c := bodyOf Tryz.f147) (by kernel_rfl) (calls_of Tryz.func147 (c := bodyOf Tryz.f147) (by kernel_rfl) (by decide)) ((slices_Compact_s_impl_Tile_impl_Tile__main_link _ _ x0 h).mpr hm)
  obtain ⟨v, h2, h3, r, rfl, h4⟩ := this; exact ⟨r, h2, h3, h4⟩

/-! ### loop.example/g01354/spec.l04Pairs -/
def spec_l04Pairs_M : Nat → List Nat := fun i => bif i == 2 then [2, 3, 5, 6, 7] else bif i == 0 then [2, 3, 5, 6] else []
def spec_l04Pairs_ks2 (S : SatT) (K : AVal → H → Prop) : Kont := kSeq (cwp S tab spec_l04Pairs_M [] (sub [1, 1, 1] (bodyOf Tryz.f47)) (kFun tab (Tryz.f47).results.toList K)) (kFun tab (Tryz.f47).results.toList K)
def spec_l04Pairs_e0 (p2_ : Pt) (p3_ : Pt) (s5_ : Sl) (i6_ : Int) : Frame := [U, U, .ptr p2_, .ptr p3_, U, .sl s5_, .int .i64 i6_, U, U, U, U, U, U, U, U, U, U, U, U, U, U, U, U, U, U, U, U, U, U, U, U, U, U, U, U, U, U, U, U, U, U, U, U, U, U, U, U, U, U, U, U, U, U, U, U, U, U, U, U, U, U, U, U, U, U, U, U, U, U]
def spec_l04Pairs_w0 (S : SatT) (K : AVal → H → Prop) : (Frame → H → Prop) → Frame → H → Prop := fun X fr h => cwp S tab spec_l04Pairs_M (spec_l04Pairs_M 0) (sub [1, 1, 0, 1, 0, 0] (bodyOf Tryz.f47)) (kSeq (fun fr h => X (mask (spec_l04Pairs_M 0) fr) h) (kBlk 0 (spec_l04Pairs_ks2 S K))) fr h
def spec_l04Pairs_L0 (S : SatT) (K : AVal → H → Prop) (p2_ : Pt) (p3_ : Pt) (s5_ : Sl) (i6_ : Int) (h : H) : Prop := loopK (spec_l04Pairs_w0 S K) (spec_l04Pairs_e0 p2_ p3_ s5_ i6_) h
def spec_l04Pairs_ks6 (S : SatT) (K : AVal → H → Prop) (X0 : Frame → H → Prop) : Kont := kSeq (cwp S tab spec_l04Pairs_M (spec_l04Pairs_M 0) (sub [1, 1, 0, 1, 0, 0, 1, 1] (bodyOf Tryz.f47)) (kSeq (fun fr h => X0 (mask (spec_l04Pairs_M 0) fr) h) (kBlk 0 (spec_l04Pairs_ks2 S K)))) (kSeq (fun fr h => X0 (mask (spec_l04Pairs_M 0) fr) h) (kBlk 0 (spec_l04Pairs_ks2 S K)))
def spec_l04Pairs_e2 (p2_ : Pt) (p3_ : Pt) (s5_ : Sl) (i6_ : Int) (i7_ : Int) : Frame := [U, U, .ptr p2_, .ptr p3_, U, .sl s5_, .int .i64 i6_, .int .i64 i7_, U, U, U, U, U, U, U, U, U, U, U, U, U, U, U, U, U, U, U, U, U, U, U, U, U, U, U, U, U, U, U, U, U, U, U, U, U, U, U, U, U, U, U, U, U, U, U, U, U, U, U, U, U, U, U, U, U, U, U, U, U]
def spec_l04Pairs_w2 (S : SatT) (K : AVal → H → Prop) (X0 : Frame → H → Prop) : (Frame → H → Prop) → Frame → H → Prop := fun X fr h => cwp S tab spec_l04Pairs_M (spec_l04Pairs_M 2) (sub [1, 1, 0, 1, 0, 0, 1, 0, 0, 1, 0, 0] (bodyOf Tryz.f47)) (kSeq (fun fr h => X (mask (spec_l04Pairs_M 2) fr) h) (kBlk 2 (kBlk 1 (spec_l04Pairs_ks6 S K X0)))) fr h
def spec_l04Pairs_L2 (S : SatT) (K : AVal → H → Prop) (X0 : Frame → H → Prop) (p2_ : Pt) (p3_ : Pt) (s5_ : Sl) (i6_ : Int) (i7_ : Int) (h : H) : Prop := loopK (spec_l04Pairs_w2 S K X0) (spec_l04Pairs_e2 p2_ p3_ s5_ i6_ i7_) h
def spec_l04Pairs_C1 (S : SatT) (K : AVal → H → Prop) (X0 : Frame → H → Prop) (p2_ : Pt) (p3_ : Pt) (s5_ : Sl) (i6_ : Int) (h : H) : Prop :=
 X0 (spec_l04Pairs_e0 p2_ p3_ s5_ (w64 (i6_ + (1)))) h
def spec_l04Pairs_C2 (S : SatT) (K : AVal → H → Prop) (X0 : Frame → H → Prop) (p2_ : Pt) (p3_ : Pt) (s5_ : Sl) (i6_ : Int) (h : H) : Prop :=
 spec_l04Pairs_C1 S K X0 p2_ p3_ s5_ i6_ h
def spec_l04Pairs_b2 (S : SatT) (K : AVal → H → Prop) (X0 : Frame → H → Prop) (X2 : Frame → H → Prop) (p2_ : Pt) (p3_ : Pt) (s5_ : Sl) (i6_ : Int) (i7_ : Int) (h : H) : Prop :=
 isPt p3_ (
 ldS (Pt.add p3_ 1) h fun s0 =>
 bif (decide (i7_ < (s0.len : Int))) then
 isPt p2_ (
 ldS (Pt.add p2_ 1) h fun s1 =>
 ixS s1 4 i6_ fun p2 =>
 ixA p2 4 1 (3) fun p3 =>
 ldI .i64 p3 h fun n4 =>
 isPt p3_ (
 ldS (Pt.add p3_ 1) h fun s5 =>
 ixS s5 4 i7_ fun p6 =>
 ixA p6 4 1 (1) fun p7 =>
 ldI .i64 p7 h fun n8 =>
 bif (n4 == n8) then
 isPt p2_ (
 ldS (Pt.add p2_ 1) h fun s9 =>
 ixS s9 4 i6_ fun p10 =>
 ixA p10 4 1 (0) fun p11 =>
 ldI .i64 p11 h fun n12 =>
 isPt p3_ (
 ldS (Pt.add p3_ 1) h fun s13 =>
 ixS s13 4 i7_ fun p14 =>
 ixA p14 4 1 (0) fun p15 =>
 ldI .i64 p15 h fun n16 =>
 isPt p2_ (
 ldS (Pt.add p2_ 1) h fun s17 =>
 ixS s17 4 i6_ fun p18 =>
 ixA p18 4 1 (2) fun p19 =>
 ldI .i64 p19 h fun n20 =>
 isPt p3_ (
 ldS (Pt.add p3_ 1) h fun s21 =>
 ixS s21 4 i7_ fun p22 =>
 ixA p22 4 1 (2) fun p23 =>
 ldI .i64 p23 h fun n24 =>
 newS 2 1 [.int .i64 (w64 ((w64 ((16) * n12)) + n16)), .int .i64 (w64 ((w64 ((16) * n20)) + n24))] h fun s25 h26 =>
 app s5_ s25 1 h26 fun s27 h28 =>
 X2 (spec_l04Pairs_e2 p2_ p3_ s27 i6_ (w64 (i7_ + (1)))) h28))))
 else
 X2 (spec_l04Pairs_e2 p2_ p3_ s5_ i6_ (w64 (i7_ + (1)))) h))
 else
 spec_l04Pairs_C2 S K X0 p2_ p3_ s5_ i6_ h)
theorem spec_l04Pairs_link2 (S : SatT) (K : AVal → H → Prop) (X0 : Frame → H → Prop) (X2 : Frame → H → Prop) (p2_ : Pt) (p3_ : Pt) (s5_ : Sl) (i6_ : Int) (i7_ : Int) (h : H) : spec_l04Pairs_w2 S K X0 X2 (spec_l04Pairs_e2 p2_ p3_ s5_ i6_ i7_) h = spec_l04Pairs_b2 S K X0 X2 p2_ p3_ s5_ i6_ i7_ h := by kernel_rfl
theorem spec_l04Pairs_rule2 (S : SatT) (K : AVal → H → Prop) (X0 : Frame → H → Prop) (p2_ : Pt) (p3_ : Pt) (i6_ : Int) (I_ : Sl → Int → H → Prop) (m_ : Sl → Int → H → Nat)
    (hs : ∀ (X2 : Frame → H → Prop) (s5_ : Sl) (i7_ : Int) (h : H), I_ s5_ i7_ h → (∀ (s5_' : Sl) (i7_' : Int) (h' : H), I_ s5_' i7_' h' → m_ s5_' i7_' h' < m_ s5_ i7_ h → X2 (spec_l04Pairs_e2 p2_ p3_ s5_' i6_ i7_') h') → spec_l04Pairs_b2 S K X0 X2 p2_ p3_ s5_ i6_ i7_ h) (s5_ : Sl) (i7_ : Int) {h : H} (h0 : I_ s5_ i7_ h) : spec_l04Pairs_L2 S K X0 p2_ p3_ s5_ i6_ i7_ h :=
  loop_rule (σ := (Sl) × (Int)) (fun s_ => spec_l04Pairs_e2 p2_ p3_ (s_.1) i6_ (s_.2)) (fun s_ h => I_ (s_.1) (s_.2) h) (fun s_ h => m_ (s_.1) (s_.2) h)
    (fun X s_ h hi hx => (spec_l04Pairs_link2 S K X0 X p2_ p3_ (s_.1) i6_ (s_.2) h).mpr (hs X (s_.1) (s_.2) h hi fun s5_' i7_' h' hi' hm' => hx (s5_', i7_') h' hi' hm')) (s5_, i7_) h0
def spec_l04Pairs_C0 (S : SatT) (K : AVal → H → Prop) (s5_ : Sl) (h : H) : Prop :=
 callS S i_spec_l04Sorted [.sl s5_] h fun s1 h0 =>
 K (.sl s1) h0
def spec_l04Pairs_b0 (S : SatT) (K : AVal → H → Prop) (X0 : Frame → H → Prop) (p2_ : Pt) (p3_ : Pt) (s5_ : Sl) (i6_ : Int) (h : H) : Prop :=
 isPt p2_ (
 ldS (Pt.add p2_ 1) h fun s0 =>
 bif (decide (i6_ < (s0.len : Int))) then
 spec_l04Pairs_L2 S K X0 p2_ p3_ s5_ i6_ (0) h
 else
 spec_l04Pairs_C0 S K s5_ h)
theorem spec_l04Pairs_link0 (S : SatT) (K : AVal → H → Prop) (X0 : Frame → H → Prop) (p2_ : Pt) (p3_ : Pt) (s5_ : Sl) (i6_ : Int) (h : H) : spec_l04Pairs_w0 S K X0 (spec_l04Pairs_e0 p2_ p3_ s5_ i6_) h = spec_l04Pairs_b0 S K X0 p2_ p3_ s5_ i6_ h := by kernel_rfl
theorem spec_l04Pairs_rule0 (S : SatT) (K : AVal → H → Prop) (p2_ : Pt) (p3_ : Pt) (I_ : Sl → Int → H → Prop) (m_ : Sl → Int → H → Nat)
    (hs : ∀ (X0 : Frame → H → Prop) (s5_ : Sl) (i6_ : Int) (h : H), I_ s5_ i6_ h → (∀ (s5_' : Sl) (i6_' : Int) (h' : H), I_ s5_' i6_' h' → m_ s5_' i6_' h' < m_ s5_ i6_ h → X0 (spec_l04Pairs_e0 p2_ p3_ s5_' i6_') h') → spec_l04Pairs_b0 S K X0 p2_ p3_ s5_ i6_ h) (s5_ : Sl) (i6_ : Int) {h : H} (h0 : I_ s5_ i6_ h) : spec_l04Pairs_L0 S K p2_ p3_ s5_ i6_ h :=
  loop_rule (σ := (Sl) × (Int)) (fun s_ => spec_l04Pairs_e0 p2_ p3_ (s_.1) (s_.2)) (fun s_ h => I_ (s_.1) (s_.2) h) (fun s_ h => m_ (s_.1) (s_.2) h)
    (fun X s_ h hi hx => (spec_l04Pairs_link0 S K X p2_ p3_ (s_.1) (s_.2) h).mpr (hs X (s_.1) (s_.2) h hi fun s5_' i6_' h' hi' hm' => hx (s5_', i6_') h' hi' hm')) (s5_, i6_) h0
def spec_l04Pairs_main (S : SatT) (K : AVal → H → Prop) (x0 : List AVal) (x1 : List AVal) (h : H) : Prop :=
 newK 2 x0 h fun p0 h1 =>
 newK 2 x1 h1 fun p2 h3 =>
 newS 0 1 [] h3 fun s4 h5 =>
 spec_l04Pairs_L0 S K p0 p2 s4 (0) h5
theorem spec_l04Pairs_main_link (S : SatT) (K : AVal → H → Prop) (x0 : List AVal) (x1 : List AVal) (h : H) : cwp S tab spec_l04Pairs_M [] (bodyOf Tryz.f47) (kFun tab Tryz.f47.results.toList K) (fr0 Tryz.f47 [.agg x0, .agg x1]) h = spec_l04Pairs_main S K x0 x1 h := by kernel_rfl
theorem spec_l04Pairs_call (x0 : List AVal) (x1 : List AVal) (h : H) (K : Sl → H → Prop) (hm : spec_l04Pairs_main (Sat Tryz.prog) (fun v h' => ∃ r, v = .sl r ∧ K r h') x0 x1 h) : callS (Sat Tryz.prog) i_spec_l04Pairs [.agg x0, .agg x1] h K := by
  have := Sat.ex tok mixed spec_l04Pairs_M Tryz.func47 (c := bodyOf Tryz.f47) (by kernel_rfl) (calls_of Tryz.func47 (c := bodyOf Tryz.f47) (by kernel_rfl) (by decide)) ((spec_l04Pairs_main_link _ _ x0 x1 h).mpr hm)
  obtain ⟨v, h2, h3, r, rfl, h4⟩ := this; exact ⟨r, h2, h3, h4⟩

/-! ### loop.example/g01354/spec.l04Sorted -/
def spec_l04Sorted_M : Nat → List Nat := fun i => bif i == 0 then [4, 5, 6, 7, 8] else []
def spec_l04Sorted_ks6 (S : SatT) (K : AVal → H → Prop) : Kont := kSeq (cwp S tab spec_l04Sorted_M [] (sub [1, 1, 1, 1, 1] (bodyOf Tryz.f96)) (kFun tab (Tryz.f96).results.toList K)) (kFun tab (Tryz.f96).results.toList K)
def spec_l04Sorted_e0 (s4_ : Sl) (s5_ : Sl) (s6_ : Sl) (i7_ : Int) (i8_ : Int) : Frame := [U, U, U, U, .sl s4_, .sl s5_, .sl s6_, .int .i64 i7_, .int .i64 i8_, U, U, U, U, U, U, U, U, U, U, U, U, U, U, U, U, U, U, U, U, U, U, U, U, U, U, U, U, U, U, U, U, U, U, U, U, U, U, U, U, U, U, U, U, U, U, U, U, U, U, U, U, U, U, U, U, U, U, U, U, U, U, U, U, U, U, U, U, U, U, U, U, U, U, U, U, U, U, U, U, U, U, U, U, U]
def spec_l04Sorted_w0 (S : SatT) (K : AVal → H → Prop) : (Frame → H → Prop) → Frame → H → Prop := fun X fr h => cwp S tab spec_l04Sorted_M (spec_l04Sorted_M 0) (sub [1, 1, 1, 1, 0, 1, 0, 0] (bodyOf Tryz.f96)) (kSeq (fun fr h => X (mask (spec_l04Sorted_M 0) fr) h) (kBlk 0 (spec_l04Sorted_ks6 S K))) fr h
def spec_l04Sorted_L0 (S : SatT) (K : AVal → H → Prop) (s4_ : Sl) (s5_ : Sl) (s6_ : Sl) (i7_ : Int) (i8_ : Int) (h : H) : Prop := loopK (spec_l04Sorted_w0 S K) (spec_l04Sorted_e0 s4_ s5_ s6_ i7_ i8_) h
def spec_l04Sorted_C0 (S : SatT) (K : AVal → H → Prop) (s6_ : Sl) (h : H) : Prop :=
 K (.sl s6_) h
def spec_l04Sorted_b0 (S : SatT) (K : AVal → H → Prop) (X0 : Frame → H → Prop) (s4_ : Sl) (s5_ : Sl) (s6_ : Sl) (i7_ : Int) (i8_ : Int) (h : H) : Prop :=
 bif (decide (i7_ < (s4_.len : Int))) then
 bif (i8_ == (s5_.len : Int)) then
 ixS s4_ 1 i7_ fun p0 =>
 ldI .i64 p0 h fun n1 =>
 newS 1 1 [.int .i64 n1] h fun s2 h3 =>
 app s6_ s2 1 h3 fun s4 h5 =>
 X0 (spec_l04Sorted_e0 s4_ s5_ s4 (w64 (i7_ + (1))) i8_) h5
 else
 bif (decide (i7_ < (s4_.len : Int))) then
 ixS s4_ 1 i7_ fun p6 =>
 ldI .i64 p6 h fun n7 =>
 ixS s5_ 1 i8_ fun p8 =>
 ldI .i64 p8 h fun n9 =>
 bif (decide (n7 < n9)) then
 ixS s4_ 1 i7_ fun p10 =>
 ldI .i64 p10 h fun n11 =>
 newS 1 1 [.int .i64 n11] h fun s12 h13 =>
 app s6_ s12 1 h13 fun s14 h15 =>
 X0 (spec_l04Sorted_e0 s4_ s5_ s14 (w64 (i7_ + (1))) i8_) h15
 else
 bif (i7_ == (s4_.len : Int)) then
 ixS s5_ 1 i8_ fun p16 =>
 ldI .i64 p16 h fun n17 =>
 newS 1 1 [.int .i64 n17] h fun s18 h19 =>
 app s6_ s18 1 h19 fun s20 h21 =>
 X0 (spec_l04Sorted_e0 s4_ s5_ s20 i7_ (w64 (i8_ + (1)))) h21
 else
 ixS s5_ 1 i8_ fun p22 =>
 ldI .i64 p22 h fun n23 =>
 ixS s4_ 1 i7_ fun p24 =>
 ldI .i64 p24 h fun n25 =>
 bif (decide (n23 < n25)) then
 ixS s5_ 1 i8_ fun p26 =>
 ldI .i64 p26 h fun n27 =>
 newS 1 1 [.int .i64 n27] h fun s28 h29 =>
 app s6_ s28 1 h29 fun s30 h31 =>
 X0 (spec_l04Sorted_e0 s4_ s5_ s30 i7_ (w64 (i8_ + (1)))) h31
 else
 X0 (spec_l04Sorted_e0 s4_ s5_ s6_ (w64 (i7_ + (1))) i8_) h
 else
 bif (i7_ == (s4_.len : Int)) then
 ixS s5_ 1 i8_ fun p32 =>
 ldI .i64 p32 h fun n33 =>
 newS 1 1 [.int .i64 n33] h fun s34 h35 =>
 app s6_ s34 1 h35 fun s36 h37 =>
 X0 (spec_l04Sorted_e0 s4_ s5_ s36 i7_ (w64 (i8_ + (1)))) h37
 else
 ixS s5_ 1 i8_ fun p38 =>
 ldI .i64 p38 h fun n39 =>
 ixS s4_ 1 i7_ fun p40 =>
 ldI .i64 p40 h fun n41 =>
 bif (decide (n39 < n41)) then
 ixS s5_ 1 i8_ fun p42 =>
 ldI .i64 p42 h fun n43 =>
 newS 1 1 [.int .i64 n43] h fun s44 h45 =>
 app s6_ s44 1 h45 fun s46 h47 =>
 X0 (spec_l04Sorted_e0 s4_ s5_ s46 i7_ (w64 (i8_ + (1)))) h47
 else
 X0 (spec_l04Sorted_e0 s4_ s5_ s6_ (w64 (i7_ + (1))) i8_) h
 else
 bif (decide (i8_ < (s5_.len : Int))) then
 bif (i8_ == (s5_.len : Int)) then
 ixS s4_ 1 i7_ fun p48 =>
 ldI .i64 p48 h fun n49 =>
 newS 1 1 [.int .i64 n49] h fun s50 h51 =>
 app s6_ s50 1 h51 fun s52 h53 =>
 X0 (spec_l04Sorted_e0 s4_ s5_ s52 (w64 (i7_ + (1))) i8_) h53
 else
 bif (decide (i7_ < (s4_.len : Int))) then
 ixS s4_ 1 i7_ fun p54 =>
 ldI .i64 p54 h fun n55 =>
 ixS s5_ 1 i8_ fun p56 =>
 ldI .i64 p56 h fun n57 =>
 bif (decide (n55 < n57)) then
 ixS s4_ 1 i7_ fun p58 =>
 ldI .i64 p58 h fun n59 =>
 newS 1 1 [.int .i64 n59] h fun s60 h61 =>
 app s6_ s60 1 h61 fun s62 h63 =>
 X0 (spec_l04Sorted_e0 s4_ s5_ s62 (w64 (i7_ + (1))) i8_) h63
 else
 bif (i7_ == (s4_.len : Int)) then
 ixS s5_ 1 i8_ fun p64 =>
 ldI .i64 p64 h fun n65 =>
 newS 1 1 [.int .i64 n65] h fun s66 h67 =>
 app s6_ s66 1 h67 fun s68 h69 =>
 X0 (spec_l04Sorted_e0 s4_ s5_ s68 i7_ (w64 (i8_ + (1)))) h69
 else
 ixS s5_ 1 i8_ fun p70 =>
 ldI .i64 p70 h fun n71 =>
 ixS s4_ 1 i7_ fun p72 =>
 ldI .i64 p72 h fun n73 =>
 bif (decide (n71 < n73)) then
 ixS s5_ 1 i8_ fun p74 =>
 ldI .i64 p74 h fun n75 =>
 newS 1 1 [.int .i64 n75] h fun s76 h77 =>
 app s6_ s76 1 h77 fun s78 h79 =>
 X0 (spec_l04Sorted_e0 s4_ s5_ s78 i7_ (w64 (i8_ + (1)))) h79
 else
 X0 (spec_l04Sorted_e0 s4_ s5_ s6_ (w64 (i7_ + (1))) i8_) h
 else
 bif (i7_ == (s4_.len : Int)) then
 ixS s5_ 1 i8_ fun p80 =>
 ldI .i64 p80 h fun n81 =>
 newS 1 1 [.int .i64 n81] h fun s82 h83 =>
 app s6_ s82 1 h83 fun s84 h85 =>
 X0 (spec_l04Sorted_e0 s4_ s5_ s84 i7_ (w64 (i8_ + (1)))) h85
 else
 ixS s5_ 1 i8_ fun p86 =>
 ldI .i64 p86 h fun n87 =>
 ixS s4_ 1 i7_ fun p88 =>
 ldI .i64 p88 h fun n89 =>
 bif (decide (n87 < n89)) then
 ixS s5_ 1 i8_ fun p90 =>
 ldI .i64 p90 h fun n91 =>
 newS 1 1 [.int .i64 n91] h fun s92 h93 =>
 app s6_ s92 1 h93 fun s94 h95 =>
 X0 (spec_l04Sorted_e0 s4_ s5_ s94 i7_ (w64 (i8_ + (1)))) h95
 else
 X0 (spec_l04Sorted_e0 s4_ s5_ s6_ (w64 (i7_ + (1))) i8_) h
 else
 spec_l04Sorted_C0 S K s6_ h
theorem spec_l04Sorted_link0 (S : SatT) (K : AVal → H → Prop) (X0 : Frame → H → Prop) (s4_ : Sl) (s5_ : Sl) (s6_ : Sl) (i7_ : Int) (i8_ : Int) (h : H) : spec_l04Sorted_w0 S K X0 (spec_l04Sorted_e0 s4_ s5_ s6_ i7_ i8_) h = spec_l04Sorted_b0 S K X0 s4_ s5_ s6_ i7_ i8_ h := by kernel_rfl
theorem spec_l04Sorted_rule0 (S : SatT) (K : AVal → H → Prop) (s4_ : Sl) (s5_ : Sl) (I_ : Sl → Int → Int → H → Prop) (m_ : Sl → Int → Int → H → Nat)
    (hs : ∀ (X0 : Frame → H → Prop) (s6_ : Sl) (i7_ : Int) (i8_ : Int) (h : H), I_ s6_ i7_ i8_ h → (∀ (s6_' : Sl) (i7_' : Int) (i8_' : Int) (h' : H), I_ s6_' i7_' i8_' h' → m_ s6_' i7_' i8_' h' < m_ s6_ i7_ i8_ h → X0 (spec_l04Sorted_e0 s4_ s5_ s6_' i7_' i8_') h') → spec_l04Sorted_b0 S K X0 s4_ s5_ s6_ i7_ i8_ h) (s6_ : Sl) (i7_ : Int) (i8_ : Int) {h : H} (h0 : I_ s6_ i7_ i8_ h) : spec_l04Sorted_L0 S K s4_ s5_ s6_ i7_ i8_ h :=
  loop_rule (σ := (Sl) × (Int) × (Int)) (fun s_ => spec_l04Sorted_e0 s4_ s5_ (s_.1) (s_.2.1) (s_.2.2)) (fun s_ h => I_ (s_.1) (s_.2.1) (s_.2.2) h) (fun s_ h => m_ (s_.1) (s_.2.1) (s_.2.2) h)
    (fun X s_ h hi hx => (spec_l04Sorted_link0 S K X s4_ s5_ (s_.1) (s_.2.1) (s_.2.2) h).mpr (hs X (s_.1) (s_.2.1) (s_.2.2) h hi fun s6_' i7_' i8_' h' hi' hm' => hx (s6_', i7_', i8_') h' hi' hm')) (s6_, i7_, i8_) h0
def spec_l04Sorted_main (S : SatT) (K : AVal → H → Prop) (x0 : Sl) (h : H) : Prop :=
 bif (decide ((x0.len : Int) < (2))) then
 K (.sl x0) h
 else
 nz (2) (
 slotK 12 h fun h0 =>
 cut x0 1 (0) (w64 (Int.tdiv (x0.len : Int) (2))) h0 fun s1 =>
 callS S i_spec_l04Sorted [.sl s1] h0 fun s3 h2 =>
 cut x0 1 (w64 (Int.tdiv (x0.len : Int) (2))) (x0.len : Int) h2 fun s4 =>
 okS h0 x0 ∧ (
 callS S i_spec_l04Sorted [.sl s4] h2 fun s6 h5 =>
 newSat 0 1 [] h5 (h.length + 8) fun s7 h8 =>
 okS h5 x0 ∧ (
 okS h5 x0 ∧ (
 okS h8 x0 ∧ (
 okS h8 x0 ∧ (
 spec_l04Sorted_L0 S K s3 s6 s7 (0) (0) h8))))))
theorem spec_l04Sorted_main_link (S : SatT) (K : AVal → H → Prop) (x0 : Sl) (h : H) : cwp S tab spec_l04Sorted_M [] (bodyOf Tryz.f96) (kFun tab Tryz.f96.results.toList K) (fr0 Tryz.f96 [.sl x0]) h = spec_l04Sorted_main S K x0 h := by kernel_rfl
theorem spec_l04Sorted_call (x0 : Sl) (h : H) (K : Sl → H → Prop) (hm : spec_l04Sorted_main (Sat Tryz.prog) (fun v h' => ∃ r, v = .sl r ∧ K r h') x0 h) : callS (Sat Tryz.prog) i_spec_l04Sorted [.sl x0] h K := by
  have := Sat.ex tok mixed spec_l04Sorted_M Tryz.func96 (c := bodyOf Tryz.f96) (by kernel_rfl) (calls_of Tryz.func96 (c := bodyOf Tryz.f96) (by kernel_rfl) (by decide)) ((spec_l04Sorted_main_link _ _ x0 h).mpr hm)
  obtain ⟨v, h2, h3, r, rfl, h4⟩ := this; exact ⟨r, h2, h3, h4⟩

end Go.Proofs.YtcoampecbpiecaaGreat.Cl
