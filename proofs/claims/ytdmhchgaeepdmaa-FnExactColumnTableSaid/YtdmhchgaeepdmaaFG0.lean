/- Typed forms of functions, and their links. No claim is stated here. -/
import Derived.Test.YtdmhchgaeepdmaaFT
/- Typed forms of functions of the program, and their links. Printed by program. No claim is stated here. -/
set_option linter.unusedVariables false
namespace Go.Proofs.Ytdmhchgaeepdmaa.Cl
open Go
/-! ### (*loop.example/g01354/impl.strip).lasting -/
def impl_strip_lasting_M : Nat → List Nat := fun i => bif i == 4 then [4, 5, 6, 7, 9, 64, 65, 66] else bif i == 2 then [0, 4, 5, 6, 7, 9, 51, 52] else bif i == 0 then [0, 4, 5, 6, 7, 25, 26] else []
def impl_strip_lasting_ks3 (S : SatT) (K : AVal → H → Prop) : Kont := kSeq (cwp S tab impl_strip_lasting_M [] (sub [1, 1, 1, 1] (bodyOf Try.f102)) (kFun tab (Try.f102).results.toList K)) (kFun tab (Try.f102).results.toList K)
def impl_strip_lasting_e0 (p0_ : Pt) (s4_ : Sl) (s5_ : Sl) (s6_ : Sl) (s7_ : Sl) (i25_ : Int) (i26_ : Int) : Frame := [.ptr p0_, U, U, U, .sl s4_, .sl s5_, .sl s6_, .sl s7_, U, U, U, U, U, U, U, U, U, U, U, U, U, U, U, U, U, .int .i64 i25_, .int .i64 i26_, U, U, U, U, U, U, U, U, U, U, U, U, U, U, U, U, U, U, U, U, U, U, U, U, U, U, U, U, U, U, U, U, U, U, U, U, U, U, U, U, U, U, U, U, U, U, U, U, U, U, U, U, U, U, U, U, U, U, U, U, U, U, U, U, U, U, U, U, U, U, U, U, U, U, U]
def impl_strip_lasting_w0 (S : SatT) (K : AVal → H → Prop) : (Frame → H → Prop) → Frame → H → Prop := fun X fr h => cwp S tab impl_strip_lasting_M (impl_strip_lasting_M 0) (sub [1, 1, 1, 0, 1, 0, 0] (bodyOf Try.f102)) (kSeq (fun fr h => X (mask (impl_strip_lasting_M 0) fr) h) (kBlk 0 (impl_strip_lasting_ks3 S K))) fr h
def impl_strip_lasting_L0 (S : SatT) (K : AVal → H → Prop) (p0_ : Pt) (s4_ : Sl) (s5_ : Sl) (s6_ : Sl) (s7_ : Sl) (i25_ : Int) (i26_ : Int) (h : H) : Prop := loopK (impl_strip_lasting_w0 S K) (impl_strip_lasting_e0 p0_ s4_ s5_ s6_ s7_ i25_ i26_) h
def impl_strip_lasting_ks12 (S : SatT) (K : AVal → H → Prop) : Kont := kSeq (cwp S tab impl_strip_lasting_M [] (sub [1, 1, 1, 1, 1, 1] (bodyOf Try.f102)) (kFun tab (Try.f102).results.toList K)) (kFun tab (Try.f102).results.toList K)
def impl_strip_lasting_e2 (p0_ : Pt) (s4_ : Sl) (s5_ : Sl) (s6_ : Sl) (s7_ : Sl) (s9_ : Sl) (i51_ : Int) (i52_ : Int) : Frame := [.ptr p0_, U, U, U, .sl s4_, .sl s5_, .sl s6_, .sl s7_, U, .sl s9_, U, U, U, U, U, U, U, U, U, U, U, U, U, U, U, U, U, U, U, U, U, U, U, U, U, U, U, U, U, U, U, U, U, U, U, U, U, U, U, U, U, .int .i64 i51_, .int .i64 i52_, U, U, U, U, U, U, U, U, U, U, U, U, U, U, U, U, U, U, U, U, U, U, U, U, U, U, U, U, U, U, U, U, U, U, U, U, U, U, U, U, U, U, U, U, U, U, U, U, U]
def impl_strip_lasting_w2 (S : SatT) (K : AVal → H → Prop) : (Frame → H → Prop) → Frame → H → Prop := fun X fr h => cwp S tab impl_strip_lasting_M (impl_strip_lasting_M 2) (sub [1, 1, 1, 1, 1, 0, 1, 0, 0] (bodyOf Try.f102)) (kSeq (fun fr h => X (mask (impl_strip_lasting_M 2) fr) h) (kBlk 2 (impl_strip_lasting_ks12 S K))) fr h
def impl_strip_lasting_L2 (S : SatT) (K : AVal → H → Prop) (p0_ : Pt) (s4_ : Sl) (s5_ : Sl) (s6_ : Sl) (s7_ : Sl) (s9_ : Sl) (i51_ : Int) (i52_ : Int) (h : H) : Prop := loopK (impl_strip_lasting_w2 S K) (impl_strip_lasting_e2 p0_ s4_ s5_ s6_ s7_ s9_ i51_ i52_) h
def impl_strip_lasting_ks17 (S : SatT) (K : AVal → H → Prop) : Kont := kSeq (cwp S tab impl_strip_lasting_M [] (sub [1, 1, 1, 1, 1, 1, 1] (bodyOf Try.f102)) (kFun tab (Try.f102).results.toList K)) (kFun tab (Try.f102).results.toList K)
def impl_strip_lasting_e4 (s4_ : Sl) (s5_ : Sl) (s6_ : Sl) (s7_ : Sl) (s9_ : Sl) (s64_ : Sl) (i65_ : Int) (i66_ : Int) : Frame := [U, U, U, U, .sl s4_, .sl s5_, .sl s6_, .sl s7_, U, .sl s9_, U, U, U, U, U, U, U, U, U, U, U, U, U, U, U, U, U, U, U, U, U, U, U, U, U, U, U, U, U, U, U, U, U, U, U, U, U, U, U, U, U, U, U, U, U, U, U, U, U, U, U, U, U, U, .sl s64_, .int .i64 i65_, .int .i64 i66_, U, U, U, U, U, U, U, U, U, U, U, U, U, U, U, U, U, U, U, U, U, U, U, U, U, U, U, U, U, U, U, U, U, U, U]
def impl_strip_lasting_w4 (S : SatT) (K : AVal → H → Prop) : (Frame → H → Prop) → Frame → H → Prop := fun X fr h => cwp S tab impl_strip_lasting_M (impl_strip_lasting_M 4) (sub [1, 1, 1, 1, 1, 1, 0, 1, 0, 0] (bodyOf Try.f102)) (kSeq (fun fr h => X (mask (impl_strip_lasting_M 4) fr) h) (kBlk 4 (impl_strip_lasting_ks17 S K))) fr h
def impl_strip_lasting_L4 (S : SatT) (K : AVal → H → Prop) (s4_ : Sl) (s5_ : Sl) (s6_ : Sl) (s7_ : Sl) (s9_ : Sl) (s64_ : Sl) (i65_ : Int) (i66_ : Int) (h : H) : Prop := loopK (impl_strip_lasting_w4 S K) (impl_strip_lasting_e4 s4_ s5_ s6_ s7_ s9_ s64_ i65_ i66_) h
def impl_strip_lasting_C4 (S : SatT) (K : AVal → H → Prop) (s6_ : Sl) (s9_ : Sl) (h : H) : Prop :=
 K (.tuple [.sl s6_, .sl s9_]) h
def impl_strip_lasting_b4 (S : SatT) (K : AVal → H → Prop) (X4 : Frame → H → Prop) (s4_ : Sl) (s5_ : Sl) (s6_ : Sl) (s7_ : Sl) (s9_ : Sl) (s64_ : Sl) (i65_ : Int) (i66_ : Int) (h : H) : Prop :=
 bif (decide (i66_ < i65_)) then
 ixS s64_ 3 i66_ fun p0 =>
 ldA p0 3 h fun cs1 =>
 newO [.int .i64 (0), .int .i64 (0), .int .i64 (0)] h fun p2 h3 =>
 stN p2 3 cs1 h3 fun h4 =>
 ixA p2 3 1 (0) fun p5 =>
 ldI .i64 p5 h4 fun n6 =>
 ixS s4_ 1 n6 fun p7 =>
 ldB p7 h4 fun b8 =>
 bif b8 then
 ixA p2 3 1 (1) fun p9 =>
 ldI .i64 p9 h4 fun n10 =>
 ixS s5_ 1 n10 fun p11 =>
 ldB p11 h4 fun b12 =>
 bif b12 then
 ixA p2 3 1 (0) fun p13 =>
 ldI .i64 p13 h4 fun n14 =>
 ixS s7_ 1 n14 fun p15 =>
 ldI .i64 p15 h4 fun n16 =>
 ixS s9_ 1 n16 fun p17 =>
 ldS p17 h4 fun s18 =>
 ixA p2 3 1 (1) fun p19 =>
 ldI .i64 p19 h4 fun n20 =>
 ixS s7_ 1 n20 fun p21 =>
 ldI .i64 p21 h4 fun n22 =>
 ixS s18 1 n22 fun p23 =>
 ldI .i64 p23 h4 fun n24 =>
 ixS s18 1 n22 fun p25 =>
 st1 p25 (.int .i64 (w64 (n24 + (1)))) h4 fun h26 =>
 X4 (impl_strip_lasting_e4 s4_ s5_ s6_ s7_ s9_ s64_ i65_ (w64 (i66_ + (1)))) h26
 else
 X4 (impl_strip_lasting_e4 s4_ s5_ s6_ s7_ s9_ s64_ i65_ (w64 (i66_ + (1)))) h4
 else
 X4 (impl_strip_lasting_e4 s4_ s5_ s6_ s7_ s9_ s64_ i65_ (w64 (i66_ + (1)))) h4
 else
 impl_strip_lasting_C4 S K s6_ s9_ h
theorem impl_strip_lasting_link4 (S : SatT) (K : AVal → H → Prop) (X4 : Frame → H → Prop) (s4_ : Sl) (s5_ : Sl) (s6_ : Sl) (s7_ : Sl) (s9_ : Sl) (s64_ : Sl) (i65_ : Int) (i66_ : Int) (h : H) : impl_strip_lasting_w4 S K X4 (impl_strip_lasting_e4 s4_ s5_ s6_ s7_ s9_ s64_ i65_ i66_) h = impl_strip_lasting_b4 S K X4 s4_ s5_ s6_ s7_ s9_ s64_ i65_ i66_ h := by kernel_rfl
theorem impl_strip_lasting_rule4 (S : SatT) (K : AVal → H → Prop) (s4_ : Sl) (s5_ : Sl) (s6_ : Sl) (s7_ : Sl) (s9_ : Sl) (s64_ : Sl) (i65_ : Int) (I_ : Int → H → Prop) (m_ : Int → H → Nat)
    (hs : ∀ (X4 : Frame → H → Prop) (i66_ : Int) (h : H), I_ i66_ h → (∀ (i66_' : Int) (h' : H), I_ i66_' h' → m_ i66_' h' < m_ i66_ h → X4 (impl_strip_lasting_e4 s4_ s5_ s6_ s7_ s9_ s64_ i65_ i66_') h') → impl_strip_lasting_b4 S K X4 s4_ s5_ s6_ s7_ s9_ s64_ i65_ i66_ h) (i66_ : Int) {h : H} (h0 : I_ i66_ h) : impl_strip_lasting_L4 S K s4_ s5_ s6_ s7_ s9_ s64_ i65_ i66_ h :=
  loop_rule (σ := (Int)) (fun s_ => impl_strip_lasting_e4 s4_ s5_ s6_ s7_ s9_ s64_ i65_ (s_)) (fun s_ h => I_ (s_) h) (fun s_ h => m_ (s_) h)
    (fun X s_ h hi hx => (impl_strip_lasting_link4 S K X s4_ s5_ s6_ s7_ s9_ s64_ i65_ (s_) h).mpr (hs X (s_) h hi fun i66_' h' hi' hm' => hx (i66_') h' hi' hm')) (i66_) h0
theorem impl_strip_lasting_unroll4 (S : SatT) (K : AVal → H → Prop) (s4_ : Sl) (s5_ : Sl) (s6_ : Sl) (s7_ : Sl) (s9_ : Sl) (s64_ : Sl) (i65_ : Int) (i66_ : Int) (h : H) (hb : impl_strip_lasting_b4 S K (fun fr h => loopK (impl_strip_lasting_w4 S K) fr h) s4_ s5_ s6_ s7_ s9_ s64_ i65_ i66_ h) : impl_strip_lasting_L4 S K s4_ s5_ s6_ s7_ s9_ s64_ i65_ i66_ h := loop_unroll ((impl_strip_lasting_link4 S K _ s4_ s5_ s6_ s7_ s9_ s64_ i65_ i66_ h).mpr hb)
def impl_strip_lasting_C2 (S : SatT) (K : AVal → H → Prop) (p0_ : Pt) (s4_ : Sl) (s5_ : Sl) (s6_ : Sl) (s7_ : Sl) (s9_ : Sl) (h : H) : Prop :=
 nilC (.ptr p0_) (
 isPt p0_ (
 ldS (Pt.add p0_ 4) h fun s0 =>
 impl_strip_lasting_L4 S K s4_ s5_ s6_ s7_ s9_ s0 (s0.len : Int) (0) h))
def impl_strip_lasting_b2 (S : SatT) (K : AVal → H → Prop) (X2 : Frame → H → Prop) (p0_ : Pt) (s4_ : Sl) (s5_ : Sl) (s6_ : Sl) (s7_ : Sl) (s9_ : Sl) (i51_ : Int) (i52_ : Int) (h : H) : Prop :=
 bif (decide (i52_ < i51_)) then
 mkS (s6_.len : Int) [.int .i64 (0)] h fun s0 h1 =>
 newS 1 1 [.sl s0] h1 fun s2 h3 =>
 app s9_ s2 1 h3 fun s4 h5 =>
 X2 (impl_strip_lasting_e2 p0_ s4_ s5_ s6_ s7_ s4 i51_ (w64 (i52_ + (1)))) h5
 else
 impl_strip_lasting_C2 S K p0_ s4_ s5_ s6_ s7_ s9_ h
theorem impl_strip_lasting_link2 (S : SatT) (K : AVal → H → Prop) (X2 : Frame → H → Prop) (p0_ : Pt) (s4_ : Sl) (s5_ : Sl) (s6_ : Sl) (s7_ : Sl) (s9_ : Sl) (i51_ : Int) (i52_ : Int) (h : H) : impl_strip_lasting_w2 S K X2 (impl_strip_lasting_e2 p0_ s4_ s5_ s6_ s7_ s9_ i51_ i52_) h = impl_strip_lasting_b2 S K X2 p0_ s4_ s5_ s6_ s7_ s9_ i51_ i52_ h := by kernel_rfl
theorem impl_strip_lasting_rule2 (S : SatT) (K : AVal → H → Prop) (p0_ : Pt) (s4_ : Sl) (s5_ : Sl) (s6_ : Sl) (s7_ : Sl) (i51_ : Int) (I_ : Sl → Int → H → Prop) (m_ : Sl → Int → H → Nat)
    (hs : ∀ (X2 : Frame → H → Prop) (s9_ : Sl) (i52_ : Int) (h : H), I_ s9_ i52_ h → (∀ (s9_' : Sl) (i52_' : Int) (h' : H), I_ s9_' i52_' h' → m_ s9_' i52_' h' < m_ s9_ i52_ h → X2 (impl_strip_lasting_e2 p0_ s4_ s5_ s6_ s7_ s9_' i51_ i52_') h') → impl_strip_lasting_b2 S K X2 p0_ s4_ s5_ s6_ s7_ s9_ i51_ i52_ h) (s9_ : Sl) (i52_ : Int) {h : H} (h0 : I_ s9_ i52_ h) : impl_strip_lasting_L2 S K p0_ s4_ s5_ s6_ s7_ s9_ i51_ i52_ h :=
  loop_rule (σ := (Sl) × (Int)) (fun s_ => impl_strip_lasting_e2 p0_ s4_ s5_ s6_ s7_ (s_.1) i51_ (s_.2)) (fun s_ h => I_ (s_.1) (s_.2) h) (fun s_ h => m_ (s_.1) (s_.2) h)
    (fun X s_ h hi hx => (impl_strip_lasting_link2 S K X p0_ s4_ s5_ s6_ s7_ (s_.1) i51_ (s_.2) h).mpr (hs X (s_.1) (s_.2) h hi fun s9_' i52_' h' hi' hm' => hx (s9_', i52_') h' hi' hm')) (s9_, i52_) h0
theorem impl_strip_lasting_unroll2 (S : SatT) (K : AVal → H → Prop) (p0_ : Pt) (s4_ : Sl) (s5_ : Sl) (s6_ : Sl) (s7_ : Sl) (s9_ : Sl) (i51_ : Int) (i52_ : Int) (h : H) (hb : impl_strip_lasting_b2 S K (fun fr h => loopK (impl_strip_lasting_w2 S K) fr h) p0_ s4_ s5_ s6_ s7_ s9_ i51_ i52_ h) : impl_strip_lasting_L2 S K p0_ s4_ s5_ s6_ s7_ s9_ i51_ i52_ h := loop_unroll ((impl_strip_lasting_link2 S K _ p0_ s4_ s5_ s6_ s7_ s9_ i51_ i52_ h).mpr hb)
def impl_strip_lasting_C0 (S : SatT) (K : AVal → H → Prop) (p0_ : Pt) (s4_ : Sl) (s5_ : Sl) (s6_ : Sl) (s7_ : Sl) (h : H) : Prop :=
 newS 0 1 [] h fun s0 h1 =>
 impl_strip_lasting_L2 S K p0_ s4_ s5_ s6_ s7_ s0 (s6_.len : Int) (0) h1
def impl_strip_lasting_b0 (S : SatT) (K : AVal → H → Prop) (X0 : Frame → H → Prop) (p0_ : Pt) (s4_ : Sl) (s5_ : Sl) (s6_ : Sl) (s7_ : Sl) (i25_ : Int) (i26_ : Int) (h : H) : Prop :=
 bif (decide (i26_ < i25_)) then
 ixS s4_ 1 i26_ fun p0 =>
 ldB p0 h fun b1 =>
 bif b1 then
 ixS s5_ 1 i26_ fun p2 =>
 ldB p2 h fun b3 =>
 bif b3 then
 ixS s7_ 1 i26_ fun p4 =>
 st1 p4 (.int .i64 (s6_.len : Int)) h fun h5 =>
 newS 1 1 [.int .i64 i26_] h5 fun s6 h7 =>
 app s6_ s6 1 h7 fun s8 h9 =>
 X0 (impl_strip_lasting_e0 p0_ s4_ s5_ s8 s7_ i25_ (w64 (i26_ + (1)))) h9
 else
 X0 (impl_strip_lasting_e0 p0_ s4_ s5_ s6_ s7_ i25_ (w64 (i26_ + (1)))) h
 else
 X0 (impl_strip_lasting_e0 p0_ s4_ s5_ s6_ s7_ i25_ (w64 (i26_ + (1)))) h
 else
 impl_strip_lasting_C0 S K p0_ s4_ s5_ s6_ s7_ h
theorem impl_strip_lasting_link0 (S : SatT) (K : AVal → H → Prop) (X0 : Frame → H → Prop) (p0_ : Pt) (s4_ : Sl) (s5_ : Sl) (s6_ : Sl) (s7_ : Sl) (i25_ : Int) (i26_ : Int) (h : H) : impl_strip_lasting_w0 S K X0 (impl_strip_lasting_e0 p0_ s4_ s5_ s6_ s7_ i25_ i26_) h = impl_strip_lasting_b0 S K X0 p0_ s4_ s5_ s6_ s7_ i25_ i26_ h := by kernel_rfl
theorem impl_strip_lasting_rule0 (S : SatT) (K : AVal → H → Prop) (p0_ : Pt) (s4_ : Sl) (s5_ : Sl) (s7_ : Sl) (i25_ : Int) (I_ : Sl → Int → H → Prop) (m_ : Sl → Int → H → Nat)
    (hs : ∀ (X0 : Frame → H → Prop) (s6_ : Sl) (i26_ : Int) (h : H), I_ s6_ i26_ h → (∀ (s6_' : Sl) (i26_' : Int) (h' : H), I_ s6_' i26_' h' → m_ s6_' i26_' h' < m_ s6_ i26_ h → X0 (impl_strip_lasting_e0 p0_ s4_ s5_ s6_' s7_ i25_ i26_') h') → impl_strip_lasting_b0 S K X0 p0_ s4_ s5_ s6_ s7_ i25_ i26_ h) (s6_ : Sl) (i26_ : Int) {h : H} (h0 : I_ s6_ i26_ h) : impl_strip_lasting_L0 S K p0_ s4_ s5_ s6_ s7_ i25_ i26_ h :=
  loop_rule (σ := (Sl) × (Int)) (fun s_ => impl_strip_lasting_e0 p0_ s4_ s5_ (s_.1) s7_ i25_ (s_.2)) (fun s_ h => I_ (s_.1) (s_.2) h) (fun s_ h => m_ (s_.1) (s_.2) h)
    (fun X s_ h hi hx => (impl_strip_lasting_link0 S K X p0_ s4_ s5_ (s_.1) s7_ i25_ (s_.2) h).mpr (hs X (s_.1) (s_.2) h hi fun s6_' i26_' h' hi' hm' => hx (s6_', i26_') h' hi' hm')) (s6_, i26_) h0
theorem impl_strip_lasting_unroll0 (S : SatT) (K : AVal → H → Prop) (p0_ : Pt) (s4_ : Sl) (s5_ : Sl) (s6_ : Sl) (s7_ : Sl) (i25_ : Int) (i26_ : Int) (h : H) (hb : impl_strip_lasting_b0 S K (fun fr h => loopK (impl_strip_lasting_w0 S K) fr h) p0_ s4_ s5_ s6_ s7_ i25_ i26_ h) : impl_strip_lasting_L0 S K p0_ s4_ s5_ s6_ s7_ i25_ i26_ h := loop_unroll ((impl_strip_lasting_link0 S K _ p0_ s4_ s5_ s6_ s7_ i25_ i26_ h).mpr hb)
def impl_strip_lasting_main (S : SatT) (K : AVal → H → Prop) (x0 : Pt) (h : H) : Prop :=
 callS S i_impl_strip_endless [.ptr x0, .int .i64 (1), .int .i64 (0)] h fun s1 h0 =>
 callS S i_impl_strip_endless [.ptr x0, .int .i64 (0), .int .i64 (1)] h0 fun s3 h2 =>
 slotK 8 h2 fun h4 =>
 nilC (.ptr x0) (
 isPt x0 (
 ldI .i64 (Pt.add x0 3) h4 fun n5 =>
 newSat 0 1 [] h4 (h2.length + 0) fun s6 h7 =>
(cell h7 (Pt.add x0 3) = cell h4 (Pt.add x0 3)) ∧ (
 mkSat n5 [.int .i64 (0)] h7 (h2.length + 5) fun s8 h9 =>
 nilC (.ptr x0) (
 isPt x0 (
 ldI .i64 (Pt.add x0 3) h9 fun n10 =>
 impl_strip_lasting_L0 S K x0 s1 s3 s6 s8 n10 (0) h9)))))
theorem impl_strip_lasting_main_link (S : SatT) (K : AVal → H → Prop) (x0 : Pt) (h : H) : cwp S tab impl_strip_lasting_M [] (bodyOf Try.f102) (kFun tab Try.f102.results.toList K) (fr0 Try.f102 [.ptr x0]) h = impl_strip_lasting_main S K x0 h := by kernel_rfl
theorem impl_strip_lasting_call (x0 : Pt) (h : H) (K : AVal → H → Prop) (hm : impl_strip_lasting_main (Sat Try.prog) (fun v h' => K v h') x0 h) : callV (Sat Try.prog) i_impl_strip_lasting [.ptr x0] h K := by
  have := Sat.ex tok mixed impl_strip_lasting_M Try.func102 (c := bodyOf Try.f102) (by kernel_rfl) (calls_of Try.func102 (c := bodyOf Try.f102) (by kernel_rfl) (by decide)) ((impl_strip_lasting_main_link _ _ x0 h).mpr hm)
  exact this

/-! ### (loop.example/g01354/impl.Set).endless -/
def impl_Set_endless_M : Nat → List Nat := fun i => bif i == 2 then [1, 2, 3, 7, 8, 16, 17, 23, 24, 25] else bif i == 0 then [1, 2, 3, 7, 16, 17] else []
def impl_Set_endless_ks2 (S : SatT) (K : AVal → H → Prop) : Kont := kSeq (cwp S tab impl_Set_endless_M [] (sub [1, 1, 1] (bodyOf Try.f59)) (kFun tab (Try.f59).results.toList K)) (kFun tab (Try.f59).results.toList K)
def impl_Set_endless_e0 (i1_ : Int) (i2_ : Int) (p3_ : Pt) (s7_ : Sl) (i16_ : Int) (i17_ : Int) : Frame := [U, .int .i64 i1_, .int .i64 i2_, .ptr p3_, U, U, U, .sl s7_, U, U, U, U, U, U, U, U, .int .i64 i16_, .int .i64 i17_, U, U, U, U, U, U, U, U, U, U, U, U, U, U, U, U, U, U, U, U, U, U, U, U, U, U, U, U, U, U, U, U, U, U]
def impl_Set_endless_w0 (S : SatT) (K : AVal → H → Prop) : (Frame → H → Prop) → Frame → H → Prop := fun X fr h => cwp S tab impl_Set_endless_M (impl_Set_endless_M 0) (sub [1, 1, 0, 1, 0, 0] (bodyOf Try.f59)) (kSeq (fun fr h => X (mask (impl_Set_endless_M 0) fr) h) (kBlk 0 (impl_Set_endless_ks2 S K))) fr h
def impl_Set_endless_L0 (S : SatT) (K : AVal → H → Prop) (i1_ : Int) (i2_ : Int) (p3_ : Pt) (s7_ : Sl) (i16_ : Int) (i17_ : Int) (h : H) : Prop := loopK (impl_Set_endless_w0 S K) (impl_Set_endless_e0 i1_ i2_ p3_ s7_ i16_ i17_) h
def impl_Set_endless_ks6 (S : SatT) (K : AVal → H → Prop) (X0 : Frame → H → Prop) : Kont := kSeq (cwp S tab impl_Set_endless_M (impl_Set_endless_M 0) (sub [1, 1, 0, 1, 0, 0, 1, 1, 1] (bodyOf Try.f59)) (kSeq (fun fr h => X0 (mask (impl_Set_endless_M 0) fr) h) (kBlk 0 (impl_Set_endless_ks2 S K)))) (kSeq (fun fr h => X0 (mask (impl_Set_endless_M 0) fr) h) (kBlk 0 (impl_Set_endless_ks2 S K)))
def impl_Set_endless_ks8 (S : SatT) (K : AVal → H → Prop) (X0 : Frame → H → Prop) : Kont := kSeq (cwp S tab impl_Set_endless_M (impl_Set_endless_M 1) (sub [1, 1, 0, 1, 0, 0, 1, 1, 0, 0, 1, 1] (bodyOf Try.f59)) (kBlk 1 (impl_Set_endless_ks6 S K X0))) (kBlk 1 (impl_Set_endless_ks6 S K X0))
def impl_Set_endless_e2 (i1_ : Int) (i2_ : Int) (p3_ : Pt) (s7_ : Sl) (s8_ : Sl) (i16_ : Int) (i17_ : Int) (s23_ : Sl) (i24_ : Int) (i25_ : Int) : Frame := [U, .int .i64 i1_, .int .i64 i2_, .ptr p3_, U, U, U, .sl s7_, .sl s8_, U, U, U, U, U, U, U, .int .i64 i16_, .int .i64 i17_, U, U, U, U, U, .sl s23_, .int .i64 i24_, .int .i64 i25_, U, U, U, U, U, U, U, U, U, U, U, U, U, U, U, U, U, U, U, U, U, U, U, U, U, U]
def impl_Set_endless_w2 (S : SatT) (K : AVal → H → Prop) (X0 : Frame → H → Prop) : (Frame → H → Prop) → Frame → H → Prop := fun X fr h => cwp S tab impl_Set_endless_M (impl_Set_endless_M 2) (sub [1, 1, 0, 1, 0, 0, 1, 1, 0, 0, 1, 0, 1, 0, 0] (bodyOf Try.f59)) (kSeq (fun fr h => X (mask (impl_Set_endless_M 2) fr) h) (kBlk 2 (impl_Set_endless_ks8 S K X0))) fr h
def impl_Set_endless_L2 (S : SatT) (K : AVal → H → Prop) (X0 : Frame → H → Prop) (i1_ : Int) (i2_ : Int) (p3_ : Pt) (s7_ : Sl) (s8_ : Sl) (i16_ : Int) (i17_ : Int) (s23_ : Sl) (i24_ : Int) (i25_ : Int) (h : H) : Prop := loopK (impl_Set_endless_w2 S K X0) (impl_Set_endless_e2 i1_ i2_ p3_ s7_ s8_ i16_ i17_ s23_ i24_ i25_) h
def impl_Set_endless_C1 (S : SatT) (K : AVal → H → Prop) (X0 : Frame → H → Prop) (i1_ : Int) (i2_ : Int) (p3_ : Pt) (s7_ : Sl) (i16_ : Int) (i17_ : Int) (h : H) : Prop :=
 X0 (impl_Set_endless_e0 i1_ i2_ p3_ s7_ i16_ (w64 (i17_ + (1)))) h
def impl_Set_endless_C2 (S : SatT) (K : AVal → H → Prop) (X0 : Frame → H → Prop) (i1_ : Int) (i2_ : Int) (p3_ : Pt) (s8_ : Sl) (i16_ : Int) (i17_ : Int) (h : H) : Prop :=
 impl_Set_endless_C1 S K X0 i1_ i2_ p3_ s8_ i16_ i17_ h
def impl_Set_endless_b2 (S : SatT) (K : AVal → H → Prop) (X0 : Frame → H → Prop) (X2 : Frame → H → Prop) (i1_ : Int) (i2_ : Int) (p3_ : Pt) (s7_ : Sl) (s8_ : Sl) (i16_ : Int) (i17_ : Int) (s23_ : Sl) (i24_ : Int) (i25_ : Int) (h : H) : Prop :=
 bif (decide (i25_ < i24_)) then
 ixS s23_ 4 i25_ fun p0 =>
 ldA p0 4 h fun cs1 =>
 newO [.int .i64 (0), .int .i64 (0), .int .i64 (0), .int .i64 (0)] h fun p2 h3 =>
 stN p2 4 cs1 h3 fun h4 =>
 ixA p2 4 1 i1_ fun p5 =>
 ldI .i64 p5 h4 fun n6 =>
 ixA p2 4 1 i1_ fun p7 =>
 ldI .i64 p7 h4 fun n8 =>
 ixS s8_ 1 n8 fun p9 =>
 ldB p9 h4 fun b10 =>
 bif b10 then
 ixS s8_ 1 n6 fun p11 =>
 st1 p11 (.bool true) h4 fun h12 =>
 X2 (impl_Set_endless_e2 i1_ i2_ p3_ s7_ s8_ i16_ i17_ s23_ i24_ (w64 (i25_ + (1)))) h12
 else
 ixA p2 4 1 i2_ fun p13 =>
 ldI .i64 p13 h4 fun n14 =>
 ixS s7_ 1 n14 fun p15 =>
 ldB p15 h4 fun b16 =>
 ixS s8_ 1 n6 fun p17 =>
 st1 p17 (.bool b16) h4 fun h18 =>
 X2 (impl_Set_endless_e2 i1_ i2_ p3_ s7_ s8_ i16_ i17_ s23_ i24_ (w64 (i25_ + (1)))) h18
 else
 impl_Set_endless_C2 S K X0 i1_ i2_ p3_ s8_ i16_ i17_ h
theorem impl_Set_endless_link2 (S : SatT) (K : AVal → H → Prop) (X0 : Frame → H → Prop) (X2 : Frame → H → Prop) (i1_ : Int) (i2_ : Int) (p3_ : Pt) (s7_ : Sl) (s8_ : Sl) (i16_ : Int) (i17_ : Int) (s23_ : Sl) (i24_ : Int) (i25_ : Int) (h : H) : impl_Set_endless_w2 S K X0 X2 (impl_Set_endless_e2 i1_ i2_ p3_ s7_ s8_ i16_ i17_ s23_ i24_ i25_) h = impl_Set_endless_b2 S K X0 X2 i1_ i2_ p3_ s7_ s8_ i16_ i17_ s23_ i24_ i25_ h := by kernel_rfl
theorem impl_Set_endless_rule2 (S : SatT) (K : AVal → H → Prop) (X0 : Frame → H → Prop) (i1_ : Int) (i2_ : Int) (p3_ : Pt) (s7_ : Sl) (s8_ : Sl) (i16_ : Int) (i17_ : Int) (s23_ : Sl) (i24_ : Int) (I_ : Int → H → Prop) (m_ : Int → H → Nat)
    (hs : ∀ (X2 : Frame → H → Prop) (i25_ : Int) (h : H), I_ i25_ h → (∀ (i25_' : Int) (h' : H), I_ i25_' h' → m_ i25_' h' < m_ i25_ h → X2 (impl_Set_endless_e2 i1_ i2_ p3_ s7_ s8_ i16_ i17_ s23_ i24_ i25_') h') → impl_Set_endless_b2 S K X0 X2 i1_ i2_ p3_ s7_ s8_ i16_ i17_ s23_ i24_ i25_ h) (i25_ : Int) {h : H} (h0 : I_ i25_ h) : impl_Set_endless_L2 S K X0 i1_ i2_ p3_ s7_ s8_ i16_ i17_ s23_ i24_ i25_ h :=
  loop_rule (σ := (Int)) (fun s_ => impl_Set_endless_e2 i1_ i2_ p3_ s7_ s8_ i16_ i17_ s23_ i24_ (s_)) (fun s_ h => I_ (s_) h) (fun s_ h => m_ (s_) h)
    (fun X s_ h hi hx => (impl_Set_endless_link2 S K X0 X i1_ i2_ p3_ s7_ s8_ i16_ i17_ s23_ i24_ (s_) h).mpr (hs X (s_) h hi fun i25_' h' hi' hm' => hx (i25_') h' hi' hm')) (i25_) h0
theorem impl_Set_endless_unroll2 (S : SatT) (K : AVal → H → Prop) (X0 : Frame → H → Prop) (i1_ : Int) (i2_ : Int) (p3_ : Pt) (s7_ : Sl) (s8_ : Sl) (i16_ : Int) (i17_ : Int) (s23_ : Sl) (i24_ : Int) (i25_ : Int) (h : H) (hb : impl_Set_endless_b2 S K X0 (fun fr h => loopK (impl_Set_endless_w2 S K X0) fr h) i1_ i2_ p3_ s7_ s8_ i16_ i17_ s23_ i24_ i25_ h) : impl_Set_endless_L2 S K X0 i1_ i2_ p3_ s7_ s8_ i16_ i17_ s23_ i24_ i25_ h := loop_unroll ((impl_Set_endless_link2 S K X0 _ i1_ i2_ p3_ s7_ s8_ i16_ i17_ s23_ i24_ i25_ h).mpr hb)
def impl_Set_endless_C0 (S : SatT) (K : AVal → H → Prop) (s7_ : Sl) (h : H) : Prop :=
 K (.sl s7_) h
def impl_Set_endless_b0 (S : SatT) (K : AVal → H → Prop) (X0 : Frame → H → Prop) (i1_ : Int) (i2_ : Int) (p3_ : Pt) (s7_ : Sl) (i16_ : Int) (i17_ : Int) (h : H) : Prop :=
 bif (decide (i17_ < i16_)) then
 isPt p3_ (
 ldI .i64 (Pt.add p3_ 0) h fun n0 =>
 mkS n0 [.bool false] h fun s1 h2 =>
 isPt p3_ (
 ldS (Pt.add p3_ 1) h2 fun s3 =>
 impl_Set_endless_L2 S K X0 i1_ i2_ p3_ s7_ s1 i16_ i17_ s3 (s3.len : Int) (0) h2))
 else
 impl_Set_endless_C0 S K s7_ h
theorem impl_Set_endless_link0 (S : SatT) (K : AVal → H → Prop) (X0 : Frame → H → Prop) (i1_ : Int) (i2_ : Int) (p3_ : Pt) (s7_ : Sl) (i16_ : Int) (i17_ : Int) (h : H) : impl_Set_endless_w0 S K X0 (impl_Set_endless_e0 i1_ i2_ p3_ s7_ i16_ i17_) h = impl_Set_endless_b0 S K X0 i1_ i2_ p3_ s7_ i16_ i17_ h := by kernel_rfl
theorem impl_Set_endless_rule0 (S : SatT) (K : AVal → H → Prop) (i1_ : Int) (i2_ : Int) (p3_ : Pt) (i16_ : Int) (I_ : Sl → Int → H → Prop) (m_ : Sl → Int → H → Nat)
    (hs : ∀ (X0 : Frame → H → Prop) (s7_ : Sl) (i17_ : Int) (h : H), I_ s7_ i17_ h → (∀ (s7_' : Sl) (i17_' : Int) (h' : H), I_ s7_' i17_' h' → m_ s7_' i17_' h' < m_ s7_ i17_ h → X0 (impl_Set_endless_e0 i1_ i2_ p3_ s7_' i16_ i17_') h') → impl_Set_endless_b0 S K X0 i1_ i2_ p3_ s7_ i16_ i17_ h) (s7_ : Sl) (i17_ : Int) {h : H} (h0 : I_ s7_ i17_ h) : impl_Set_endless_L0 S K i1_ i2_ p3_ s7_ i16_ i17_ h :=
  loop_rule (σ := (Sl) × (Int)) (fun s_ => impl_Set_endless_e0 i1_ i2_ p3_ (s_.1) i16_ (s_.2)) (fun s_ h => I_ (s_.1) (s_.2) h) (fun s_ h => m_ (s_.1) (s_.2) h)
    (fun X s_ h hi hx => (impl_Set_endless_link0 S K X i1_ i2_ p3_ (s_.1) i16_ (s_.2) h).mpr (hs X (s_.1) (s_.2) h hi fun s7_' i17_' h' hi' hm' => hx (s7_', i17_') h' hi' hm')) (s7_, i17_) h0
theorem impl_Set_endless_unroll0 (S : SatT) (K : AVal → H → Prop) (i1_ : Int) (i2_ : Int) (p3_ : Pt) (s7_ : Sl) (i16_ : Int) (i17_ : Int) (h : H) (hb : impl_Set_endless_b0 S K (fun fr h => loopK (impl_Set_endless_w0 S K) fr h) i1_ i2_ p3_ s7_ i16_ i17_ h) : impl_Set_endless_L0 S K i1_ i2_ p3_ s7_ i16_ i17_ h := loop_unroll ((impl_Set_endless_link0 S K _ i1_ i2_ p3_ s7_ i16_ i17_ h).mpr hb)
def impl_Set_endless_main (S : SatT) (K : AVal → H → Prop) (x0 : List AVal) (x1 : Int) (x2 : Int) (h : H) : Prop :=
 newK 2 x0 h fun p0 h1 =>
 newS 1 1 [.bool true] h1 fun s2 h3 =>
 isPt p0 (
 ldI .i64 (Pt.add p0 0) h3 fun n4 =>
 callS S i_slices_Repeat_s_bool_bool_ [.sl s2, .int .i64 n4] h3 fun s6 h5 =>
 isPt p0 (
 ldI .i64 (Pt.add p0 0) h5 fun n7 =>
 impl_Set_endless_L0 S K x1 x2 p0 s6 n7 (0) h5))
theorem impl_Set_endless_main_link (S : SatT) (K : AVal → H → Prop) (x0 : List AVal) (x1 : Int) (x2 : Int) (h : H) : cwp S tab impl_Set_endless_M [] (bodyOf Try.f59) (kFun tab Try.f59.results.toList K) (fr0 Try.f59 [.agg x0, .int .i64 x1, .int .i64 x2]) h = impl_Set_endless_main S K x0 x1 x2 h := by kernel_rfl
theorem impl_Set_endless_call (x0 : List AVal) (x1 : Int) (x2 : Int) (h : H) (K : Sl → H → Prop) (hm : impl_Set_endless_main (Sat Try.prog) (fun v h' => ∃ r, v = .sl r ∧ K r h') x0 x1 x2 h) : callS (Sat Try.prog) i_impl_Set_endless [.agg x0, .int .i64 x1, .int .i64 x2] h K := by
  have := Sat.ex tok mixed impl_Set_endless_M Try.func59 (c := bodyOf Try.f59) (by kernel_rfl) (calls_of Try.func59 (c := bodyOf Try.f59) (by kernel_rfl) (by decide)) ((impl_Set_endless_main_link _ _ x0 x1 x2 h).mpr hm)
  obtain ⟨v, h2, h3, r, rfl, h4⟩ := this; exact ⟨r, h2, h3, h4⟩

/-! ### loop.example/g01354/impl.newStrip$1 -/
def impl_newStrip_1_M : Nat → List Nat := fun i => bif i == 0 then [0, 1, 2, 3, 4, 6, 7, 8, 39, 40, 41] else []
def impl_newStrip_1_ks5 (S : SatT) (K : AVal → H → Prop) : Kont := kSeq (cwp S tab impl_newStrip_1_M [] (sub [1, 1, 1] (bodyOf Try.f116)) (kFun tab (Try.f116).results.toList K)) (kFun tab (Try.f116).results.toList K)
def impl_newStrip_1_e0 (i0_ : Int) (i1_ : Int) (i2_ : Int) (i3_ : Int) (i4_ : Int) (p6_ : Pt) (p7_ : Pt) (p8_ : Pt) (s39_ : Sl) (i40_ : Int) (i41_ : Int) : Frame := [.int .i64 i0_, .int .i64 i1_, .int .i64 i2_, .int .i64 i3_, .int .i64 i4_, U, .ptr p6_, .ptr p7_, .ptr p8_, U, U, U, U, U, U, U, U, U, U, U, U, U, U, U, U, U, U, U, U, U, U, U, U, U, U, U, U, U, U, .sl s39_, .int .i64 i40_, .int .i64 i41_, U, U, U, U, U, U, U, U, U, U, U, U, U, U, U, U, U, U, U, U, U, U, U, U, U, U, U, U, U, U, U, U, U, U, U, U, U, U, U, U]
def impl_newStrip_1_w0 (S : SatT) (K : AVal → H → Prop) : (Frame → H → Prop) → Frame → H → Prop := fun X fr h => cwp S tab impl_newStrip_1_M (impl_newStrip_1_M 0) (sub [1, 1, 0, 1, 0, 0] (bodyOf Try.f116)) (kSeq (fun fr h => X (mask (impl_newStrip_1_M 0) fr) h) (kBlk 0 (impl_newStrip_1_ks5 S K))) fr h
def impl_newStrip_1_L0 (S : SatT) (K : AVal → H → Prop) (i0_ : Int) (i1_ : Int) (i2_ : Int) (i3_ : Int) (i4_ : Int) (p6_ : Pt) (p7_ : Pt) (p8_ : Pt) (s39_ : Sl) (i40_ : Int) (i41_ : Int) (h : H) : Prop := loopK (impl_newStrip_1_w0 S K) (impl_newStrip_1_e0 i0_ i1_ i2_ i3_ i4_ p6_ p7_ p8_ s39_ i40_ i41_) h
def impl_newStrip_1_C0 (S : SatT) (K : AVal → H → Prop) (h : H) : Prop :=
 K (.bool true) h
def impl_newStrip_1_b0 (S : SatT) (K : AVal → H → Prop) (X0 : Frame → H → Prop) (i0_ : Int) (i1_ : Int) (i2_ : Int) (i3_ : Int) (i4_ : Int) (p6_ : Pt) (p7_ : Pt) (p8_ : Pt) (s39_ : Sl) (i40_ : Int) (i41_ : Int) (h : H) : Prop :=
 bif (decide (i41_ < i40_)) then
 ixS s39_ 4 i41_ fun p0 =>
 ldA p0 4 h fun cs1 =>
 newO [.int .i64 (0), .int .i64 (0), .int .i64 (0), .int .i64 (0)] h fun p2 h3 =>
 stN p2 4 cs1 h3 fun h4 =>
 ldI .i64 p7_ h4 fun n5 =>
 bif (decide (i4_ < n5)) then
 ixA p2 4 1 (1) fun p6 =>
 ldI .i64 p6 h4 fun n7 =>
 bif (n7 != i1_) then
 X0 (impl_newStrip_1_e0 i0_ i1_ i2_ i3_ i4_ p6_ p7_ p8_ s39_ i40_ (w64 (i41_ + (1)))) h4
 else
 ldI .i64 p7_ h4 fun n8 =>
 bif (i4_ == n8) then
 ixA p2 4 1 (1) fun p9 =>
 ldI .i64 p9 h4 fun n10 =>
 ldV p8_ h4 fun v11 =>
 ixA p2 4 1 (3) fun p12 =>
 ldI .i64 p12 h4 fun n13 =>
 isPt p6_ (
 ldI .i64 (Pt.add p6_ 0) h4 fun n14 =>
 ixA p2 4 1 (0) fun p15 =>
 ldI .i64 p15 h4 fun n16 =>
 isPt p6_ (
 ldI .i64 (Pt.add p6_ 0) h4 fun n17 =>
 ixA p2 4 1 (2) fun p18 =>
 ldI .i64 p18 h4 fun n19 =>
 viaF v11 [.int .i64 n10, .int .i64 n13, .int .i64 (w64 ((w64 (i2_ * n14)) + n16)), .int .i64 (w64 ((w64 (i3_ * n17)) + n19)), .int .i64 (w64 (i4_ - (1)))] fun g20 ys21 =>
 callB S g20 ys21 h4 fun b23 h22 =>
 bif (!b23) then
 K (.bool false) h22
 else
 X0 (impl_newStrip_1_e0 n10 i1_ i2_ i3_ i4_ p6_ p7_ p8_ s39_ i40_ (w64 (i41_ + (1)))) h22))
 else
 ldV p8_ h4 fun v24 =>
 ixA p2 4 1 (3) fun p25 =>
 ldI .i64 p25 h4 fun n26 =>
 isPt p6_ (
 ldI .i64 (Pt.add p6_ 0) h4 fun n27 =>
 ixA p2 4 1 (0) fun p28 =>
 ldI .i64 p28 h4 fun n29 =>
 isPt p6_ (
 ldI .i64 (Pt.add p6_ 0) h4 fun n30 =>
 ixA p2 4 1 (2) fun p31 =>
 ldI .i64 p31 h4 fun n32 =>
 viaF v24 [.int .i64 i0_, .int .i64 n26, .int .i64 (w64 ((w64 (i2_ * n27)) + n29)), .int .i64 (w64 ((w64 (i3_ * n30)) + n32)), .int .i64 (w64 (i4_ - (1)))] fun g33 ys34 =>
 callB S g33 ys34 h4 fun b36 h35 =>
 bif (!b36) then
 K (.bool false) h35
 else
 X0 (impl_newStrip_1_e0 i0_ i1_ i2_ i3_ i4_ p6_ p7_ p8_ s39_ i40_ (w64 (i41_ + (1)))) h35))
 else
 ldI .i64 p7_ h4 fun n37 =>
 bif (i4_ == n37) then
 ixA p2 4 1 (1) fun p38 =>
 ldI .i64 p38 h4 fun n39 =>
 ldV p8_ h4 fun v40 =>
 ixA p2 4 1 (3) fun p41 =>
 ldI .i64 p41 h4 fun n42 =>
 isPt p6_ (
 ldI .i64 (Pt.add p6_ 0) h4 fun n43 =>
 ixA p2 4 1 (0) fun p44 =>
 ldI .i64 p44 h4 fun n45 =>
 isPt p6_ (
 ldI .i64 (Pt.add p6_ 0) h4 fun n46 =>
 ixA p2 4 1 (2) fun p47 =>
 ldI .i64 p47 h4 fun n48 =>
 viaF v40 [.int .i64 n39, .int .i64 n42, .int .i64 (w64 ((w64 (i2_ * n43)) + n45)), .int .i64 (w64 ((w64 (i3_ * n46)) + n48)), .int .i64 (w64 (i4_ - (1)))] fun g49 ys50 =>
 callB S g49 ys50 h4 fun b52 h51 =>
 bif (!b52) then
 K (.bool false) h51
 else
 X0 (impl_newStrip_1_e0 n39 i1_ i2_ i3_ i4_ p6_ p7_ p8_ s39_ i40_ (w64 (i41_ + (1)))) h51))
 else
 ldV p8_ h4 fun v53 =>
 ixA p2 4 1 (3) fun p54 =>
 ldI .i64 p54 h4 fun n55 =>
 isPt p6_ (
 ldI .i64 (Pt.add p6_ 0) h4 fun n56 =>
 ixA p2 4 1 (0) fun p57 =>
 ldI .i64 p57 h4 fun n58 =>
 isPt p6_ (
 ldI .i64 (Pt.add p6_ 0) h4 fun n59 =>
 ixA p2 4 1 (2) fun p60 =>
 ldI .i64 p60 h4 fun n61 =>
 viaF v53 [.int .i64 i0_, .int .i64 n55, .int .i64 (w64 ((w64 (i2_ * n56)) + n58)), .int .i64 (w64 ((w64 (i3_ * n59)) + n61)), .int .i64 (w64 (i4_ - (1)))] fun g62 ys63 =>
 callB S g62 ys63 h4 fun b65 h64 =>
 bif (!b65) then
 K (.bool false) h64
 else
 X0 (impl_newStrip_1_e0 i0_ i1_ i2_ i3_ i4_ p6_ p7_ p8_ s39_ i40_ (w64 (i41_ + (1)))) h64))
 else
 impl_newStrip_1_C0 S K h
theorem impl_newStrip_1_link0 (S : SatT) (K : AVal → H → Prop) (X0 : Frame → H → Prop) (i0_ : Int) (i1_ : Int) (i2_ : Int) (i3_ : Int) (i4_ : Int) (p6_ : Pt) (p7_ : Pt) (p8_ : Pt) (s39_ : Sl) (i40_ : Int) (i41_ : Int) (h : H) : impl_newStrip_1_w0 S K X0 (impl_newStrip_1_e0 i0_ i1_ i2_ i3_ i4_ p6_ p7_ p8_ s39_ i40_ i41_) h = impl_newStrip_1_b0 S K X0 i0_ i1_ i2_ i3_ i4_ p6_ p7_ p8_ s39_ i40_ i41_ h := by kernel_rfl
theorem impl_newStrip_1_rule0 (S : SatT) (K : AVal → H → Prop) (i1_ : Int) (i2_ : Int) (i3_ : Int) (i4_ : Int) (p6_ : Pt) (p7_ : Pt) (p8_ : Pt) (s39_ : Sl) (i40_ : Int) (I_ : Int → Int → H → Prop) (m_ : Int → Int → H → Nat)
    (hs : ∀ (X0 : Frame → H → Prop) (i0_ : Int) (i41_ : Int) (h : H), I_ i0_ i41_ h → (∀ (i0_' : Int) (i41_' : Int) (h' : H), I_ i0_' i41_' h' → m_ i0_' i41_' h' < m_ i0_ i41_ h → X0 (impl_newStrip_1_e0 i0_' i1_ i2_ i3_ i4_ p6_ p7_ p8_ s39_ i40_ i41_') h') → impl_newStrip_1_b0 S K X0 i0_ i1_ i2_ i3_ i4_ p6_ p7_ p8_ s39_ i40_ i41_ h) (i0_ : Int) (i41_ : Int) {h : H} (h0 : I_ i0_ i41_ h) : impl_newStrip_1_L0 S K i0_ i1_ i2_ i3_ i4_ p6_ p7_ p8_ s39_ i40_ i41_ h :=
  loop_rule (σ := (Int) × (Int)) (fun s_ => impl_newStrip_1_e0 (s_.1) i1_ i2_ i3_ i4_ p6_ p7_ p8_ s39_ i40_ (s_.2)) (fun s_ h => I_ (s_.1) (s_.2) h) (fun s_ h => m_ (s_.1) (s_.2) h)
    (fun X s_ h hi hx => (impl_newStrip_1_link0 S K X (s_.1) i1_ i2_ i3_ i4_ p6_ p7_ p8_ s39_ i40_ (s_.2) h).mpr (hs X (s_.1) (s_.2) h hi fun i0_' i41_' h' hi' hm' => hx (i0_', i41_') h' hi' hm')) (i0_, i41_) h0
theorem impl_newStrip_1_unroll0 (S : SatT) (K : AVal → H → Prop) (i0_ : Int) (i1_ : Int) (i2_ : Int) (i3_ : Int) (i4_ : Int) (p6_ : Pt) (p7_ : Pt) (p8_ : Pt) (s39_ : Sl) (i40_ : Int) (i41_ : Int) (h : H) (hb : impl_newStrip_1_b0 S K (fun fr h => loopK (impl_newStrip_1_w0 S K) fr h) i0_ i1_ i2_ i3_ i4_ p6_ p7_ p8_ s39_ i40_ i41_ h) : impl_newStrip_1_L0 S K i0_ i1_ i2_ i3_ i4_ p6_ p7_ p8_ s39_ i40_ i41_ h := loop_unroll ((impl_newStrip_1_link0 S K _ i0_ i1_ i2_ i3_ i4_ p6_ p7_ p8_ s39_ i40_ i41_ h).mpr hb)
def impl_newStrip_1_main (S : SatT) (K : AVal → H → Prop) (x0 : Int) (x1 : Int) (x2 : Int) (x3 : Int) (x4 : Int) (x5 : Pt) (x6 : Pt) (x7 : Pt) (x8 : Pt) (h : H) : Prop :=
 bif (x4 == (0)) then
 ldP x5 h fun p0 =>
 ldP x5 h fun p1 =>
 nilC (.ptr p1) (
 isPt p1 (
 ldS (Pt.add p1 4) h fun s2 =>
 lenA [.int .i64 x2, .int .i64 x3, .int .i64 x0] 3 (
 newS 1 3 (spl [.int .i64 (0), .int .i64 (0), .int .i64 (0)] 0 3 [.int .i64 x2, .int .i64 x3, .int .i64 x0]) h fun s3 h4 =>
(cell h4 (Pt.add p1 4) = cell h (Pt.add p1 4)) ∧ (
(cell h4 x5 = cell h x5) ∧ (
(cell h4 x5 = cell h x5) ∧ (
 app s2 s3 3 h4 fun s5 h6 =>
(cell h6 x5 = cell h x5) ∧ (
 nilC (.ptr p0) (
 isPt p0 (
 st1 (Pt.add p0 4) (.sl s5) h6 fun h7 =>
 ldP x5 h7 fun p8 =>
 nilC (.ptr p8) (
 isPt p8 (
 ldS (Pt.add p8 4) h7 fun s9 =>
 K (.bool (decide ((s9.len : Int) ≤ (5000)))) h7)))))))))))
 else
 isPt x6 (
 ldS (Pt.add x6 1) h fun s10 =>
 impl_newStrip_1_L0 S K x0 x1 x2 x3 x4 x6 x7 x8 s10 (s10.len : Int) (0) h)
theorem impl_newStrip_1_main_link (S : SatT) (K : AVal → H → Prop) (x0 : Int) (x1 : Int) (x2 : Int) (x3 : Int) (x4 : Int) (x5 : Pt) (x6 : Pt) (x7 : Pt) (x8 : Pt) (h : H) : cwp S tab impl_newStrip_1_M [] (bodyOf Try.f116) (kFun tab Try.f116.results.toList K) (fr0 Try.f116 [.int .i64 x0, .int .i64 x1, .int .i64 x2, .int .i64 x3, .int .i64 x4, .ptr x5, .ptr x6, .ptr x7, .ptr x8]) h = impl_newStrip_1_main S K x0 x1 x2 x3 x4 x5 x6 x7 x8 h := by kernel_rfl
theorem impl_newStrip_1_call (x0 : Int) (x1 : Int) (x2 : Int) (x3 : Int) (x4 : Int) (x5 : Pt) (x6 : Pt) (x7 : Pt) (x8 : Pt) (h : H) (K : Bool → H → Prop) (hm : impl_newStrip_1_main (Sat Try.prog) (fun v h' => ∃ r, v = .bool r ∧ K r h') x0 x1 x2 x3 x4 x5 x6 x7 x8 h) : callB (Sat Try.prog) i_impl_newStrip_1 [.int .i64 x0, .int .i64 x1, .int .i64 x2, .int .i64 x3, .int .i64 x4, .ptr x5, .ptr x6, .ptr x7, .ptr x8] h K := by
  have := Sat.ex tok mixed impl_newStrip_1_M Try.func116 (c := bodyOf Try.f116) (by kernel_rfl) (calls_of Try.func116 (c := bodyOf Try.f116) (by kernel_rfl) (by decide)) ((impl_newStrip_1_main_link _ _ x0 x1 x2 x3 x4 x5 x6 x7 x8 h).mpr hm)
  obtain ⟨v, h2, h3, r, rfl, h4⟩ := this; exact ⟨r, h2, h3, h4⟩

/-! ### loop.example/g01354/impl.LastingTiles -/
def impl_LastingTiles_M : Nat → List Nat := fun i => bif i == 0 then [4, 5, 6, 18, 19, 20] else []
def impl_LastingTiles_ks5 (S : SatT) (K : AVal → H → Prop) : Kont := kSeq (cwp S tab impl_LastingTiles_M [] (sub [1, 1, 1, 1] (bodyOf Try.f20)) (kFun tab (Try.f20).results.toList K)) (kFun tab (Try.f20).results.toList K)
def impl_LastingTiles_e0 (s4_ : Sl) (s5_ : Sl) (s6_ : Sl) (s18_ : Sl) (i19_ : Int) (i20_ : Int) : Frame := [U, U, U, U, .sl s4_, .sl s5_, .sl s6_, U, U, U, U, U, U, U, U, U, U, U, .sl s18_, .int .i64 i19_, .int .i64 i20_, U, U, U, U, U, U, U, U, U, U, U, U, U, U, U, U, U, U, U, U, U, U]
def impl_LastingTiles_w0 (S : SatT) (K : AVal → H → Prop) : (Frame → H → Prop) → Frame → H → Prop := fun X fr h => cwp S tab impl_LastingTiles_M (impl_LastingTiles_M 0) (sub [1, 1, 1, 0, 1, 0, 0] (bodyOf Try.f20)) (kSeq (fun fr h => X (mask (impl_LastingTiles_M 0) fr) h) (kBlk 0 (impl_LastingTiles_ks5 S K))) fr h
def impl_LastingTiles_L0 (S : SatT) (K : AVal → H → Prop) (s4_ : Sl) (s5_ : Sl) (s6_ : Sl) (s18_ : Sl) (i19_ : Int) (i20_ : Int) (h : H) : Prop := loopK (impl_LastingTiles_w0 S K) (impl_LastingTiles_e0 s4_ s5_ s6_ s18_ i19_ i20_) h
def impl_LastingTiles_C0 (S : SatT) (K : AVal → H → Prop) (s4_ : Sl) (h : H) : Prop :=
 K (.tuple [.sl s4_, .int .i64 (0)]) h
def impl_LastingTiles_b0 (S : SatT) (K : AVal → H → Prop) (X0 : Frame → H → Prop) (s4_ : Sl) (s5_ : Sl) (s6_ : Sl) (s18_ : Sl) (i19_ : Int) (i20_ : Int) (h : H) : Prop :=
 bif (decide (i20_ < i19_)) then
 ixS s18_ 4 i20_ fun p0 =>
 ldA p0 4 h fun cs1 =>
 newO [.int .i64 (0), .int .i64 (0), .int .i64 (0), .int .i64 (0)] h fun p2 h3 =>
 stN p2 4 cs1 h3 fun h4 =>
 ixA p2 4 1 (0) fun p5 =>
 ldI .i64 p5 h4 fun n6 =>
 ixS s5_ 1 n6 fun p7 =>
 ldB p7 h4 fun b8 =>
 bif b8 then
 ixA p2 4 1 (2) fun p9 =>
 ldI .i64 p9 h4 fun n10 =>
 ixS s6_ 1 n10 fun p11 =>
 ldB p11 h4 fun b12 =>
 bif b12 then
 newS 1 1 [.int .i64 i20_] h4 fun s13 h14 =>
 app s4_ s13 1 h14 fun s15 h16 =>
 X0 (impl_LastingTiles_e0 s15 s5_ s6_ s18_ i19_ (w64 (i20_ + (1)))) h16
 else
 X0 (impl_LastingTiles_e0 s4_ s5_ s6_ s18_ i19_ (w64 (i20_ + (1)))) h4
 else
 X0 (impl_LastingTiles_e0 s4_ s5_ s6_ s18_ i19_ (w64 (i20_ + (1)))) h4
 else
 impl_LastingTiles_C0 S K s4_ h
theorem impl_LastingTiles_link0 (S : SatT) (K : AVal → H → Prop) (X0 : Frame → H → Prop) (s4_ : Sl) (s5_ : Sl) (s6_ : Sl) (s18_ : Sl) (i19_ : Int) (i20_ : Int) (h : H) : impl_LastingTiles_w0 S K X0 (impl_LastingTiles_e0 s4_ s5_ s6_ s18_ i19_ i20_) h = impl_LastingTiles_b0 S K X0 s4_ s5_ s6_ s18_ i19_ i20_ h := by kernel_rfl
theorem impl_LastingTiles_rule0 (S : SatT) (K : AVal → H → Prop) (s5_ : Sl) (s6_ : Sl) (s18_ : Sl) (i19_ : Int) (I_ : Sl → Int → H → Prop) (m_ : Sl → Int → H → Nat)
    (hs : ∀ (X0 : Frame → H → Prop) (s4_ : Sl) (i20_ : Int) (h : H), I_ s4_ i20_ h → (∀ (s4_' : Sl) (i20_' : Int) (h' : H), I_ s4_' i20_' h' → m_ s4_' i20_' h' < m_ s4_ i20_ h → X0 (impl_LastingTiles_e0 s4_' s5_ s6_ s18_ i19_ i20_') h') → impl_LastingTiles_b0 S K X0 s4_ s5_ s6_ s18_ i19_ i20_ h) (s4_ : Sl) (i20_ : Int) {h : H} (h0 : I_ s4_ i20_ h) : impl_LastingTiles_L0 S K s4_ s5_ s6_ s18_ i19_ i20_ h :=
  loop_rule (σ := (Sl) × (Int)) (fun s_ => impl_LastingTiles_e0 (s_.1) s5_ s6_ s18_ i19_ (s_.2)) (fun s_ h => I_ (s_.1) (s_.2) h) (fun s_ h => m_ (s_.1) (s_.2) h)
    (fun X s_ h hi hx => (impl_LastingTiles_link0 S K X (s_.1) s5_ s6_ s18_ i19_ (s_.2) h).mpr (hs X (s_.1) (s_.2) h hi fun s4_' i20_' h' hi' hm' => hx (s4_', i20_') h' hi' hm')) (s4_, i20_) h0
theorem impl_LastingTiles_unroll0 (S : SatT) (K : AVal → H → Prop) (s4_ : Sl) (s5_ : Sl) (s6_ : Sl) (s18_ : Sl) (i19_ : Int) (i20_ : Int) (h : H) (hb : impl_LastingTiles_b0 S K (fun fr h => loopK (impl_LastingTiles_w0 S K) fr h) s4_ s5_ s6_ s18_ i19_ i20_ h) : impl_LastingTiles_L0 S K s4_ s5_ s6_ s18_ i19_ i20_ h := loop_unroll ((impl_LastingTiles_link0 S K _ s4_ s5_ s6_ s18_ i19_ i20_ h).mpr hb)
def impl_LastingTiles_main (S : SatT) (K : AVal → H → Prop) (x0 : List AVal) (h : H) : Prop :=
 newK 2 x0 h fun p0 h1 =>
 ldA p0 2 h1 fun cs2 =>
 callB S i_impl_IsSet [.agg cs2] h1 fun b4 h3 =>
 bif (!b4) then
 K (.tuple [.sl Sl.nil, .int .i64 (1)]) h3
 else
 slotK 8 h3 fun h5 =>
 ldA p0 2 h5 fun cs6 =>
 callS S i_impl_Set_endless [.agg cs6, .int .i64 (2), .int .i64 (0)] h5 fun s8 h7 =>
 ldA p0 2 h7 fun cs9 =>
(range h5 p0.o p0.n p0.off 2 = range h7 p0.o p0.n p0.off 2) ∧ (
 callS S i_impl_Set_endless [.agg cs9, .int .i64 (0), .int .i64 (2)] h7 fun s11 h10 =>
 newSat 0 1 [] h10 (h3.length + 0) fun s12 h13 =>
(range h10 p0.o p0.n p0.off 2 = range h7 p0.o p0.n p0.off 2) ∧ (
(range h10 p0.o p0.n p0.off 2 = range h5 p0.o p0.n p0.off 2) ∧ (
(range h13 p0.o p0.n p0.off 2 = range h7 p0.o p0.n p0.off 2) ∧ (
(range h13 p0.o p0.n p0.off 2 = range h5 p0.o p0.n p0.off 2) ∧ (
 isPt p0 (
 ldS (Pt.add p0 1) h13 fun s14 =>
 impl_LastingTiles_L0 S K s12 s8 s11 s14 (s14.len : Int) (0) h13))))))
theorem impl_LastingTiles_main_link (S : SatT) (K : AVal → H → Prop) (x0 : List AVal) (h : H) : cwp S tab impl_LastingTiles_M [] (bodyOf Try.f20) (kFun tab Try.f20.results.toList K) (fr0 Try.f20 [.agg x0]) h = impl_LastingTiles_main S K x0 h := by kernel_rfl
theorem impl_LastingTiles_call (x0 : List AVal) (h : H) (K : AVal → H → Prop) (hm : impl_LastingTiles_main (Sat Try.prog) (fun v h' => K v h') x0 h) : callV (Sat Try.prog) i_impl_LastingTiles [.agg x0] h K := by
  have := Sat.ex tok mixed impl_LastingTiles_M Try.func20 (c := bodyOf Try.f20) (by kernel_rfl) (calls_of Try.func20 (c := bodyOf Try.f20) (by kernel_rfl) (by decide)) ((impl_LastingTiles_main_link _ _ x0 h).mpr hm)
  exact this

/-! ### loop.example/g01354/impl.newStrip -/
def impl_newStrip_M : Nat → List Nat := fun i => bif i == 0 then [2, 3, 6, 12, 13] else []
def impl_newStrip_ks2 (S : SatT) (K : AVal → H → Prop) : Kont := kSeq (cwp S tab impl_newStrip_M [] (sub [1, 1, 1] (bodyOf Try.f92)) (kFun tab (Try.f92).results.toList K)) (kFun tab (Try.f92).results.toList K)
def impl_newStrip_e0 (p2_ : Pt) (p3_ : Pt) (p6_ : Pt) (i12_ : Int) (i13_ : Int) : Frame := [U, U, .ptr p2_, .ptr p3_, U, U, .ptr p6_, U, U, U, U, U, .int .i64 i12_, .int .i64 i13_, U, U, U, U, U, U, U, U, U, U, U, U, U, U, U, U, U, U, U, U, U]
def impl_newStrip_w0 (S : SatT) (K : AVal → H → Prop) : (Frame → H → Prop) → Frame → H → Prop := fun X fr h => cwp S tab impl_newStrip_M (impl_newStrip_M 0) (sub [1, 1, 0, 1, 0, 0] (bodyOf Try.f92)) (kSeq (fun fr h => X (mask (impl_newStrip_M 0) fr) h) (kBlk 0 (impl_newStrip_ks2 S K))) fr h
def impl_newStrip_L0 (S : SatT) (K : AVal → H → Prop) (p2_ : Pt) (p3_ : Pt) (p6_ : Pt) (i12_ : Int) (i13_ : Int) (h : H) : Prop := loopK (impl_newStrip_w0 S K) (impl_newStrip_e0 p2_ p3_ p6_ i12_ i13_) h
def impl_newStrip_C0 (S : SatT) (K : AVal → H → Prop) (p2_ : Pt) (p3_ : Pt) (p6_ : Pt) (h : H) : Prop :=
 ldP p6_ h fun p0 =>
 nilC (.ptr p0) (
 isPt p0 (
 ldI .i64 (Pt.add p0 3) h fun n1 =>
 bif (decide (n1 > (700))) then
 K (.tuple [.ptr Pt.nil, .bool false]) h
 else
 newO [.nilFunc] h fun p2 h3 =>
 st1 p2 (.func 116 [.ptr p6_, .ptr p2_, .ptr p3_, .ptr p2]) h3 fun h4 =>
 ldP p6_ h4 fun p5 =>
 ldV p2 h4 fun v6 =>
 ldI .i64 p3_ h4 fun n7 =>
 viaF v6 [.int .i64 (0), .int .i64 (0), .int .i64 (0), .int .i64 (0), .int .i64 n7] fun g8 ys9 =>
 callB S g8 ys9 h4 fun b11 h10 =>
(cell h10 p6_ = cell h4 p6_) ∧ (
 K (.tuple [.ptr p5, .bool b11]) h10)))
def impl_newStrip_b0 (S : SatT) (K : AVal → H → Prop) (X0 : Frame → H → Prop) (p2_ : Pt) (p3_ : Pt) (p6_ : Pt) (i12_ : Int) (i13_ : Int) (h : H) : Prop :=
 bif (decide (i13_ < i12_)) then
 ldP p6_ h fun p0 =>
 nilC (.ptr p0) (
 isPt p0 (
 ldI .i64 (Pt.add p0 3) h fun n1 =>
 isPt p2_ (
 ldI .i64 (Pt.add p2_ 0) h fun n2 =>
 nilC (.ptr p0) (
 isPt p0 (
 st1 (Pt.add p0 3) (.int .i64 (w64 (n1 * n2))) h fun h3 =>
 X0 (impl_newStrip_e0 p2_ p3_ p6_ i12_ (w64 (i13_ + (1)))) h3)))))
 else
 impl_newStrip_C0 S K p2_ p3_ p6_ h
theorem impl_newStrip_link0 (S : SatT) (K : AVal → H → Prop) (X0 : Frame → H → Prop) (p2_ : Pt) (p3_ : Pt) (p6_ : Pt) (i12_ : Int) (i13_ : Int) (h : H) : impl_newStrip_w0 S K X0 (impl_newStrip_e0 p2_ p3_ p6_ i12_ i13_) h = impl_newStrip_b0 S K X0 p2_ p3_ p6_ i12_ i13_ h := by kernel_rfl
theorem impl_newStrip_rule0 (S : SatT) (K : AVal → H → Prop) (p2_ : Pt) (p3_ : Pt) (p6_ : Pt) (i12_ : Int) (I_ : Int → H → Prop) (m_ : Int → H → Nat)
    (hs : ∀ (X0 : Frame → H → Prop) (i13_ : Int) (h : H), I_ i13_ h → (∀ (i13_' : Int) (h' : H), I_ i13_' h' → m_ i13_' h' < m_ i13_ h → X0 (impl_newStrip_e0 p2_ p3_ p6_ i12_ i13_') h') → impl_newStrip_b0 S K X0 p2_ p3_ p6_ i12_ i13_ h) (i13_ : Int) {h : H} (h0 : I_ i13_ h) : impl_newStrip_L0 S K p2_ p3_ p6_ i12_ i13_ h :=
  loop_rule (σ := (Int)) (fun s_ => impl_newStrip_e0 p2_ p3_ p6_ i12_ (s_)) (fun s_ h => I_ (s_) h) (fun s_ h => m_ (s_) h)
    (fun X s_ h hi hx => (impl_newStrip_link0 S K X p2_ p3_ p6_ i12_ (s_) h).mpr (hs X (s_) h hi fun i13_' h' hi' hm' => hx (i13_') h' hi' hm')) (i13_) h0
theorem impl_newStrip_unroll0 (S : SatT) (K : AVal → H → Prop) (p2_ : Pt) (p3_ : Pt) (p6_ : Pt) (i12_ : Int) (i13_ : Int) (h : H) (hb : impl_newStrip_b0 S K (fun fr h => loopK (impl_newStrip_w0 S K) fr h) p2_ p3_ p6_ i12_ i13_ h) : impl_newStrip_L0 S K p2_ p3_ p6_ i12_ i13_ h := loop_unroll ((impl_newStrip_link0 S K _ p2_ p3_ p6_ i12_ i13_ h).mpr hb)
def impl_newStrip_main (S : SatT) (K : AVal → H → Prop) (x0 : List AVal) (x1 : Int) (h : H) : Prop :=
 newK 2 x0 h fun p0 h1 =>
 newO [.int .i64 x1] h1 fun p2 h3 =>
 ldA p0 2 h3 fun cs4 =>
 ldI .i64 p2 h3 fun n5 =>
 lenA cs4 2 (
 newK 5 (spl (spl (spl [.int .i64 (0), .sl Sl.nil, .int .i64 (0), .int .i64 (0), .sl Sl.nil] 0 2 cs4) 2 1 [.int .i64 n5]) 3 1 [.int .i64 (1)]) h3 fun p6 h7 =>
 newO [.ptr Pt.nil] h7 fun p8 h9 =>
 st1 p8 (.ptr p6) h9 fun h10 =>
 ldI .i64 p2 h10 fun n11 =>
 impl_newStrip_L0 S K p0 p2 p8 n11 (0) h10)
theorem impl_newStrip_main_link (S : SatT) (K : AVal → H → Prop) (x0 : List AVal) (x1 : Int) (h : H) : cwp S tab impl_newStrip_M [] (bodyOf Try.f92) (kFun tab Try.f92.results.toList K) (fr0 Try.f92 [.agg x0, .int .i64 x1]) h = impl_newStrip_main S K x0 x1 h := by kernel_rfl
theorem impl_newStrip_call (x0 : List AVal) (x1 : Int) (h : H) (K : AVal → H → Prop) (hm : impl_newStrip_main (Sat Try.prog) (fun v h' => K v h') x0 x1 h) : callV (Sat Try.prog) i_impl_newStrip [.agg x0, .int .i64 x1] h K := by
  have := Sat.ex tok mixed impl_newStrip_M Try.func92 (c := bodyOf Try.f92) (by kernel_rfl) (calls_of Try.func92 (c := bodyOf Try.f92) (by kernel_rfl) (by decide)) ((impl_newStrip_main_link _ _ x0 x1 h).mpr hm)
  exact this

/-! ### slices.Repeat[[]int64,int64] -/
def slices_Repeat_s_int64_int64__M : Nat → List Nat := fun i => bif i == 0 then [7, 8] else []
def slices_Repeat_s_int64_int64__ks8 (S : SatT) (K : AVal → H → Prop) : Kont := kSeq (cwp S tab slices_Repeat_s_int64_int64__M [] (sub [1, 1, 1, 1, 1, 1, 1] (bodyOf Try.f99)) (kFun tab (Try.f99).results.toList K)) (kFun tab (Try.f99).results.toList K)
def slices_Repeat_s_int64_int64__e0 (s7_ : Sl) (i8_ : Int) : Frame := [U, U, U, U, U, U, U, .sl s7_, .int .i64 i8_, U, U, U, U, U, U, U, U, U, U, U, U, U, U, U, U, U, U, U, U, U, U, U, U, U, U, U, U, U, U, U, U, U, U, U, U, U, U, U]
def slices_Repeat_s_int64_int64__w0 (S : SatT) (K : AVal → H → Prop) : (Frame → H → Prop) → Frame → H → Prop := fun X fr h => cwp S tab slices_Repeat_s_int64_int64__M (slices_Repeat_s_int64_int64__M 0) (sub [1, 1, 1, 1, 1, 1, 0, 0, 0] (bodyOf Try.f99)) (kSeq (fun fr h => X (mask (slices_Repeat_s_int64_int64__M 0) fr) h) (kBlk 0 (slices_Repeat_s_int64_int64__ks8 S K))) fr h
def slices_Repeat_s_int64_int64__L0 (S : SatT) (K : AVal → H → Prop) (s7_ : Sl) (i8_ : Int) (h : H) : Prop := loopK (slices_Repeat_s_int64_int64__w0 S K) (slices_Repeat_s_int64_int64__e0 s7_ i8_) h
def slices_Repeat_s_int64_int64__C0 (S : SatT) (K : AVal → H → Prop) (s7_ : Sl) (h : H) : Prop :=
 K (.sl s7_) h
def slices_Repeat_s_int64_int64__b0 (S : SatT) (K : AVal → H → Prop) (X0 : Frame → H → Prop) (s7_ : Sl) (i8_ : Int) (h : H) : Prop :=
 bif (decide (i8_ < (s7_.len : Int))) then
 cut s7_ 1 i8_ (s7_.len : Int) h fun s0 =>
 cut s7_ 1 (0) i8_ h fun s1 =>
 copyS s0 s1 1 h fun n2 h3 =>
 X0 (slices_Repeat_s_int64_int64__e0 s7_ (w64 (i8_ + n2))) h3
 else
 slices_Repeat_s_int64_int64__C0 S K s7_ h
theorem slices_Repeat_s_int64_int64__link0 (S : SatT) (K : AVal → H → Prop) (X0 : Frame → H → Prop) (s7_ : Sl) (i8_ : Int) (h : H) : slices_Repeat_s_int64_int64__w0 S K X0 (slices_Repeat_s_int64_int64__e0 s7_ i8_) h = slices_Repeat_s_int64_int64__b0 S K X0 s7_ i8_ h := by kernel_rfl
theorem slices_Repeat_s_int64_int64__rule0 (S : SatT) (K : AVal → H → Prop) (s7_ : Sl) (I_ : Int → H → Prop) (m_ : Int → H → Nat)
    (hs : ∀ (X0 : Frame → H → Prop) (i8_ : Int) (h : H), I_ i8_ h → (∀ (i8_' : Int) (h' : H), I_ i8_' h' → m_ i8_' h' < m_ i8_ h → X0 (slices_Repeat_s_int64_int64__e0 s7_ i8_') h') → slices_Repeat_s_int64_int64__b0 S K X0 s7_ i8_ h) (i8_ : Int) {h : H} (h0 : I_ i8_ h) : slices_Repeat_s_int64_int64__L0 S K s7_ i8_ h :=
  loop_rule (σ := (Int)) (fun s_ => slices_Repeat_s_int64_int64__e0 s7_ (s_)) (fun s_ h => I_ (s_) h) (fun s_ h => m_ (s_) h)
    (fun X s_ h hi hx => (slices_Repeat_s_int64_int64__link0 S K X s7_ (s_) h).mpr (hs X (s_) h hi fun i8_' h' hi' hm' => hx (i8_') h' hi' hm')) (i8_) h0
theorem slices_Repeat_s_int64_int64__unroll0 (S : SatT) (K : AVal → H → Prop) (s7_ : Sl) (i8_ : Int) (h : H) (hb : slices_Repeat_s_int64_int64__b0 S K (fun fr h => loopK (slices_Repeat_s_int64_int64__w0 S K) fr h) s7_ i8_ h) : slices_Repeat_s_int64_int64__L0 S K s7_ i8_ h := loop_unroll ((slices_Repeat_s_int64_int64__link0 S K _ s7_ i8_ h).mpr hb)
def slices_Repeat_s_int64_int64__main (S : SatT) (K : AVal → H → Prop) (x0 : Sl) (x1 : Int) (h : H) : Prop :=
 bif (decide (x1 < (0))) then
 False
 else
 callV S i_math_bits_Mul [.int .u64 (IntKind.wrap .u64 ((x0.len : Int))), .int .u64 (IntKind.wrap .u64 (x1))] h fun v1 h0 =>
 viaT v1 fun vs2 =>
 exI .u64 vs2 0 fun n3 =>
 viaT v1 fun vs4 =>
 exI .u64 vs4 1 fun n5 =>
 bif (decide (n3 > (0))) then
 False
 else
 bif (decide (n5 > (9223372036854775807))) then
 False
 else
 mkS (w64 (n5)) [.int .i64 (0)] h0 fun s6 h7 =>
 copyS s6 x0 1 h7 fun n8 h9 =>
 slices_Repeat_s_int64_int64__L0 S K s6 n8 h9
theorem slices_Repeat_s_int64_int64__main_link (S : SatT) (K : AVal → H → Prop) (x0 : Sl) (x1 : Int) (h : H) : cwp S tab slices_Repeat_s_int64_int64__M [] (bodyOf Try.f99) (kFun tab Try.f99.results.toList K) (fr0 Try.f99 [.sl x0, .int .i64 x1]) h = slices_Repeat_s_int64_int64__main S K x0 x1 h := by kernel_rfl
theorem slices_Repeat_s_int64_int64__call (x0 : Sl) (x1 : Int) (h : H) (K : Sl → H → Prop) (hm : slices_Repeat_s_int64_int64__main (Sat Try.prog) (fun v h' => ∃ r, v = .sl r ∧ K r h') x0 x1 h) : callS (Sat Try.prog) i_slices_Repeat_s_int64_int64_ [.sl x0, .int .i64 x1] h K := by
  have := Sat.ex tok mixed slices_Repeat_s_int64_int64__M Try.func99 (c := bodyOf Try.f99) (by kernel_rfl) (calls_of Try.func99 (c := bodyOf Try.f99) (by kernel_rfl) (by decide)) ((slices_Repeat_s_int64_int64__main_link _ _ x0 x1 h).mpr hm)
  obtain ⟨v, h2, h3, r, rfl, h4⟩ := this; exact ⟨r, h2, h3, h4⟩

/-! ### loop.example/g01354/spec.l04Find -/
def spec_l04Find_M : Nat → List Nat := fun i => bif i == 0 then [0, 1, 5, 6] else []
def spec_l04Find_ks2 (S : SatT) (K : AVal → H → Prop) : Kont := kSeq (cwp S tab spec_l04Find_M [] (sub [1, 1, 1] (bodyOf Try.f101)) (kFun tab (Try.f101).results.toList K)) (kFun tab (Try.f101).results.toList K)
def spec_l04Find_e0 (s0_ : Sl) (i1_ : Int) (i5_ : Int) (i6_ : Int) : Frame := [.sl s0_, .int .i64 i1_, U, U, U, .int .i64 i5_, .int .i64 i6_, U, U, U, U, U, U, U, U, U, U, U, U, U, U, U, U, U, U, U, U, U, U, U, U, U, U, U, U, U, U, U, U]
def spec_l04Find_w0 (S : SatT) (K : AVal → H → Prop) : (Frame → H → Prop) → Frame → H → Prop := fun X fr h => cwp S tab spec_l04Find_M (spec_l04Find_M 0) (sub [1, 1, 0, 0, 0] (bodyOf Try.f101)) (kSeq (fun fr h => X (mask (spec_l04Find_M 0) fr) h) (kBlk 0 (spec_l04Find_ks2 S K))) fr h
def spec_l04Find_L0 (S : SatT) (K : AVal → H → Prop) (s0_ : Sl) (i1_ : Int) (i5_ : Int) (i6_ : Int) (h : H) : Prop := loopK (spec_l04Find_w0 S K) (spec_l04Find_e0 s0_ i1_ i5_ i6_) h
def spec_l04Find_C0 (S : SatT) (K : AVal → H → Prop) (s0_ : Sl) (i1_ : Int) (i5_ : Int) (h : H) : Prop :=
 bif (decide (i5_ < (s0_.len : Int))) then
 ixS s0_ 1 i5_ fun p0 =>
 ldI .i64 p0 h fun n1 =>
 bif (n1 == i1_) then
 K (.int .i64 i5_) h
 else
 K (.int .i64 (-1)) h
 else
 K (.int .i64 (-1)) h
def spec_l04Find_b0 (S : SatT) (K : AVal → H → Prop) (X0 : Frame → H → Prop) (s0_ : Sl) (i1_ : Int) (i5_ : Int) (i6_ : Int) (h : H) : Prop :=
 bif (decide (i5_ < i6_)) then
 nz (2) (
 ixS s0_ 1 (w64 (Int.tdiv (w64 (i5_ + i6_)) (2))) fun p0 =>
 ldI .i64 p0 h fun n1 =>
 bif (decide (n1 < i1_)) then
 X0 (spec_l04Find_e0 s0_ i1_ (w64 ((w64 (Int.tdiv (w64 (i5_ + i6_)) (2))) + (1))) i6_) h
 else
 X0 (spec_l04Find_e0 s0_ i1_ i5_ (w64 (Int.tdiv (w64 (i5_ + i6_)) (2)))) h)
 else
 spec_l04Find_C0 S K s0_ i1_ i5_ h
theorem spec_l04Find_link0 (S : SatT) (K : AVal → H → Prop) (X0 : Frame → H → Prop) (s0_ : Sl) (i1_ : Int) (i5_ : Int) (i6_ : Int) (h : H) : spec_l04Find_w0 S K X0 (spec_l04Find_e0 s0_ i1_ i5_ i6_) h = spec_l04Find_b0 S K X0 s0_ i1_ i5_ i6_ h := by kernel_rfl
theorem spec_l04Find_rule0 (S : SatT) (K : AVal → H → Prop) (s0_ : Sl) (i1_ : Int) (I_ : Int → Int → H → Prop) (m_ : Int → Int → H → Nat)
    (hs : ∀ (X0 : Frame → H → Prop) (i5_ : Int) (i6_ : Int) (h : H), I_ i5_ i6_ h → (∀ (i5_' : Int) (i6_' : Int) (h' : H), I_ i5_' i6_' h' → m_ i5_' i6_' h' < m_ i5_ i6_ h → X0 (spec_l04Find_e0 s0_ i1_ i5_' i6_') h') → spec_l04Find_b0 S K X0 s0_ i1_ i5_ i6_ h) (i5_ : Int) (i6_ : Int) {h : H} (h0 : I_ i5_ i6_ h) : spec_l04Find_L0 S K s0_ i1_ i5_ i6_ h :=
  loop_rule (σ := (Int) × (Int)) (fun s_ => spec_l04Find_e0 s0_ i1_ (s_.1) (s_.2)) (fun s_ h => I_ (s_.1) (s_.2) h) (fun s_ h => m_ (s_.1) (s_.2) h)
    (fun X s_ h hi hx => (spec_l04Find_link0 S K X s0_ i1_ (s_.1) (s_.2) h).mpr (hs X (s_.1) (s_.2) h hi fun i5_' i6_' h' hi' hm' => hx (i5_', i6_') h' hi' hm')) (i5_, i6_) h0
theorem spec_l04Find_unroll0 (S : SatT) (K : AVal → H → Prop) (s0_ : Sl) (i1_ : Int) (i5_ : Int) (i6_ : Int) (h : H) (hb : spec_l04Find_b0 S K (fun fr h => loopK (spec_l04Find_w0 S K) fr h) s0_ i1_ i5_ i6_ h) : spec_l04Find_L0 S K s0_ i1_ i5_ i6_ h := loop_unroll ((spec_l04Find_link0 S K _ s0_ i1_ i5_ i6_ h).mpr hb)
def spec_l04Find_main (S : SatT) (K : AVal → H → Prop) (x0 : Sl) (x1 : Int) (h : H) : Prop :=
 spec_l04Find_L0 S K x0 x1 (0) (x0.len : Int) h
theorem spec_l04Find_main_link (S : SatT) (K : AVal → H → Prop) (x0 : Sl) (x1 : Int) (h : H) : cwp S tab spec_l04Find_M [] (bodyOf Try.f101) (kFun tab Try.f101.results.toList K) (fr0 Try.f101 [.sl x0, .int .i64 x1]) h = spec_l04Find_main S K x0 x1 h := by kernel_rfl
theorem spec_l04Find_call (x0 : Sl) (x1 : Int) (h : H) (K : Int → H → Prop) (hm : spec_l04Find_main (Sat Try.prog) (fun v h' => ∃ r, v = .int .i64 r ∧ K r h') x0 x1 h) : callI (Sat Try.prog) .i64 i_spec_l04Find [.sl x0, .int .i64 x1] h K := by
  have := Sat.ex tok mixed spec_l04Find_M Try.func101 (c := bodyOf Try.f101) (by kernel_rfl) (calls_of Try.func101 (c := bodyOf Try.f101) (by kernel_rfl) (by decide)) ((spec_l04Find_main_link _ _ x0 x1 h).mpr hm)
  obtain ⟨v, h2, h3, r, rfl, h4⟩ := this; exact ⟨r, h2, h3, h4⟩

/-! ### loop.example/g01354/spec.l06Word -/
def spec_l06Word_M : Nat → List Nat := fun i => bif i == 0 then [0, 1, 7, 8] else []
def spec_l06Word_ks2 (S : SatT) (K : AVal → H → Prop) : Kont := kSeq (cwp S tab spec_l06Word_M [] (sub [1, 1, 1] (bodyOf Try.f74)) (kFun tab (Try.f74).results.toList K)) (kFun tab (Try.f74).results.toList K)
def spec_l06Word_e0 (i0_ : Int) (i1_ : Int) (s7_ : Sl) (i8_ : Int) : Frame := [.int .i64 i0_, .int .i64 i1_, U, U, U, U, U, .sl s7_, .int .i64 i8_, U, U, U, U, U, U, U, U, U, U, U, U, U, U, U, U, U, U]
def spec_l06Word_w0 (S : SatT) (K : AVal → H → Prop) : (Frame → H → Prop) → Frame → H → Prop := fun X fr h => cwp S tab spec_l06Word_M (spec_l06Word_M 0) (sub [1, 1, 0, 1, 0, 0] (bodyOf Try.f74)) (kSeq (fun fr h => X (mask (spec_l06Word_M 0) fr) h) (kBlk 0 (spec_l06Word_ks2 S K))) fr h
def spec_l06Word_L0 (S : SatT) (K : AVal → H → Prop) (i0_ : Int) (i1_ : Int) (s7_ : Sl) (i8_ : Int) (h : H) : Prop := loopK (spec_l06Word_w0 S K) (spec_l06Word_e0 i0_ i1_ s7_ i8_) h
def spec_l06Word_C0 (S : SatT) (K : AVal → H → Prop) (s7_ : Sl) (h : H) : Prop :=
 K (.sl s7_) h
def spec_l06Word_b0 (S : SatT) (K : AVal → H → Prop) (X0 : Frame → H → Prop) (i0_ : Int) (i1_ : Int) (s7_ : Sl) (i8_ : Int) (h : H) : Prop :=
 bif (decide (i8_ ≥ (0))) then
 nz i1_ (
 ixS s7_ 1 i8_ fun p0 =>
 st1 p0 (.int .i64 (Int.tmod i0_ i1_)) h fun h1 =>
 nz i1_ (
 X0 (spec_l06Word_e0 (w64 (Int.tdiv i0_ i1_)) i1_ s7_ (w64 (i8_ - (1)))) h1))
 else
 spec_l06Word_C0 S K s7_ h
theorem spec_l06Word_link0 (S : SatT) (K : AVal → H → Prop) (X0 : Frame → H → Prop) (i0_ : Int) (i1_ : Int) (s7_ : Sl) (i8_ : Int) (h : H) : spec_l06Word_w0 S K X0 (spec_l06Word_e0 i0_ i1_ s7_ i8_) h = spec_l06Word_b0 S K X0 i0_ i1_ s7_ i8_ h := by kernel_rfl
theorem spec_l06Word_rule0 (S : SatT) (K : AVal → H → Prop) (i1_ : Int) (s7_ : Sl) (I_ : Int → Int → H → Prop) (m_ : Int → Int → H → Nat)
    (hs : ∀ (X0 : Frame → H → Prop) (i0_ : Int) (i8_ : Int) (h : H), I_ i0_ i8_ h → (∀ (i0_' : Int) (i8_' : Int) (h' : H), I_ i0_' i8_' h' → m_ i0_' i8_' h' < m_ i0_ i8_ h → X0 (spec_l06Word_e0 i0_' i1_ s7_ i8_') h') → spec_l06Word_b0 S K X0 i0_ i1_ s7_ i8_ h) (i0_ : Int) (i8_ : Int) {h : H} (h0 : I_ i0_ i8_ h) : spec_l06Word_L0 S K i0_ i1_ s7_ i8_ h :=
  loop_rule (σ := (Int) × (Int)) (fun s_ => spec_l06Word_e0 (s_.1) i1_ s7_ (s_.2)) (fun s_ h => I_ (s_.1) (s_.2) h) (fun s_ h => m_ (s_.1) (s_.2) h)
    (fun X s_ h hi hx => (spec_l06Word_link0 S K X (s_.1) i1_ s7_ (s_.2) h).mpr (hs X (s_.1) (s_.2) h hi fun i0_' i8_' h' hi' hm' => hx (i0_', i8_') h' hi' hm')) (i0_, i8_) h0
theorem spec_l06Word_unroll0 (S : SatT) (K : AVal → H → Prop) (i0_ : Int) (i1_ : Int) (s7_ : Sl) (i8_ : Int) (h : H) (hb : spec_l06Word_b0 S K (fun fr h => loopK (spec_l06Word_w0 S K) fr h) i0_ i1_ s7_ i8_ h) : spec_l06Word_L0 S K i0_ i1_ s7_ i8_ h := loop_unroll ((spec_l06Word_link0 S K _ i0_ i1_ s7_ i8_ h).mpr hb)
def spec_l06Word_main (S : SatT) (K : AVal → H → Prop) (x0 : Int) (x1 : Int) (x2 : Int) (h : H) : Prop :=
 mkS x2 [.int .i64 (0)] h fun s0 h1 =>
 spec_l06Word_L0 S K x0 x1 s0 (w64 (x2 - (1))) h1
theorem spec_l06Word_main_link (S : SatT) (K : AVal → H → Prop) (x0 : Int) (x1 : Int) (x2 : Int) (h : H) : cwp S tab spec_l06Word_M [] (bodyOf Try.f74) (kFun tab Try.f74.results.toList K) (fr0 Try.f74 [.int .i64 x0, .int .i64 x1, .int .i64 x2]) h = spec_l06Word_main S K x0 x1 x2 h := by kernel_rfl
theorem spec_l06Word_call (x0 : Int) (x1 : Int) (x2 : Int) (h : H) (K : Sl → H → Prop) (hm : spec_l06Word_main (Sat Try.prog) (fun v h' => ∃ r, v = .sl r ∧ K r h') x0 x1 x2 h) : callS (Sat Try.prog) i_spec_l06Word [.int .i64 x0, .int .i64 x1, .int .i64 x2] h K := by
  have := Sat.ex tok mixed spec_l06Word_M Try.func74 (c := bodyOf Try.f74) (by kernel_rfl) (calls_of Try.func74 (c := bodyOf Try.f74) (by kernel_rfl) (by decide)) ((spec_l06Word_main_link _ _ x0 x1 x2 h).mpr hm)
  obtain ⟨v, h2, h3, r, rfl, h4⟩ := this; exact ⟨r, h2, h3, h4⟩

/-! ### loop.example/g01354/laws.markInt64SS -/
def laws_markInt64SS_M : Nat → List Nat := fun i => bif i == 0 then [0, 1, 5] else []
def laws_markInt64SS_ks1 (S : SatT) (K : AVal → H → Prop) : Kont := kSeq (cwp S tab laws_markInt64SS_M [] (sub [1, 1] (bodyOf Try.f30)) (kFun tab (Try.f30).results.toList K)) (kFun tab (Try.f30).results.toList K)
def laws_markInt64SS_e0 (s0_ : Sl) (i1_ : Int) (i5_ : Int) : Frame := [.sl s0_, .int .i64 i1_, U, U, U, .int .i64 i5_, U, U, U, U, U, U, U, U, U, U, U, U, U]
def laws_markInt64SS_w0 (S : SatT) (K : AVal → H → Prop) : (Frame → H → Prop) → Frame → H → Prop := fun X fr h => cwp S tab laws_markInt64SS_M (laws_markInt64SS_M 0) (sub [1, 0, 1, 0, 0] (bodyOf Try.f30)) (kSeq (fun fr h => X (mask (laws_markInt64SS_M 0) fr) h) (kBlk 0 (laws_markInt64SS_ks1 S K))) fr h
def laws_markInt64SS_L0 (S : SatT) (K : AVal → H → Prop) (s0_ : Sl) (i1_ : Int) (i5_ : Int) (h : H) : Prop := loopK (laws_markInt64SS_w0 S K) (laws_markInt64SS_e0 s0_ i1_ i5_) h
def laws_markInt64SS_C0 (S : SatT) (K : AVal → H → Prop) (i1_ : Int) (h : H) : Prop :=
 K (.int .i64 i1_) h
def laws_markInt64SS_b0 (S : SatT) (K : AVal → H → Prop) (X0 : Frame → H → Prop) (s0_ : Sl) (i1_ : Int) (i5_ : Int) (h : H) : Prop :=
 bif (decide (i5_ < (s0_.len : Int))) then
 ixS s0_ 1 i5_ fun p0 =>
 ldS p0 h fun s1 =>
 callI S .i64 i_laws_markInt64S [.sl s1, .int .i64 i1_] h fun n3 h2 =>
 X0 (laws_markInt64SS_e0 s0_ n3 (w64 (i5_ + (1)))) h2
 else
 laws_markInt64SS_C0 S K i1_ h
theorem laws_markInt64SS_link0 (S : SatT) (K : AVal → H → Prop) (X0 : Frame → H → Prop) (s0_ : Sl) (i1_ : Int) (i5_ : Int) (h : H) : laws_markInt64SS_w0 S K X0 (laws_markInt64SS_e0 s0_ i1_ i5_) h = laws_markInt64SS_b0 S K X0 s0_ i1_ i5_ h := by kernel_rfl
theorem laws_markInt64SS_rule0 (S : SatT) (K : AVal → H → Prop) (s0_ : Sl) (I_ : Int → Int → H → Prop) (m_ : Int → Int → H → Nat)
    (hs : ∀ (X0 : Frame → H → Prop) (i1_ : Int) (i5_ : Int) (h : H), I_ i1_ i5_ h → (∀ (i1_' : Int) (i5_' : Int) (h' : H), I_ i1_' i5_' h' → m_ i1_' i5_' h' < m_ i1_ i5_ h → X0 (laws_markInt64SS_e0 s0_ i1_' i5_') h') → laws_markInt64SS_b0 S K X0 s0_ i1_ i5_ h) (i1_ : Int) (i5_ : Int) {h : H} (h0 : I_ i1_ i5_ h) : laws_markInt64SS_L0 S K s0_ i1_ i5_ h :=
  loop_rule (σ := (Int) × (Int)) (fun s_ => laws_markInt64SS_e0 s0_ (s_.1) (s_.2)) (fun s_ h => I_ (s_.1) (s_.2) h) (fun s_ h => m_ (s_.1) (s_.2) h)
    (fun X s_ h hi hx => (laws_markInt64SS_link0 S K X s0_ (s_.1) (s_.2) h).mpr (hs X (s_.1) (s_.2) h hi fun i1_' i5_' h' hi' hm' => hx (i1_', i5_') h' hi' hm')) (i1_, i5_) h0
theorem laws_markInt64SS_unroll0 (S : SatT) (K : AVal → H → Prop) (s0_ : Sl) (i1_ : Int) (i5_ : Int) (h : H) (hb : laws_markInt64SS_b0 S K (fun fr h => loopK (laws_markInt64SS_w0 S K) fr h) s0_ i1_ i5_ h) : laws_markInt64SS_L0 S K s0_ i1_ i5_ h := loop_unroll ((laws_markInt64SS_link0 S K _ s0_ i1_ i5_ h).mpr hb)
def laws_markInt64SS_main (S : SatT) (K : AVal → H → Prop) (x0 : Sl) (x1 : Int) (h : H) : Prop :=
 laws_markInt64SS_L0 S K x0 x1 (0) h
theorem laws_markInt64SS_main_link (S : SatT) (K : AVal → H → Prop) (x0 : Sl) (x1 : Int) (h : H) : cwp S tab laws_markInt64SS_M [] (bodyOf Try.f30) (kFun tab Try.f30.results.toList K) (fr0 Try.f30 [.sl x0, .int .i64 x1]) h = laws_markInt64SS_main S K x0 x1 h := by kernel_rfl
theorem laws_markInt64SS_call (x0 : Sl) (x1 : Int) (h : H) (K : Int → H → Prop) (hm : laws_markInt64SS_main (Sat Try.prog) (fun v h' => ∃ r, v = .int .i64 r ∧ K r h') x0 x1 h) : callI (Sat Try.prog) .i64 i_laws_markInt64SS [.sl x0, .int .i64 x1] h K := by
  have := Sat.ex tok mixed laws_markInt64SS_M Try.func30 (c := bodyOf Try.f30) (by kernel_rfl) (calls_of Try.func30 (c := bodyOf Try.f30) (by kernel_rfl) (by decide)) ((laws_markInt64SS_main_link _ _ x0 x1 h).mpr hm)
  obtain ⟨v, h2, h3, r, rfl, h4⟩ := this; exact ⟨r, h2, h3, h4⟩

/-! ### loop.example/g01354/spec.l06Size -/
def spec_l06Size_M : Nat → List Nat := fun i => bif i == 0 then [1, 2, 5, 6] else []
def spec_l06Size_ks2 (S : SatT) (K : AVal → H → Prop) : Kont := kSeq (cwp S tab spec_l06Size_M [] (sub [1, 1, 1] (bodyOf Try.f63)) (kFun tab (Try.f63).results.toList K)) (kFun tab (Try.f63).results.toList K)
def spec_l06Size_e0 (i1_ : Int) (p2_ : Pt) (i5_ : Int) (i6_ : Int) : Frame := [U, .int .i64 i1_, .ptr p2_, U, U, .int .i64 i5_, .int .i64 i6_, U, U, U, U, U, U, U, U, U, U]
def spec_l06Size_w0 (S : SatT) (K : AVal → H → Prop) : (Frame → H → Prop) → Frame → H → Prop := fun X fr h => cwp S tab spec_l06Size_M (spec_l06Size_M 0) (sub [1, 1, 0, 1, 0, 0] (bodyOf Try.f63)) (kSeq (fun fr h => X (mask (spec_l06Size_M 0) fr) h) (kBlk 0 (spec_l06Size_ks2 S K))) fr h
def spec_l06Size_L0 (S : SatT) (K : AVal → H → Prop) (i1_ : Int) (p2_ : Pt) (i5_ : Int) (i6_ : Int) (h : H) : Prop := loopK (spec_l06Size_w0 S K) (spec_l06Size_e0 i1_ p2_ i5_ i6_) h
def spec_l06Size_C0 (S : SatT) (K : AVal → H → Prop) (i5_ : Int) (h : H) : Prop :=
 K (.int .i64 i5_) h
def spec_l06Size_b0 (S : SatT) (K : AVal → H → Prop) (X0 : Frame → H → Prop) (i1_ : Int) (p2_ : Pt) (i5_ : Int) (i6_ : Int) (h : H) : Prop :=
 bif (decide (i6_ < i1_)) then
 isPt p2_ (
 ldI .i64 (Pt.add p2_ 0) h fun n0 =>
 X0 (spec_l06Size_e0 i1_ p2_ (w64 (i5_ * n0)) (w64 (i6_ + (1)))) h)
 else
 spec_l06Size_C0 S K i5_ h
theorem spec_l06Size_link0 (S : SatT) (K : AVal → H → Prop) (X0 : Frame → H → Prop) (i1_ : Int) (p2_ : Pt) (i5_ : Int) (i6_ : Int) (h : H) : spec_l06Size_w0 S K X0 (spec_l06Size_e0 i1_ p2_ i5_ i6_) h = spec_l06Size_b0 S K X0 i1_ p2_ i5_ i6_ h := by kernel_rfl
theorem spec_l06Size_rule0 (S : SatT) (K : AVal → H → Prop) (i1_ : Int) (p2_ : Pt) (I_ : Int → Int → H → Prop) (m_ : Int → Int → H → Nat)
    (hs : ∀ (X0 : Frame → H → Prop) (i5_ : Int) (i6_ : Int) (h : H), I_ i5_ i6_ h → (∀ (i5_' : Int) (i6_' : Int) (h' : H), I_ i5_' i6_' h' → m_ i5_' i6_' h' < m_ i5_ i6_ h → X0 (spec_l06Size_e0 i1_ p2_ i5_' i6_') h') → spec_l06Size_b0 S K X0 i1_ p2_ i5_ i6_ h) (i5_ : Int) (i6_ : Int) {h : H} (h0 : I_ i5_ i6_ h) : spec_l06Size_L0 S K i1_ p2_ i5_ i6_ h :=
  loop_rule (σ := (Int) × (Int)) (fun s_ => spec_l06Size_e0 i1_ p2_ (s_.1) (s_.2)) (fun s_ h => I_ (s_.1) (s_.2) h) (fun s_ h => m_ (s_.1) (s_.2) h)
    (fun X s_ h hi hx => (spec_l06Size_link0 S K X i1_ p2_ (s_.1) (s_.2) h).mpr (hs X (s_.1) (s_.2) h hi fun i5_' i6_' h' hi' hm' => hx (i5_', i6_') h' hi' hm')) (i5_, i6_) h0
theorem spec_l06Size_unroll0 (S : SatT) (K : AVal → H → Prop) (i1_ : Int) (p2_ : Pt) (i5_ : Int) (i6_ : Int) (h : H) (hb : spec_l06Size_b0 S K (fun fr h => loopK (spec_l06Size_w0 S K) fr h) i1_ p2_ i5_ i6_ h) : spec_l06Size_L0 S K i1_ p2_ i5_ i6_ h := loop_unroll ((spec_l06Size_link0 S K _ i1_ p2_ i5_ i6_ h).mpr hb)
def spec_l06Size_main (S : SatT) (K : AVal → H → Prop) (x0 : List AVal) (x1 : Int) (h : H) : Prop :=
 newK 2 x0 h fun p0 h1 =>
 spec_l06Size_L0 S K x1 p0 (1) (0) h1
theorem spec_l06Size_main_link (S : SatT) (K : AVal → H → Prop) (x0 : List AVal) (x1 : Int) (h : H) : cwp S tab spec_l06Size_M [] (bodyOf Try.f63) (kFun tab Try.f63.results.toList K) (fr0 Try.f63 [.agg x0, .int .i64 x1]) h = spec_l06Size_main S K x0 x1 h := by kernel_rfl
theorem spec_l06Size_call (x0 : List AVal) (x1 : Int) (h : H) (K : Int → H → Prop) (hm : spec_l06Size_main (Sat Try.prog) (fun v h' => ∃ r, v = .int .i64 r ∧ K r h') x0 x1 h) : callI (Sat Try.prog) .i64 i_spec_l06Size [.agg x0, .int .i64 x1] h K := by
  have := Sat.ex tok mixed spec_l06Size_M Try.func63 (c := bodyOf Try.f63) (by kernel_rfl) (calls_of Try.func63 (c := bodyOf Try.f63) (by kernel_rfl) (by decide)) ((spec_l06Size_main_link _ _ x0 x1 h).mpr hm)
  obtain ⟨v, h2, h3, r, rfl, h4⟩ := this; exact ⟨r, h2, h3, h4⟩

/-! ### loop.example/g01354/laws.eqInt64S -/
def laws_eqInt64S_M : Nat → List Nat := fun i => bif i == 0 then [0, 1, 5] else []
def laws_eqInt64S_ks4 (S : SatT) (K : AVal → H → Prop) : Kont := kSeq (cwp S tab laws_eqInt64S_M [] (sub [1, 1, 1] (bodyOf Try.f21)) (kFun tab (Try.f21).results.toList K)) (kFun tab (Try.f21).results.toList K)
def laws_eqInt64S_e0 (s0_ : Sl) (s1_ : Sl) (i5_ : Int) : Frame := [.sl s0_, .sl s1_, U, U, U, .int .i64 i5_, U, U, U, U, U, U, U, U, U, U, U, U, U, U, U, U, U, U, U, U]
def laws_eqInt64S_w0 (S : SatT) (K : AVal → H → Prop) : (Frame → H → Prop) → Frame → H → Prop := fun X fr h => cwp S tab laws_eqInt64S_M (laws_eqInt64S_M 0) (sub [1, 1, 0, 1, 0, 0] (bodyOf Try.f21)) (kSeq (fun fr h => X (mask (laws_eqInt64S_M 0) fr) h) (kBlk 0 (laws_eqInt64S_ks4 S K))) fr h
def laws_eqInt64S_L0 (S : SatT) (K : AVal → H → Prop) (s0_ : Sl) (s1_ : Sl) (i5_ : Int) (h : H) : Prop := loopK (laws_eqInt64S_w0 S K) (laws_eqInt64S_e0 s0_ s1_ i5_) h
def laws_eqInt64S_C0 (S : SatT) (K : AVal → H → Prop) (h : H) : Prop :=
 K (.bool true) h
def laws_eqInt64S_b0 (S : SatT) (K : AVal → H → Prop) (X0 : Frame → H → Prop) (s0_ : Sl) (s1_ : Sl) (i5_ : Int) (h : H) : Prop :=
 bif (decide (i5_ < (s0_.len : Int))) then
 ixS s0_ 1 i5_ fun p0 =>
 ldI .i64 p0 h fun n1 =>
 ixS s1_ 1 i5_ fun p2 =>
 ldI .i64 p2 h fun n3 =>
 bif (n1 != n3) then
 K (.bool false) h
 else
 X0 (laws_eqInt64S_e0 s0_ s1_ (w64 (i5_ + (1)))) h
 else
 laws_eqInt64S_C0 S K h
theorem laws_eqInt64S_link0 (S : SatT) (K : AVal → H → Prop) (X0 : Frame → H → Prop) (s0_ : Sl) (s1_ : Sl) (i5_ : Int) (h : H) : laws_eqInt64S_w0 S K X0 (laws_eqInt64S_e0 s0_ s1_ i5_) h = laws_eqInt64S_b0 S K X0 s0_ s1_ i5_ h := by kernel_rfl
theorem laws_eqInt64S_rule0 (S : SatT) (K : AVal → H → Prop) (s0_ : Sl) (s1_ : Sl) (I_ : Int → H → Prop) (m_ : Int → H → Nat)
    (hs : ∀ (X0 : Frame → H → Prop) (i5_ : Int) (h : H), I_ i5_ h → (∀ (i5_' : Int) (h' : H), I_ i5_' h' → m_ i5_' h' < m_ i5_ h → X0 (laws_eqInt64S_e0 s0_ s1_ i5_') h') → laws_eqInt64S_b0 S K X0 s0_ s1_ i5_ h) (i5_ : Int) {h : H} (h0 : I_ i5_ h) : laws_eqInt64S_L0 S K s0_ s1_ i5_ h :=
  loop_rule (σ := (Int)) (fun s_ => laws_eqInt64S_e0 s0_ s1_ (s_)) (fun s_ h => I_ (s_) h) (fun s_ h => m_ (s_) h)
    (fun X s_ h hi hx => (laws_eqInt64S_link0 S K X s0_ s1_ (s_) h).mpr (hs X (s_) h hi fun i5_' h' hi' hm' => hx (i5_') h' hi' hm')) (i5_) h0
theorem laws_eqInt64S_unroll0 (S : SatT) (K : AVal → H → Prop) (s0_ : Sl) (s1_ : Sl) (i5_ : Int) (h : H) (hb : laws_eqInt64S_b0 S K (fun fr h => loopK (laws_eqInt64S_w0 S K) fr h) s0_ s1_ i5_ h) : laws_eqInt64S_L0 S K s0_ s1_ i5_ h := loop_unroll ((laws_eqInt64S_link0 S K _ s0_ s1_ i5_ h).mpr hb)
def laws_eqInt64S_main (S : SatT) (K : AVal → H → Prop) (x0 : Sl) (x1 : Sl) (h : H) : Prop :=
 bif ((x0.len : Int) != (x1.len : Int)) then
 K (.bool false) h
 else
 laws_eqInt64S_L0 S K x0 x1 (0) h
theorem laws_eqInt64S_main_link (S : SatT) (K : AVal → H → Prop) (x0 : Sl) (x1 : Sl) (h : H) : cwp S tab laws_eqInt64S_M [] (bodyOf Try.f21) (kFun tab Try.f21.results.toList K) (fr0 Try.f21 [.sl x0, .sl x1]) h = laws_eqInt64S_main S K x0 x1 h := by kernel_rfl
theorem laws_eqInt64S_call (x0 : Sl) (x1 : Sl) (h : H) (K : Bool → H → Prop) (hm : laws_eqInt64S_main (Sat Try.prog) (fun v h' => ∃ r, v = .bool r ∧ K r h') x0 x1 h) : callB (Sat Try.prog) i_laws_eqInt64S [.sl x0, .sl x1] h K := by
  have := Sat.ex tok mixed laws_eqInt64S_M Try.func21 (c := bodyOf Try.f21) (by kernel_rfl) (calls_of Try.func21 (c := bodyOf Try.f21) (by kernel_rfl) (by decide)) ((laws_eqInt64S_main_link _ _ x0 x1 h).mpr hm)
  obtain ⟨v, h2, h3, r, rfl, h4⟩ := this; exact ⟨r, h2, h3, h4⟩

/-! ### loop.example/g01354/spec.l06Code -/
def spec_l06Code_M : Nat → List Nat := fun i => []
def spec_l06Code_main (S : SatT) (K : AVal → H → Prop) (x0 : List AVal) (x1 : Int) (h : H) : Prop :=
 newK 2 x0 h fun p0 h1 =>
 ldA p0 2 h1 fun cs2 =>
 callB S i_spec_l01Is [.agg cs2] h1 fun b4 h3 =>
 bif (!b4) then
 K (.tuple [.sl Sl.nil, .int .i64 (1)]) h3
 else
 callB S i_spec_l01In [.int .i64 x1, .int .i64 (1), .int .i64 (4)] h3 fun b6 h5 =>
 bif (!b6) then
 K (.tuple [.sl Sl.nil, .int .i64 (2)]) h5
 else
 ldA p0 2 h5 fun cs7 =>
 callI S .i64 i_spec_l06Size [.agg cs7, .int .i64 x1] h5 fun n9 h8 =>
 bif (decide (n9 > (700))) then
 K (.tuple [.sl Sl.nil, .int .i64 (3)]) h8
 else
 ldA p0 2 h8 fun cs10 =>
 callV S i_spec_l06Columns [.agg cs10, .int .i64 x1] h8 fun v12 h11 =>
 viaT v12 fun vs13 =>
 exS vs13 0 fun s14 =>
 viaT v12 fun vs15 =>
 exB vs15 1 fun b16 =>
 bif (!b16) then
 K (.tuple [.sl Sl.nil, .int .i64 (3)]) h11
 else
 K (.tuple [.sl s14, .int .i64 (0)]) h11
theorem spec_l06Code_main_link (S : SatT) (K : AVal → H → Prop) (x0 : List AVal) (x1 : Int) (h : H) : cwp S tab spec_l06Code_M [] (bodyOf Try.f52) (kFun tab Try.f52.results.toList K) (fr0 Try.f52 [.agg x0, .int .i64 x1]) h = spec_l06Code_main S K x0 x1 h := by kernel_rfl
theorem spec_l06Code_call (x0 : List AVal) (x1 : Int) (h : H) (K : AVal → H → Prop) (hm : spec_l06Code_main (Sat Try.prog) (fun v h' => K v h') x0 x1 h) : callV (Sat Try.prog) i_spec_l06Code [.agg x0, .int .i64 x1] h K := by
  have := Sat.ex tok mixed spec_l06Code_M Try.func52 (c := bodyOf Try.f52) (by kernel_rfl) (calls_of Try.func52 (c := bodyOf Try.f52) (by kernel_rfl) (by decide)) ((spec_l06Code_main_link _ _ x0 x1 h).mpr hm)
  exact this

/-! ### cmp.Compare[int64] -/
def cmp_Compare_int64__M : Nat → List Nat := fun i => []
def cmp_Compare_int64__main (S : SatT) (K : AVal → H → Prop) (x0 : Int) (x1 : Int) (h : H) : Prop :=
 callB S i_cmp_isNaN_int64_ [.int .i64 x0] h fun b1 h0 =>
 callB S i_cmp_isNaN_int64_ [.int .i64 x1] h0 fun b3 h2 =>
 bif b1 then
 bif b3 then
 K (.int .i64 (0)) h2
 else
 K (.int .i64 (-1)) h2
 else
 bif b3 then
 K (.int .i64 (1)) h2
 else
 bif (decide (x0 < x1)) then
 K (.int .i64 (-1)) h2
 else
 bif (decide (x0 > x1)) then
 K (.int .i64 (1)) h2
 else
 K (.int .i64 (0)) h2
theorem cmp_Compare_int64__main_link (S : SatT) (K : AVal → H → Prop) (x0 : Int) (x1 : Int) (h : H) : cwp S tab cmp_Compare_int64__M [] (bodyOf Try.f126) (kFun tab Try.f126.results.toList K) (fr0 Try.f126 [.int .i64 x0, .int .i64 x1]) h = cmp_Compare_int64__main S K x0 x1 h := by kernel_rfl
theorem cmp_Compare_int64__call (x0 : Int) (x1 : Int) (h : H) (K : Int → H → Prop) (hm : cmp_Compare_int64__main (Sat Try.prog) (fun v h' => ∃ r, v = .int .i64 r ∧ K r h') x0 x1 h) : callI (Sat Try.prog) .i64 i_cmp_Compare_int64_ [.int .i64 x0, .int .i64 x1] h K := by
  have := Sat.ex tok mixed cmp_Compare_int64__M Try.func126 (c := bodyOf Try.f126) (by kernel_rfl) (calls_of Try.func126 (c := bodyOf Try.f126) (by kernel_rfl) (by decide)) ((cmp_Compare_int64__main_link _ _ x0 x1 h).mpr hm)
  obtain ⟨v, h2, h3, r, rfl, h4⟩ := this; exact ⟨r, h2, h3, h4⟩

/-! ### loop.example/g01354/impl.compare -/
def impl_compare_M : Nat → List Nat := fun i => []
def impl_compare_main (S : SatT) (K : AVal → H → Prop) (x0 : List AVal) (x1 : List AVal) (h : H) : Prop :=
 newK 4 x0 h fun p0 h1 =>
 newK 4 x1 h1 fun p2 h3 =>
 cutA p0 4 1 (0) ((4 : Nat) : Int) fun s4 =>
 cutA p2 4 1 (0) ((4 : Nat) : Int) fun s5 =>
 callI S .i64 i_slices_Compare_s_int64_int64_ [.sl s4, .sl s5] h3 fun n7 h6 =>
 K (.int .i64 n7) h6
theorem impl_compare_main_link (S : SatT) (K : AVal → H → Prop) (x0 : List AVal) (x1 : List AVal) (h : H) : cwp S tab impl_compare_M [] (bodyOf Try.f97) (kFun tab Try.f97.results.toList K) (fr0 Try.f97 [.agg x0, .agg x1]) h = impl_compare_main S K x0 x1 h := by kernel_rfl
theorem impl_compare_call (x0 : List AVal) (x1 : List AVal) (h : H) (K : Int → H → Prop) (hm : impl_compare_main (Sat Try.prog) (fun v h' => ∃ r, v = .int .i64 r ∧ K r h') x0 x1 h) : callI (Sat Try.prog) .i64 i_impl_compare [.agg x0, .agg x1] h K := by
  have := Sat.ex tok mixed impl_compare_M Try.func97 (c := bodyOf Try.f97) (by kernel_rfl) (calls_of Try.func97 (c := bodyOf Try.f97) (by kernel_rfl) (by decide)) ((impl_compare_main_link _ _ x0 x1 h).mpr hm)
  obtain ⟨v, h2, h3, r, rfl, h4⟩ := this; exact ⟨r, h2, h3, h4⟩

/-! ### loop.example/g01354/laws.markSet -/
def laws_markSet_M : Nat → List Nat := fun i => []
def laws_markSet_main (S : SatT) (K : AVal → H → Prop) (x0 : List AVal) (x1 : Int) (h : H) : Prop :=
 newK 2 x0 h fun p0 h1 =>
 isPt p0 (
 ldS (Pt.add p0 1) h1 fun s2 =>
 callI S .i64 i_laws_markTileS [.sl s2, .int .i64 x1] h1 fun n4 h3 =>
 K (.int .i64 n4) h3)
theorem laws_markSet_main_link (S : SatT) (K : AVal → H → Prop) (x0 : List AVal) (x1 : Int) (h : H) : cwp S tab laws_markSet_M [] (bodyOf Try.f22) (kFun tab Try.f22.results.toList K) (fr0 Try.f22 [.agg x0, .int .i64 x1]) h = laws_markSet_main S K x0 x1 h := by kernel_rfl
theorem laws_markSet_call (x0 : List AVal) (x1 : Int) (h : H) (K : Int → H → Prop) (hm : laws_markSet_main (Sat Try.prog) (fun v h' => ∃ r, v = .int .i64 r ∧ K r h') x0 x1 h) : callI (Sat Try.prog) .i64 i_laws_markSet [.agg x0, .int .i64 x1] h K := by
  have := Sat.ex tok mixed laws_markSet_M Try.func22 (c := bodyOf Try.f22) (by kernel_rfl) (calls_of Try.func22 (c := bodyOf Try.f22) (by kernel_rfl) (by decide)) ((laws_markSet_main_link _ _ x0 x1 h).mpr hm)
  obtain ⟨v, h2, h3, r, rfl, h4⟩ := this; exact ⟨r, h2, h3, h4⟩

/-! ### loop.example/g01354/spec.l01In -/
def spec_l01In_M : Nat → List Nat := fun i => []
def spec_l01In_main (S : SatT) (K : AVal → H → Prop) (x0 : Int) (x1 : Int) (x2 : Int) (h : H) : Prop :=
 bif (decide (x0 ≥ x1)) then
 K (.bool (decide (x0 ≤ x2))) h
 else
 K (.bool false) h
theorem spec_l01In_main_link (S : SatT) (K : AVal → H → Prop) (x0 : Int) (x1 : Int) (x2 : Int) (h : H) : cwp S tab spec_l01In_M [] (bodyOf Try.f61) (kFun tab Try.f61.results.toList K) (fr0 Try.f61 [.int .i64 x0, .int .i64 x1, .int .i64 x2]) h = spec_l01In_main S K x0 x1 x2 h := by kernel_rfl
theorem spec_l01In_call (x0 : Int) (x1 : Int) (x2 : Int) (h : H) (K : Bool → H → Prop) (hm : spec_l01In_main (Sat Try.prog) (fun v h' => ∃ r, v = .bool r ∧ K r h') x0 x1 x2 h) : callB (Sat Try.prog) i_spec_l01In [.int .i64 x0, .int .i64 x1, .int .i64 x2] h K := by
  have := Sat.ex tok mixed spec_l01In_M Try.func61 (c := bodyOf Try.f61) (by kernel_rfl) (calls_of Try.func61 (c := bodyOf Try.f61) (by kernel_rfl) (by decide)) ((spec_l01In_main_link _ _ x0 x1 x2 h).mpr hm)
  obtain ⟨v, h2, h3, r, rfl, h4⟩ := this; exact ⟨r, h2, h3, h4⟩

/-! ### loop.example/g01354/spec.l06Keep -/
def spec_l06Keep_M : Nat → List Nat := fun i => bif i == 4 then [0, 1, 5, 6, 7, 9] else bif i == 2 then [0, 1, 5, 6, 7, 8] else bif i == 0 then [0, 1] else []
def spec_l06Keep_e0 (s0_ : Sl) (i1_ : Int) : Frame := [.sl s0_, .int .i64 i1_, U, U, U, U, U, U, U, U, U, U, U, U, U, U, U, U, U, U, U, U, U, U, U, U, U, U, U, U, U, U, U, U, U, U, U, U, U, U, U, U, U, U, U, U, U, U, U, U, U, U, U, U, U, U, U, U, U, U, U, U, U, U, U, U, U, U, U, U, U, U, U, U, U, U, U]
def spec_l06Keep_w0 (S : SatT) (K : AVal → H → Prop) : (Frame → H → Prop) → Frame → H → Prop := fun X fr h => cwp S tab spec_l06Keep_M (spec_l06Keep_M 0) (sub [1, 0, 0] (bodyOf Try.f100)) (kSeq (fun fr h => X (mask (spec_l06Keep_M 0) fr) h) (kBlk 0 (kFun tab (Try.f100).results.toList K))) fr h
def spec_l06Keep_L0 (S : SatT) (K : AVal → H → Prop) (s0_ : Sl) (i1_ : Int) (h : H) : Prop := loopK (spec_l06Keep_w0 S K) (spec_l06Keep_e0 s0_ i1_) h
def spec_l06Keep_ks2 (S : SatT) (K : AVal → H → Prop) (X0 : Frame → H → Prop) : Kont := kSeq (cwp S tab spec_l06Keep_M (spec_l06Keep_M 1) (sub [1, 0, 0, 0, 1, 1] (bodyOf Try.f100)) (kBlk 1 (kSeq (fun fr h => X0 (mask (spec_l06Keep_M 0) fr) h) (kBlk 0 (kFun tab (Try.f100).results.toList K))))) (kBlk 1 (kSeq (fun fr h => X0 (mask (spec_l06Keep_M 0) fr) h) (kBlk 0 (kFun tab (Try.f100).results.toList K))))
def spec_l06Keep_e2 (s0_ : Sl) (i1_ : Int) (s5_ : Sl) (s6_ : Sl) (s7_ : Sl) (i8_ : Int) : Frame := [.sl s0_, .int .i64 i1_, U, U, U, .sl s5_, .sl s6_, .sl s7_, .int .i64 i8_, U, U, U, U, U, U, U, U, U, U, U, U, U, U, U, U, U, U, U, U, U, U, U, U, U, U, U, U, U, U, U, U, U, U, U, U, U, U, U, U, U, U, U, U, U, U, U, U, U, U, U, U, U, U, U, U, U, U, U, U, U, U, U, U, U, U, U, U]
def spec_l06Keep_w2 (S : SatT) (K : AVal → H → Prop) (X0 : Frame → H → Prop) : (Frame → H → Prop) → Frame → H → Prop := fun X fr h => cwp S tab spec_l06Keep_M (spec_l06Keep_M 2) (sub [1, 0, 0, 0, 1, 0, 1, 0, 0] (bodyOf Try.f100)) (kSeq (fun fr h => X (mask (spec_l06Keep_M 2) fr) h) (kBlk 2 (spec_l06Keep_ks2 S K X0))) fr h
def spec_l06Keep_L2 (S : SatT) (K : AVal → H → Prop) (X0 : Frame → H → Prop) (s0_ : Sl) (i1_ : Int) (s5_ : Sl) (s6_ : Sl) (s7_ : Sl) (i8_ : Int) (h : H) : Prop := loopK (spec_l06Keep_w2 S K X0) (spec_l06Keep_e2 s0_ i1_ s5_ s6_ s7_ i8_) h
def spec_l06Keep_ks8 (S : SatT) (K : AVal → H → Prop) (X0 : Frame → H → Prop) : Kont := kSeq (cwp S tab spec_l06Keep_M (spec_l06Keep_M 1) (sub [1, 0, 0, 0, 1, 1, 1] (bodyOf Try.f100)) (kBlk 1 (kSeq (fun fr h => X0 (mask (spec_l06Keep_M 0) fr) h) (kBlk 0 (kFun tab (Try.f100).results.toList K))))) (kBlk 1 (kSeq (fun fr h => X0 (mask (spec_l06Keep_M 0) fr) h) (kBlk 0 (kFun tab (Try.f100).results.toList K))))
def spec_l06Keep_e4 (s0_ : Sl) (i1_ : Int) (s5_ : Sl) (s6_ : Sl) (s7_ : Sl) (i9_ : Int) : Frame := [.sl s0_, .int .i64 i1_, U, U, U, .sl s5_, .sl s6_, .sl s7_, U, .int .i64 i9_, U, U, U, U, U, U, U, U, U, U, U, U, U, U, U, U, U, U, U, U, U, U, U, U, U, U, U, U, U, U, U, U, U, U, U, U, U, U, U, U, U, U, U, U, U, U, U, U, U, U, U, U, U, U, U, U, U, U, U, U, U, U, U, U, U, U, U]
def spec_l06Keep_w4 (S : SatT) (K : AVal → H → Prop) (X0 : Frame → H → Prop) : (Frame → H → Prop) → Frame → H → Prop := fun X fr h => cwp S tab spec_l06Keep_M (spec_l06Keep_M 4) (sub [1, 0, 0, 0, 1, 1, 0, 1, 0, 0] (bodyOf Try.f100)) (kSeq (fun fr h => X (mask (spec_l06Keep_M 4) fr) h) (kBlk 4 (spec_l06Keep_ks8 S K X0))) fr h
def spec_l06Keep_L4 (S : SatT) (K : AVal → H → Prop) (X0 : Frame → H → Prop) (s0_ : Sl) (i1_ : Int) (s5_ : Sl) (s6_ : Sl) (s7_ : Sl) (i9_ : Int) (h : H) : Prop := loopK (spec_l06Keep_w4 S K X0) (spec_l06Keep_e4 s0_ i1_ s5_ s6_ s7_ i9_) h
def spec_l06Keep_C4 (S : SatT) (K : AVal → H → Prop) (X0 : Frame → H → Prop) (s0_ : Sl) (i1_ : Int) (s7_ : Sl) (h : H) : Prop :=
 bif ((s7_.len : Int) == (s0_.len : Int)) then
 K (.sl s7_) h
 else
 X0 (spec_l06Keep_e0 s7_ i1_) h
def spec_l06Keep_b4 (S : SatT) (K : AVal → H → Prop) (X0 : Frame → H → Prop) (X4 : Frame → H → Prop) (s0_ : Sl) (i1_ : Int) (s5_ : Sl) (s6_ : Sl) (s7_ : Sl) (i9_ : Int) (h : H) : Prop :=
 bif (decide (i9_ < (s0_.len : Int))) then
 ixS s0_ 1 i9_ fun p0 =>
 ldS p0 h fun s1 =>
 ixS s1 1 (0) fun p2 =>
 ldI .i64 p2 h fun n3 =>
 ixS s6_ 1 n3 fun p4 =>
 ldB p4 h fun b5 =>
 bif b5 then
 ixS s0_ 1 i9_ fun p6 =>
 ldS p6 h fun s7 =>
 ixS s7 1 (1) fun p8 =>
 ldI .i64 p8 h fun n9 =>
 ixS s5_ 1 n9 fun p10 =>
 ldB p10 h fun b11 =>
 bif b11 then
 ixS s0_ 1 i9_ fun p12 =>
 ldS p12 h fun s13 =>
 newS 1 1 [.sl s13] h fun s14 h15 =>
 app s7_ s14 1 h15 fun s16 h17 =>
 X4 (spec_l06Keep_e4 s0_ i1_ s5_ s6_ s16 (w64 (i9_ + (1)))) h17
 else
 X4 (spec_l06Keep_e4 s0_ i1_ s5_ s6_ s7_ (w64 (i9_ + (1)))) h
 else
 X4 (spec_l06Keep_e4 s0_ i1_ s5_ s6_ s7_ (w64 (i9_ + (1)))) h
 else
 spec_l06Keep_C4 S K X0 s0_ i1_ s7_ h
theorem spec_l06Keep_link4 (S : SatT) (K : AVal → H → Prop) (X0 : Frame → H → Prop) (X4 : Frame → H → Prop) (s0_ : Sl) (i1_ : Int) (s5_ : Sl) (s6_ : Sl) (s7_ : Sl) (i9_ : Int) (h : H) : spec_l06Keep_w4 S K X0 X4 (spec_l06Keep_e4 s0_ i1_ s5_ s6_ s7_ i9_) h = spec_l06Keep_b4 S K X0 X4 s0_ i1_ s5_ s6_ s7_ i9_ h := by kernel_rfl
theorem spec_l06Keep_rule4 (S : SatT) (K : AVal → H → Prop) (X0 : Frame → H → Prop) (s0_ : Sl) (i1_ : Int) (s5_ : Sl) (s6_ : Sl) (I_ : Sl → Int → H → Prop) (m_ : Sl → Int → H → Nat)
    (hs : ∀ (X4 : Frame → H → Prop) (s7_ : Sl) (i9_ : Int) (h : H), I_ s7_ i9_ h → (∀ (s7_' : Sl) (i9_' : Int) (h' : H), I_ s7_' i9_' h' → m_ s7_' i9_' h' < m_ s7_ i9_ h → X4 (spec_l06Keep_e4 s0_ i1_ s5_ s6_ s7_' i9_') h') → spec_l06Keep_b4 S K X0 X4 s0_ i1_ s5_ s6_ s7_ i9_ h) (s7_ : Sl) (i9_ : Int) {h : H} (h0 : I_ s7_ i9_ h) : spec_l06Keep_L4 S K X0 s0_ i1_ s5_ s6_ s7_ i9_ h :=
  loop_rule (σ := (Sl) × (Int)) (fun s_ => spec_l06Keep_e4 s0_ i1_ s5_ s6_ (s_.1) (s_.2)) (fun s_ h => I_ (s_.1) (s_.2) h) (fun s_ h => m_ (s_.1) (s_.2) h)
    (fun X s_ h hi hx => (spec_l06Keep_link4 S K X0 X s0_ i1_ s5_ s6_ (s_.1) (s_.2) h).mpr (hs X (s_.1) (s_.2) h hi fun s7_' i9_' h' hi' hm' => hx (s7_', i9_') h' hi' hm')) (s7_, i9_) h0
theorem spec_l06Keep_unroll4 (S : SatT) (K : AVal → H → Prop) (X0 : Frame → H → Prop) (s0_ : Sl) (i1_ : Int) (s5_ : Sl) (s6_ : Sl) (s7_ : Sl) (i9_ : Int) (h : H) (hb : spec_l06Keep_b4 S K X0 (fun fr h => loopK (spec_l06Keep_w4 S K X0) fr h) s0_ i1_ s5_ s6_ s7_ i9_ h) : spec_l06Keep_L4 S K X0 s0_ i1_ s5_ s6_ s7_ i9_ h := loop_unroll ((spec_l06Keep_link4 S K X0 _ s0_ i1_ s5_ s6_ s7_ i9_ h).mpr hb)
def spec_l06Keep_C2 (S : SatT) (K : AVal → H → Prop) (X0 : Frame → H → Prop) (s0_ : Sl) (i1_ : Int) (s5_ : Sl) (s6_ : Sl) (s7_ : Sl) (h : H) : Prop :=
 spec_l06Keep_L4 S K X0 s0_ i1_ s5_ s6_ s7_ (0) h
def spec_l06Keep_b2 (S : SatT) (K : AVal → H → Prop) (X0 : Frame → H → Prop) (X2 : Frame → H → Prop) (s0_ : Sl) (i1_ : Int) (s5_ : Sl) (s6_ : Sl) (s7_ : Sl) (i8_ : Int) (h : H) : Prop :=
 bif (decide (i8_ < (s0_.len : Int))) then
 ixS s0_ 1 i8_ fun p0 =>
 ldS p0 h fun s1 =>
 ixS s1 1 (0) fun p2 =>
 ldI .i64 p2 h fun n3 =>
 ixS s5_ 1 n3 fun p4 =>
 st1 p4 (.bool true) h fun h5 =>
 ixS s0_ 1 i8_ fun p6 =>
 ldS p6 h5 fun s7 =>
 ixS s7 1 (1) fun p8 =>
 ldI .i64 p8 h5 fun n9 =>
 ixS s6_ 1 n9 fun p10 =>
 st1 p10 (.bool true) h5 fun h11 =>
 X2 (spec_l06Keep_e2 s0_ i1_ s5_ s6_ s7_ (w64 (i8_ + (1)))) h11
 else
 spec_l06Keep_C2 S K X0 s0_ i1_ s5_ s6_ s7_ h
theorem spec_l06Keep_link2 (S : SatT) (K : AVal → H → Prop) (X0 : Frame → H → Prop) (X2 : Frame → H → Prop) (s0_ : Sl) (i1_ : Int) (s5_ : Sl) (s6_ : Sl) (s7_ : Sl) (i8_ : Int) (h : H) : spec_l06Keep_w2 S K X0 X2 (spec_l06Keep_e2 s0_ i1_ s5_ s6_ s7_ i8_) h = spec_l06Keep_b2 S K X0 X2 s0_ i1_ s5_ s6_ s7_ i8_ h := by kernel_rfl
theorem spec_l06Keep_rule2 (S : SatT) (K : AVal → H → Prop) (X0 : Frame → H → Prop) (s0_ : Sl) (i1_ : Int) (s5_ : Sl) (s6_ : Sl) (s7_ : Sl) (I_ : Int → H → Prop) (m_ : Int → H → Nat)
    (hs : ∀ (X2 : Frame → H → Prop) (i8_ : Int) (h : H), I_ i8_ h → (∀ (i8_' : Int) (h' : H), I_ i8_' h' → m_ i8_' h' < m_ i8_ h → X2 (spec_l06Keep_e2 s0_ i1_ s5_ s6_ s7_ i8_') h') → spec_l06Keep_b2 S K X0 X2 s0_ i1_ s5_ s6_ s7_ i8_ h) (i8_ : Int) {h : H} (h0 : I_ i8_ h) : spec_l06Keep_L2 S K X0 s0_ i1_ s5_ s6_ s7_ i8_ h :=
  loop_rule (σ := (Int)) (fun s_ => spec_l06Keep_e2 s0_ i1_ s5_ s6_ s7_ (s_)) (fun s_ h => I_ (s_) h) (fun s_ h => m_ (s_) h)
    (fun X s_ h hi hx => (spec_l06Keep_link2 S K X0 X s0_ i1_ s5_ s6_ s7_ (s_) h).mpr (hs X (s_) h hi fun i8_' h' hi' hm' => hx (i8_') h' hi' hm')) (i8_) h0
theorem spec_l06Keep_unroll2 (S : SatT) (K : AVal → H → Prop) (X0 : Frame → H → Prop) (s0_ : Sl) (i1_ : Int) (s5_ : Sl) (s6_ : Sl) (s7_ : Sl) (i8_ : Int) (h : H) (hb : spec_l06Keep_b2 S K X0 (fun fr h => loopK (spec_l06Keep_w2 S K X0) fr h) s0_ i1_ s5_ s6_ s7_ i8_ h) : spec_l06Keep_L2 S K X0 s0_ i1_ s5_ s6_ s7_ i8_ h := loop_unroll ((spec_l06Keep_link2 S K X0 _ s0_ i1_ s5_ s6_ s7_ i8_ h).mpr hb)
def spec_l06Keep_b0 (S : SatT) (K : AVal → H → Prop) (X0 : Frame → H → Prop) (s0_ : Sl) (i1_ : Int) (h : H) : Prop :=
 slotK 8 h fun h0 =>
 mkSat i1_ [.bool false] h0 (h.length + 1) fun s1 h2 =>
 mkSat i1_ [.bool false] h2 (h.length + 3) fun s3 h4 =>
 newSat 0 1 [] h4 (h.length + 4) fun s5 h6 =>
 spec_l06Keep_L2 S K X0 s0_ i1_ s1 s3 s5 (0) h6
theorem spec_l06Keep_link0 (S : SatT) (K : AVal → H → Prop) (X0 : Frame → H → Prop) (s0_ : Sl) (i1_ : Int) (h : H) : spec_l06Keep_w0 S K X0 (spec_l06Keep_e0 s0_ i1_) h = spec_l06Keep_b0 S K X0 s0_ i1_ h := by kernel_rfl
theorem spec_l06Keep_rule0 (S : SatT) (K : AVal → H → Prop) (i1_ : Int) (I_ : Sl → H → Prop) (m_ : Sl → H → Nat)
    (hs : ∀ (X0 : Frame → H → Prop) (s0_ : Sl) (h : H), I_ s0_ h → (∀ (s0_' : Sl) (h' : H), I_ s0_' h' → m_ s0_' h' < m_ s0_ h → X0 (spec_l06Keep_e0 s0_' i1_) h') → spec_l06Keep_b0 S K X0 s0_ i1_ h) (s0_ : Sl) {h : H} (h0 : I_ s0_ h) : spec_l06Keep_L0 S K s0_ i1_ h :=
  loop_rule (σ := (Sl)) (fun s_ => spec_l06Keep_e0 (s_) i1_) (fun s_ h => I_ (s_) h) (fun s_ h => m_ (s_) h)
    (fun X s_ h hi hx => (spec_l06Keep_link0 S K X (s_) i1_ h).mpr (hs X (s_) h hi fun s0_' h' hi' hm' => hx (s0_') h' hi' hm')) (s0_) h0
theorem spec_l06Keep_unroll0 (S : SatT) (K : AVal → H → Prop) (s0_ : Sl) (i1_ : Int) (h : H) (hb : spec_l06Keep_b0 S K (fun fr h => loopK (spec_l06Keep_w0 S K) fr h) s0_ i1_ h) : spec_l06Keep_L0 S K s0_ i1_ h := loop_unroll ((spec_l06Keep_link0 S K _ s0_ i1_ h).mpr hb)
def spec_l06Keep_main (S : SatT) (K : AVal → H → Prop) (x0 : Sl) (x1 : Int) (h : H) : Prop :=
 spec_l06Keep_L0 S K x0 x1 h
theorem spec_l06Keep_main_link (S : SatT) (K : AVal → H → Prop) (x0 : Sl) (x1 : Int) (h : H) : cwp S tab spec_l06Keep_M [] (bodyOf Try.f100) (kFun tab Try.f100.results.toList K) (fr0 Try.f100 [.sl x0, .int .i64 x1]) h = spec_l06Keep_main S K x0 x1 h := by kernel_rfl
theorem spec_l06Keep_call (x0 : Sl) (x1 : Int) (h : H) (K : Sl → H → Prop) (hm : spec_l06Keep_main (Sat Try.prog) (fun v h' => ∃ r, v = .sl r ∧ K r h') x0 x1 h) : callS (Sat Try.prog) i_spec_l06Keep [.sl x0, .int .i64 x1] h K := by
  have := Sat.ex tok mixed spec_l06Keep_M Try.func100 (c := bodyOf Try.f100) (by kernel_rfl) (calls_of Try.func100 (c := bodyOf Try.f100) (by kernel_rfl) (by decide)) ((spec_l06Keep_main_link _ _ x0 x1 h).mpr hm)
  obtain ⟨v, h2, h3, r, rfl, h4⟩ := this; exact ⟨r, h2, h3, h4⟩

/-! ### loop.example/g01354/laws.markTileS -/
def laws_markTileS_M : Nat → List Nat := fun i => bif i == 2 then [0, 1, 5, 6] else bif i == 0 then [0, 1, 5] else []
def laws_markTileS_ks1 (S : SatT) (K : AVal → H → Prop) : Kont := kSeq (cwp S tab laws_markTileS_M [] (sub [1, 1] (bodyOf Try.f60)) (kFun tab (Try.f60).results.toList K)) (kFun tab (Try.f60).results.toList K)
def laws_markTileS_e0 (s0_ : Sl) (i1_ : Int) (i5_ : Int) : Frame := [.sl s0_, .int .i64 i1_, U, U, U, .int .i64 i5_, U, U, U, U, U, U, U, U, U, U, U, U, U, U, U, U, U, U, U, U]
def laws_markTileS_w0 (S : SatT) (K : AVal → H → Prop) : (Frame → H → Prop) → Frame → H → Prop := fun X fr h => cwp S tab laws_markTileS_M (laws_markTileS_M 0) (sub [1, 0, 1, 0, 0] (bodyOf Try.f60)) (kSeq (fun fr h => X (mask (laws_markTileS_M 0) fr) h) (kBlk 0 (laws_markTileS_ks1 S K))) fr h
def laws_markTileS_L0 (S : SatT) (K : AVal → H → Prop) (s0_ : Sl) (i1_ : Int) (i5_ : Int) (h : H) : Prop := loopK (laws_markTileS_w0 S K) (laws_markTileS_e0 s0_ i1_ i5_) h
def laws_markTileS_ks5 (S : SatT) (K : AVal → H → Prop) (X0 : Frame → H → Prop) : Kont := kSeq (cwp S tab laws_markTileS_M (laws_markTileS_M 0) (sub [1, 0, 1, 0, 0, 1, 1] (bodyOf Try.f60)) (kSeq (fun fr h => X0 (mask (laws_markTileS_M 0) fr) h) (kBlk 0 (laws_markTileS_ks1 S K)))) (kSeq (fun fr h => X0 (mask (laws_markTileS_M 0) fr) h) (kBlk 0 (laws_markTileS_ks1 S K)))
def laws_markTileS_e2 (s0_ : Sl) (i1_ : Int) (i5_ : Int) (i6_ : Int) : Frame := [.sl s0_, .int .i64 i1_, U, U, U, .int .i64 i5_, .int .i64 i6_, U, U, U, U, U, U, U, U, U, U, U, U, U, U, U, U, U, U, U]
def laws_markTileS_w2 (S : SatT) (K : AVal → H → Prop) (X0 : Frame → H → Prop) : (Frame → H → Prop) → Frame → H → Prop := fun X fr h => cwp S tab laws_markTileS_M (laws_markTileS_M 2) (sub [1, 0, 1, 0, 0, 1, 0, 0, 1, 0, 0] (bodyOf Try.f60)) (kSeq (fun fr h => X (mask (laws_markTileS_M 2) fr) h) (kBlk 2 (kBlk 1 (laws_markTileS_ks5 S K X0)))) fr h
def laws_markTileS_L2 (S : SatT) (K : AVal → H → Prop) (X0 : Frame → H → Prop) (s0_ : Sl) (i1_ : Int) (i5_ : Int) (i6_ : Int) (h : H) : Prop := loopK (laws_markTileS_w2 S K X0) (laws_markTileS_e2 s0_ i1_ i5_ i6_) h
def laws_markTileS_C1 (S : SatT) (K : AVal → H → Prop) (X0 : Frame → H → Prop) (s0_ : Sl) (i1_ : Int) (i5_ : Int) (h : H) : Prop :=
 X0 (laws_markTileS_e0 s0_ i1_ (w64 (i5_ + (1)))) h
def laws_markTileS_C2 (S : SatT) (K : AVal → H → Prop) (X0 : Frame → H → Prop) (s0_ : Sl) (i1_ : Int) (i5_ : Int) (h : H) : Prop :=
 laws_markTileS_C1 S K X0 s0_ i1_ i5_ h
def laws_markTileS_b2 (S : SatT) (K : AVal → H → Prop) (X0 : Frame → H → Prop) (X2 : Frame → H → Prop) (s0_ : Sl) (i1_ : Int) (i5_ : Int) (i6_ : Int) (h : H) : Prop :=
 bif (decide (i6_ < (4))) then
 ixS s0_ 4 i5_ fun p0 =>
 ixA p0 4 1 i6_ fun p1 =>
 st1 p1 (.int .i64 i1_) h fun h2 =>
 X2 (laws_markTileS_e2 s0_ (w64 (i1_ + (1))) i5_ (w64 (i6_ + (1)))) h2
 else
 laws_markTileS_C2 S K X0 s0_ i1_ i5_ h
theorem laws_markTileS_link2 (S : SatT) (K : AVal → H → Prop) (X0 : Frame → H → Prop) (X2 : Frame → H → Prop) (s0_ : Sl) (i1_ : Int) (i5_ : Int) (i6_ : Int) (h : H) : laws_markTileS_w2 S K X0 X2 (laws_markTileS_e2 s0_ i1_ i5_ i6_) h = laws_markTileS_b2 S K X0 X2 s0_ i1_ i5_ i6_ h := by kernel_rfl
theorem laws_markTileS_rule2 (S : SatT) (K : AVal → H → Prop) (X0 : Frame → H → Prop) (s0_ : Sl) (i5_ : Int) (I_ : Int → Int → H → Prop) (m_ : Int → Int → H → Nat)
    (hs : ∀ (X2 : Frame → H → Prop) (i1_ : Int) (i6_ : Int) (h : H), I_ i1_ i6_ h → (∀ (i1_' : Int) (i6_' : Int) (h' : H), I_ i1_' i6_' h' → m_ i1_' i6_' h' < m_ i1_ i6_ h → X2 (laws_markTileS_e2 s0_ i1_' i5_ i6_') h') → laws_markTileS_b2 S K X0 X2 s0_ i1_ i5_ i6_ h) (i1_ : Int) (i6_ : Int) {h : H} (h0 : I_ i1_ i6_ h) : laws_markTileS_L2 S K X0 s0_ i1_ i5_ i6_ h :=
  loop_rule (σ := (Int) × (Int)) (fun s_ => laws_markTileS_e2 s0_ (s_.1) i5_ (s_.2)) (fun s_ h => I_ (s_.1) (s_.2) h) (fun s_ h => m_ (s_.1) (s_.2) h)
    (fun X s_ h hi hx => (laws_markTileS_link2 S K X0 X s0_ (s_.1) i5_ (s_.2) h).mpr (hs X (s_.1) (s_.2) h hi fun i1_' i6_' h' hi' hm' => hx (i1_', i6_') h' hi' hm')) (i1_, i6_) h0
theorem laws_markTileS_unroll2 (S : SatT) (K : AVal → H → Prop) (X0 : Frame → H → Prop) (s0_ : Sl) (i1_ : Int) (i5_ : Int) (i6_ : Int) (h : H) (hb : laws_markTileS_b2 S K X0 (fun fr h => loopK (laws_markTileS_w2 S K X0) fr h) s0_ i1_ i5_ i6_ h) : laws_markTileS_L2 S K X0 s0_ i1_ i5_ i6_ h := loop_unroll ((laws_markTileS_link2 S K X0 _ s0_ i1_ i5_ i6_ h).mpr hb)
def laws_markTileS_C0 (S : SatT) (K : AVal → H → Prop) (i1_ : Int) (h : H) : Prop :=
 K (.int .i64 i1_) h
def laws_markTileS_b0 (S : SatT) (K : AVal → H → Prop) (X0 : Frame → H → Prop) (s0_ : Sl) (i1_ : Int) (i5_ : Int) (h : H) : Prop :=
 bif (decide (i5_ < (s0_.len : Int))) then
 laws_markTileS_L2 S K X0 s0_ i1_ i5_ (0) h
 else
 laws_markTileS_C0 S K i1_ h
theorem laws_markTileS_link0 (S : SatT) (K : AVal → H → Prop) (X0 : Frame → H → Prop) (s0_ : Sl) (i1_ : Int) (i5_ : Int) (h : H) : laws_markTileS_w0 S K X0 (laws_markTileS_e0 s0_ i1_ i5_) h = laws_markTileS_b0 S K X0 s0_ i1_ i5_ h := by kernel_rfl
theorem laws_markTileS_rule0 (S : SatT) (K : AVal → H → Prop) (s0_ : Sl) (I_ : Int → Int → H → Prop) (m_ : Int → Int → H → Nat)
    (hs : ∀ (X0 : Frame → H → Prop) (i1_ : Int) (i5_ : Int) (h : H), I_ i1_ i5_ h → (∀ (i1_' : Int) (i5_' : Int) (h' : H), I_ i1_' i5_' h' → m_ i1_' i5_' h' < m_ i1_ i5_ h → X0 (laws_markTileS_e0 s0_ i1_' i5_') h') → laws_markTileS_b0 S K X0 s0_ i1_ i5_ h) (i1_ : Int) (i5_ : Int) {h : H} (h0 : I_ i1_ i5_ h) : laws_markTileS_L0 S K s0_ i1_ i5_ h :=
  loop_rule (σ := (Int) × (Int)) (fun s_ => laws_markTileS_e0 s0_ (s_.1) (s_.2)) (fun s_ h => I_ (s_.1) (s_.2) h) (fun s_ h => m_ (s_.1) (s_.2) h)
    (fun X s_ h hi hx => (laws_markTileS_link0 S K X s0_ (s_.1) (s_.2) h).mpr (hs X (s_.1) (s_.2) h hi fun i1_' i5_' h' hi' hm' => hx (i1_', i5_') h' hi' hm')) (i1_, i5_) h0
theorem laws_markTileS_unroll0 (S : SatT) (K : AVal → H → Prop) (s0_ : Sl) (i1_ : Int) (i5_ : Int) (h : H) (hb : laws_markTileS_b0 S K (fun fr h => loopK (laws_markTileS_w0 S K) fr h) s0_ i1_ i5_ h) : laws_markTileS_L0 S K s0_ i1_ i5_ h := loop_unroll ((laws_markTileS_link0 S K _ s0_ i1_ i5_ h).mpr hb)
def laws_markTileS_main (S : SatT) (K : AVal → H → Prop) (x0 : Sl) (x1 : Int) (h : H) : Prop :=
 laws_markTileS_L0 S K x0 x1 (0) h
theorem laws_markTileS_main_link (S : SatT) (K : AVal → H → Prop) (x0 : Sl) (x1 : Int) (h : H) : cwp S tab laws_markTileS_M [] (bodyOf Try.f60) (kFun tab Try.f60.results.toList K) (fr0 Try.f60 [.sl x0, .int .i64 x1]) h = laws_markTileS_main S K x0 x1 h := by kernel_rfl
theorem laws_markTileS_call (x0 : Sl) (x1 : Int) (h : H) (K : Int → H → Prop) (hm : laws_markTileS_main (Sat Try.prog) (fun v h' => ∃ r, v = .int .i64 r ∧ K r h') x0 x1 h) : callI (Sat Try.prog) .i64 i_laws_markTileS [.sl x0, .int .i64 x1] h K := by
  have := Sat.ex tok mixed laws_markTileS_M Try.func60 (c := bodyOf Try.f60) (by kernel_rfl) (calls_of Try.func60 (c := bodyOf Try.f60) (by kernel_rfl) (by decide)) ((laws_markTileS_main_link _ _ x0 x1 h).mpr hm)
  obtain ⟨v, h2, h3, r, rfl, h4⟩ := this; exact ⟨r, h2, h3, h4⟩

/-! ### slices.Repeat[[]bool,bool] -/
def slices_Repeat_s_bool_bool__M : Nat → List Nat := fun i => bif i == 0 then [7, 8] else []
def slices_Repeat_s_bool_bool__ks8 (S : SatT) (K : AVal → H → Prop) : Kont := kSeq (cwp S tab slices_Repeat_s_bool_bool__M [] (sub [1, 1, 1, 1, 1, 1, 1] (bodyOf Try.f98)) (kFun tab (Try.f98).results.toList K)) (kFun tab (Try.f98).results.toList K)
def slices_Repeat_s_bool_bool__e0 (s7_ : Sl) (i8_ : Int) : Frame := [U, U, U, U, U, U, U, .sl s7_, .int .i64 i8_, U, U, U, U, U, U, U, U, U, U, U, U, U, U, U, U, U, U, U, U, U, U, U, U, U, U, U, U, U, U, U, U, U, U, U, U, U, U, U]
def slices_Repeat_s_bool_bool__w0 (S : SatT) (K : AVal → H → Prop) : (Frame → H → Prop) → Frame → H → Prop := fun X fr h => cwp S tab slices_Repeat_s_bool_bool__M (slices_Repeat_s_bool_bool__M 0) (sub [1, 1, 1, 1, 1, 1, 0, 0, 0] (bodyOf Try.f98)) (kSeq (fun fr h => X (mask (slices_Repeat_s_bool_bool__M 0) fr) h) (kBlk 0 (slices_Repeat_s_bool_bool__ks8 S K))) fr h
def slices_Repeat_s_bool_bool__L0 (S : SatT) (K : AVal → H → Prop) (s7_ : Sl) (i8_ : Int) (h : H) : Prop := loopK (slices_Repeat_s_bool_bool__w0 S K) (slices_Repeat_s_bool_bool__e0 s7_ i8_) h
def slices_Repeat_s_bool_bool__C0 (S : SatT) (K : AVal → H → Prop) (s7_ : Sl) (h : H) : Prop :=
 K (.sl s7_) h
def slices_Repeat_s_bool_bool__b0 (S : SatT) (K : AVal → H → Prop) (X0 : Frame → H → Prop) (s7_ : Sl) (i8_ : Int) (h : H) : Prop :=
 bif (decide (i8_ < (s7_.len : Int))) then
 cut s7_ 1 i8_ (s7_.len : Int) h fun s0 =>
 cut s7_ 1 (0) i8_ h fun s1 =>
 copyS s0 s1 1 h fun n2 h3 =>
 X0 (slices_Repeat_s_bool_bool__e0 s7_ (w64 (i8_ + n2))) h3
 else
 slices_Repeat_s_bool_bool__C0 S K s7_ h
theorem slices_Repeat_s_bool_bool__link0 (S : SatT) (K : AVal → H → Prop) (X0 : Frame → H → Prop) (s7_ : Sl) (i8_ : Int) (h : H) : slices_Repeat_s_bool_bool__w0 S K X0 (slices_Repeat_s_bool_bool__e0 s7_ i8_) h = slices_Repeat_s_bool_bool__b0 S K X0 s7_ i8_ h := by kernel_rfl
theorem slices_Repeat_s_bool_bool__rule0 (S : SatT) (K : AVal → H → Prop) (s7_ : Sl) (I_ : Int → H → Prop) (m_ : Int → H → Nat)
    (hs : ∀ (X0 : Frame → H → Prop) (i8_ : Int) (h : H), I_ i8_ h → (∀ (i8_' : Int) (h' : H), I_ i8_' h' → m_ i8_' h' < m_ i8_ h → X0 (slices_Repeat_s_bool_bool__e0 s7_ i8_') h') → slices_Repeat_s_bool_bool__b0 S K X0 s7_ i8_ h) (i8_ : Int) {h : H} (h0 : I_ i8_ h) : slices_Repeat_s_bool_bool__L0 S K s7_ i8_ h :=
  loop_rule (σ := (Int)) (fun s_ => slices_Repeat_s_bool_bool__e0 s7_ (s_)) (fun s_ h => I_ (s_) h) (fun s_ h => m_ (s_) h)
    (fun X s_ h hi hx => (slices_Repeat_s_bool_bool__link0 S K X s7_ (s_) h).mpr (hs X (s_) h hi fun i8_' h' hi' hm' => hx (i8_') h' hi' hm')) (i8_) h0
theorem slices_Repeat_s_bool_bool__unroll0 (S : SatT) (K : AVal → H → Prop) (s7_ : Sl) (i8_ : Int) (h : H) (hb : slices_Repeat_s_bool_bool__b0 S K (fun fr h => loopK (slices_Repeat_s_bool_bool__w0 S K) fr h) s7_ i8_ h) : slices_Repeat_s_bool_bool__L0 S K s7_ i8_ h := loop_unroll ((slices_Repeat_s_bool_bool__link0 S K _ s7_ i8_ h).mpr hb)
def slices_Repeat_s_bool_bool__main (S : SatT) (K : AVal → H → Prop) (x0 : Sl) (x1 : Int) (h : H) : Prop :=
 bif (decide (x1 < (0))) then
 False
 else
 callV S i_math_bits_Mul [.int .u64 (IntKind.wrap .u64 ((x0.len : Int))), .int .u64 (IntKind.wrap .u64 (x1))] h fun v1 h0 =>
 viaT v1 fun vs2 =>
 exI .u64 vs2 0 fun n3 =>
 viaT v1 fun vs4 =>
 exI .u64 vs4 1 fun n5 =>
 bif (decide (n3 > (0))) then
 False
 else
 bif (decide (n5 > (9223372036854775807))) then
 False
 else
 mkS (w64 (n5)) [.bool false] h0 fun s6 h7 =>
 copyS s6 x0 1 h7 fun n8 h9 =>
 slices_Repeat_s_bool_bool__L0 S K s6 n8 h9
theorem slices_Repeat_s_bool_bool__main_link (S : SatT) (K : AVal → H → Prop) (x0 : Sl) (x1 : Int) (h : H) : cwp S tab slices_Repeat_s_bool_bool__M [] (bodyOf Try.f98) (kFun tab Try.f98.results.toList K) (fr0 Try.f98 [.sl x0, .int .i64 x1]) h = slices_Repeat_s_bool_bool__main S K x0 x1 h := by kernel_rfl
theorem slices_Repeat_s_bool_bool__call (x0 : Sl) (x1 : Int) (h : H) (K : Sl → H → Prop) (hm : slices_Repeat_s_bool_bool__main (Sat Try.prog) (fun v h' => ∃ r, v = .sl r ∧ K r h') x0 x1 h) : callS (Sat Try.prog) i_slices_Repeat_s_bool_bool_ [.sl x0, .int .i64 x1] h K := by
  have := Sat.ex tok mixed slices_Repeat_s_bool_bool__M Try.func98 (c := bodyOf Try.f98) (by kernel_rfl) (calls_of Try.func98 (c := bodyOf Try.f98) (by kernel_rfl) (by decide)) ((slices_Repeat_s_bool_bool__main_link _ _ x0 x1 h).mpr hm)
  obtain ⟨v, h2, h3, r, rfl, h4⟩ := this; exact ⟨r, h2, h3, h4⟩

/-! ### loop.example/g01354/spec.LastingTiles -/
def spec_LastingTiles_M : Nat → List Nat := fun i => bif i == 0 then [4, 5, 6] else []
def spec_LastingTiles_ks5 (S : SatT) (K : AVal → H → Prop) : Kont := kSeq (cwp S tab spec_LastingTiles_M [] (sub [1, 1, 1, 1] (bodyOf Try.f19)) (kFun tab (Try.f19).results.toList K)) (kFun tab (Try.f19).results.toList K)
def spec_LastingTiles_e0 (s4_ : Sl) (s5_ : Sl) (i6_ : Int) : Frame := [U, U, U, U, .sl s4_, .sl s5_, .int .i64 i6_, U, U, U, U, U, U, U, U, U, U, U, U, U, U, U, U, U, U, U, U, U]
def spec_LastingTiles_w0 (S : SatT) (K : AVal → H → Prop) : (Frame → H → Prop) → Frame → H → Prop := fun X fr h => cwp S tab spec_LastingTiles_M (spec_LastingTiles_M 0) (sub [1, 1, 1, 0, 1, 0, 0] (bodyOf Try.f19)) (kSeq (fun fr h => X (mask (spec_LastingTiles_M 0) fr) h) (kBlk 0 (spec_LastingTiles_ks5 S K))) fr h
def spec_LastingTiles_L0 (S : SatT) (K : AVal → H → Prop) (s4_ : Sl) (s5_ : Sl) (i6_ : Int) (h : H) : Prop := loopK (spec_LastingTiles_w0 S K) (spec_LastingTiles_e0 s4_ s5_ i6_) h
def spec_LastingTiles_C0 (S : SatT) (K : AVal → H → Prop) (s5_ : Sl) (h : H) : Prop :=
 K (.tuple [.sl s5_, .int .i64 (0)]) h
def spec_LastingTiles_b0 (S : SatT) (K : AVal → H → Prop) (X0 : Frame → H → Prop) (s4_ : Sl) (s5_ : Sl) (i6_ : Int) (h : H) : Prop :=
 bif (decide (i6_ < (s4_.len : Int))) then
 ixS s4_ 1 i6_ fun p0 =>
 ldB p0 h fun b1 =>
 bif b1 then
 newS 1 1 [.int .i64 i6_] h fun s2 h3 =>
 app s5_ s2 1 h3 fun s4 h5 =>
 X0 (spec_LastingTiles_e0 s4_ s4 (w64 (i6_ + (1)))) h5
 else
 X0 (spec_LastingTiles_e0 s4_ s5_ (w64 (i6_ + (1)))) h
 else
 spec_LastingTiles_C0 S K s5_ h
theorem spec_LastingTiles_link0 (S : SatT) (K : AVal → H → Prop) (X0 : Frame → H → Prop) (s4_ : Sl) (s5_ : Sl) (i6_ : Int) (h : H) : spec_LastingTiles_w0 S K X0 (spec_LastingTiles_e0 s4_ s5_ i6_) h = spec_LastingTiles_b0 S K X0 s4_ s5_ i6_ h := by kernel_rfl
theorem spec_LastingTiles_rule0 (S : SatT) (K : AVal → H → Prop) (s4_ : Sl) (I_ : Sl → Int → H → Prop) (m_ : Sl → Int → H → Nat)
    (hs : ∀ (X0 : Frame → H → Prop) (s5_ : Sl) (i6_ : Int) (h : H), I_ s5_ i6_ h → (∀ (s5_' : Sl) (i6_' : Int) (h' : H), I_ s5_' i6_' h' → m_ s5_' i6_' h' < m_ s5_ i6_ h → X0 (spec_LastingTiles_e0 s4_ s5_' i6_') h') → spec_LastingTiles_b0 S K X0 s4_ s5_ i6_ h) (s5_ : Sl) (i6_ : Int) {h : H} (h0 : I_ s5_ i6_ h) : spec_LastingTiles_L0 S K s4_ s5_ i6_ h :=
  loop_rule (σ := (Sl) × (Int)) (fun s_ => spec_LastingTiles_e0 s4_ (s_.1) (s_.2)) (fun s_ h => I_ (s_.1) (s_.2) h) (fun s_ h => m_ (s_.1) (s_.2) h)
    (fun X s_ h hi hx => (spec_LastingTiles_link0 S K X s4_ (s_.1) (s_.2) h).mpr (hs X (s_.1) (s_.2) h hi fun s5_' i6_' h' hi' hm' => hx (s5_', i6_') h' hi' hm')) (s5_, i6_) h0
theorem spec_LastingTiles_unroll0 (S : SatT) (K : AVal → H → Prop) (s4_ : Sl) (s5_ : Sl) (i6_ : Int) (h : H) (hb : spec_LastingTiles_b0 S K (fun fr h => loopK (spec_LastingTiles_w0 S K) fr h) s4_ s5_ i6_ h) : spec_LastingTiles_L0 S K s4_ s5_ i6_ h := loop_unroll ((spec_LastingTiles_link0 S K _ s4_ s5_ i6_ h).mpr hb)
def spec_LastingTiles_main (S : SatT) (K : AVal → H → Prop) (x0 : List AVal) (h : H) : Prop :=
 newK 2 x0 h fun p0 h1 =>
 ldA p0 2 h1 fun cs2 =>
 callB S i_spec_l01Is [.agg cs2] h1 fun b4 h3 =>
 bif (!b4) then
 K (.tuple [.sl Sl.nil, .int .i64 (1)]) h3
 else
 ldA p0 2 h3 fun cs5 =>
 callS S i_spec_l02Lasting [.agg cs5] h3 fun s7 h6 =>
 newS 0 1 [] h6 fun s8 h9 =>
 spec_LastingTiles_L0 S K s7 s8 (0) h9
theorem spec_LastingTiles_main_link (S : SatT) (K : AVal → H → Prop) (x0 : List AVal) (h : H) : cwp S tab spec_LastingTiles_M [] (bodyOf Try.f19) (kFun tab Try.f19.results.toList K) (fr0 Try.f19 [.agg x0]) h = spec_LastingTiles_main S K x0 h := by kernel_rfl
theorem spec_LastingTiles_call (x0 : List AVal) (h : H) (K : AVal → H → Prop) (hm : spec_LastingTiles_main (Sat Try.prog) (fun v h' => K v h') x0 h) : callV (Sat Try.prog) i_spec_LastingTiles [.agg x0] h K := by
  have := Sat.ex tok mixed spec_LastingTiles_M Try.func19 (c := bodyOf Try.f19) (by kernel_rfl) (calls_of Try.func19 (c := bodyOf Try.f19) (by kernel_rfl) (by decide)) ((spec_LastingTiles_main_link _ _ x0 h).mpr hm)
  exact this

/-! ### loop.example/g01354/laws.toTile -/
def laws_toTile_M : Nat → List Nat := fun i => bif i == 0 then [1, 2, 3, 4] else []
def laws_toTile_ks2 (S : SatT) (K : AVal → H → Prop) : Kont := kSeq (cwp S tab laws_toTile_M [] (sub [1, 1, 1] (bodyOf Try.f90)) (kFun tab (Try.f90).results.toList K)) (kFun tab (Try.f90).results.toList K)
def laws_toTile_e0 (p1_ : Pt) (p2_ : Pt) (p3_ : Pt) (i4_ : Int) : Frame := [U, .ptr p1_, .ptr p2_, .ptr p3_, .int .i64 i4_, U, U, U, U, U, U, U, U, U, U]
def laws_toTile_w0 (S : SatT) (K : AVal → H → Prop) : (Frame → H → Prop) → Frame → H → Prop := fun X fr h => cwp S tab laws_toTile_M (laws_toTile_M 0) (sub [1, 1, 0, 1, 0, 0] (bodyOf Try.f90)) (kSeq (fun fr h => X (mask (laws_toTile_M 0) fr) h) (kBlk 0 (laws_toTile_ks2 S K))) fr h
def laws_toTile_L0 (S : SatT) (K : AVal → H → Prop) (p1_ : Pt) (p2_ : Pt) (p3_ : Pt) (i4_ : Int) (h : H) : Prop := loopK (laws_toTile_w0 S K) (laws_toTile_e0 p1_ p2_ p3_ i4_) h
def laws_toTile_C0 (S : SatT) (K : AVal → H → Prop) (p2_ : Pt) (p3_ : Pt) (h : H) : Prop :=
 ldA p3_ 4 h fun cs0 =>
 stN p2_ 4 cs0 h fun h1 =>
 ldA p2_ 4 h1 fun cs2 =>
 K (.agg cs2) h1
def laws_toTile_b0 (S : SatT) (K : AVal → H → Prop) (X0 : Frame → H → Prop) (p1_ : Pt) (p2_ : Pt) (p3_ : Pt) (i4_ : Int) (h : H) : Prop :=
 bif (decide (i4_ < (4))) then
 ixA p1_ 4 1 i4_ fun p0 =>
 ldI .i64 p0 h fun n1 =>
 ixA p3_ 4 1 i4_ fun p2 =>
 st1 p2 (.int .i64 n1) h fun h3 =>
 X0 (laws_toTile_e0 p1_ p2_ p3_ (w64 (i4_ + (1)))) h3
 else
 laws_toTile_C0 S K p2_ p3_ h
theorem laws_toTile_link0 (S : SatT) (K : AVal → H → Prop) (X0 : Frame → H → Prop) (p1_ : Pt) (p2_ : Pt) (p3_ : Pt) (i4_ : Int) (h : H) : laws_toTile_w0 S K X0 (laws_toTile_e0 p1_ p2_ p3_ i4_) h = laws_toTile_b0 S K X0 p1_ p2_ p3_ i4_ h := by kernel_rfl
theorem laws_toTile_rule0 (S : SatT) (K : AVal → H → Prop) (p1_ : Pt) (p2_ : Pt) (p3_ : Pt) (I_ : Int → H → Prop) (m_ : Int → H → Nat)
    (hs : ∀ (X0 : Frame → H → Prop) (i4_ : Int) (h : H), I_ i4_ h → (∀ (i4_' : Int) (h' : H), I_ i4_' h' → m_ i4_' h' < m_ i4_ h → X0 (laws_toTile_e0 p1_ p2_ p3_ i4_') h') → laws_toTile_b0 S K X0 p1_ p2_ p3_ i4_ h) (i4_ : Int) {h : H} (h0 : I_ i4_ h) : laws_toTile_L0 S K p1_ p2_ p3_ i4_ h :=
  loop_rule (σ := (Int)) (fun s_ => laws_toTile_e0 p1_ p2_ p3_ (s_)) (fun s_ h => I_ (s_) h) (fun s_ h => m_ (s_) h)
    (fun X s_ h hi hx => (laws_toTile_link0 S K X p1_ p2_ p3_ (s_) h).mpr (hs X (s_) h hi fun i4_' h' hi' hm' => hx (i4_') h' hi' hm')) (i4_) h0
theorem laws_toTile_unroll0 (S : SatT) (K : AVal → H → Prop) (p1_ : Pt) (p2_ : Pt) (p3_ : Pt) (i4_ : Int) (h : H) (hb : laws_toTile_b0 S K (fun fr h => loopK (laws_toTile_w0 S K) fr h) p1_ p2_ p3_ i4_ h) : laws_toTile_L0 S K p1_ p2_ p3_ i4_ h := loop_unroll ((laws_toTile_link0 S K _ p1_ p2_ p3_ i4_ h).mpr hb)
def laws_toTile_main (S : SatT) (K : AVal → H → Prop) (x0 : List AVal) (h : H) : Prop :=
 newK 4 x0 h fun p0 h1 =>
 newO [.int .i64 (0), .int .i64 (0), .int .i64 (0), .int .i64 (0)] h1 fun p2 h3 =>
 newO [.int .i64 (0), .int .i64 (0), .int .i64 (0), .int .i64 (0)] h3 fun p4 h5 =>
 laws_toTile_L0 S K p0 p2 p4 (0) h5
theorem laws_toTile_main_link (S : SatT) (K : AVal → H → Prop) (x0 : List AVal) (h : H) : cwp S tab laws_toTile_M [] (bodyOf Try.f90) (kFun tab Try.f90.results.toList K) (fr0 Try.f90 [.agg x0]) h = laws_toTile_main S K x0 h := by kernel_rfl
theorem laws_toTile_call (x0 : List AVal) (h : H) (K : List AVal → H → Prop) (hm : laws_toTile_main (Sat Try.prog) (fun v h' => ∃ r, v = .agg r ∧ K r h') x0 h) : callA (Sat Try.prog) i_laws_toTile [.agg x0] h K := by
  have := Sat.ex tok mixed laws_toTile_M Try.func90 (c := bodyOf Try.f90) (by kernel_rfl) (calls_of Try.func90 (c := bodyOf Try.f90) (by kernel_rfl) (by decide)) ((laws_toTile_main_link _ _ x0 h).mpr hm)
  obtain ⟨v, h2, h3, r, rfl, h4⟩ := this; exact ⟨r, h2, h3, h4⟩

/-! ### loop.example/g01354/laws.markInt64S -/
def laws_markInt64S_M : Nat → List Nat := fun i => bif i == 0 then [0, 1, 5] else []
def laws_markInt64S_ks1 (S : SatT) (K : AVal → H → Prop) : Kont := kSeq (cwp S tab laws_markInt64S_M [] (sub [1, 1] (bodyOf Try.f23)) (kFun tab (Try.f23).results.toList K)) (kFun tab (Try.f23).results.toList K)
def laws_markInt64S_e0 (s0_ : Sl) (i1_ : Int) (i5_ : Int) : Frame := [.sl s0_, .int .i64 i1_, U, U, U, .int .i64 i5_, U, U, U, U, U, U, U, U, U, U, U, U, U]
def laws_markInt64S_w0 (S : SatT) (K : AVal → H → Prop) : (Frame → H → Prop) → Frame → H → Prop := fun X fr h => cwp S tab laws_markInt64S_M (laws_markInt64S_M 0) (sub [1, 0, 1, 0, 0] (bodyOf Try.f23)) (kSeq (fun fr h => X (mask (laws_markInt64S_M 0) fr) h) (kBlk 0 (laws_markInt64S_ks1 S K))) fr h
def laws_markInt64S_L0 (S : SatT) (K : AVal → H → Prop) (s0_ : Sl) (i1_ : Int) (i5_ : Int) (h : H) : Prop := loopK (laws_markInt64S_w0 S K) (laws_markInt64S_e0 s0_ i1_ i5_) h
def laws_markInt64S_C0 (S : SatT) (K : AVal → H → Prop) (i1_ : Int) (h : H) : Prop :=
 K (.int .i64 i1_) h
def laws_markInt64S_b0 (S : SatT) (K : AVal → H → Prop) (X0 : Frame → H → Prop) (s0_ : Sl) (i1_ : Int) (i5_ : Int) (h : H) : Prop :=
 bif (decide (i5_ < (s0_.len : Int))) then
 ixS s0_ 1 i5_ fun p0 =>
 st1 p0 (.int .i64 i1_) h fun h1 =>
 X0 (laws_markInt64S_e0 s0_ (w64 (i1_ + (1))) (w64 (i5_ + (1)))) h1
 else
 laws_markInt64S_C0 S K i1_ h
theorem laws_markInt64S_link0 (S : SatT) (K : AVal → H → Prop) (X0 : Frame → H → Prop) (s0_ : Sl) (i1_ : Int) (i5_ : Int) (h : H) : laws_markInt64S_w0 S K X0 (laws_markInt64S_e0 s0_ i1_ i5_) h = laws_markInt64S_b0 S K X0 s0_ i1_ i5_ h := by kernel_rfl
theorem laws_markInt64S_rule0 (S : SatT) (K : AVal → H → Prop) (s0_ : Sl) (I_ : Int → Int → H → Prop) (m_ : Int → Int → H → Nat)
    (hs : ∀ (X0 : Frame → H → Prop) (i1_ : Int) (i5_ : Int) (h : H), I_ i1_ i5_ h → (∀ (i1_' : Int) (i5_' : Int) (h' : H), I_ i1_' i5_' h' → m_ i1_' i5_' h' < m_ i1_ i5_ h → X0 (laws_markInt64S_e0 s0_ i1_' i5_') h') → laws_markInt64S_b0 S K X0 s0_ i1_ i5_ h) (i1_ : Int) (i5_ : Int) {h : H} (h0 : I_ i1_ i5_ h) : laws_markInt64S_L0 S K s0_ i1_ i5_ h :=
  loop_rule (σ := (Int) × (Int)) (fun s_ => laws_markInt64S_e0 s0_ (s_.1) (s_.2)) (fun s_ h => I_ (s_.1) (s_.2) h) (fun s_ h => m_ (s_.1) (s_.2) h)
    (fun X s_ h hi hx => (laws_markInt64S_link0 S K X s0_ (s_.1) (s_.2) h).mpr (hs X (s_.1) (s_.2) h hi fun i1_' i5_' h' hi' hm' => hx (i1_', i5_') h' hi' hm')) (i1_, i5_) h0
theorem laws_markInt64S_unroll0 (S : SatT) (K : AVal → H → Prop) (s0_ : Sl) (i1_ : Int) (i5_ : Int) (h : H) (hb : laws_markInt64S_b0 S K (fun fr h => loopK (laws_markInt64S_w0 S K) fr h) s0_ i1_ i5_ h) : laws_markInt64S_L0 S K s0_ i1_ i5_ h := loop_unroll ((laws_markInt64S_link0 S K _ s0_ i1_ i5_ h).mpr hb)
def laws_markInt64S_main (S : SatT) (K : AVal → H → Prop) (x0 : Sl) (x1 : Int) (h : H) : Prop :=
 laws_markInt64S_L0 S K x0 x1 (0) h
theorem laws_markInt64S_main_link (S : SatT) (K : AVal → H → Prop) (x0 : Sl) (x1 : Int) (h : H) : cwp S tab laws_markInt64S_M [] (bodyOf Try.f23) (kFun tab Try.f23.results.toList K) (fr0 Try.f23 [.sl x0, .int .i64 x1]) h = laws_markInt64S_main S K x0 x1 h := by kernel_rfl
theorem laws_markInt64S_call (x0 : Sl) (x1 : Int) (h : H) (K : Int → H → Prop) (hm : laws_markInt64S_main (Sat Try.prog) (fun v h' => ∃ r, v = .int .i64 r ∧ K r h') x0 x1 h) : callI (Sat Try.prog) .i64 i_laws_markInt64S [.sl x0, .int .i64 x1] h K := by
  have := Sat.ex tok mixed laws_markInt64S_M Try.func23 (c := bodyOf Try.f23) (by kernel_rfl) (calls_of Try.func23 (c := bodyOf Try.f23) (by kernel_rfl) (by decide)) ((laws_markInt64S_main_link _ _ x0 x1 h).mpr hm)
  obtain ⟨v, h2, h3, r, rfl, h4⟩ := this; exact ⟨r, h2, h3, h4⟩

/-! ### loop.example/g01354/laws.toTileS -/
def laws_toTileS_M : Nat → List Nat := fun i => bif i == 0 then [0, 3, 4] else []
def laws_toTileS_ks2 (S : SatT) (K : AVal → H → Prop) : Kont := kSeq (cwp S tab laws_toTileS_M [] (sub [1, 1, 1] (bodyOf Try.f53)) (kFun tab (Try.f53).results.toList K)) (kFun tab (Try.f53).results.toList K)
def laws_toTileS_e0 (s0_ : Sl) (s3_ : Sl) (i4_ : Int) : Frame := [.sl s0_, U, U, .sl s3_, .int .i64 i4_, U, U, U, U, U, U, U, U, U, U, U, U, U, U, U, U, U, U]
def laws_toTileS_w0 (S : SatT) (K : AVal → H → Prop) : (Frame → H → Prop) → Frame → H → Prop := fun X fr h => cwp S tab laws_toTileS_M (laws_toTileS_M 0) (sub [1, 1, 0, 1, 0, 0] (bodyOf Try.f53)) (kSeq (fun fr h => X (mask (laws_toTileS_M 0) fr) h) (kBlk 0 (laws_toTileS_ks2 S K))) fr h
def laws_toTileS_L0 (S : SatT) (K : AVal → H → Prop) (s0_ : Sl) (s3_ : Sl) (i4_ : Int) (h : H) : Prop := loopK (laws_toTileS_w0 S K) (laws_toTileS_e0 s0_ s3_ i4_) h
def laws_toTileS_C0 (S : SatT) (K : AVal → H → Prop) (s3_ : Sl) (h : H) : Prop :=
 K (.sl s3_) h
def laws_toTileS_b0 (S : SatT) (K : AVal → H → Prop) (X0 : Frame → H → Prop) (s0_ : Sl) (s3_ : Sl) (i4_ : Int) (h : H) : Prop :=
 bif (decide (i4_ < (s0_.len : Int))) then
 ixS s0_ 4 i4_ fun p0 =>
 ldA p0 4 h fun cs1 =>
 callA S i_laws_toTile [.agg cs1] h fun cs3 h2 =>
 ixS s3_ 4 i4_ fun p4 =>
 stN p4 4 cs3 h2 fun h5 =>
 X0 (laws_toTileS_e0 s0_ s3_ (w64 (i4_ + (1)))) h5
 else
 laws_toTileS_C0 S K s3_ h
theorem laws_toTileS_link0 (S : SatT) (K : AVal → H → Prop) (X0 : Frame → H → Prop) (s0_ : Sl) (s3_ : Sl) (i4_ : Int) (h : H) : laws_toTileS_w0 S K X0 (laws_toTileS_e0 s0_ s3_ i4_) h = laws_toTileS_b0 S K X0 s0_ s3_ i4_ h := by kernel_rfl
theorem laws_toTileS_rule0 (S : SatT) (K : AVal → H → Prop) (s0_ : Sl) (s3_ : Sl) (I_ : Int → H → Prop) (m_ : Int → H → Nat)
    (hs : ∀ (X0 : Frame → H → Prop) (i4_ : Int) (h : H), I_ i4_ h → (∀ (i4_' : Int) (h' : H), I_ i4_' h' → m_ i4_' h' < m_ i4_ h → X0 (laws_toTileS_e0 s0_ s3_ i4_') h') → laws_toTileS_b0 S K X0 s0_ s3_ i4_ h) (i4_ : Int) {h : H} (h0 : I_ i4_ h) : laws_toTileS_L0 S K s0_ s3_ i4_ h :=
  loop_rule (σ := (Int)) (fun s_ => laws_toTileS_e0 s0_ s3_ (s_)) (fun s_ h => I_ (s_) h) (fun s_ h => m_ (s_) h)
    (fun X s_ h hi hx => (laws_toTileS_link0 S K X s0_ s3_ (s_) h).mpr (hs X (s_) h hi fun i4_' h' hi' hm' => hx (i4_') h' hi' hm')) (i4_) h0
theorem laws_toTileS_unroll0 (S : SatT) (K : AVal → H → Prop) (s0_ : Sl) (s3_ : Sl) (i4_ : Int) (h : H) (hb : laws_toTileS_b0 S K (fun fr h => loopK (laws_toTileS_w0 S K) fr h) s0_ s3_ i4_ h) : laws_toTileS_L0 S K s0_ s3_ i4_ h := loop_unroll ((laws_toTileS_link0 S K _ s0_ s3_ i4_ h).mpr hb)
def laws_toTileS_main (S : SatT) (K : AVal → H → Prop) (x0 : Sl) (h : H) : Prop :=
 mkS (x0.len : Int) [.int .i64 (0), .int .i64 (0), .int .i64 (0), .int .i64 (0)] h fun s0 h1 =>
 laws_toTileS_L0 S K x0 s0 (0) h1
theorem laws_toTileS_main_link (S : SatT) (K : AVal → H → Prop) (x0 : Sl) (h : H) : cwp S tab laws_toTileS_M [] (bodyOf Try.f53) (kFun tab Try.f53.results.toList K) (fr0 Try.f53 [.sl x0]) h = laws_toTileS_main S K x0 h := by kernel_rfl
theorem laws_toTileS_call (x0 : Sl) (h : H) (K : Sl → H → Prop) (hm : laws_toTileS_main (Sat Try.prog) (fun v h' => ∃ r, v = .sl r ∧ K r h') x0 h) : callS (Sat Try.prog) i_laws_toTileS [.sl x0] h K := by
  have := Sat.ex tok mixed laws_toTileS_M Try.func53 (c := bodyOf Try.f53) (by kernel_rfl) (calls_of Try.func53 (c := bodyOf Try.f53) (by kernel_rfl) (by decide)) ((laws_toTileS_main_link _ _ x0 h).mpr hm)
  obtain ⟨v, h2, h3, r, rfl, h4⟩ := this; exact ⟨r, h2, h3, h4⟩

/-! ### loop.example/g01354/spec.ColumnTable -/
def spec_ColumnTable_M : Nat → List Nat := fun i => []
def spec_ColumnTable_main (S : SatT) (K : AVal → H → Prop) (x0 : List AVal) (x1 : Int) (h : H) : Prop :=
 newK 2 x0 h fun p0 h1 =>
 ldA p0 2 h1 fun cs2 =>
 callV S i_spec_l06Lasting [.agg cs2, .int .i64 x1] h1 fun v4 h3 =>
 viaT v4 fun vs5 =>
 exS vs5 0 fun s6 =>
 viaT v4 fun vs7 =>
 exS vs7 1 fun s8 =>
 viaT v4 fun vs9 =>
 exI .i64 vs9 2 fun n10 =>
 bif (n10 != (0)) then
 K (.tuple [.sl Sl.nil, .int .i64 n10]) h3
 else
 K (.tuple [.sl s8, .int .i64 (0)]) h3
theorem spec_ColumnTable_main_link (S : SatT) (K : AVal → H → Prop) (x0 : List AVal) (x1 : Int) (h : H) : cwp S tab spec_ColumnTable_M [] (bodyOf Try.f27) (kFun tab Try.f27.results.toList K) (fr0 Try.f27 [.agg x0, .int .i64 x1]) h = spec_ColumnTable_main S K x0 x1 h := by kernel_rfl
theorem spec_ColumnTable_call (x0 : List AVal) (x1 : Int) (h : H) (K : AVal → H → Prop) (hm : spec_ColumnTable_main (Sat Try.prog) (fun v h' => K v h') x0 x1 h) : callV (Sat Try.prog) i_spec_ColumnTable [.agg x0, .int .i64 x1] h K := by
  have := Sat.ex tok mixed spec_ColumnTable_M Try.func27 (c := bodyOf Try.f27) (by kernel_rfl) (calls_of Try.func27 (c := bodyOf Try.f27) (by kernel_rfl) (by decide)) ((spec_ColumnTable_main_link _ _ x0 x1 h).mpr hm)
  exact this

/-! ### loop.example/g01354/impl.isTile -/
def impl_isTile_M : Nat → List Nat := fun i => []
def impl_isTile_main (S : SatT) (K : AVal → H → Prop) (x0 : List AVal) (x1 : Int) (h : H) : Prop :=
 newK 4 x0 h fun p0 h1 =>
 newO [.int .i64 x1] h1 fun p2 h3 =>
 cutA p0 4 1 (0) ((4 : Nat) : Int) fun s4 =>
 callB S i_slices_ContainsFunc_s_int64_int64_ [.sl s4, .func 118 [.ptr p2]] h3 fun b6 h5 =>
 K (.bool (!b6)) h5
theorem impl_isTile_main_link (S : SatT) (K : AVal → H → Prop) (x0 : List AVal) (x1 : Int) (h : H) : cwp S tab impl_isTile_M [] (bodyOf Try.f96) (kFun tab Try.f96.results.toList K) (fr0 Try.f96 [.agg x0, .int .i64 x1]) h = impl_isTile_main S K x0 x1 h := by kernel_rfl
theorem impl_isTile_call (x0 : List AVal) (x1 : Int) (h : H) (K : Bool → H → Prop) (hm : impl_isTile_main (Sat Try.prog) (fun v h' => ∃ r, v = .bool r ∧ K r h') x0 x1 h) : callB (Sat Try.prog) i_impl_isTile [.agg x0, .int .i64 x1] h K := by
  have := Sat.ex tok mixed impl_isTile_M Try.func96 (c := bodyOf Try.f96) (by kernel_rfl) (calls_of Try.func96 (c := bodyOf Try.f96) (by kernel_rfl) (by decide)) ((impl_isTile_main_link _ _ x0 x1 h).mpr hm)
  obtain ⟨v, h2, h3, r, rfl, h4⟩ := this; exact ⟨r, h2, h3, h4⟩

/-! ### loop.example/g01354/impl.isTile$1 -/
def impl_isTile_1_M : Nat → List Nat := fun i => []
def impl_isTile_1_main (S : SatT) (K : AVal → H → Prop) (x0 : Int) (x1 : Pt) (h : H) : Prop :=
 ldI .i64 x1 h fun n0 =>
 callB S i_impl_within [.int .i64 x0, .int .i64 (0), .int .i64 (w64 (n0 - (1)))] h fun b2 h1 =>
 K (.bool (!b2)) h1
theorem impl_isTile_1_main_link (S : SatT) (K : AVal → H → Prop) (x0 : Int) (x1 : Pt) (h : H) : cwp S tab impl_isTile_1_M [] (bodyOf Try.f118) (kFun tab Try.f118.results.toList K) (fr0 Try.f118 [.int .i64 x0, .ptr x1]) h = impl_isTile_1_main S K x0 x1 h := by kernel_rfl
theorem impl_isTile_1_call (x0 : Int) (x1 : Pt) (h : H) (K : Bool → H → Prop) (hm : impl_isTile_1_main (Sat Try.prog) (fun v h' => ∃ r, v = .bool r ∧ K r h') x0 x1 h) : callB (Sat Try.prog) i_impl_isTile_1 [.int .i64 x0, .ptr x1] h K := by
  have := Sat.ex tok mixed impl_isTile_1_M Try.func118 (c := bodyOf Try.f118) (by kernel_rfl) (calls_of Try.func118 (c := bodyOf Try.f118) (by kernel_rfl) (by decide)) ((impl_isTile_1_main_link _ _ x0 x1 h).mpr hm)
  obtain ⟨v, h2, h3, r, rfl, h4⟩ := this; exact ⟨r, h2, h3, h4⟩

/-! ### loop.example/g01354/laws.szTileS -/
def laws_szTileS_M : Nat → List Nat := fun i => []
def laws_szTileS_main (S : SatT) (K : AVal → H → Prop) (x0 : Sl) (x1 : Int) (h : H) : Prop :=
 bif (decide ((w64 (x1 - (x0.len : Int))) < (0))) then
 K (.int .i64 (-1)) h
 else
 K (.int .i64 (w64 (x1 - (x0.len : Int)))) h
theorem laws_szTileS_main_link (S : SatT) (K : AVal → H → Prop) (x0 : Sl) (x1 : Int) (h : H) : cwp S tab laws_szTileS_M [] (bodyOf Try.f51) (kFun tab Try.f51.results.toList K) (fr0 Try.f51 [.sl x0, .int .i64 x1]) h = laws_szTileS_main S K x0 x1 h := by kernel_rfl
theorem laws_szTileS_call (x0 : Sl) (x1 : Int) (h : H) (K : Int → H → Prop) (hm : laws_szTileS_main (Sat Try.prog) (fun v h' => ∃ r, v = .int .i64 r ∧ K r h') x0 x1 h) : callI (Sat Try.prog) .i64 i_laws_szTileS [.sl x0, .int .i64 x1] h K := by
  have := Sat.ex tok mixed laws_szTileS_M Try.func51 (c := bodyOf Try.f51) (by kernel_rfl) (calls_of Try.func51 (c := bodyOf Try.f51) (by kernel_rfl) (by decide)) ((laws_szTileS_main_link _ _ x0 x1 h).mpr hm)
  obtain ⟨v, h2, h3, r, rfl, h4⟩ := this; exact ⟨r, h2, h3, h4⟩

/-! ### loop.example/g01354/spec.l06Columns -/
def spec_l06Columns_M : Nat → List Nat := fun i => bif i == 4 then [1, 2, 6, 7, 8, 9, 10] else bif i == 2 then [1, 2, 6, 7, 8, 9] else bif i == 0 then [1, 2, 6, 7] else []
def spec_l06Columns_ks2 (S : SatT) (K : AVal → H → Prop) : Kont := kSeq (cwp S tab spec_l06Columns_M [] (sub [1, 1, 1] (bodyOf Try.f89)) (kFun tab (Try.f89).results.toList K)) (kFun tab (Try.f89).results.toList K)
def spec_l06Columns_e0 (i1_ : Int) (p2_ : Pt) (s6_ : Sl) (i7_ : Int) : Frame := [U, .int .i64 i1_, .ptr p2_, U, U, U, .sl s6_, .int .i64 i7_, U, U, U, U, U, U, U, U, U, U, U, U, U, U, U, U, U, U, U, U, U, U, U, U, U, U, U, U, U, U, U, U, U, U, U, U, U, U, U, U, U, U, U, U, U, U, U, U, U, U, U, U, U, U, U, U, U, U, U, U, U, U, U, U, U, U, U, U, U, U, U, U, U, U, U, U, U, U, U, U, U, U, U]
def spec_l06Columns_w0 (S : SatT) (K : AVal → H → Prop) : (Frame → H → Prop) → Frame → H → Prop := fun X fr h => cwp S tab spec_l06Columns_M (spec_l06Columns_M 0) (sub [1, 1, 0, 1, 0, 0] (bodyOf Try.f89)) (kSeq (fun fr h => X (mask (spec_l06Columns_M 0) fr) h) (kBlk 0 (spec_l06Columns_ks2 S K))) fr h
def spec_l06Columns_L0 (S : SatT) (K : AVal → H → Prop) (i1_ : Int) (p2_ : Pt) (s6_ : Sl) (i7_ : Int) (h : H) : Prop := loopK (spec_l06Columns_w0 S K) (spec_l06Columns_e0 i1_ p2_ s6_ i7_) h
def spec_l06Columns_ks6 (S : SatT) (K : AVal → H → Prop) (X0 : Frame → H → Prop) : Kont := kSeq (cwp S tab spec_l06Columns_M (spec_l06Columns_M 0) (sub [1, 1, 0, 1, 0, 0, 1, 1] (bodyOf Try.f89)) (kSeq (fun fr h => X0 (mask (spec_l06Columns_M 0) fr) h) (kBlk 0 (spec_l06Columns_ks2 S K)))) (kSeq (fun fr h => X0 (mask (spec_l06Columns_M 0) fr) h) (kBlk 0 (spec_l06Columns_ks2 S K)))
def spec_l06Columns_ks8 (S : SatT) (K : AVal → H → Prop) (X0 : Frame → H → Prop) : Kont := kSeq (cwp S tab spec_l06Columns_M (spec_l06Columns_M 1) (sub [1, 1, 0, 1, 0, 0, 1, 0, 0, 1, 1] (bodyOf Try.f89)) (kBlk 1 (spec_l06Columns_ks6 S K X0))) (kBlk 1 (spec_l06Columns_ks6 S K X0))
def spec_l06Columns_e2 (i1_ : Int) (p2_ : Pt) (s6_ : Sl) (i7_ : Int) (s8_ : Sl) (i9_ : Int) : Frame := [U, .int .i64 i1_, .ptr p2_, U, U, U, .sl s6_, .int .i64 i7_, .sl s8_, .int .i64 i9_, U, U, U, U, U, U, U, U, U, U, U, U, U, U, U, U, U, U, U, U, U, U, U, U, U, U, U, U, U, U, U, U, U, U, U, U, U, U, U, U, U, U, U, U, U, U, U, U, U, U, U, U, U, U, U, U, U, U, U, U, U, U, U, U, U, U, U, U, U, U, U, U, U, U, U, U, U, U, U, U, U]
def spec_l06Columns_w2 (S : SatT) (K : AVal → H → Prop) (X0 : Frame → H → Prop) : (Frame → H → Prop) → Frame → H → Prop := fun X fr h => cwp S tab spec_l06Columns_M (spec_l06Columns_M 2) (sub [1, 1, 0, 1, 0, 0, 1, 0, 0, 1, 0, 1, 0, 0] (bodyOf Try.f89)) (kSeq (fun fr h => X (mask (spec_l06Columns_M 2) fr) h) (kBlk 2 (spec_l06Columns_ks8 S K X0))) fr h
def spec_l06Columns_L2 (S : SatT) (K : AVal → H → Prop) (X0 : Frame → H → Prop) (i1_ : Int) (p2_ : Pt) (s6_ : Sl) (i7_ : Int) (s8_ : Sl) (i9_ : Int) (h : H) : Prop := loopK (spec_l06Columns_w2 S K X0) (spec_l06Columns_e2 i1_ p2_ s6_ i7_ s8_ i9_) h
def spec_l06Columns_ks12 (S : SatT) (K : AVal → H → Prop) (X0 : Frame → H → Prop) (X2 : Frame → H → Prop) : Kont := kSeq (cwp S tab spec_l06Columns_M (spec_l06Columns_M 2) (sub [1, 1, 0, 1, 0, 0, 1, 0, 0, 1, 0, 1, 0, 0, 1, 1] (bodyOf Try.f89)) (kSeq (fun fr h => X2 (mask (spec_l06Columns_M 2) fr) h) (kBlk 2 (spec_l06Columns_ks8 S K X0)))) (kSeq (fun fr h => X2 (mask (spec_l06Columns_M 2) fr) h) (kBlk 2 (spec_l06Columns_ks8 S K X0)))
def spec_l06Columns_e4 (i1_ : Int) (p2_ : Pt) (s6_ : Sl) (i7_ : Int) (s8_ : Sl) (i9_ : Int) (i10_ : Int) : Frame := [U, .int .i64 i1_, .ptr p2_, U, U, U, .sl s6_, .int .i64 i7_, .sl s8_, .int .i64 i9_, .int .i64 i10_, U, U, U, U, U, U, U, U, U, U, U, U, U, U, U, U, U, U, U, U, U, U, U, U, U, U, U, U, U, U, U, U, U, U, U, U, U, U, U, U, U, U, U, U, U, U, U, U, U, U, U, U, U, U, U, U, U, U, U, U, U, U, U, U, U, U, U, U, U, U, U, U, U, U, U, U, U, U, U, U]
def spec_l06Columns_w4 (S : SatT) (K : AVal → H → Prop) (X0 : Frame → H → Prop) (X2 : Frame → H → Prop) : (Frame → H → Prop) → Frame → H → Prop := fun X fr h => cwp S tab spec_l06Columns_M (spec_l06Columns_M 4) (sub [1, 1, 0, 1, 0, 0, 1, 0, 0, 1, 0, 1, 0, 0, 1, 0, 0, 1, 0, 0] (bodyOf Try.f89)) (kSeq (fun fr h => X (mask (spec_l06Columns_M 4) fr) h) (kBlk 4 (kBlk 3 (spec_l06Columns_ks12 S K X0 X2)))) fr h
def spec_l06Columns_L4 (S : SatT) (K : AVal → H → Prop) (X0 : Frame → H → Prop) (X2 : Frame → H → Prop) (i1_ : Int) (p2_ : Pt) (s6_ : Sl) (i7_ : Int) (s8_ : Sl) (i9_ : Int) (i10_ : Int) (h : H) : Prop := loopK (spec_l06Columns_w4 S K X0 X2) (spec_l06Columns_e4 i1_ p2_ s6_ i7_ s8_ i9_ i10_) h
def spec_l06Columns_C3 (S : SatT) (K : AVal → H → Prop) (X0 : Frame → H → Prop) (X2 : Frame → H → Prop) (i1_ : Int) (p2_ : Pt) (s6_ : Sl) (i7_ : Int) (s8_ : Sl) (i9_ : Int) (h : H) : Prop :=
 X2 (spec_l06Columns_e2 i1_ p2_ s6_ i7_ s8_ (w64 (i9_ + (1)))) h
def spec_l06Columns_C4 (S : SatT) (K : AVal → H → Prop) (X0 : Frame → H → Prop) (X2 : Frame → H → Prop) (i1_ : Int) (p2_ : Pt) (s6_ : Sl) (i7_ : Int) (s8_ : Sl) (i9_ : Int) (h : H) : Prop :=
 spec_l06Columns_C3 S K X0 X2 i1_ p2_ s6_ i7_ s8_ i9_ h
def spec_l06Columns_b4 (S : SatT) (K : AVal → H → Prop) (X0 : Frame → H → Prop) (X2 : Frame → H → Prop) (X4 : Frame → H → Prop) (i1_ : Int) (p2_ : Pt) (s6_ : Sl) (i7_ : Int) (s8_ : Sl) (i9_ : Int) (i10_ : Int) (h : H) : Prop :=
 isPt p2_ (
 ldS (Pt.add p2_ 1) h fun s0 =>
 bif (decide (i10_ < (s0.len : Int))) then
 isPt p2_ (
 ldS (Pt.add p2_ 1) h fun s1 =>
 ixS s1 4 i10_ fun p2 =>
 ldA p2 4 h fun cs3 =>
 newO [.int .i64 (0), .int .i64 (0), .int .i64 (0), .int .i64 (0)] h fun p4 h5 =>
 stN p4 4 cs3 h5 fun h6 =>
 ixS s6_ 1 i9_ fun p7 =>
 ldS p7 h6 fun s8 =>
 ixS s8 1 (2) fun p9 =>
 ldI .i64 p9 h6 fun n10 =>
 bif (decide (n10 ≥ (0))) then
 ixS s6_ 1 i9_ fun p11 =>
 ldS p11 h6 fun s12 =>
 ixS s12 1 (2) fun p13 =>
 ldI .i64 p13 h6 fun n14 =>
 ixA p4 4 1 (1) fun p15 =>
 ldI .i64 p15 h6 fun n16 =>
 bif (n14 != n16) then
 X4 (spec_l06Columns_e4 i1_ p2_ s6_ i7_ s8_ i9_ (w64 (i10_ + (1)))) h6
 else
 bif ((s8_.len : Int) == (5000)) then
 K (.tuple [.sl Sl.nil, .bool false]) h6
 else
 ixS s6_ 1 i9_ fun p17 =>
 ldS p17 h6 fun s18 =>
 ixS s18 1 (0) fun p19 =>
 ldI .i64 p19 h6 fun n20 =>
 isPt p2_ (
 ldI .i64 (Pt.add p2_ 0) h6 fun n21 =>
 ixA p4 4 1 (0) fun p22 =>
 ldI .i64 p22 h6 fun n23 =>
 ixS s6_ 1 i9_ fun p24 =>
 ldS p24 h6 fun s25 =>
 ixS s25 1 (1) fun p26 =>
 ldI .i64 p26 h6 fun n27 =>
 isPt p2_ (
 ldI .i64 (Pt.add p2_ 0) h6 fun n28 =>
 ixA p4 4 1 (2) fun p29 =>
 ldI .i64 p29 h6 fun n30 =>
 ixA p4 4 1 (3) fun p31 =>
 ldI .i64 p31 h6 fun n32 =>
 newS 3 1 [.int .i64 (w64 ((w64 (n20 * n21)) + n23)), .int .i64 (w64 ((w64 (n27 * n28)) + n30)), .int .i64 n32] h6 fun s33 h34 =>
 newS 1 1 [.sl s33] h34 fun s35 h36 =>
 app s8_ s35 1 h36 fun s37 h38 =>
 X4 (spec_l06Columns_e4 i1_ p2_ s6_ i7_ s37 i9_ (w64 (i10_ + (1)))) h38))
 else
 bif ((s8_.len : Int) == (5000)) then
 K (.tuple [.sl Sl.nil, .bool false]) h6
 else
 ixS s6_ 1 i9_ fun p39 =>
 ldS p39 h6 fun s40 =>
 ixS s40 1 (0) fun p41 =>
 ldI .i64 p41 h6 fun n42 =>
 isPt p2_ (
 ldI .i64 (Pt.add p2_ 0) h6 fun n43 =>
 ixA p4 4 1 (0) fun p44 =>
 ldI .i64 p44 h6 fun n45 =>
 ixS s6_ 1 i9_ fun p46 =>
 ldS p46 h6 fun s47 =>
 ixS s47 1 (1) fun p48 =>
 ldI .i64 p48 h6 fun n49 =>
 isPt p2_ (
 ldI .i64 (Pt.add p2_ 0) h6 fun n50 =>
 ixA p4 4 1 (2) fun p51 =>
 ldI .i64 p51 h6 fun n52 =>
 ixA p4 4 1 (3) fun p53 =>
 ldI .i64 p53 h6 fun n54 =>
 newS 3 1 [.int .i64 (w64 ((w64 (n42 * n43)) + n45)), .int .i64 (w64 ((w64 (n49 * n50)) + n52)), .int .i64 n54] h6 fun s55 h56 =>
 newS 1 1 [.sl s55] h56 fun s57 h58 =>
 app s8_ s57 1 h58 fun s59 h60 =>
 X4 (spec_l06Columns_e4 i1_ p2_ s6_ i7_ s59 i9_ (w64 (i10_ + (1)))) h60)))
 else
 spec_l06Columns_C4 S K X0 X2 i1_ p2_ s6_ i7_ s8_ i9_ h)
theorem spec_l06Columns_link4 (S : SatT) (K : AVal → H → Prop) (X0 : Frame → H → Prop) (X2 : Frame → H → Prop) (X4 : Frame → H → Prop) (i1_ : Int) (p2_ : Pt) (s6_ : Sl) (i7_ : Int) (s8_ : Sl) (i9_ : Int) (i10_ : Int) (h : H) : spec_l06Columns_w4 S K X0 X2 X4 (spec_l06Columns_e4 i1_ p2_ s6_ i7_ s8_ i9_ i10_) h = spec_l06Columns_b4 S K X0 X2 X4 i1_ p2_ s6_ i7_ s8_ i9_ i10_ h := by kernel_rfl
theorem spec_l06Columns_rule4 (S : SatT) (K : AVal → H → Prop) (X0 : Frame → H → Prop) (X2 : Frame → H → Prop) (i1_ : Int) (p2_ : Pt) (s6_ : Sl) (i7_ : Int) (i9_ : Int) (I_ : Sl → Int → H → Prop) (m_ : Sl → Int → H → Nat)
    (hs : ∀ (X4 : Frame → H → Prop) (s8_ : Sl) (i10_ : Int) (h : H), I_ s8_ i10_ h → (∀ (s8_' : Sl) (i10_' : Int) (h' : H), I_ s8_' i10_' h' → m_ s8_' i10_' h' < m_ s8_ i10_ h → X4 (spec_l06Columns_e4 i1_ p2_ s6_ i7_ s8_' i9_ i10_') h') → spec_l06Columns_b4 S K X0 X2 X4 i1_ p2_ s6_ i7_ s8_ i9_ i10_ h) (s8_ : Sl) (i10_ : Int) {h : H} (h0 : I_ s8_ i10_ h) : spec_l06Columns_L4 S K X0 X2 i1_ p2_ s6_ i7_ s8_ i9_ i10_ h :=
  loop_rule (σ := (Sl) × (Int)) (fun s_ => spec_l06Columns_e4 i1_ p2_ s6_ i7_ (s_.1) i9_ (s_.2)) (fun s_ h => I_ (s_.1) (s_.2) h) (fun s_ h => m_ (s_.1) (s_.2) h)
    (fun X s_ h hi hx => (spec_l06Columns_link4 S K X0 X2 X i1_ p2_ s6_ i7_ (s_.1) i9_ (s_.2) h).mpr (hs X (s_.1) (s_.2) h hi fun s8_' i10_' h' hi' hm' => hx (s8_', i10_') h' hi' hm')) (s8_, i10_) h0
theorem spec_l06Columns_unroll4 (S : SatT) (K : AVal → H → Prop) (X0 : Frame → H → Prop) (X2 : Frame → H → Prop) (i1_ : Int) (p2_ : Pt) (s6_ : Sl) (i7_ : Int) (s8_ : Sl) (i9_ : Int) (i10_ : Int) (h : H) (hb : spec_l06Columns_b4 S K X0 X2 (fun fr h => loopK (spec_l06Columns_w4 S K X0 X2) fr h) i1_ p2_ s6_ i7_ s8_ i9_ i10_ h) : spec_l06Columns_L4 S K X0 X2 i1_ p2_ s6_ i7_ s8_ i9_ i10_ h := loop_unroll ((spec_l06Columns_link4 S K X0 X2 _ i1_ p2_ s6_ i7_ s8_ i9_ i10_ h).mpr hb)
def spec_l06Columns_C1 (S : SatT) (K : AVal → H → Prop) (X0 : Frame → H → Prop) (i1_ : Int) (p2_ : Pt) (s6_ : Sl) (i7_ : Int) (h : H) : Prop :=
 X0 (spec_l06Columns_e0 i1_ p2_ s6_ (w64 (i7_ + (1)))) h
def spec_l06Columns_C2 (S : SatT) (K : AVal → H → Prop) (X0 : Frame → H → Prop) (i1_ : Int) (p2_ : Pt) (i7_ : Int) (s8_ : Sl) (h : H) : Prop :=
 spec_l06Columns_C1 S K X0 i1_ p2_ s8_ i7_ h
def spec_l06Columns_b2 (S : SatT) (K : AVal → H → Prop) (X0 : Frame → H → Prop) (X2 : Frame → H → Prop) (i1_ : Int) (p2_ : Pt) (s6_ : Sl) (i7_ : Int) (s8_ : Sl) (i9_ : Int) (h : H) : Prop :=
 bif (decide (i9_ < (s6_.len : Int))) then
 spec_l06Columns_L4 S K X0 X2 i1_ p2_ s6_ i7_ s8_ i9_ (0) h
 else
 spec_l06Columns_C2 S K X0 i1_ p2_ i7_ s8_ h
theorem spec_l06Columns_link2 (S : SatT) (K : AVal → H → Prop) (X0 : Frame → H → Prop) (X2 : Frame → H → Prop) (i1_ : Int) (p2_ : Pt) (s6_ : Sl) (i7_ : Int) (s8_ : Sl) (i9_ : Int) (h : H) : spec_l06Columns_w2 S K X0 X2 (spec_l06Columns_e2 i1_ p2_ s6_ i7_ s8_ i9_) h = spec_l06Columns_b2 S K X0 X2 i1_ p2_ s6_ i7_ s8_ i9_ h := by kernel_rfl
theorem spec_l06Columns_rule2 (S : SatT) (K : AVal → H → Prop) (X0 : Frame → H → Prop) (i1_ : Int) (p2_ : Pt) (s6_ : Sl) (i7_ : Int) (I_ : Sl → Int → H → Prop) (m_ : Sl → Int → H → Nat)
    (hs : ∀ (X2 : Frame → H → Prop) (s8_ : Sl) (i9_ : Int) (h : H), I_ s8_ i9_ h → (∀ (s8_' : Sl) (i9_' : Int) (h' : H), I_ s8_' i9_' h' → m_ s8_' i9_' h' < m_ s8_ i9_ h → X2 (spec_l06Columns_e2 i1_ p2_ s6_ i7_ s8_' i9_') h') → spec_l06Columns_b2 S K X0 X2 i1_ p2_ s6_ i7_ s8_ i9_ h) (s8_ : Sl) (i9_ : Int) {h : H} (h0 : I_ s8_ i9_ h) : spec_l06Columns_L2 S K X0 i1_ p2_ s6_ i7_ s8_ i9_ h :=
  loop_rule (σ := (Sl) × (Int)) (fun s_ => spec_l06Columns_e2 i1_ p2_ s6_ i7_ (s_.1) (s_.2)) (fun s_ h => I_ (s_.1) (s_.2) h) (fun s_ h => m_ (s_.1) (s_.2) h)
    (fun X s_ h hi hx => (spec_l06Columns_link2 S K X0 X i1_ p2_ s6_ i7_ (s_.1) (s_.2) h).mpr (hs X (s_.1) (s_.2) h hi fun s8_' i9_' h' hi' hm' => hx (s8_', i9_') h' hi' hm')) (s8_, i9_) h0
theorem spec_l06Columns_unroll2 (S : SatT) (K : AVal → H → Prop) (X0 : Frame → H → Prop) (i1_ : Int) (p2_ : Pt) (s6_ : Sl) (i7_ : Int) (s8_ : Sl) (i9_ : Int) (h : H) (hb : spec_l06Columns_b2 S K X0 (fun fr h => loopK (spec_l06Columns_w2 S K X0) fr h) i1_ p2_ s6_ i7_ s8_ i9_ h) : spec_l06Columns_L2 S K X0 i1_ p2_ s6_ i7_ s8_ i9_ h := loop_unroll ((spec_l06Columns_link2 S K X0 _ i1_ p2_ s6_ i7_ s8_ i9_ h).mpr hb)
def spec_l06Columns_C0 (S : SatT) (K : AVal → H → Prop) (s6_ : Sl) (h : H) : Prop :=
 K (.tuple [.sl s6_, .bool true]) h
def spec_l06Columns_b0 (S : SatT) (K : AVal → H → Prop) (X0 : Frame → H → Prop) (i1_ : Int) (p2_ : Pt) (s6_ : Sl) (i7_ : Int) (h : H) : Prop :=
 bif (decide (i7_ < i1_)) then
 newS 0 1 [] h fun s0 h1 =>
 spec_l06Columns_L2 S K X0 i1_ p2_ s6_ i7_ s0 (0) h1
 else
 spec_l06Columns_C0 S K s6_ h
theorem spec_l06Columns_link0 (S : SatT) (K : AVal → H → Prop) (X0 : Frame → H → Prop) (i1_ : Int) (p2_ : Pt) (s6_ : Sl) (i7_ : Int) (h : H) : spec_l06Columns_w0 S K X0 (spec_l06Columns_e0 i1_ p2_ s6_ i7_) h = spec_l06Columns_b0 S K X0 i1_ p2_ s6_ i7_ h := by kernel_rfl
theorem spec_l06Columns_rule0 (S : SatT) (K : AVal → H → Prop) (i1_ : Int) (p2_ : Pt) (I_ : Sl → Int → H → Prop) (m_ : Sl → Int → H → Nat)
    (hs : ∀ (X0 : Frame → H → Prop) (s6_ : Sl) (i7_ : Int) (h : H), I_ s6_ i7_ h → (∀ (s6_' : Sl) (i7_' : Int) (h' : H), I_ s6_' i7_' h' → m_ s6_' i7_' h' < m_ s6_ i7_ h → X0 (spec_l06Columns_e0 i1_ p2_ s6_' i7_') h') → spec_l06Columns_b0 S K X0 i1_ p2_ s6_ i7_ h) (s6_ : Sl) (i7_ : Int) {h : H} (h0 : I_ s6_ i7_ h) : spec_l06Columns_L0 S K i1_ p2_ s6_ i7_ h :=
  loop_rule (σ := (Sl) × (Int)) (fun s_ => spec_l06Columns_e0 i1_ p2_ (s_.1) (s_.2)) (fun s_ h => I_ (s_.1) (s_.2) h) (fun s_ h => m_ (s_.1) (s_.2) h)
    (fun X s_ h hi hx => (spec_l06Columns_link0 S K X i1_ p2_ (s_.1) (s_.2) h).mpr (hs X (s_.1) (s_.2) h hi fun s6_' i7_' h' hi' hm' => hx (s6_', i7_') h' hi' hm')) (s6_, i7_) h0
theorem spec_l06Columns_unroll0 (S : SatT) (K : AVal → H → Prop) (i1_ : Int) (p2_ : Pt) (s6_ : Sl) (i7_ : Int) (h : H) (hb : spec_l06Columns_b0 S K (fun fr h => loopK (spec_l06Columns_w0 S K) fr h) i1_ p2_ s6_ i7_ h) : spec_l06Columns_L0 S K i1_ p2_ s6_ i7_ h := loop_unroll ((spec_l06Columns_link0 S K _ i1_ p2_ s6_ i7_ h).mpr hb)
def spec_l06Columns_main (S : SatT) (K : AVal → H → Prop) (x0 : List AVal) (x1 : Int) (h : H) : Prop :=
 newK 2 x0 h fun p0 h1 =>
 newS 3 1 [.int .i64 (0), .int .i64 (0), .int .i64 (-1)] h1 fun s2 h3 =>
 newS 1 1 [.sl s2] h3 fun s4 h5 =>
 spec_l06Columns_L0 S K x1 p0 s4 (0) h5
theorem spec_l06Columns_main_link (S : SatT) (K : AVal → H → Prop) (x0 : List AVal) (x1 : Int) (h : H) : cwp S tab spec_l06Columns_M [] (bodyOf Try.f89) (kFun tab Try.f89.results.toList K) (fr0 Try.f89 [.agg x0, .int .i64 x1]) h = spec_l06Columns_main S K x0 x1 h := by kernel_rfl
theorem spec_l06Columns_call (x0 : List AVal) (x1 : Int) (h : H) (K : AVal → H → Prop) (hm : spec_l06Columns_main (Sat Try.prog) (fun v h' => K v h') x0 x1 h) : callV (Sat Try.prog) i_spec_l06Columns [.agg x0, .int .i64 x1] h K := by
  have := Sat.ex tok mixed spec_l06Columns_M Try.func89 (c := bodyOf Try.f89) (by kernel_rfl) (calls_of Try.func89 (c := bodyOf Try.f89) (by kernel_rfl) (by decide)) ((spec_l06Columns_main_link _ _ x0 x1 h).mpr hm)
  exact this

/-! ### (*loop.example/g01354/impl.strip).sequence -/
def impl_strip_sequence_M : Nat → List Nat := fun i => bif i == 4 then [0, 1, 2, 7, 8, 51, 52, 53] else bif i == 2 then [0, 1, 2, 6, 7, 8, 27, 28, 29] else bif i == 0 then [0, 1, 2, 6] else []
def impl_strip_sequence_e0 (p0_ : Pt) (f1_ : AVal) (f2_ : AVal) (s6_ : Sl) : Frame := [.ptr p0_, f1_, f2_, U, U, U, .sl s6_, U, U, U, U, U, U, U, U, U, U, U, U, U, U, U, U, U, U, U, U, U, U, U, U, U, U, U, U, U, U, U, U, U, U, U, U, U, U, U, U, U, U, U, U, U, U, U, U, U, U, U, U, U, U, U, U, U, U, U, U, U]
def impl_strip_sequence_w0 (S : SatT) (K : AVal → H → Prop) : (Frame → H → Prop) → Frame → H → Prop := fun X fr h => cwp S tab impl_strip_sequence_M (impl_strip_sequence_M 0) (sub [1, 0, 0] (bodyOf Try.f69)) (kSeq (fun fr h => X (mask (impl_strip_sequence_M 0) fr) h) (kBlk 0 (kFun tab (Try.f69).results.toList K))) fr h
def impl_strip_sequence_L0 (S : SatT) (K : AVal → H → Prop) (p0_ : Pt) (f1_ : AVal) (f2_ : AVal) (s6_ : Sl) (h : H) : Prop := loopK (impl_strip_sequence_w0 S K) (impl_strip_sequence_e0 p0_ f1_ f2_ s6_) h
def impl_strip_sequence_ks2 (S : SatT) (K : AVal → H → Prop) (X0 : Frame → H → Prop) : Kont := kSeq (cwp S tab impl_strip_sequence_M (impl_strip_sequence_M 1) (sub [1, 0, 0, 0, 1, 1] (bodyOf Try.f69)) (kBlk 1 (kSeq (fun fr h => X0 (mask (impl_strip_sequence_M 0) fr) h) (kBlk 0 (kFun tab (Try.f69).results.toList K))))) (kBlk 1 (kSeq (fun fr h => X0 (mask (impl_strip_sequence_M 0) fr) h) (kBlk 0 (kFun tab (Try.f69).results.toList K))))
def impl_strip_sequence_e2 (p0_ : Pt) (f1_ : AVal) (f2_ : AVal) (s6_ : Sl) (s7_ : Sl) (i8_ : Int) (s27_ : Sl) (i28_ : Int) (i29_ : Int) : Frame := [.ptr p0_, f1_, f2_, U, U, U, .sl s6_, .sl s7_, .int .i64 i8_, U, U, U, U, U, U, U, U, U, U, U, U, U, U, U, U, U, U, .sl s27_, .int .i64 i28_, .int .i64 i29_, U, U, U, U, U, U, U, U, U, U, U, U, U, U, U, U, U, U, U, U, U, U, U, U, U, U, U, U, U, U, U, U, U, U, U, U, U, U]
def impl_strip_sequence_w2 (S : SatT) (K : AVal → H → Prop) (X0 : Frame → H → Prop) : (Frame → H → Prop) → Frame → H → Prop := fun X fr h => cwp S tab impl_strip_sequence_M (impl_strip_sequence_M 2) (sub [1, 0, 0, 0, 1, 0, 1, 0, 0] (bodyOf Try.f69)) (kSeq (fun fr h => X (mask (impl_strip_sequence_M 2) fr) h) (kBlk 2 (impl_strip_sequence_ks2 S K X0))) fr h
def impl_strip_sequence_L2 (S : SatT) (K : AVal → H → Prop) (X0 : Frame → H → Prop) (p0_ : Pt) (f1_ : AVal) (f2_ : AVal) (s6_ : Sl) (s7_ : Sl) (i8_ : Int) (s27_ : Sl) (i28_ : Int) (i29_ : Int) (h : H) : Prop := loopK (impl_strip_sequence_w2 S K X0) (impl_strip_sequence_e2 p0_ f1_ f2_ s6_ s7_ i8_ s27_ i28_ i29_) h
def impl_strip_sequence_ks8 (S : SatT) (K : AVal → H → Prop) (X0 : Frame → H → Prop) : Kont := kSeq (cwp S tab impl_strip_sequence_M (impl_strip_sequence_M 1) (sub [1, 0, 0, 0, 1, 1, 1] (bodyOf Try.f69)) (kBlk 1 (kSeq (fun fr h => X0 (mask (impl_strip_sequence_M 0) fr) h) (kBlk 0 (kFun tab (Try.f69).results.toList K))))) (kBlk 1 (kSeq (fun fr h => X0 (mask (impl_strip_sequence_M 0) fr) h) (kBlk 0 (kFun tab (Try.f69).results.toList K))))
def impl_strip_sequence_e4 (p0_ : Pt) (f1_ : AVal) (f2_ : AVal) (s7_ : Sl) (i8_ : Int) (s51_ : Sl) (i52_ : Int) (i53_ : Int) : Frame := [.ptr p0_, f1_, f2_, U, U, U, U, .sl s7_, .int .i64 i8_, U, U, U, U, U, U, U, U, U, U, U, U, U, U, U, U, U, U, U, U, U, U, U, U, U, U, U, U, U, U, U, U, U, U, U, U, U, U, U, U, U, U, .sl s51_, .int .i64 i52_, .int .i64 i53_, U, U, U, U, U, U, U, U, U, U, U, U, U, U]
def impl_strip_sequence_w4 (S : SatT) (K : AVal → H → Prop) (X0 : Frame → H → Prop) : (Frame → H → Prop) → Frame → H → Prop := fun X fr h => cwp S tab impl_strip_sequence_M (impl_strip_sequence_M 4) (sub [1, 0, 0, 0, 1, 1, 0, 1, 0, 0] (bodyOf Try.f69)) (kSeq (fun fr h => X (mask (impl_strip_sequence_M 4) fr) h) (kBlk 4 (impl_strip_sequence_ks8 S K X0))) fr h
def impl_strip_sequence_L4 (S : SatT) (K : AVal → H → Prop) (X0 : Frame → H → Prop) (p0_ : Pt) (f1_ : AVal) (f2_ : AVal) (s7_ : Sl) (i8_ : Int) (s51_ : Sl) (i52_ : Int) (i53_ : Int) (h : H) : Prop := loopK (impl_strip_sequence_w4 S K X0) (impl_strip_sequence_e4 p0_ f1_ f2_ s7_ i8_ s51_ i52_ i53_) h
def impl_strip_sequence_C4 (S : SatT) (K : AVal → H → Prop) (X0 : Frame → H → Prop) (p0_ : Pt) (f1_ : AVal) (f2_ : AVal) (s7_ : Sl) (i8_ : Int) (h : H) : Prop :=
 viaF f2_ [.int .i64 i8_] fun g0 ys1 =>
 callB S g0 ys1 h fun b3 h2 =>
 bif (!b3) then
 K (.tuple []) h2
 else
 X0 (impl_strip_sequence_e0 p0_ f1_ f2_ s7_) h2
def impl_strip_sequence_b4 (S : SatT) (K : AVal → H → Prop) (X0 : Frame → H → Prop) (X4 : Frame → H → Prop) (p0_ : Pt) (f1_ : AVal) (f2_ : AVal) (s7_ : Sl) (i8_ : Int) (s51_ : Sl) (i52_ : Int) (i53_ : Int) (h : H) : Prop :=
 bif (decide (i53_ < i52_)) then
 ixS s51_ 1 i53_ fun p0 =>
 ldI .i64 p0 h fun n1 =>
 viaF f1_ [.int .i64 (w64 (i8_ + n1))] fun g2 ys3 =>
 callI S .i64 g2 ys3 h fun n5 h4 =>
 X4 (impl_strip_sequence_e4 p0_ f1_ f2_ s7_ n5 s51_ i52_ (w64 (i53_ + (1)))) h4
 else
 impl_strip_sequence_C4 S K X0 p0_ f1_ f2_ s7_ i8_ h
theorem impl_strip_sequence_link4 (S : SatT) (K : AVal → H → Prop) (X0 : Frame → H → Prop) (X4 : Frame → H → Prop) (p0_ : Pt) (f1_ : AVal) (f2_ : AVal) (s7_ : Sl) (i8_ : Int) (s51_ : Sl) (i52_ : Int) (i53_ : Int) (h : H) : impl_strip_sequence_w4 S K X0 X4 (impl_strip_sequence_e4 p0_ f1_ f2_ s7_ i8_ s51_ i52_ i53_) h = impl_strip_sequence_b4 S K X0 X4 p0_ f1_ f2_ s7_ i8_ s51_ i52_ i53_ h := by kernel_rfl
theorem impl_strip_sequence_rule4 (S : SatT) (K : AVal → H → Prop) (X0 : Frame → H → Prop) (p0_ : Pt) (f1_ : AVal) (f2_ : AVal) (s7_ : Sl) (s51_ : Sl) (i52_ : Int) (I_ : Int → Int → H → Prop) (m_ : Int → Int → H → Nat)
    (hs : ∀ (X4 : Frame → H → Prop) (i8_ : Int) (i53_ : Int) (h : H), I_ i8_ i53_ h → (∀ (i8_' : Int) (i53_' : Int) (h' : H), I_ i8_' i53_' h' → m_ i8_' i53_' h' < m_ i8_ i53_ h → X4 (impl_strip_sequence_e4 p0_ f1_ f2_ s7_ i8_' s51_ i52_ i53_') h') → impl_strip_sequence_b4 S K X0 X4 p0_ f1_ f2_ s7_ i8_ s51_ i52_ i53_ h) (i8_ : Int) (i53_ : Int) {h : H} (h0 : I_ i8_ i53_ h) : impl_strip_sequence_L4 S K X0 p0_ f1_ f2_ s7_ i8_ s51_ i52_ i53_ h :=
  loop_rule (σ := (Int) × (Int)) (fun s_ => impl_strip_sequence_e4 p0_ f1_ f2_ s7_ (s_.1) s51_ i52_ (s_.2)) (fun s_ h => I_ (s_.1) (s_.2) h) (fun s_ h => m_ (s_.1) (s_.2) h)
    (fun X s_ h hi hx => (impl_strip_sequence_link4 S K X0 X p0_ f1_ f2_ s7_ (s_.1) s51_ i52_ (s_.2) h).mpr (hs X (s_.1) (s_.2) h hi fun i8_' i53_' h' hi' hm' => hx (i8_', i53_') h' hi' hm')) (i8_, i53_) h0
theorem impl_strip_sequence_unroll4 (S : SatT) (K : AVal → H → Prop) (X0 : Frame → H → Prop) (p0_ : Pt) (f1_ : AVal) (f2_ : AVal) (s7_ : Sl) (i8_ : Int) (s51_ : Sl) (i52_ : Int) (i53_ : Int) (h : H) (hb : impl_strip_sequence_b4 S K X0 (fun fr h => loopK (impl_strip_sequence_w4 S K X0) fr h) p0_ f1_ f2_ s7_ i8_ s51_ i52_ i53_ h) : impl_strip_sequence_L4 S K X0 p0_ f1_ f2_ s7_ i8_ s51_ i52_ i53_ h := loop_unroll ((impl_strip_sequence_link4 S K X0 _ p0_ f1_ f2_ s7_ i8_ s51_ i52_ i53_ h).mpr hb)
def impl_strip_sequence_C2 (S : SatT) (K : AVal → H → Prop) (X0 : Frame → H → Prop) (p0_ : Pt) (f1_ : AVal) (f2_ : AVal) (s7_ : Sl) (i8_ : Int) (h : H) : Prop :=
 impl_strip_sequence_L4 S K X0 p0_ f1_ f2_ s7_ i8_ s7_ (s7_.len : Int) (0) h
def impl_strip_sequence_b2 (S : SatT) (K : AVal → H → Prop) (X0 : Frame → H → Prop) (X2 : Frame → H → Prop) (p0_ : Pt) (f1_ : AVal) (f2_ : AVal) (s6_ : Sl) (s7_ : Sl) (i8_ : Int) (s27_ : Sl) (i28_ : Int) (i29_ : Int) (h : H) : Prop :=
 bif (decide (i29_ < i28_)) then
 ixS s27_ 3 i29_ fun p0 =>
 ldA p0 3 h fun cs1 =>
 newO [.int .i64 (0), .int .i64 (0), .int .i64 (0)] h fun p2 h3 =>
 stN p2 3 cs1 h3 fun h4 =>
 ixA p2 3 1 (1) fun p5 =>
 ldI .i64 p5 h4 fun n6 =>
 ixA p2 3 1 (1) fun p7 =>
 ldI .i64 p7 h4 fun n8 =>
 ixS s7_ 1 n8 fun p9 =>
 ldI .i64 p9 h4 fun n10 =>
 ixA p2 3 1 (0) fun p11 =>
 ldI .i64 p11 h4 fun n12 =>
 ixS s6_ 1 n12 fun p13 =>
 ldI .i64 p13 h4 fun n14 =>
 viaF f1_ [.int .i64 (w64 (n10 + n14))] fun g15 ys16 =>
 callI S .i64 g15 ys16 h4 fun n18 h17 =>
(cell h17 p5 = cell h4 p5) ∧ (
 ixS s7_ 1 n6 fun p19 =>
 st1 p19 (.int .i64 n18) h17 fun h20 =>
 X2 (impl_strip_sequence_e2 p0_ f1_ f2_ s6_ s7_ i8_ s27_ i28_ (w64 (i29_ + (1)))) h20)
 else
 impl_strip_sequence_C2 S K X0 p0_ f1_ f2_ s7_ i8_ h
theorem impl_strip_sequence_link2 (S : SatT) (K : AVal → H → Prop) (X0 : Frame → H → Prop) (X2 : Frame → H → Prop) (p0_ : Pt) (f1_ : AVal) (f2_ : AVal) (s6_ : Sl) (s7_ : Sl) (i8_ : Int) (s27_ : Sl) (i28_ : Int) (i29_ : Int) (h : H) : impl_strip_sequence_w2 S K X0 X2 (impl_strip_sequence_e2 p0_ f1_ f2_ s6_ s7_ i8_ s27_ i28_ i29_) h = impl_strip_sequence_b2 S K X0 X2 p0_ f1_ f2_ s6_ s7_ i8_ s27_ i28_ i29_ h := by kernel_rfl
theorem impl_strip_sequence_rule2 (S : SatT) (K : AVal → H → Prop) (X0 : Frame → H → Prop) (p0_ : Pt) (f1_ : AVal) (f2_ : AVal) (s6_ : Sl) (s7_ : Sl) (i8_ : Int) (s27_ : Sl) (i28_ : Int) (I_ : Int → H → Prop) (m_ : Int → H → Nat)
    (hs : ∀ (X2 : Frame → H → Prop) (i29_ : Int) (h : H), I_ i29_ h → (∀ (i29_' : Int) (h' : H), I_ i29_' h' → m_ i29_' h' < m_ i29_ h → X2 (impl_strip_sequence_e2 p0_ f1_ f2_ s6_ s7_ i8_ s27_ i28_ i29_') h') → impl_strip_sequence_b2 S K X0 X2 p0_ f1_ f2_ s6_ s7_ i8_ s27_ i28_ i29_ h) (i29_ : Int) {h : H} (h0 : I_ i29_ h) : impl_strip_sequence_L2 S K X0 p0_ f1_ f2_ s6_ s7_ i8_ s27_ i28_ i29_ h :=
  loop_rule (σ := (Int)) (fun s_ => impl_strip_sequence_e2 p0_ f1_ f2_ s6_ s7_ i8_ s27_ i28_ (s_)) (fun s_ h => I_ (s_) h) (fun s_ h => m_ (s_) h)
    (fun X s_ h hi hx => (impl_strip_sequence_link2 S K X0 X p0_ f1_ f2_ s6_ s7_ i8_ s27_ i28_ (s_) h).mpr (hs X (s_) h hi fun i29_' h' hi' hm' => hx (i29_') h' hi' hm')) (i29_) h0
theorem impl_strip_sequence_unroll2 (S : SatT) (K : AVal → H → Prop) (X0 : Frame → H → Prop) (p0_ : Pt) (f1_ : AVal) (f2_ : AVal) (s6_ : Sl) (s7_ : Sl) (i8_ : Int) (s27_ : Sl) (i28_ : Int) (i29_ : Int) (h : H) (hb : impl_strip_sequence_b2 S K X0 (fun fr h => loopK (impl_strip_sequence_w2 S K X0) fr h) p0_ f1_ f2_ s6_ s7_ i8_ s27_ i28_ i29_ h) : impl_strip_sequence_L2 S K X0 p0_ f1_ f2_ s6_ s7_ i8_ s27_ i28_ i29_ h := loop_unroll ((impl_strip_sequence_link2 S K X0 _ p0_ f1_ f2_ s6_ s7_ i8_ s27_ i28_ i29_ h).mpr hb)
def impl_strip_sequence_b0 (S : SatT) (K : AVal → H → Prop) (X0 : Frame → H → Prop) (p0_ : Pt) (f1_ : AVal) (f2_ : AVal) (s6_ : Sl) (h : H) : Prop :=
 nilC (.ptr p0_) (
 isPt p0_ (
 ldI .i64 (Pt.add p0_ 3) h fun n0 =>
 mkS n0 [.int .i64 (0)] h fun s1 h2 =>
 nilC (.ptr p0_) (
 isPt p0_ (
 ldS (Pt.add p0_ 4) h2 fun s3 =>
 impl_strip_sequence_L2 S K X0 p0_ f1_ f2_ s6_ s1 (0) s3 (s3.len : Int) (0) h2))))
theorem impl_strip_sequence_link0 (S : SatT) (K : AVal → H → Prop) (X0 : Frame → H → Prop) (p0_ : Pt) (f1_ : AVal) (f2_ : AVal) (s6_ : Sl) (h : H) : impl_strip_sequence_w0 S K X0 (impl_strip_sequence_e0 p0_ f1_ f2_ s6_) h = impl_strip_sequence_b0 S K X0 p0_ f1_ f2_ s6_ h := by kernel_rfl
theorem impl_strip_sequence_rule0 (S : SatT) (K : AVal → H → Prop) (p0_ : Pt) (f1_ : AVal) (f2_ : AVal) (I_ : Sl → H → Prop) (m_ : Sl → H → Nat)
    (hs : ∀ (X0 : Frame → H → Prop) (s6_ : Sl) (h : H), I_ s6_ h → (∀ (s6_' : Sl) (h' : H), I_ s6_' h' → m_ s6_' h' < m_ s6_ h → X0 (impl_strip_sequence_e0 p0_ f1_ f2_ s6_') h') → impl_strip_sequence_b0 S K X0 p0_ f1_ f2_ s6_ h) (s6_ : Sl) {h : H} (h0 : I_ s6_ h) : impl_strip_sequence_L0 S K p0_ f1_ f2_ s6_ h :=
  loop_rule (σ := (Sl)) (fun s_ => impl_strip_sequence_e0 p0_ f1_ f2_ (s_)) (fun s_ h => I_ (s_) h) (fun s_ h => m_ (s_) h)
    (fun X s_ h hi hx => (impl_strip_sequence_link0 S K X p0_ f1_ f2_ (s_) h).mpr (hs X (s_) h hi fun s6_' h' hi' hm' => hx (s6_') h' hi' hm')) (s6_) h0
theorem impl_strip_sequence_unroll0 (S : SatT) (K : AVal → H → Prop) (p0_ : Pt) (f1_ : AVal) (f2_ : AVal) (s6_ : Sl) (h : H) (hb : impl_strip_sequence_b0 S K (fun fr h => loopK (impl_strip_sequence_w0 S K) fr h) p0_ f1_ f2_ s6_ h) : impl_strip_sequence_L0 S K p0_ f1_ f2_ s6_ h := loop_unroll ((impl_strip_sequence_link0 S K _ p0_ f1_ f2_ s6_ h).mpr hb)
def impl_strip_sequence_main (S : SatT) (K : AVal → H → Prop) (x0 : Pt) (x1 : AVal) (x2 : AVal) (h : H) : Prop :=
 newS 1 1 [.int .i64 (1)] h fun s0 h1 =>
 nilC (.ptr x0) (
 isPt x0 (
 ldI .i64 (Pt.add x0 3) h1 fun n2 =>
 callS S i_slices_Repeat_s_int64_int64_ [.sl s0, .int .i64 n2] h1 fun s4 h3 =>
 impl_strip_sequence_L0 S K x0 x1 x2 s4 h3))
theorem impl_strip_sequence_main_link (S : SatT) (K : AVal → H → Prop) (x0 : Pt) (x1 : AVal) (x2 : AVal) (h : H) : cwp S tab impl_strip_sequence_M [] (bodyOf Try.f69) (kFun tab Try.f69.results.toList K) (fr0 Try.f69 [.ptr x0, x1, x2]) h = impl_strip_sequence_main S K x0 x1 x2 h := by kernel_rfl
theorem impl_strip_sequence_call (x0 : Pt) (x1 : AVal) (x2 : AVal) (h : H) (K : AVal → H → Prop) (hm : impl_strip_sequence_main (Sat Try.prog) (fun v h' => K v h') x0 x1 x2 h) : callV (Sat Try.prog) i_impl_strip_sequence [.ptr x0, x1, x2] h K := by
  have := Sat.ex tok mixed impl_strip_sequence_M Try.func69 (c := bodyOf Try.f69) (by kernel_rfl) (calls_of Try.func69 (c := bodyOf Try.f69) (by kernel_rfl) (by decide)) ((impl_strip_sequence_main_link _ _ x0 x1 x2 h).mpr hm)
  exact this

/-! ### loop.example/g01354/spec.ColumnWords -/
def spec_ColumnWords_M : Nat → List Nat := fun i => bif i == 0 then [1, 2, 6, 9, 10] else []
def spec_ColumnWords_ks6 (S : SatT) (K : AVal → H → Prop) : Kont := kSeq (cwp S tab spec_ColumnWords_M [] (sub [1, 1, 1, 1, 1] (bodyOf Try.f32)) (kFun tab (Try.f32).results.toList K)) (kFun tab (Try.f32).results.toList K)
def spec_ColumnWords_e0 (i1_ : Int) (p2_ : Pt) (s6_ : Sl) (s9_ : Sl) (i10_ : Int) : Frame := [U, .int .i64 i1_, .ptr p2_, U, U, U, .sl s6_, U, U, .sl s9_, .int .i64 i10_, U, U, U, U, U, U, U, U, U, U, U, U, U, U, U, U, U, U, U, U, U, U, U, U, U, U, U, U, U]
def spec_ColumnWords_w0 (S : SatT) (K : AVal → H → Prop) : (Frame → H → Prop) → Frame → H → Prop := fun X fr h => cwp S tab spec_ColumnWords_M (spec_ColumnWords_M 0) (sub [1, 1, 1, 1, 0, 1, 0, 0] (bodyOf Try.f32)) (kSeq (fun fr h => X (mask (spec_ColumnWords_M 0) fr) h) (kBlk 0 (spec_ColumnWords_ks6 S K))) fr h
def spec_ColumnWords_L0 (S : SatT) (K : AVal → H → Prop) (i1_ : Int) (p2_ : Pt) (s6_ : Sl) (s9_ : Sl) (i10_ : Int) (h : H) : Prop := loopK (spec_ColumnWords_w0 S K) (spec_ColumnWords_e0 i1_ p2_ s6_ s9_ i10_) h
def spec_ColumnWords_C0 (S : SatT) (K : AVal → H → Prop) (s9_ : Sl) (h : H) : Prop :=
 K (.tuple [.sl s9_, .int .i64 (0)]) h
def spec_ColumnWords_b0 (S : SatT) (K : AVal → H → Prop) (X0 : Frame → H → Prop) (i1_ : Int) (p2_ : Pt) (s6_ : Sl) (s9_ : Sl) (i10_ : Int) (h : H) : Prop :=
 bif (decide (i10_ < (s6_.len : Int))) then
 ixS s6_ 1 i10_ fun p0 =>
 ldI .i64 p0 h fun n1 =>
 isPt p2_ (
 ldI .i64 (Pt.add p2_ 0) h fun n2 =>
 callS S i_spec_l06Word [.int .i64 n1, .int .i64 n2, .int .i64 i1_] h fun s4 h3 =>
 newS 1 1 [.sl s4] h3 fun s5 h6 =>
 app s9_ s5 1 h6 fun s7 h8 =>
 X0 (spec_ColumnWords_e0 i1_ p2_ s6_ s7 (w64 (i10_ + (1)))) h8)
 else
 spec_ColumnWords_C0 S K s9_ h
theorem spec_ColumnWords_link0 (S : SatT) (K : AVal → H → Prop) (X0 : Frame → H → Prop) (i1_ : Int) (p2_ : Pt) (s6_ : Sl) (s9_ : Sl) (i10_ : Int) (h : H) : spec_ColumnWords_w0 S K X0 (spec_ColumnWords_e0 i1_ p2_ s6_ s9_ i10_) h = spec_ColumnWords_b0 S K X0 i1_ p2_ s6_ s9_ i10_ h := by kernel_rfl
theorem spec_ColumnWords_rule0 (S : SatT) (K : AVal → H → Prop) (i1_ : Int) (p2_ : Pt) (s6_ : Sl) (I_ : Sl → Int → H → Prop) (m_ : Sl → Int → H → Nat)
    (hs : ∀ (X0 : Frame → H → Prop) (s9_ : Sl) (i10_ : Int) (h : H), I_ s9_ i10_ h → (∀ (s9_' : Sl) (i10_' : Int) (h' : H), I_ s9_' i10_' h' → m_ s9_' i10_' h' < m_ s9_ i10_ h → X0 (spec_ColumnWords_e0 i1_ p2_ s6_ s9_' i10_') h') → spec_ColumnWords_b0 S K X0 i1_ p2_ s6_ s9_ i10_ h) (s9_ : Sl) (i10_ : Int) {h : H} (h0 : I_ s9_ i10_ h) : spec_ColumnWords_L0 S K i1_ p2_ s6_ s9_ i10_ h :=
  loop_rule (σ := (Sl) × (Int)) (fun s_ => spec_ColumnWords_e0 i1_ p2_ s6_ (s_.1) (s_.2)) (fun s_ h => I_ (s_.1) (s_.2) h) (fun s_ h => m_ (s_.1) (s_.2) h)
    (fun X s_ h hi hx => (spec_ColumnWords_link0 S K X i1_ p2_ s6_ (s_.1) (s_.2) h).mpr (hs X (s_.1) (s_.2) h hi fun s9_' i10_' h' hi' hm' => hx (s9_', i10_') h' hi' hm')) (s9_, i10_) h0
theorem spec_ColumnWords_unroll0 (S : SatT) (K : AVal → H → Prop) (i1_ : Int) (p2_ : Pt) (s6_ : Sl) (s9_ : Sl) (i10_ : Int) (h : H) (hb : spec_ColumnWords_b0 S K (fun fr h => loopK (spec_ColumnWords_w0 S K) fr h) i1_ p2_ s6_ s9_ i10_ h) : spec_ColumnWords_L0 S K i1_ p2_ s6_ s9_ i10_ h := loop_unroll ((spec_ColumnWords_link0 S K _ i1_ p2_ s6_ s9_ i10_ h).mpr hb)
def spec_ColumnWords_main (S : SatT) (K : AVal → H → Prop) (x0 : List AVal) (x1 : Int) (h : H) : Prop :=
 newK 2 x0 h fun p0 h1 =>
 ldA p0 2 h1 fun cs2 =>
 callV S i_spec_l06Lasting [.agg cs2, .int .i64 x1] h1 fun v4 h3 =>
 viaT v4 fun vs5 =>
 exS vs5 0 fun s6 =>
 viaT v4 fun vs7 =>
 exS vs7 1 fun s8 =>
 viaT v4 fun vs9 =>
 exI .i64 vs9 2 fun n10 =>
 bif (n10 != (0)) then
 K (.tuple [.sl Sl.nil, .int .i64 n10]) h3
 else
 newS 0 1 [] h3 fun s11 h12 =>
 spec_ColumnWords_L0 S K x1 p0 s6 s11 (0) h12
theorem spec_ColumnWords_main_link (S : SatT) (K : AVal → H → Prop) (x0 : List AVal) (x1 : Int) (h : H) : cwp S tab spec_ColumnWords_M [] (bodyOf Try.f32) (kFun tab Try.f32.results.toList K) (fr0 Try.f32 [.agg x0, .int .i64 x1]) h = spec_ColumnWords_main S K x0 x1 h := by kernel_rfl
theorem spec_ColumnWords_call (x0 : List AVal) (x1 : Int) (h : H) (K : AVal → H → Prop) (hm : spec_ColumnWords_main (Sat Try.prog) (fun v h' => K v h') x0 x1 h) : callV (Sat Try.prog) i_spec_ColumnWords [.agg x0, .int .i64 x1] h K := by
  have := Sat.ex tok mixed spec_ColumnWords_M Try.func32 (c := bodyOf Try.f32) (by kernel_rfl) (calls_of Try.func32 (c := bodyOf Try.f32) (by kernel_rfl) (by decide)) ((spec_ColumnWords_main_link _ _ x0 x1 h).mpr hm)
  exact this

/-! ### loop.example/g01354/impl.IsSet -/
def impl_IsSet_M : Nat → List Nat := fun i => bif i == 0 then [1, 6, 7, 8] else []
def impl_IsSet_ks1 (S : SatT) (K : AVal → H → Prop) : Kont := kSeq (cwp S tab impl_IsSet_M [] (sub [1, 1] (bodyOf Try.f58)) (kFun tab (Try.f58).results.toList K)) (kFun tab (Try.f58).results.toList K)
def impl_IsSet_e0 (p1_ : Pt) (s6_ : Sl) (i7_ : Int) (i8_ : Int) : Frame := [U, .ptr p1_, U, U, U, U, .sl s6_, .int .i64 i7_, .int .i64 i8_, U, U, U, U, U, U, U, U, U, U, U, U, U, U, U, U, U, U, U, U, U, U, U, U, U, U, U, U, U, U, U, U, U, U]
def impl_IsSet_w0 (S : SatT) (K : AVal → H → Prop) : (Frame → H → Prop) → Frame → H → Prop := fun X fr h => cwp S tab impl_IsSet_M (impl_IsSet_M 0) (sub [1, 0, 1, 0, 0] (bodyOf Try.f58)) (kSeq (fun fr h => X (mask (impl_IsSet_M 0) fr) h) (kBlk 0 (impl_IsSet_ks1 S K))) fr h
def impl_IsSet_L0 (S : SatT) (K : AVal → H → Prop) (p1_ : Pt) (s6_ : Sl) (i7_ : Int) (i8_ : Int) (h : H) : Prop := loopK (impl_IsSet_w0 S K) (impl_IsSet_e0 p1_ s6_ i7_ i8_) h
def impl_IsSet_C0 (S : SatT) (K : AVal → H → Prop) (p1_ : Pt) (h : H) : Prop :=
 isPt p1_ (
 ldI .i64 (Pt.add p1_ 0) h fun n0 =>
 callB S i_impl_within [.int .i64 n0, .int .i64 (1), .int .i64 (6)] h fun b2 h1 =>
 bif b2 then
 isPt p1_ (
 ldS (Pt.add p1_ 1) h1 fun s3 =>
 K (.bool (decide ((s3.len : Int) ≤ (16)))) h1)
 else
 K (.bool false) h1)
def impl_IsSet_b0 (S : SatT) (K : AVal → H → Prop) (X0 : Frame → H → Prop) (p1_ : Pt) (s6_ : Sl) (i7_ : Int) (i8_ : Int) (h : H) : Prop :=
 bif (decide (i8_ < i7_)) then
 ixS s6_ 4 i8_ fun p0 =>
 ldA p0 4 h fun cs1 =>
 newO [.int .i64 (0), .int .i64 (0), .int .i64 (0), .int .i64 (0)] h fun p2 h3 =>
 stN p2 4 cs1 h3 fun h4 =>
 ldA p2 4 h4 fun cs5 =>
 isPt p1_ (
 ldI .i64 (Pt.add p1_ 0) h4 fun n6 =>
 callB S i_impl_isTile [.agg cs5, .int .i64 n6] h4 fun b8 h7 =>
 bif (!b8) then
 K (.bool false) h7
 else
 bif (decide (i8_ > (0))) then
 isPt p1_ (
 ldS (Pt.add p1_ 1) h7 fun s9 =>
 ixS s9 4 (w64 (i8_ - (1))) fun p10 =>
 ldA p10 4 h7 fun cs11 =>
 ldA p2 4 h7 fun cs12 =>
 callI S .i64 i_impl_compare [.agg cs11, .agg cs12] h7 fun n14 h13 =>
 bif (decide (n14 ≥ (0))) then
 K (.bool false) h13
 else
 X0 (impl_IsSet_e0 p1_ s6_ i7_ (w64 (i8_ + (1)))) h13)
 else
 X0 (impl_IsSet_e0 p1_ s6_ i7_ (w64 (i8_ + (1)))) h7)
 else
 impl_IsSet_C0 S K p1_ h
theorem impl_IsSet_link0 (S : SatT) (K : AVal → H → Prop) (X0 : Frame → H → Prop) (p1_ : Pt) (s6_ : Sl) (i7_ : Int) (i8_ : Int) (h : H) : impl_IsSet_w0 S K X0 (impl_IsSet_e0 p1_ s6_ i7_ i8_) h = impl_IsSet_b0 S K X0 p1_ s6_ i7_ i8_ h := by kernel_rfl
theorem impl_IsSet_rule0 (S : SatT) (K : AVal → H → Prop) (p1_ : Pt) (s6_ : Sl) (i7_ : Int) (I_ : Int → H → Prop) (m_ : Int → H → Nat)
    (hs : ∀ (X0 : Frame → H → Prop) (i8_ : Int) (h : H), I_ i8_ h → (∀ (i8_' : Int) (h' : H), I_ i8_' h' → m_ i8_' h' < m_ i8_ h → X0 (impl_IsSet_e0 p1_ s6_ i7_ i8_') h') → impl_IsSet_b0 S K X0 p1_ s6_ i7_ i8_ h) (i8_ : Int) {h : H} (h0 : I_ i8_ h) : impl_IsSet_L0 S K p1_ s6_ i7_ i8_ h :=
  loop_rule (σ := (Int)) (fun s_ => impl_IsSet_e0 p1_ s6_ i7_ (s_)) (fun s_ h => I_ (s_) h) (fun s_ h => m_ (s_) h)
    (fun X s_ h hi hx => (impl_IsSet_link0 S K X p1_ s6_ i7_ (s_) h).mpr (hs X (s_) h hi fun i8_' h' hi' hm' => hx (i8_') h' hi' hm')) (i8_) h0
theorem impl_IsSet_unroll0 (S : SatT) (K : AVal → H → Prop) (p1_ : Pt) (s6_ : Sl) (i7_ : Int) (i8_ : Int) (h : H) (hb : impl_IsSet_b0 S K (fun fr h => loopK (impl_IsSet_w0 S K) fr h) p1_ s6_ i7_ i8_ h) : impl_IsSet_L0 S K p1_ s6_ i7_ i8_ h := loop_unroll ((impl_IsSet_link0 S K _ p1_ s6_ i7_ i8_ h).mpr hb)
def impl_IsSet_main (S : SatT) (K : AVal → H → Prop) (x0 : List AVal) (h : H) : Prop :=
 newK 2 x0 h fun p0 h1 =>
 isPt p0 (
 ldS (Pt.add p0 1) h1 fun s2 =>
 impl_IsSet_L0 S K p0 s2 (s2.len : Int) (0) h1)
theorem impl_IsSet_main_link (S : SatT) (K : AVal → H → Prop) (x0 : List AVal) (h : H) : cwp S tab impl_IsSet_M [] (bodyOf Try.f58) (kFun tab Try.f58.results.toList K) (fr0 Try.f58 [.agg x0]) h = impl_IsSet_main S K x0 h := by kernel_rfl
theorem impl_IsSet_call (x0 : List AVal) (h : H) (K : Bool → H → Prop) (hm : impl_IsSet_main (Sat Try.prog) (fun v h' => ∃ r, v = .bool r ∧ K r h') x0 h) : callB (Sat Try.prog) i_impl_IsSet [.agg x0] h K := by
  have := Sat.ex tok mixed impl_IsSet_M Try.func58 (c := bodyOf Try.f58) (by kernel_rfl) (calls_of Try.func58 (c := bodyOf Try.f58) (by kernel_rfl) (by decide)) ((impl_IsSet_main_link _ _ x0 h).mpr hm)
  obtain ⟨v, h2, h3, r, rfl, h4⟩ := this; exact ⟨r, h2, h3, h4⟩

/-! ### loop.example/g01354/spec.l01Is -/
def spec_l01Is_M : Nat → List Nat := fun i => bif i == 0 then [1, 3] else []
def spec_l01Is_ks5 (S : SatT) (K : AVal → H → Prop) : Kont := kSeq (cwp S tab spec_l01Is_M [] (sub [1, 1, 1] (bodyOf Try.f56)) (kFun tab (Try.f56).results.toList K)) (kFun tab (Try.f56).results.toList K)
def spec_l01Is_e0 (p1_ : Pt) (i3_ : Int) : Frame := [U, .ptr p1_, U, .int .i64 i3_, U, U, U, U, U, U, U, U, U, U, U, U, U, U, U, U, U, U, U, U, U, U, U, U, U, U, U, U, U, U, U, U, U, U, U, U, U, U, U, U, U, U, U, U, U]
def spec_l01Is_w0 (S : SatT) (K : AVal → H → Prop) : (Frame → H → Prop) → Frame → H → Prop := fun X fr h => cwp S tab spec_l01Is_M (spec_l01Is_M 0) (sub [1, 1, 0, 1, 0, 0] (bodyOf Try.f56)) (kSeq (fun fr h => X (mask (spec_l01Is_M 0) fr) h) (kBlk 0 (spec_l01Is_ks5 S K))) fr h
def spec_l01Is_L0 (S : SatT) (K : AVal → H → Prop) (p1_ : Pt) (i3_ : Int) (h : H) : Prop := loopK (spec_l01Is_w0 S K) (spec_l01Is_e0 p1_ i3_) h
def spec_l01Is_C0 (S : SatT) (K : AVal → H → Prop) (h : H) : Prop :=
 K (.bool true) h
def spec_l01Is_b0 (S : SatT) (K : AVal → H → Prop) (X0 : Frame → H → Prop) (p1_ : Pt) (i3_ : Int) (h : H) : Prop :=
 isPt p1_ (
 ldS (Pt.add p1_ 1) h fun s0 =>
 bif (decide (i3_ < (s0.len : Int))) then
 isPt p1_ (
 ldI .i64 (Pt.add p1_ 0) h fun n1 =>
 isPt p1_ (
 ldS (Pt.add p1_ 1) h fun s2 =>
 ixS s2 4 i3_ fun p3 =>
 ldA p3 4 h fun cs4 =>
 callB S i_spec_l01Tile [.int .i64 n1, .agg cs4] h fun b6 h5 =>
 bif (!b6) then
 K (.bool false) h5
 else
 bif (decide (i3_ > (0))) then
 isPt p1_ (
 ldS (Pt.add p1_ 1) h5 fun s7 =>
 ixS s7 4 (w64 (i3_ - (1))) fun p8 =>
 ldA p8 4 h5 fun cs9 =>
 isPt p1_ (
 ldS (Pt.add p1_ 1) h5 fun s10 =>
 ixS s10 4 i3_ fun p11 =>
 ldA p11 4 h5 fun cs12 =>
 callB S i_spec_l01Before [.agg cs9, .agg cs12] h5 fun b14 h13 =>
 bif (!b14) then
 K (.bool false) h13
 else
 X0 (spec_l01Is_e0 p1_ (w64 (i3_ + (1)))) h13))
 else
 X0 (spec_l01Is_e0 p1_ (w64 (i3_ + (1)))) h5))
 else
 spec_l01Is_C0 S K h)
theorem spec_l01Is_link0 (S : SatT) (K : AVal → H → Prop) (X0 : Frame → H → Prop) (p1_ : Pt) (i3_ : Int) (h : H) : spec_l01Is_w0 S K X0 (spec_l01Is_e0 p1_ i3_) h = spec_l01Is_b0 S K X0 p1_ i3_ h := by kernel_rfl
theorem spec_l01Is_rule0 (S : SatT) (K : AVal → H → Prop) (p1_ : Pt) (I_ : Int → H → Prop) (m_ : Int → H → Nat)
    (hs : ∀ (X0 : Frame → H → Prop) (i3_ : Int) (h : H), I_ i3_ h → (∀ (i3_' : Int) (h' : H), I_ i3_' h' → m_ i3_' h' < m_ i3_ h → X0 (spec_l01Is_e0 p1_ i3_') h') → spec_l01Is_b0 S K X0 p1_ i3_ h) (i3_ : Int) {h : H} (h0 : I_ i3_ h) : spec_l01Is_L0 S K p1_ i3_ h :=
  loop_rule (σ := (Int)) (fun s_ => spec_l01Is_e0 p1_ (s_)) (fun s_ h => I_ (s_) h) (fun s_ h => m_ (s_) h)
    (fun X s_ h hi hx => (spec_l01Is_link0 S K X p1_ (s_) h).mpr (hs X (s_) h hi fun i3_' h' hi' hm' => hx (i3_') h' hi' hm')) (i3_) h0
theorem spec_l01Is_unroll0 (S : SatT) (K : AVal → H → Prop) (p1_ : Pt) (i3_ : Int) (h : H) (hb : spec_l01Is_b0 S K (fun fr h => loopK (spec_l01Is_w0 S K) fr h) p1_ i3_ h) : spec_l01Is_L0 S K p1_ i3_ h := loop_unroll ((spec_l01Is_link0 S K _ p1_ i3_ h).mpr hb)
def spec_l01Is_main (S : SatT) (K : AVal → H → Prop) (x0 : List AVal) (h : H) : Prop :=
 newK 2 x0 h fun p0 h1 =>
 isPt p0 (
 ldI .i64 (Pt.add p0 0) h1 fun n2 =>
 callB S i_spec_l01In [.int .i64 n2, .int .i64 (1), .int .i64 (6)] h1 fun b4 h3 =>
 bif (!b4) then
 K (.bool false) h3
 else
 isPt p0 (
 ldS (Pt.add p0 1) h3 fun s5 =>
 bif (decide ((s5.len : Int) > (16))) then
 K (.bool false) h3
 else
 spec_l01Is_L0 S K p0 (0) h3))
theorem spec_l01Is_main_link (S : SatT) (K : AVal → H → Prop) (x0 : List AVal) (h : H) : cwp S tab spec_l01Is_M [] (bodyOf Try.f56) (kFun tab Try.f56.results.toList K) (fr0 Try.f56 [.agg x0]) h = spec_l01Is_main S K x0 h := by kernel_rfl
theorem spec_l01Is_call (x0 : List AVal) (h : H) (K : Bool → H → Prop) (hm : spec_l01Is_main (Sat Try.prog) (fun v h' => ∃ r, v = .bool r ∧ K r h') x0 h) : callB (Sat Try.prog) i_spec_l01Is [.agg x0] h K := by
  have := Sat.ex tok mixed spec_l01Is_M Try.func56 (c := bodyOf Try.f56) (by kernel_rfl) (calls_of Try.func56 (c := bodyOf Try.f56) (by kernel_rfl) (by decide)) ((spec_l01Is_main_link _ _ x0 h).mpr hm)
  obtain ⟨v, h2, h3, r, rfl, h4⟩ := this; exact ⟨r, h2, h3, h4⟩

/-! ### loop.example/g01354/laws.heldInt64SS -/
def laws_heldInt64SS_M : Nat → List Nat := fun i => bif i == 0 then [0, 1, 5] else []
def laws_heldInt64SS_ks1 (S : SatT) (K : AVal → H → Prop) : Kont := kSeq (cwp S tab laws_heldInt64SS_M [] (sub [1, 1] (bodyOf Try.f31)) (kFun tab (Try.f31).results.toList K)) (kFun tab (Try.f31).results.toList K)
def laws_heldInt64SS_e0 (s0_ : Sl) (i1_ : Int) (i5_ : Int) : Frame := [.sl s0_, .int .i64 i1_, U, U, U, .int .i64 i5_, U, U, U, U, U, U, U, U, U, U, U, U, U, U, U]
def laws_heldInt64SS_w0 (S : SatT) (K : AVal → H → Prop) : (Frame → H → Prop) → Frame → H → Prop := fun X fr h => cwp S tab laws_heldInt64SS_M (laws_heldInt64SS_M 0) (sub [1, 0, 1, 0, 0] (bodyOf Try.f31)) (kSeq (fun fr h => X (mask (laws_heldInt64SS_M 0) fr) h) (kBlk 0 (laws_heldInt64SS_ks1 S K))) fr h
def laws_heldInt64SS_L0 (S : SatT) (K : AVal → H → Prop) (s0_ : Sl) (i1_ : Int) (i5_ : Int) (h : H) : Prop := loopK (laws_heldInt64SS_w0 S K) (laws_heldInt64SS_e0 s0_ i1_ i5_) h
def laws_heldInt64SS_C0 (S : SatT) (K : AVal → H → Prop) (i1_ : Int) (h : H) : Prop :=
 K (.int .i64 i1_) h
def laws_heldInt64SS_b0 (S : SatT) (K : AVal → H → Prop) (X0 : Frame → H → Prop) (s0_ : Sl) (i1_ : Int) (i5_ : Int) (h : H) : Prop :=
 bif (decide (i5_ < (s0_.len : Int))) then
 ixS s0_ 1 i5_ fun p0 =>
 ldS p0 h fun s1 =>
 callI S .i64 i_laws_heldInt64S [.sl s1, .int .i64 i1_] h fun n3 h2 =>
 bif (decide (n3 < (0))) then
 K (.int .i64 (-1)) h2
 else
 X0 (laws_heldInt64SS_e0 s0_ n3 (w64 (i5_ + (1)))) h2
 else
 laws_heldInt64SS_C0 S K i1_ h
theorem laws_heldInt64SS_link0 (S : SatT) (K : AVal → H → Prop) (X0 : Frame → H → Prop) (s0_ : Sl) (i1_ : Int) (i5_ : Int) (h : H) : laws_heldInt64SS_w0 S K X0 (laws_heldInt64SS_e0 s0_ i1_ i5_) h = laws_heldInt64SS_b0 S K X0 s0_ i1_ i5_ h := by kernel_rfl
theorem laws_heldInt64SS_rule0 (S : SatT) (K : AVal → H → Prop) (s0_ : Sl) (I_ : Int → Int → H → Prop) (m_ : Int → Int → H → Nat)
    (hs : ∀ (X0 : Frame → H → Prop) (i1_ : Int) (i5_ : Int) (h : H), I_ i1_ i5_ h → (∀ (i1_' : Int) (i5_' : Int) (h' : H), I_ i1_' i5_' h' → m_ i1_' i5_' h' < m_ i1_ i5_ h → X0 (laws_heldInt64SS_e0 s0_ i1_' i5_') h') → laws_heldInt64SS_b0 S K X0 s0_ i1_ i5_ h) (i1_ : Int) (i5_ : Int) {h : H} (h0 : I_ i1_ i5_ h) : laws_heldInt64SS_L0 S K s0_ i1_ i5_ h :=
  loop_rule (σ := (Int) × (Int)) (fun s_ => laws_heldInt64SS_e0 s0_ (s_.1) (s_.2)) (fun s_ h => I_ (s_.1) (s_.2) h) (fun s_ h => m_ (s_.1) (s_.2) h)
    (fun X s_ h hi hx => (laws_heldInt64SS_link0 S K X s0_ (s_.1) (s_.2) h).mpr (hs X (s_.1) (s_.2) h hi fun i1_' i5_' h' hi' hm' => hx (i1_', i5_') h' hi' hm')) (i1_, i5_) h0
theorem laws_heldInt64SS_unroll0 (S : SatT) (K : AVal → H → Prop) (s0_ : Sl) (i1_ : Int) (i5_ : Int) (h : H) (hb : laws_heldInt64SS_b0 S K (fun fr h => loopK (laws_heldInt64SS_w0 S K) fr h) s0_ i1_ i5_ h) : laws_heldInt64SS_L0 S K s0_ i1_ i5_ h := loop_unroll ((laws_heldInt64SS_link0 S K _ s0_ i1_ i5_ h).mpr hb)
def laws_heldInt64SS_main (S : SatT) (K : AVal → H → Prop) (x0 : Sl) (x1 : Int) (h : H) : Prop :=
 laws_heldInt64SS_L0 S K x0 x1 (0) h
theorem laws_heldInt64SS_main_link (S : SatT) (K : AVal → H → Prop) (x0 : Sl) (x1 : Int) (h : H) : cwp S tab laws_heldInt64SS_M [] (bodyOf Try.f31) (kFun tab Try.f31.results.toList K) (fr0 Try.f31 [.sl x0, .int .i64 x1]) h = laws_heldInt64SS_main S K x0 x1 h := by kernel_rfl
theorem laws_heldInt64SS_call (x0 : Sl) (x1 : Int) (h : H) (K : Int → H → Prop) (hm : laws_heldInt64SS_main (Sat Try.prog) (fun v h' => ∃ r, v = .int .i64 r ∧ K r h') x0 x1 h) : callI (Sat Try.prog) .i64 i_laws_heldInt64SS [.sl x0, .int .i64 x1] h K := by
  have := Sat.ex tok mixed laws_heldInt64SS_M Try.func31 (c := bodyOf Try.f31) (by kernel_rfl) (calls_of Try.func31 (c := bodyOf Try.f31) (by kernel_rfl) (by decide)) ((laws_heldInt64SS_main_link _ _ x0 x1 h).mpr hm)
  obtain ⟨v, h2, h3, r, rfl, h4⟩ := this; exact ⟨r, h2, h3, h4⟩

/-! ### loop.example/g01354/laws.heldInt64S -/
def laws_heldInt64S_M : Nat → List Nat := fun i => bif i == 0 then [0, 1, 5] else []
def laws_heldInt64S_ks1 (S : SatT) (K : AVal → H → Prop) : Kont := kSeq (cwp S tab laws_heldInt64S_M [] (sub [1, 1] (bodyOf Try.f24)) (kFun tab (Try.f24).results.toList K)) (kFun tab (Try.f24).results.toList K)
def laws_heldInt64S_e0 (s0_ : Sl) (i1_ : Int) (i5_ : Int) : Frame := [.sl s0_, .int .i64 i1_, U, U, U, .int .i64 i5_, U, U, U, U, U, U, U, U, U, U, U, U, U, U, U]
def laws_heldInt64S_w0 (S : SatT) (K : AVal → H → Prop) : (Frame → H → Prop) → Frame → H → Prop := fun X fr h => cwp S tab laws_heldInt64S_M (laws_heldInt64S_M 0) (sub [1, 0, 1, 0, 0] (bodyOf Try.f24)) (kSeq (fun fr h => X (mask (laws_heldInt64S_M 0) fr) h) (kBlk 0 (laws_heldInt64S_ks1 S K))) fr h
def laws_heldInt64S_L0 (S : SatT) (K : AVal → H → Prop) (s0_ : Sl) (i1_ : Int) (i5_ : Int) (h : H) : Prop := loopK (laws_heldInt64S_w0 S K) (laws_heldInt64S_e0 s0_ i1_ i5_) h
def laws_heldInt64S_C0 (S : SatT) (K : AVal → H → Prop) (i1_ : Int) (h : H) : Prop :=
 K (.int .i64 i1_) h
def laws_heldInt64S_b0 (S : SatT) (K : AVal → H → Prop) (X0 : Frame → H → Prop) (s0_ : Sl) (i1_ : Int) (i5_ : Int) (h : H) : Prop :=
 bif (decide (i5_ < (s0_.len : Int))) then
 ixS s0_ 1 i5_ fun p0 =>
 ldI .i64 p0 h fun n1 =>
 bif (n1 != i1_) then
 K (.int .i64 (-1)) h
 else
 X0 (laws_heldInt64S_e0 s0_ (w64 (i1_ + (1))) (w64 (i5_ + (1)))) h
 else
 laws_heldInt64S_C0 S K i1_ h
theorem laws_heldInt64S_link0 (S : SatT) (K : AVal → H → Prop) (X0 : Frame → H → Prop) (s0_ : Sl) (i1_ : Int) (i5_ : Int) (h : H) : laws_heldInt64S_w0 S K X0 (laws_heldInt64S_e0 s0_ i1_ i5_) h = laws_heldInt64S_b0 S K X0 s0_ i1_ i5_ h := by kernel_rfl
theorem laws_heldInt64S_rule0 (S : SatT) (K : AVal → H → Prop) (s0_ : Sl) (I_ : Int → Int → H → Prop) (m_ : Int → Int → H → Nat)
    (hs : ∀ (X0 : Frame → H → Prop) (i1_ : Int) (i5_ : Int) (h : H), I_ i1_ i5_ h → (∀ (i1_' : Int) (i5_' : Int) (h' : H), I_ i1_' i5_' h' → m_ i1_' i5_' h' < m_ i1_ i5_ h → X0 (laws_heldInt64S_e0 s0_ i1_' i5_') h') → laws_heldInt64S_b0 S K X0 s0_ i1_ i5_ h) (i1_ : Int) (i5_ : Int) {h : H} (h0 : I_ i1_ i5_ h) : laws_heldInt64S_L0 S K s0_ i1_ i5_ h :=
  loop_rule (σ := (Int) × (Int)) (fun s_ => laws_heldInt64S_e0 s0_ (s_.1) (s_.2)) (fun s_ h => I_ (s_.1) (s_.2) h) (fun s_ h => m_ (s_.1) (s_.2) h)
    (fun X s_ h hi hx => (laws_heldInt64S_link0 S K X s0_ (s_.1) (s_.2) h).mpr (hs X (s_.1) (s_.2) h hi fun i1_' i5_' h' hi' hm' => hx (i1_', i5_') h' hi' hm')) (i1_, i5_) h0
theorem laws_heldInt64S_unroll0 (S : SatT) (K : AVal → H → Prop) (s0_ : Sl) (i1_ : Int) (i5_ : Int) (h : H) (hb : laws_heldInt64S_b0 S K (fun fr h => loopK (laws_heldInt64S_w0 S K) fr h) s0_ i1_ i5_ h) : laws_heldInt64S_L0 S K s0_ i1_ i5_ h := loop_unroll ((laws_heldInt64S_link0 S K _ s0_ i1_ i5_ h).mpr hb)
def laws_heldInt64S_main (S : SatT) (K : AVal → H → Prop) (x0 : Sl) (x1 : Int) (h : H) : Prop :=
 laws_heldInt64S_L0 S K x0 x1 (0) h
theorem laws_heldInt64S_main_link (S : SatT) (K : AVal → H → Prop) (x0 : Sl) (x1 : Int) (h : H) : cwp S tab laws_heldInt64S_M [] (bodyOf Try.f24) (kFun tab Try.f24.results.toList K) (fr0 Try.f24 [.sl x0, .int .i64 x1]) h = laws_heldInt64S_main S K x0 x1 h := by kernel_rfl
theorem laws_heldInt64S_call (x0 : Sl) (x1 : Int) (h : H) (K : Int → H → Prop) (hm : laws_heldInt64S_main (Sat Try.prog) (fun v h' => ∃ r, v = .int .i64 r ∧ K r h') x0 x1 h) : callI (Sat Try.prog) .i64 i_laws_heldInt64S [.sl x0, .int .i64 x1] h K := by
  have := Sat.ex tok mixed laws_heldInt64S_M Try.func24 (c := bodyOf Try.f24) (by kernel_rfl) (calls_of Try.func24 (c := bodyOf Try.f24) (by kernel_rfl) (by decide)) ((laws_heldInt64S_main_link _ _ x0 x1 h).mpr hm)
  obtain ⟨v, h2, h3, r, rfl, h4⟩ := this; exact ⟨r, h2, h3, h4⟩

/-! ### loop.example/g01354/laws.eqTileS -/
def laws_eqTileS_M : Nat → List Nat := fun i => bif i == 0 then [0, 1, 5] else []
def laws_eqTileS_ks4 (S : SatT) (K : AVal → H → Prop) : Kont := kSeq (cwp S tab laws_eqTileS_M [] (sub [1, 1, 1] (bodyOf Try.f55)) (kFun tab (Try.f55).results.toList K)) (kFun tab (Try.f55).results.toList K)
def laws_eqTileS_e0 (s0_ : Sl) (s1_ : Sl) (i5_ : Int) : Frame := [.sl s0_, .sl s1_, U, U, U, .int .i64 i5_, U, U, U, U, U, U, U, U, U, U, U, U, U, U, U, U, U, U, U, U, U]
def laws_eqTileS_w0 (S : SatT) (K : AVal → H → Prop) : (Frame → H → Prop) → Frame → H → Prop := fun X fr h => cwp S tab laws_eqTileS_M (laws_eqTileS_M 0) (sub [1, 1, 0, 1, 0, 0] (bodyOf Try.f55)) (kSeq (fun fr h => X (mask (laws_eqTileS_M 0) fr) h) (kBlk 0 (laws_eqTileS_ks4 S K))) fr h
def laws_eqTileS_L0 (S : SatT) (K : AVal → H → Prop) (s0_ : Sl) (s1_ : Sl) (i5_ : Int) (h : H) : Prop := loopK (laws_eqTileS_w0 S K) (laws_eqTileS_e0 s0_ s1_ i5_) h
def laws_eqTileS_C0 (S : SatT) (K : AVal → H → Prop) (h : H) : Prop :=
 K (.bool true) h
def laws_eqTileS_b0 (S : SatT) (K : AVal → H → Prop) (X0 : Frame → H → Prop) (s0_ : Sl) (s1_ : Sl) (i5_ : Int) (h : H) : Prop :=
 bif (decide (i5_ < (s0_.len : Int))) then
 ixS s0_ 4 i5_ fun p0 =>
 ldA p0 4 h fun cs1 =>
 ixS s1_ 4 i5_ fun p2 =>
 ldA p2 4 h fun cs3 =>
 callB S i_laws_eqTile [.agg cs1, .agg cs3] h fun b5 h4 =>
 bif (!b5) then
 K (.bool false) h4
 else
 X0 (laws_eqTileS_e0 s0_ s1_ (w64 (i5_ + (1)))) h4
 else
 laws_eqTileS_C0 S K h
theorem laws_eqTileS_link0 (S : SatT) (K : AVal → H → Prop) (X0 : Frame → H → Prop) (s0_ : Sl) (s1_ : Sl) (i5_ : Int) (h : H) : laws_eqTileS_w0 S K X0 (laws_eqTileS_e0 s0_ s1_ i5_) h = laws_eqTileS_b0 S K X0 s0_ s1_ i5_ h := by kernel_rfl
theorem laws_eqTileS_rule0 (S : SatT) (K : AVal → H → Prop) (s0_ : Sl) (s1_ : Sl) (I_ : Int → H → Prop) (m_ : Int → H → Nat)
    (hs : ∀ (X0 : Frame → H → Prop) (i5_ : Int) (h : H), I_ i5_ h → (∀ (i5_' : Int) (h' : H), I_ i5_' h' → m_ i5_' h' < m_ i5_ h → X0 (laws_eqTileS_e0 s0_ s1_ i5_') h') → laws_eqTileS_b0 S K X0 s0_ s1_ i5_ h) (i5_ : Int) {h : H} (h0 : I_ i5_ h) : laws_eqTileS_L0 S K s0_ s1_ i5_ h :=
  loop_rule (σ := (Int)) (fun s_ => laws_eqTileS_e0 s0_ s1_ (s_)) (fun s_ h => I_ (s_) h) (fun s_ h => m_ (s_) h)
    (fun X s_ h hi hx => (laws_eqTileS_link0 S K X s0_ s1_ (s_) h).mpr (hs X (s_) h hi fun i5_' h' hi' hm' => hx (i5_') h' hi' hm')) (i5_) h0
theorem laws_eqTileS_unroll0 (S : SatT) (K : AVal → H → Prop) (s0_ : Sl) (s1_ : Sl) (i5_ : Int) (h : H) (hb : laws_eqTileS_b0 S K (fun fr h => loopK (laws_eqTileS_w0 S K) fr h) s0_ s1_ i5_ h) : laws_eqTileS_L0 S K s0_ s1_ i5_ h := loop_unroll ((laws_eqTileS_link0 S K _ s0_ s1_ i5_ h).mpr hb)
def laws_eqTileS_main (S : SatT) (K : AVal → H → Prop) (x0 : Sl) (x1 : Sl) (h : H) : Prop :=
 bif ((x0.len : Int) != (x1.len : Int)) then
 K (.bool false) h
 else
 laws_eqTileS_L0 S K x0 x1 (0) h
theorem laws_eqTileS_main_link (S : SatT) (K : AVal → H → Prop) (x0 : Sl) (x1 : Sl) (h : H) : cwp S tab laws_eqTileS_M [] (bodyOf Try.f55) (kFun tab Try.f55.results.toList K) (fr0 Try.f55 [.sl x0, .sl x1]) h = laws_eqTileS_main S K x0 x1 h := by kernel_rfl
theorem laws_eqTileS_call (x0 : Sl) (x1 : Sl) (h : H) (K : Bool → H → Prop) (hm : laws_eqTileS_main (Sat Try.prog) (fun v h' => ∃ r, v = .bool r ∧ K r h') x0 x1 h) : callB (Sat Try.prog) i_laws_eqTileS [.sl x0, .sl x1] h K := by
  have := Sat.ex tok mixed laws_eqTileS_M Try.func55 (c := bodyOf Try.f55) (by kernel_rfl) (calls_of Try.func55 (c := bodyOf Try.f55) (by kernel_rfl) (by decide)) ((laws_eqTileS_main_link _ _ x0 x1 h).mpr hm)
  obtain ⟨v, h2, h3, r, rfl, h4⟩ := this; exact ⟨r, h2, h3, h4⟩

/-! ### loop.example/g01354/laws.eqTile -/
def laws_eqTile_M : Nat → List Nat := fun i => bif i == 0 then [2, 3, 5] else []
def laws_eqTile_ks1 (S : SatT) (K : AVal → H → Prop) : Kont := kSeq (cwp S tab laws_eqTile_M [] (sub [1, 1] (bodyOf Try.f93)) (kFun tab (Try.f93).results.toList K)) (kFun tab (Try.f93).results.toList K)
def laws_eqTile_e0 (p2_ : Pt) (p3_ : Pt) (i5_ : Int) : Frame := [U, U, .ptr p2_, .ptr p3_, U, .int .i64 i5_, U, U, U, U, U, U, U, U, U, U, U]
def laws_eqTile_w0 (S : SatT) (K : AVal → H → Prop) : (Frame → H → Prop) → Frame → H → Prop := fun X fr h => cwp S tab laws_eqTile_M (laws_eqTile_M 0) (sub [1, 0, 1, 0, 0] (bodyOf Try.f93)) (kSeq (fun fr h => X (mask (laws_eqTile_M 0) fr) h) (kBlk 0 (laws_eqTile_ks1 S K))) fr h
def laws_eqTile_L0 (S : SatT) (K : AVal → H → Prop) (p2_ : Pt) (p3_ : Pt) (i5_ : Int) (h : H) : Prop := loopK (laws_eqTile_w0 S K) (laws_eqTile_e0 p2_ p3_ i5_) h
def laws_eqTile_C0 (S : SatT) (K : AVal → H → Prop) (h : H) : Prop :=
 K (.bool true) h
def laws_eqTile_b0 (S : SatT) (K : AVal → H → Prop) (X0 : Frame → H → Prop) (p2_ : Pt) (p3_ : Pt) (i5_ : Int) (h : H) : Prop :=
 bif (decide (i5_ < (4))) then
 ixA p2_ 4 1 i5_ fun p0 =>
 ldI .i64 p0 h fun n1 =>
 ixA p3_ 4 1 i5_ fun p2 =>
 ldI .i64 p2 h fun n3 =>
 bif (n1 != n3) then
 K (.bool false) h
 else
 X0 (laws_eqTile_e0 p2_ p3_ (w64 (i5_ + (1)))) h
 else
 laws_eqTile_C0 S K h
theorem laws_eqTile_link0 (S : SatT) (K : AVal → H → Prop) (X0 : Frame → H → Prop) (p2_ : Pt) (p3_ : Pt) (i5_ : Int) (h : H) : laws_eqTile_w0 S K X0 (laws_eqTile_e0 p2_ p3_ i5_) h = laws_eqTile_b0 S K X0 p2_ p3_ i5_ h := by kernel_rfl
theorem laws_eqTile_rule0 (S : SatT) (K : AVal → H → Prop) (p2_ : Pt) (p3_ : Pt) (I_ : Int → H → Prop) (m_ : Int → H → Nat)
    (hs : ∀ (X0 : Frame → H → Prop) (i5_ : Int) (h : H), I_ i5_ h → (∀ (i5_' : Int) (h' : H), I_ i5_' h' → m_ i5_' h' < m_ i5_ h → X0 (laws_eqTile_e0 p2_ p3_ i5_') h') → laws_eqTile_b0 S K X0 p2_ p3_ i5_ h) (i5_ : Int) {h : H} (h0 : I_ i5_ h) : laws_eqTile_L0 S K p2_ p3_ i5_ h :=
  loop_rule (σ := (Int)) (fun s_ => laws_eqTile_e0 p2_ p3_ (s_)) (fun s_ h => I_ (s_) h) (fun s_ h => m_ (s_) h)
    (fun X s_ h hi hx => (laws_eqTile_link0 S K X p2_ p3_ (s_) h).mpr (hs X (s_) h hi fun i5_' h' hi' hm' => hx (i5_') h' hi' hm')) (i5_) h0
theorem laws_eqTile_unroll0 (S : SatT) (K : AVal → H → Prop) (p2_ : Pt) (p3_ : Pt) (i5_ : Int) (h : H) (hb : laws_eqTile_b0 S K (fun fr h => loopK (laws_eqTile_w0 S K) fr h) p2_ p3_ i5_ h) : laws_eqTile_L0 S K p2_ p3_ i5_ h := loop_unroll ((laws_eqTile_link0 S K _ p2_ p3_ i5_ h).mpr hb)
def laws_eqTile_main (S : SatT) (K : AVal → H → Prop) (x0 : List AVal) (x1 : List AVal) (h : H) : Prop :=
 newK 4 x0 h fun p0 h1 =>
 newK 4 x1 h1 fun p2 h3 =>
 laws_eqTile_L0 S K p0 p2 (0) h3
theorem laws_eqTile_main_link (S : SatT) (K : AVal → H → Prop) (x0 : List AVal) (x1 : List AVal) (h : H) : cwp S tab laws_eqTile_M [] (bodyOf Try.f93) (kFun tab Try.f93.results.toList K) (fr0 Try.f93 [.agg x0, .agg x1]) h = laws_eqTile_main S K x0 x1 h := by kernel_rfl
theorem laws_eqTile_call (x0 : List AVal) (x1 : List AVal) (h : H) (K : Bool → H → Prop) (hm : laws_eqTile_main (Sat Try.prog) (fun v h' => ∃ r, v = .bool r ∧ K r h') x0 x1 h) : callB (Sat Try.prog) i_laws_eqTile [.agg x0, .agg x1] h K := by
  have := Sat.ex tok mixed laws_eqTile_M Try.func93 (c := bodyOf Try.f93) (by kernel_rfl) (calls_of Try.func93 (c := bodyOf Try.f93) (by kernel_rfl) (by decide)) ((laws_eqTile_main_link _ _ x0 x1 h).mpr hm)
  obtain ⟨v, h2, h3, r, rfl, h4⟩ := this; exact ⟨r, h2, h3, h4⟩

/-! ### loop.example/g01354/laws.toSet -/
def laws_toSet_M : Nat → List Nat := fun i => []
def laws_toSet_main (S : SatT) (K : AVal → H → Prop) (x0 : List AVal) (h : H) : Prop :=
 newK 2 x0 h fun p0 h1 =>
 newO [.int .i64 (0), .sl Sl.nil] h1 fun p2 h3 =>
 newO [.int .i64 (0), .sl Sl.nil] h3 fun p4 h5 =>
 isPt p0 (
 ldI .i64 (Pt.add p0 0) h5 fun n6 =>
 isPt p4 (
 st1 (Pt.add p4 0) (.int .i64 n6) h5 fun h7 =>
 isPt p0 (
 ldS (Pt.add p0 1) h7 fun s8 =>
 callS S i_laws_toTileS [.sl s8] h7 fun s10 h9 =>
 isPt p4 (
 st1 (Pt.add p4 1) (.sl s10) h9 fun h11 =>
 ldA p4 2 h11 fun cs12 =>
 stN p2 2 cs12 h11 fun h13 =>
 ldA p2 2 h13 fun cs14 =>
 K (.agg cs14) h13))))
theorem laws_toSet_main_link (S : SatT) (K : AVal → H → Prop) (x0 : List AVal) (h : H) : cwp S tab laws_toSet_M [] (bodyOf Try.f16) (kFun tab Try.f16.results.toList K) (fr0 Try.f16 [.agg x0]) h = laws_toSet_main S K x0 h := by kernel_rfl
theorem laws_toSet_call (x0 : List AVal) (h : H) (K : List AVal → H → Prop) (hm : laws_toSet_main (Sat Try.prog) (fun v h' => ∃ r, v = .agg r ∧ K r h') x0 h) : callA (Sat Try.prog) i_laws_toSet [.agg x0] h K := by
  have := Sat.ex tok mixed laws_toSet_M Try.func16 (c := bodyOf Try.f16) (by kernel_rfl) (calls_of Try.func16 (c := bodyOf Try.f16) (by kernel_rfl) (by decide)) ((laws_toSet_main_link _ _ x0 h).mpr hm)
  obtain ⟨v, h2, h3, r, rfl, h4⟩ := this; exact ⟨r, h2, h3, h4⟩

/-! ### loop.example/g01354/impl.CountColumns -/
def impl_CountColumns_M : Nat → List Nat := fun i => []
def impl_CountColumns_main (S : SatT) (K : AVal → H → Prop) (x0 : List AVal) (x1 : Int) (h : H) : Prop :=
 newK 2 x0 h fun p0 h1 =>
 ldA p0 2 h1 fun cs2 =>
 callV S i_impl_stripOf [.agg cs2, .int .i64 x1] h1 fun v4 h3 =>
 viaT v4 fun vs5 =>
 exP vs5 0 fun p6 =>
 viaT v4 fun vs7 =>
 exI .i64 vs7 1 fun n8 =>
 bif (n8 != (0)) then
 K (.tuple [.int .i64 (0), .int .i64 n8]) h3
 else
 nilC (.ptr p6) (
 isPt p6 (
 ldS (Pt.add p6 4) h3 fun s9 =>
 K (.tuple [.int .i64 (s9.len : Int), .int .i64 (0)]) h3))
theorem impl_CountColumns_main_link (S : SatT) (K : AVal → H → Prop) (x0 : List AVal) (x1 : Int) (h : H) : cwp S tab impl_CountColumns_M [] (bodyOf Try.f17) (kFun tab Try.f17.results.toList K) (fr0 Try.f17 [.agg x0, .int .i64 x1]) h = impl_CountColumns_main S K x0 x1 h := by kernel_rfl
theorem impl_CountColumns_call (x0 : List AVal) (x1 : Int) (h : H) (K : AVal → H → Prop) (hm : impl_CountColumns_main (Sat Try.prog) (fun v h' => K v h') x0 x1 h) : callV (Sat Try.prog) i_impl_CountColumns [.agg x0, .int .i64 x1] h K := by
  have := Sat.ex tok mixed impl_CountColumns_M Try.func17 (c := bodyOf Try.f17) (by kernel_rfl) (calls_of Try.func17 (c := bodyOf Try.f17) (by kernel_rfl) (by decide)) ((impl_CountColumns_main_link _ _ x0 x1 h).mpr hm)
  exact this

/-! ### loop.example/g01354/spec.CountColumns -/
def spec_CountColumns_M : Nat → List Nat := fun i => []
def spec_CountColumns_main (S : SatT) (K : AVal → H → Prop) (x0 : List AVal) (x1 : Int) (h : H) : Prop :=
 newK 2 x0 h fun p0 h1 =>
 ldA p0 2 h1 fun cs2 =>
 callV S i_spec_l06Code [.agg cs2, .int .i64 x1] h1 fun v4 h3 =>
 viaT v4 fun vs5 =>
 exS vs5 0 fun s6 =>
 viaT v4 fun vs7 =>
 exI .i64 vs7 1 fun n8 =>
 bif (n8 != (0)) then
 K (.tuple [.int .i64 (0), .int .i64 n8]) h3
 else
 K (.tuple [.int .i64 (s6.len : Int), .int .i64 (0)]) h3
theorem spec_CountColumns_main_link (S : SatT) (K : AVal → H → Prop) (x0 : List AVal) (x1 : Int) (h : H) : cwp S tab spec_CountColumns_M [] (bodyOf Try.f15) (kFun tab Try.f15.results.toList K) (fr0 Try.f15 [.agg x0, .int .i64 x1]) h = spec_CountColumns_main S K x0 x1 h := by kernel_rfl
theorem spec_CountColumns_call (x0 : List AVal) (x1 : Int) (h : H) (K : AVal → H → Prop) (hm : spec_CountColumns_main (Sat Try.prog) (fun v h' => K v h') x0 x1 h) : callV (Sat Try.prog) i_spec_CountColumns [.agg x0, .int .i64 x1] h K := by
  have := Sat.ex tok mixed spec_CountColumns_M Try.func15 (c := bodyOf Try.f15) (by kernel_rfl) (calls_of Try.func15 (c := bodyOf Try.f15) (by kernel_rfl) (by decide)) ((spec_CountColumns_main_link _ _ x0 x1 h).mpr hm)
  exact this

/-! ### loop.example/g01354/impl.setCode -/
def impl_setCode_M : Nat → List Nat := fun i => []
def impl_setCode_main (S : SatT) (K : AVal → H → Prop) (x0 : List AVal) (x1 : AVal) (h : H) : Prop :=
 newK 2 x0 h fun p0 h1 =>
 ldA p0 2 h1 fun cs2 =>
 callB S i_impl_IsSet [.agg cs2] h1 fun b4 h3 =>
 bif (!b4) then
 K (.int .i64 (1)) h3
 else
 viaF x1 [] fun g5 ys6 =>
 callB S g5 ys6 h3 fun b8 h7 =>
 bif (!b8) then
 K (.int .i64 (2)) h7
 else
 K (.int .i64 (0)) h7
theorem impl_setCode_main_link (S : SatT) (K : AVal → H → Prop) (x0 : List AVal) (x1 : AVal) (h : H) : cwp S tab impl_setCode_M [] (bodyOf Try.f66) (kFun tab Try.f66.results.toList K) (fr0 Try.f66 [.agg x0, x1]) h = impl_setCode_main S K x0 x1 h := by kernel_rfl
theorem impl_setCode_call (x0 : List AVal) (x1 : AVal) (h : H) (K : Int → H → Prop) (hm : impl_setCode_main (Sat Try.prog) (fun v h' => ∃ r, v = .int .i64 r ∧ K r h') x0 x1 h) : callI (Sat Try.prog) .i64 i_impl_setCode [.agg x0, x1] h K := by
  have := Sat.ex tok mixed impl_setCode_M Try.func66 (c := bodyOf Try.f66) (by kernel_rfl) (calls_of Try.func66 (c := bodyOf Try.f66) (by kernel_rfl) (by decide)) ((impl_setCode_main_link _ _ x0 x1 h).mpr hm)
  obtain ⟨v, h2, h3, r, rfl, h4⟩ := this; exact ⟨r, h2, h3, h4⟩

/-! ### loop.example/g01354/laws.szSet -/
def laws_szSet_M : Nat → List Nat := fun i => []
def laws_szSet_main (S : SatT) (K : AVal → H → Prop) (x0 : List AVal) (x1 : Int) (h : H) : Prop :=
 newK 2 x0 h fun p0 h1 =>
 isPt p0 (
 ldS (Pt.add p0 1) h1 fun s2 =>
 callI S .i64 i_laws_szTileS [.sl s2, .int .i64 x1] h1 fun n4 h3 =>
 bif (decide (n4 < (0))) then
 K (.int .i64 (-1)) h3
 else
 K (.int .i64 n4) h3)
theorem laws_szSet_main_link (S : SatT) (K : AVal → H → Prop) (x0 : List AVal) (x1 : Int) (h : H) : cwp S tab laws_szSet_M [] (bodyOf Try.f14) (kFun tab Try.f14.results.toList K) (fr0 Try.f14 [.agg x0, .int .i64 x1]) h = laws_szSet_main S K x0 x1 h := by kernel_rfl
theorem laws_szSet_call (x0 : List AVal) (x1 : Int) (h : H) (K : Int → H → Prop) (hm : laws_szSet_main (Sat Try.prog) (fun v h' => ∃ r, v = .int .i64 r ∧ K r h') x0 x1 h) : callI (Sat Try.prog) .i64 i_laws_szSet [.agg x0, .int .i64 x1] h K := by
  have := Sat.ex tok mixed laws_szSet_M Try.func14 (c := bodyOf Try.f14) (by kernel_rfl) (calls_of Try.func14 (c := bodyOf Try.f14) (by kernel_rfl) (by decide)) ((laws_szSet_main_link _ _ x0 x1 h).mpr hm)
  obtain ⟨v, h2, h3, r, rfl, h4⟩ := this; exact ⟨r, h2, h3, h4⟩

/-! ### loop.example/g01354/impl.stripOf$1 -/
def impl_stripOf_1_M : Nat → List Nat := fun i => []
def impl_stripOf_1_main (S : SatT) (K : AVal → H → Prop) (x0 : Pt) (h : H) : Prop :=
 ldI .i64 x0 h fun n0 =>
 callB S i_impl_within [.int .i64 n0, .int .i64 (1), .int .i64 (4)] h fun b2 h1 =>
 K (.bool b2) h1
theorem impl_stripOf_1_main_link (S : SatT) (K : AVal → H → Prop) (x0 : Pt) (h : H) : cwp S tab impl_stripOf_1_M [] (bodyOf Try.f91) (kFun tab Try.f91.results.toList K) (fr0 Try.f91 [.ptr x0]) h = impl_stripOf_1_main S K x0 h := by kernel_rfl
theorem impl_stripOf_1_call (x0 : Pt) (h : H) (K : Bool → H → Prop) (hm : impl_stripOf_1_main (Sat Try.prog) (fun v h' => ∃ r, v = .bool r ∧ K r h') x0 h) : callB (Sat Try.prog) i_impl_stripOf_1 [.ptr x0] h K := by
  have := Sat.ex tok mixed impl_stripOf_1_M Try.func91 (c := bodyOf Try.f91) (by kernel_rfl) (calls_of Try.func91 (c := bodyOf Try.f91) (by kernel_rfl) (by decide)) ((impl_stripOf_1_main_link _ _ x0 h).mpr hm)
  obtain ⟨v, h2, h3, r, rfl, h4⟩ := this; exact ⟨r, h2, h3, h4⟩

/-! ### loop.example/g01354/spec.l02Lasting -/
def spec_l02Lasting_M : Nat → List Nat := fun i => bif i == 6 then [1, 3, 5, 6, 7, 8, 9] else bif i == 4 then [1, 3, 5, 6] else bif i == 2 then [1, 3, 5] else bif i == 0 then [1, 3, 4] else []
def spec_l02Lasting_ks2 (S : SatT) (K : AVal → H → Prop) : Kont := kSeq (cwp S tab spec_l02Lasting_M [] (sub [1, 1, 1] (bodyOf Try.f57)) (kFun tab (Try.f57).results.toList K)) (kFun tab (Try.f57).results.toList K)
def spec_l02Lasting_e0 (p1_ : Pt) (s3_ : Sl) (i4_ : Int) : Frame := [U, .ptr p1_, U, .sl s3_, .int .i64 i4_, U, U, U, U, U, U, U, U, U, U, U, U, U, U, U, U, U, U, U, U, U, U, U, U, U, U, U, U, U, U, U, U, U, U, U, U, U, U, U, U, U, U, U, U, U, U, U, U, U, U, U, U, U, U, U, U, U, U, U, U, U, U, U, U, U, U, U, U, U, U, U, U, U, U, U, U, U, U, U, U, U, U, U, U, U, U, U, U, U, U]
def spec_l02Lasting_w0 (S : SatT) (K : AVal → H → Prop) : (Frame → H → Prop) → Frame → H → Prop := fun X fr h => cwp S tab spec_l02Lasting_M (spec_l02Lasting_M 0) (sub [1, 1, 0, 1, 0, 0] (bodyOf Try.f57)) (kSeq (fun fr h => X (mask (spec_l02Lasting_M 0) fr) h) (kBlk 0 (spec_l02Lasting_ks2 S K))) fr h
def spec_l02Lasting_L0 (S : SatT) (K : AVal → H → Prop) (p1_ : Pt) (s3_ : Sl) (i4_ : Int) (h : H) : Prop := loopK (spec_l02Lasting_w0 S K) (spec_l02Lasting_e0 p1_ s3_ i4_) h
def spec_l02Lasting_ks7 (S : SatT) (K : AVal → H → Prop) : Kont := kSeq (cwp S tab spec_l02Lasting_M [] (sub [1, 1, 1, 1] (bodyOf Try.f57)) (kFun tab (Try.f57).results.toList K)) (kFun tab (Try.f57).results.toList K)
def spec_l02Lasting_e2 (p1_ : Pt) (s3_ : Sl) (b5_ : Bool) : Frame := [U, .ptr p1_, U, .sl s3_, U, .bool b5_, U, U, U, U, U, U, U, U, U, U, U, U, U, U, U, U, U, U, U, U, U, U, U, U, U, U, U, U, U, U, U, U, U, U, U, U, U, U, U, U, U, U, U, U, U, U, U, U, U, U, U, U, U, U, U, U, U, U, U, U, U, U, U, U, U, U, U, U, U, U, U, U, U, U, U, U, U, U, U, U, U, U, U, U, U, U, U, U, U]
def spec_l02Lasting_w2 (S : SatT) (K : AVal → H → Prop) : (Frame → H → Prop) → Frame → H → Prop := fun X fr h => cwp S tab spec_l02Lasting_M (spec_l02Lasting_M 2) (sub [1, 1, 1, 0, 1, 0, 0] (bodyOf Try.f57)) (kSeq (fun fr h => X (mask (spec_l02Lasting_M 2) fr) h) (kBlk 2 (spec_l02Lasting_ks7 S K))) fr h
def spec_l02Lasting_L2 (S : SatT) (K : AVal → H → Prop) (p1_ : Pt) (s3_ : Sl) (b5_ : Bool) (h : H) : Prop := loopK (spec_l02Lasting_w2 S K) (spec_l02Lasting_e2 p1_ s3_ b5_) h
def spec_l02Lasting_e4 (p1_ : Pt) (s3_ : Sl) (b5_ : Bool) (i6_ : Int) : Frame := [U, .ptr p1_, U, .sl s3_, U, .bool b5_, .int .i64 i6_, U, U, U, U, U, U, U, U, U, U, U, U, U, U, U, U, U, U, U, U, U, U, U, U, U, U, U, U, U, U, U, U, U, U, U, U, U, U, U, U, U, U, U, U, U, U, U, U, U, U, U, U, U, U, U, U, U, U, U, U, U, U, U, U, U, U, U, U, U, U, U, U, U, U, U, U, U, U, U, U, U, U, U, U, U, U, U, U]
def spec_l02Lasting_w4 (S : SatT) (K : AVal → H → Prop) (X2 : Frame → H → Prop) : (Frame → H → Prop) → Frame → H → Prop := fun X fr h => cwp S tab spec_l02Lasting_M (spec_l02Lasting_M 4) (sub [1, 1, 1, 0, 1, 0, 0, 1, 0, 1, 1, 0, 0] (bodyOf Try.f57)) (kSeq (fun fr h => X (mask (spec_l02Lasting_M 4) fr) h) (kBlk 4 (kBlk 3 (kSeq (fun fr h => X2 (mask (spec_l02Lasting_M 2) fr) h) (kBlk 2 (spec_l02Lasting_ks7 S K)))))) fr h
def spec_l02Lasting_L4 (S : SatT) (K : AVal → H → Prop) (X2 : Frame → H → Prop) (p1_ : Pt) (s3_ : Sl) (b5_ : Bool) (i6_ : Int) (h : H) : Prop := loopK (spec_l02Lasting_w4 S K X2) (spec_l02Lasting_e4 p1_ s3_ b5_ i6_) h
def spec_l02Lasting_ks15 (S : SatT) (K : AVal → H → Prop) (X2 : Frame → H → Prop) (X4 : Frame → H → Prop) : Kont := kSeq (cwp S tab spec_l02Lasting_M (spec_l02Lasting_M 4) (sub [1, 1, 1, 0, 1, 0, 0, 1, 0, 1, 1, 0, 0, 1, 1] (bodyOf Try.f57)) (kSeq (fun fr h => X4 (mask (spec_l02Lasting_M 4) fr) h) (kBlk 4 (kBlk 3 (kSeq (fun fr h => X2 (mask (spec_l02Lasting_M 2) fr) h) (kBlk 2 (spec_l02Lasting_ks7 S K))))))) (kSeq (fun fr h => X4 (mask (spec_l02Lasting_M 4) fr) h) (kBlk 4 (kBlk 3 (kSeq (fun fr h => X2 (mask (spec_l02Lasting_M 2) fr) h) (kBlk 2 (spec_l02Lasting_ks7 S K))))))
def spec_l02Lasting_ks17 (S : SatT) (K : AVal → H → Prop) (X2 : Frame → H → Prop) (X4 : Frame → H → Prop) : Kont := kSeq (cwp S tab spec_l02Lasting_M (spec_l02Lasting_M 5) (sub [1, 1, 1, 0, 1, 0, 0, 1, 0, 1, 1, 0, 0, 1, 0, 0, 1, 1] (bodyOf Try.f57)) (kBlk 5 (spec_l02Lasting_ks15 S K X2 X4))) (kBlk 5 (spec_l02Lasting_ks15 S K X2 X4))
def spec_l02Lasting_e6 (p1_ : Pt) (s3_ : Sl) (b5_ : Bool) (i6_ : Int) (b7_ : Bool) (b8_ : Bool) (i9_ : Int) : Frame := [U, .ptr p1_, U, .sl s3_, U, .bool b5_, .int .i64 i6_, .bool b7_, .bool b8_, .int .i64 i9_, U, U, U, U, U, U, U, U, U, U, U, U, U, U, U, U, U, U, U, U, U, U, U, U, U, U, U, U, U, U, U, U, U, U, U, U, U, U, U, U, U, U, U, U, U, U, U, U, U, U, U, U, U, U, U, U, U, U, U, U, U, U, U, U, U, U, U, U, U, U, U, U, U, U, U, U, U, U, U, U, U, U, U, U, U]
def spec_l02Lasting_w6 (S : SatT) (K : AVal → H → Prop) (X2 : Frame → H → Prop) (X4 : Frame → H → Prop) : (Frame → H → Prop) → Frame → H → Prop := fun X fr h => cwp S tab spec_l02Lasting_M (spec_l02Lasting_M 6) (sub [1, 1, 1, 0, 1, 0, 0, 1, 0, 1, 1, 0, 0, 1, 0, 0, 1, 0, 1, 0, 0] (bodyOf Try.f57)) (kSeq (fun fr h => X (mask (spec_l02Lasting_M 6) fr) h) (kBlk 6 (spec_l02Lasting_ks17 S K X2 X4))) fr h
def spec_l02Lasting_L6 (S : SatT) (K : AVal → H → Prop) (X2 : Frame → H → Prop) (X4 : Frame → H → Prop) (p1_ : Pt) (s3_ : Sl) (b5_ : Bool) (i6_ : Int) (b7_ : Bool) (b8_ : Bool) (i9_ : Int) (h : H) : Prop := loopK (spec_l02Lasting_w6 S K X2 X4) (spec_l02Lasting_e6 p1_ s3_ b5_ i6_ b7_ b8_ i9_) h
def spec_l02Lasting_C5 (S : SatT) (K : AVal → H → Prop) (X2 : Frame → H → Prop) (X4 : Frame → H → Prop) (p1_ : Pt) (s3_ : Sl) (b5_ : Bool) (i6_ : Int) (h : H) : Prop :=
 X4 (spec_l02Lasting_e4 p1_ s3_ b5_ (w64 (i6_ + (1)))) h
def spec_l02Lasting_C6 (S : SatT) (K : AVal → H → Prop) (X2 : Frame → H → Prop) (X4 : Frame → H → Prop) (p1_ : Pt) (s3_ : Sl) (b5_ : Bool) (i6_ : Int) (b7_ : Bool) (b8_ : Bool) (h : H) : Prop :=
 ixS s3_ 1 i6_ fun p0 =>
 ldB p0 h fun b1 =>
 bif b1 then
 bif b7_ then
 bif (!b8_) then
 ixS s3_ 1 i6_ fun p2 =>
 st1 p2 (.bool false) h fun h3 =>
 spec_l02Lasting_C5 S K X2 X4 p1_ s3_ true i6_ h3
 else
 spec_l02Lasting_C5 S K X2 X4 p1_ s3_ b5_ i6_ h
 else
 ixS s3_ 1 i6_ fun p4 =>
 st1 p4 (.bool false) h fun h5 =>
 spec_l02Lasting_C5 S K X2 X4 p1_ s3_ true i6_ h5
 else
 spec_l02Lasting_C5 S K X2 X4 p1_ s3_ b5_ i6_ h
def spec_l02Lasting_b6 (S : SatT) (K : AVal → H → Prop) (X2 : Frame → H → Prop) (X4 : Frame → H → Prop) (X6 : Frame → H → Prop) (p1_ : Pt) (s3_ : Sl) (b5_ : Bool) (i6_ : Int) (b7_ : Bool) (b8_ : Bool) (i9_ : Int) (h : H) : Prop :=
 bif (decide (i9_ < (s3_.len : Int))) then
 bif b7_ then
 bif b8_ then
 X6 (spec_l02Lasting_e6 p1_ s3_ b5_ i6_ true true (w64 (i9_ + (1)))) h
 else
 ixS s3_ 1 i9_ fun p0 =>
 ldB p0 h fun b1 =>
 bif b1 then
 isPt p1_ (
 ldS (Pt.add p1_ 1) h fun s2 =>
 ixS s2 4 i9_ fun p3 =>
 ixA p3 4 1 (0) fun p4 =>
 ldI .i64 p4 h fun n5 =>
 isPt p1_ (
 ldS (Pt.add p1_ 1) h fun s6 =>
 ixS s6 4 i6_ fun p7 =>
 ixA p7 4 1 (2) fun p8 =>
 ldI .i64 p8 h fun n9 =>
 X6 (spec_l02Lasting_e6 p1_ s3_ b5_ i6_ true (n5 == n9) (w64 (i9_ + (1)))) h))
 else
 X6 (spec_l02Lasting_e6 p1_ s3_ b5_ i6_ true false (w64 (i9_ + (1)))) h
 else
 ixS s3_ 1 i9_ fun p10 =>
 ldB p10 h fun b11 =>
 bif b11 then
 isPt p1_ (
 ldS (Pt.add p1_ 1) h fun s12 =>
 ixS s12 4 i9_ fun p13 =>
 ixA p13 4 1 (2) fun p14 =>
 ldI .i64 p14 h fun n15 =>
 isPt p1_ (
 ldS (Pt.add p1_ 1) h fun s16 =>
 ixS s16 4 i6_ fun p17 =>
 ixA p17 4 1 (0) fun p18 =>
 ldI .i64 p18 h fun n19 =>
 bif b8_ then
 X6 (spec_l02Lasting_e6 p1_ s3_ b5_ i6_ (n15 == n19) true (w64 (i9_ + (1)))) h
 else
 ixS s3_ 1 i9_ fun p20 =>
 ldB p20 h fun b21 =>
 bif b21 then
 isPt p1_ (
 ldS (Pt.add p1_ 1) h fun s22 =>
 ixS s22 4 i9_ fun p23 =>
 ixA p23 4 1 (0) fun p24 =>
 ldI .i64 p24 h fun n25 =>
 isPt p1_ (
 ldS (Pt.add p1_ 1) h fun s26 =>
 ixS s26 4 i6_ fun p27 =>
 ixA p27 4 1 (2) fun p28 =>
 ldI .i64 p28 h fun n29 =>
 X6 (spec_l02Lasting_e6 p1_ s3_ b5_ i6_ (n15 == n19) (n25 == n29) (w64 (i9_ + (1)))) h))
 else
 X6 (spec_l02Lasting_e6 p1_ s3_ b5_ i6_ (n15 == n19) false (w64 (i9_ + (1)))) h))
 else
 bif b8_ then
 X6 (spec_l02Lasting_e6 p1_ s3_ b5_ i6_ false true (w64 (i9_ + (1)))) h
 else
 ixS s3_ 1 i9_ fun p30 =>
 ldB p30 h fun b31 =>
 bif b31 then
 isPt p1_ (
 ldS (Pt.add p1_ 1) h fun s32 =>
 ixS s32 4 i9_ fun p33 =>
 ixA p33 4 1 (0) fun p34 =>
 ldI .i64 p34 h fun n35 =>
 isPt p1_ (
 ldS (Pt.add p1_ 1) h fun s36 =>
 ixS s36 4 i6_ fun p37 =>
 ixA p37 4 1 (2) fun p38 =>
 ldI .i64 p38 h fun n39 =>
 X6 (spec_l02Lasting_e6 p1_ s3_ b5_ i6_ false (n35 == n39) (w64 (i9_ + (1)))) h))
 else
 X6 (spec_l02Lasting_e6 p1_ s3_ b5_ i6_ false false (w64 (i9_ + (1)))) h
 else
 spec_l02Lasting_C6 S K X2 X4 p1_ s3_ b5_ i6_ b7_ b8_ h
theorem spec_l02Lasting_link6 (S : SatT) (K : AVal → H → Prop) (X2 : Frame → H → Prop) (X4 : Frame → H → Prop) (X6 : Frame → H → Prop) (p1_ : Pt) (s3_ : Sl) (b5_ : Bool) (i6_ : Int) (b7_ : Bool) (b8_ : Bool) (i9_ : Int) (h : H) : spec_l02Lasting_w6 S K X2 X4 X6 (spec_l02Lasting_e6 p1_ s3_ b5_ i6_ b7_ b8_ i9_) h = spec_l02Lasting_b6 S K X2 X4 X6 p1_ s3_ b5_ i6_ b7_ b8_ i9_ h := by kernel_rfl
theorem spec_l02Lasting_rule6 (S : SatT) (K : AVal → H → Prop) (X2 : Frame → H → Prop) (X4 : Frame → H → Prop) (p1_ : Pt) (s3_ : Sl) (b5_ : Bool) (i6_ : Int) (I_ : Bool → Bool → Int → H → Prop) (m_ : Bool → Bool → Int → H → Nat)
    (hs : ∀ (X6 : Frame → H → Prop) (b7_ : Bool) (b8_ : Bool) (i9_ : Int) (h : H), I_ b7_ b8_ i9_ h → (∀ (b7_' : Bool) (b8_' : Bool) (i9_' : Int) (h' : H), I_ b7_' b8_' i9_' h' → m_ b7_' b8_' i9_' h' < m_ b7_ b8_ i9_ h → X6 (spec_l02Lasting_e6 p1_ s3_ b5_ i6_ b7_' b8_' i9_') h') → spec_l02Lasting_b6 S K X2 X4 X6 p1_ s3_ b5_ i6_ b7_ b8_ i9_ h) (b7_ : Bool) (b8_ : Bool) (i9_ : Int) {h : H} (h0 : I_ b7_ b8_ i9_ h) : spec_l02Lasting_L6 S K X2 X4 p1_ s3_ b5_ i6_ b7_ b8_ i9_ h :=
  loop_rule (σ := (Bool) × (Bool) × (Int)) (fun s_ => spec_l02Lasting_e6 p1_ s3_ b5_ i6_ (s_.1) (s_.2.1) (s_.2.2)) (fun s_ h => I_ (s_.1) (s_.2.1) (s_.2.2) h) (fun s_ h => m_ (s_.1) (s_.2.1) (s_.2.2) h)
    (fun X s_ h hi hx => (spec_l02Lasting_link6 S K X2 X4 X p1_ s3_ b5_ i6_ (s_.1) (s_.2.1) (s_.2.2) h).mpr (hs X (s_.1) (s_.2.1) (s_.2.2) h hi fun b7_' b8_' i9_' h' hi' hm' => hx (b7_', b8_', i9_') h' hi' hm')) (b7_, b8_, i9_) h0
theorem spec_l02Lasting_unroll6 (S : SatT) (K : AVal → H → Prop) (X2 : Frame → H → Prop) (X4 : Frame → H → Prop) (p1_ : Pt) (s3_ : Sl) (b5_ : Bool) (i6_ : Int) (b7_ : Bool) (b8_ : Bool) (i9_ : Int) (h : H) (hb : spec_l02Lasting_b6 S K X2 X4 (fun fr h => loopK (spec_l02Lasting_w6 S K X2 X4) fr h) p1_ s3_ b5_ i6_ b7_ b8_ i9_ h) : spec_l02Lasting_L6 S K X2 X4 p1_ s3_ b5_ i6_ b7_ b8_ i9_ h := loop_unroll ((spec_l02Lasting_link6 S K X2 X4 _ p1_ s3_ b5_ i6_ b7_ b8_ i9_ h).mpr hb)
def spec_l02Lasting_C4 (S : SatT) (K : AVal → H → Prop) (X2 : Frame → H → Prop) (p1_ : Pt) (s3_ : Sl) (b5_ : Bool) (h : H) : Prop :=
 X2 (spec_l02Lasting_e2 p1_ s3_ b5_) h
def spec_l02Lasting_b4 (S : SatT) (K : AVal → H → Prop) (X2 : Frame → H → Prop) (X4 : Frame → H → Prop) (p1_ : Pt) (s3_ : Sl) (b5_ : Bool) (i6_ : Int) (h : H) : Prop :=
 bif (decide (i6_ < (s3_.len : Int))) then
 spec_l02Lasting_L6 S K X2 X4 p1_ s3_ b5_ i6_ false false (0) h
 else
 spec_l02Lasting_C4 S K X2 p1_ s3_ b5_ h
theorem spec_l02Lasting_link4 (S : SatT) (K : AVal → H → Prop) (X2 : Frame → H → Prop) (X4 : Frame → H → Prop) (p1_ : Pt) (s3_ : Sl) (b5_ : Bool) (i6_ : Int) (h : H) : spec_l02Lasting_w4 S K X2 X4 (spec_l02Lasting_e4 p1_ s3_ b5_ i6_) h = spec_l02Lasting_b4 S K X2 X4 p1_ s3_ b5_ i6_ h := by kernel_rfl
theorem spec_l02Lasting_rule4 (S : SatT) (K : AVal → H → Prop) (X2 : Frame → H → Prop) (p1_ : Pt) (s3_ : Sl) (I_ : Bool → Int → H → Prop) (m_ : Bool → Int → H → Nat)
    (hs : ∀ (X4 : Frame → H → Prop) (b5_ : Bool) (i6_ : Int) (h : H), I_ b5_ i6_ h → (∀ (b5_' : Bool) (i6_' : Int) (h' : H), I_ b5_' i6_' h' → m_ b5_' i6_' h' < m_ b5_ i6_ h → X4 (spec_l02Lasting_e4 p1_ s3_ b5_' i6_') h') → spec_l02Lasting_b4 S K X2 X4 p1_ s3_ b5_ i6_ h) (b5_ : Bool) (i6_ : Int) {h : H} (h0 : I_ b5_ i6_ h) : spec_l02Lasting_L4 S K X2 p1_ s3_ b5_ i6_ h :=
  loop_rule (σ := (Bool) × (Int)) (fun s_ => spec_l02Lasting_e4 p1_ s3_ (s_.1) (s_.2)) (fun s_ h => I_ (s_.1) (s_.2) h) (fun s_ h => m_ (s_.1) (s_.2) h)
    (fun X s_ h hi hx => (spec_l02Lasting_link4 S K X2 X p1_ s3_ (s_.1) (s_.2) h).mpr (hs X (s_.1) (s_.2) h hi fun b5_' i6_' h' hi' hm' => hx (b5_', i6_') h' hi' hm')) (b5_, i6_) h0
theorem spec_l02Lasting_unroll4 (S : SatT) (K : AVal → H → Prop) (X2 : Frame → H → Prop) (p1_ : Pt) (s3_ : Sl) (b5_ : Bool) (i6_ : Int) (h : H) (hb : spec_l02Lasting_b4 S K X2 (fun fr h => loopK (spec_l02Lasting_w4 S K X2) fr h) p1_ s3_ b5_ i6_ h) : spec_l02Lasting_L4 S K X2 p1_ s3_ b5_ i6_ h := loop_unroll ((spec_l02Lasting_link4 S K X2 _ p1_ s3_ b5_ i6_ h).mpr hb)
def spec_l02Lasting_C2 (S : SatT) (K : AVal → H → Prop) (s3_ : Sl) (h : H) : Prop :=
 K (.sl s3_) h
def spec_l02Lasting_b2 (S : SatT) (K : AVal → H → Prop) (X2 : Frame → H → Prop) (p1_ : Pt) (s3_ : Sl) (b5_ : Bool) (h : H) : Prop :=
 bif b5_ then
 spec_l02Lasting_L4 S K X2 p1_ s3_ false (0) h
 else
 spec_l02Lasting_C2 S K s3_ h
theorem spec_l02Lasting_link2 (S : SatT) (K : AVal → H → Prop) (X2 : Frame → H → Prop) (p1_ : Pt) (s3_ : Sl) (b5_ : Bool) (h : H) : spec_l02Lasting_w2 S K X2 (spec_l02Lasting_e2 p1_ s3_ b5_) h = spec_l02Lasting_b2 S K X2 p1_ s3_ b5_ h := by kernel_rfl
theorem spec_l02Lasting_rule2 (S : SatT) (K : AVal → H → Prop) (p1_ : Pt) (s3_ : Sl) (I_ : Bool → H → Prop) (m_ : Bool → H → Nat)
    (hs : ∀ (X2 : Frame → H → Prop) (b5_ : Bool) (h : H), I_ b5_ h → (∀ (b5_' : Bool) (h' : H), I_ b5_' h' → m_ b5_' h' < m_ b5_ h → X2 (spec_l02Lasting_e2 p1_ s3_ b5_') h') → spec_l02Lasting_b2 S K X2 p1_ s3_ b5_ h) (b5_ : Bool) {h : H} (h0 : I_ b5_ h) : spec_l02Lasting_L2 S K p1_ s3_ b5_ h :=
  loop_rule (σ := (Bool)) (fun s_ => spec_l02Lasting_e2 p1_ s3_ (s_)) (fun s_ h => I_ (s_) h) (fun s_ h => m_ (s_) h)
    (fun X s_ h hi hx => (spec_l02Lasting_link2 S K X p1_ s3_ (s_) h).mpr (hs X (s_) h hi fun b5_' h' hi' hm' => hx (b5_') h' hi' hm')) (b5_) h0
theorem spec_l02Lasting_unroll2 (S : SatT) (K : AVal → H → Prop) (p1_ : Pt) (s3_ : Sl) (b5_ : Bool) (h : H) (hb : spec_l02Lasting_b2 S K (fun fr h => loopK (spec_l02Lasting_w2 S K) fr h) p1_ s3_ b5_ h) : spec_l02Lasting_L2 S K p1_ s3_ b5_ h := loop_unroll ((spec_l02Lasting_link2 S K _ p1_ s3_ b5_ h).mpr hb)
def spec_l02Lasting_C0 (S : SatT) (K : AVal → H → Prop) (p1_ : Pt) (s3_ : Sl) (h : H) : Prop :=
 spec_l02Lasting_L2 S K p1_ s3_ true h
def spec_l02Lasting_b0 (S : SatT) (K : AVal → H → Prop) (X0 : Frame → H → Prop) (p1_ : Pt) (s3_ : Sl) (i4_ : Int) (h : H) : Prop :=
 bif (decide (i4_ < (s3_.len : Int))) then
 ixS s3_ 1 i4_ fun p0 =>
 st1 p0 (.bool true) h fun h1 =>
 X0 (spec_l02Lasting_e0 p1_ s3_ (w64 (i4_ + (1)))) h1
 else
 spec_l02Lasting_C0 S K p1_ s3_ h
theorem spec_l02Lasting_link0 (S : SatT) (K : AVal → H → Prop) (X0 : Frame → H → Prop) (p1_ : Pt) (s3_ : Sl) (i4_ : Int) (h : H) : spec_l02Lasting_w0 S K X0 (spec_l02Lasting_e0 p1_ s3_ i4_) h = spec_l02Lasting_b0 S K X0 p1_ s3_ i4_ h := by kernel_rfl
theorem spec_l02Lasting_rule0 (S : SatT) (K : AVal → H → Prop) (p1_ : Pt) (s3_ : Sl) (I_ : Int → H → Prop) (m_ : Int → H → Nat)
    (hs : ∀ (X0 : Frame → H → Prop) (i4_ : Int) (h : H), I_ i4_ h → (∀ (i4_' : Int) (h' : H), I_ i4_' h' → m_ i4_' h' < m_ i4_ h → X0 (spec_l02Lasting_e0 p1_ s3_ i4_') h') → spec_l02Lasting_b0 S K X0 p1_ s3_ i4_ h) (i4_ : Int) {h : H} (h0 : I_ i4_ h) : spec_l02Lasting_L0 S K p1_ s3_ i4_ h :=
  loop_rule (σ := (Int)) (fun s_ => spec_l02Lasting_e0 p1_ s3_ (s_)) (fun s_ h => I_ (s_) h) (fun s_ h => m_ (s_) h)
    (fun X s_ h hi hx => (spec_l02Lasting_link0 S K X p1_ s3_ (s_) h).mpr (hs X (s_) h hi fun i4_' h' hi' hm' => hx (i4_') h' hi' hm')) (i4_) h0
theorem spec_l02Lasting_unroll0 (S : SatT) (K : AVal → H → Prop) (p1_ : Pt) (s3_ : Sl) (i4_ : Int) (h : H) (hb : spec_l02Lasting_b0 S K (fun fr h => loopK (spec_l02Lasting_w0 S K) fr h) p1_ s3_ i4_ h) : spec_l02Lasting_L0 S K p1_ s3_ i4_ h := loop_unroll ((spec_l02Lasting_link0 S K _ p1_ s3_ i4_ h).mpr hb)
def spec_l02Lasting_main (S : SatT) (K : AVal → H → Prop) (x0 : List AVal) (h : H) : Prop :=
 newK 2 x0 h fun p0 h1 =>
 isPt p0 (
 ldS (Pt.add p0 1) h1 fun s2 =>
 mkS (s2.len : Int) [.bool false] h1 fun s3 h4 =>
 spec_l02Lasting_L0 S K p0 s3 (0) h4)
theorem spec_l02Lasting_main_link (S : SatT) (K : AVal → H → Prop) (x0 : List AVal) (h : H) : cwp S tab spec_l02Lasting_M [] (bodyOf Try.f57) (kFun tab Try.f57.results.toList K) (fr0 Try.f57 [.agg x0]) h = spec_l02Lasting_main S K x0 h := by kernel_rfl
theorem spec_l02Lasting_call (x0 : List AVal) (h : H) (K : Sl → H → Prop) (hm : spec_l02Lasting_main (Sat Try.prog) (fun v h' => ∃ r, v = .sl r ∧ K r h') x0 h) : callS (Sat Try.prog) i_spec_l02Lasting [.agg x0] h K := by
  have := Sat.ex tok mixed spec_l02Lasting_M Try.func57 (c := bodyOf Try.f57) (by kernel_rfl) (calls_of Try.func57 (c := bodyOf Try.f57) (by kernel_rfl) (by decide)) ((spec_l02Lasting_main_link _ _ x0 h).mpr hm)
  obtain ⟨v, h2, h3, r, rfl, h4⟩ := this; exact ⟨r, h2, h3, h4⟩

/-! ### loop.example/g01354/spec.l06Lasting -/
def spec_l06Lasting_M : Nat → List Nat := fun i => bif i == 4 then [7, 9, 11, 13] else bif i == 2 then [7, 9, 11, 12] else bif i == 0 then [7, 9, 10] else []
def spec_l06Lasting_ks7 (S : SatT) (K : AVal → H → Prop) : Kont := kSeq (cwp S tab spec_l06Lasting_M [] (sub [1, 1, 1, 1, 1, 1] (bodyOf Try.f72)) (kFun tab (Try.f72).results.toList K)) (kFun tab (Try.f72).results.toList K)
def spec_l06Lasting_e0 (s7_ : Sl) (s9_ : Sl) (i10_ : Int) : Frame := [U, U, U, U, U, U, U, .sl s7_, U, .sl s9_, .int .i64 i10_, U, U, U, U, U, U, U, U, U, U, U, U, U, U, U, U, U, U, U, U, U, U, U, U, U, U, U, U, U, U, U, U, U, U, U, U, U, U, U, U, U, U, U, U, U, U, U, U, U, U, U, U, U, U, U, U, U, U, U, U, U, U, U, U, U, U, U, U, U, U, U, U, U, U, U, U, U, U, U, U, U, U, U, U, U, U, U, U, U, U]
def spec_l06Lasting_w0 (S : SatT) (K : AVal → H → Prop) : (Frame → H → Prop) → Frame → H → Prop := fun X fr h => cwp S tab spec_l06Lasting_M (spec_l06Lasting_M 0) (sub [1, 1, 1, 1, 1, 0, 1, 0, 0] (bodyOf Try.f72)) (kSeq (fun fr h => X (mask (spec_l06Lasting_M 0) fr) h) (kBlk 0 (spec_l06Lasting_ks7 S K))) fr h
def spec_l06Lasting_L0 (S : SatT) (K : AVal → H → Prop) (s7_ : Sl) (s9_ : Sl) (i10_ : Int) (h : H) : Prop := loopK (spec_l06Lasting_w0 S K) (spec_l06Lasting_e0 s7_ s9_ i10_) h
def spec_l06Lasting_ks17 (S : SatT) (K : AVal → H → Prop) : Kont := kSeq (cwp S tab spec_l06Lasting_M [] (sub [1, 1, 1, 1, 1, 1, 1, 1, 1, 1] (bodyOf Try.f72)) (kFun tab (Try.f72).results.toList K)) (kFun tab (Try.f72).results.toList K)
def spec_l06Lasting_e2 (s7_ : Sl) (s9_ : Sl) (s11_ : Sl) (i12_ : Int) : Frame := [U, U, U, U, U, U, U, .sl s7_, U, .sl s9_, U, .sl s11_, .int .i64 i12_, U, U, U, U, U, U, U, U, U, U, U, U, U, U, U, U, U, U, U, U, U, U, U, U, U, U, U, U, U, U, U, U, U, U, U, U, U, U, U, U, U, U, U, U, U, U, U, U, U, U, U, U, U, U, U, U, U, U, U, U, U, U, U, U, U, U, U, U, U, U, U, U, U, U, U, U, U, U, U, U, U, U, U, U, U, U, U, U]
def spec_l06Lasting_w2 (S : SatT) (K : AVal → H → Prop) : (Frame → H → Prop) → Frame → H → Prop := fun X fr h => cwp S tab spec_l06Lasting_M (spec_l06Lasting_M 2) (sub [1, 1, 1, 1, 1, 1, 1, 1, 1, 0, 1, 0, 0] (bodyOf Try.f72)) (kSeq (fun fr h => X (mask (spec_l06Lasting_M 2) fr) h) (kBlk 2 (spec_l06Lasting_ks17 S K))) fr h
def spec_l06Lasting_L2 (S : SatT) (K : AVal → H → Prop) (s7_ : Sl) (s9_ : Sl) (s11_ : Sl) (i12_ : Int) (h : H) : Prop := loopK (spec_l06Lasting_w2 S K) (spec_l06Lasting_e2 s7_ s9_ s11_ i12_) h
def spec_l06Lasting_ks22 (S : SatT) (K : AVal → H → Prop) : Kont := kSeq (cwp S tab spec_l06Lasting_M [] (sub [1, 1, 1, 1, 1, 1, 1, 1, 1, 1, 1] (bodyOf Try.f72)) (kFun tab (Try.f72).results.toList K)) (kFun tab (Try.f72).results.toList K)
def spec_l06Lasting_e4 (s7_ : Sl) (s9_ : Sl) (s11_ : Sl) (i13_ : Int) : Frame := [U, U, U, U, U, U, U, .sl s7_, U, .sl s9_, U, .sl s11_, U, .int .i64 i13_, U, U, U, U, U, U, U, U, U, U, U, U, U, U, U, U, U, U, U, U, U, U, U, U, U, U, U, U, U, U, U, U, U, U, U, U, U, U, U, U, U, U, U, U, U, U, U, U, U, U, U, U, U, U, U, U, U, U, U, U, U, U, U, U, U, U, U, U, U, U, U, U, U, U, U, U, U, U, U, U, U, U, U, U, U, U, U]
def spec_l06Lasting_w4 (S : SatT) (K : AVal → H → Prop) : (Frame → H → Prop) → Frame → H → Prop := fun X fr h => cwp S tab spec_l06Lasting_M (spec_l06Lasting_M 4) (sub [1, 1, 1, 1, 1, 1, 1, 1, 1, 1, 0, 1, 0, 0] (bodyOf Try.f72)) (kSeq (fun fr h => X (mask (spec_l06Lasting_M 4) fr) h) (kBlk 4 (spec_l06Lasting_ks22 S K))) fr h
def spec_l06Lasting_L4 (S : SatT) (K : AVal → H → Prop) (s7_ : Sl) (s9_ : Sl) (s11_ : Sl) (i13_ : Int) (h : H) : Prop := loopK (spec_l06Lasting_w4 S K) (spec_l06Lasting_e4 s7_ s9_ s11_ i13_) h
def spec_l06Lasting_C4 (S : SatT) (K : AVal → H → Prop) (s9_ : Sl) (s11_ : Sl) (h : H) : Prop :=
 K (.tuple [.sl s9_, .sl s11_, .int .i64 (0)]) h
def spec_l06Lasting_b4 (S : SatT) (K : AVal → H → Prop) (X4 : Frame → H → Prop) (s7_ : Sl) (s9_ : Sl) (s11_ : Sl) (i13_ : Int) (h : H) : Prop :=
 bif (decide (i13_ < (s7_.len : Int))) then
 ixS s7_ 1 i13_ fun p0 =>
 ldS p0 h fun s1 =>
 ixS s1 1 (0) fun p2 =>
 ldI .i64 p2 h fun n3 =>
 callI S .i64 i_spec_l04Find [.sl s9_, .int .i64 n3] h fun n5 h4 =>
 ixS s11_ 1 n5 fun p6 =>
 ldS p6 h4 fun s7 =>
 ixS s7_ 1 i13_ fun p8 =>
 ldS p8 h4 fun s9 =>
 ixS s9 1 (1) fun p10 =>
 ldI .i64 p10 h4 fun n11 =>
 callI S .i64 i_spec_l04Find [.sl s9_, .int .i64 n11] h4 fun n13 h12 =>
 ixS s7 1 n13 fun p14 =>
 ldI .i64 p14 h12 fun n15 =>
 ixS s7 1 n13 fun p16 =>
 st1 p16 (.int .i64 (w64 (n15 + (1)))) h12 fun h17 =>
 X4 (spec_l06Lasting_e4 s7_ s9_ s11_ (w64 (i13_ + (1)))) h17
 else
 spec_l06Lasting_C4 S K s9_ s11_ h
theorem spec_l06Lasting_link4 (S : SatT) (K : AVal → H → Prop) (X4 : Frame → H → Prop) (s7_ : Sl) (s9_ : Sl) (s11_ : Sl) (i13_ : Int) (h : H) : spec_l06Lasting_w4 S K X4 (spec_l06Lasting_e4 s7_ s9_ s11_ i13_) h = spec_l06Lasting_b4 S K X4 s7_ s9_ s11_ i13_ h := by kernel_rfl
theorem spec_l06Lasting_rule4 (S : SatT) (K : AVal → H → Prop) (s7_ : Sl) (s9_ : Sl) (s11_ : Sl) (I_ : Int → H → Prop) (m_ : Int → H → Nat)
    (hs : ∀ (X4 : Frame → H → Prop) (i13_ : Int) (h : H), I_ i13_ h → (∀ (i13_' : Int) (h' : H), I_ i13_' h' → m_ i13_' h' < m_ i13_ h → X4 (spec_l06Lasting_e4 s7_ s9_ s11_ i13_') h') → spec_l06Lasting_b4 S K X4 s7_ s9_ s11_ i13_ h) (i13_ : Int) {h : H} (h0 : I_ i13_ h) : spec_l06Lasting_L4 S K s7_ s9_ s11_ i13_ h :=
  loop_rule (σ := (Int)) (fun s_ => spec_l06Lasting_e4 s7_ s9_ s11_ (s_)) (fun s_ h => I_ (s_) h) (fun s_ h => m_ (s_) h)
    (fun X s_ h hi hx => (spec_l06Lasting_link4 S K X s7_ s9_ s11_ (s_) h).mpr (hs X (s_) h hi fun i13_' h' hi' hm' => hx (i13_') h' hi' hm')) (i13_) h0
theorem spec_l06Lasting_unroll4 (S : SatT) (K : AVal → H → Prop) (s7_ : Sl) (s9_ : Sl) (s11_ : Sl) (i13_ : Int) (h : H) (hb : spec_l06Lasting_b4 S K (fun fr h => loopK (spec_l06Lasting_w4 S K) fr h) s7_ s9_ s11_ i13_ h) : spec_l06Lasting_L4 S K s7_ s9_ s11_ i13_ h := loop_unroll ((spec_l06Lasting_link4 S K _ s7_ s9_ s11_ i13_ h).mpr hb)
def spec_l06Lasting_C2 (S : SatT) (K : AVal → H → Prop) (s7_ : Sl) (s9_ : Sl) (s11_ : Sl) (h : H) : Prop :=
 spec_l06Lasting_L4 S K s7_ s9_ s11_ (0) h
def spec_l06Lasting_b2 (S : SatT) (K : AVal → H → Prop) (X2 : Frame → H → Prop) (s7_ : Sl) (s9_ : Sl) (s11_ : Sl) (i12_ : Int) (h : H) : Prop :=
 bif (decide (i12_ < (s9_.len : Int))) then
 mkS (s9_.len : Int) [.int .i64 (0)] h fun s0 h1 =>
 newS 1 1 [.sl s0] h1 fun s2 h3 =>
 app s11_ s2 1 h3 fun s4 h5 =>
 X2 (spec_l06Lasting_e2 s7_ s9_ s4 (w64 (i12_ + (1)))) h5
 else
 spec_l06Lasting_C2 S K s7_ s9_ s11_ h
theorem spec_l06Lasting_link2 (S : SatT) (K : AVal → H → Prop) (X2 : Frame → H → Prop) (s7_ : Sl) (s9_ : Sl) (s11_ : Sl) (i12_ : Int) (h : H) : spec_l06Lasting_w2 S K X2 (spec_l06Lasting_e2 s7_ s9_ s11_ i12_) h = spec_l06Lasting_b2 S K X2 s7_ s9_ s11_ i12_ h := by kernel_rfl
theorem spec_l06Lasting_rule2 (S : SatT) (K : AVal → H → Prop) (s7_ : Sl) (s9_ : Sl) (I_ : Sl → Int → H → Prop) (m_ : Sl → Int → H → Nat)
    (hs : ∀ (X2 : Frame → H → Prop) (s11_ : Sl) (i12_ : Int) (h : H), I_ s11_ i12_ h → (∀ (s11_' : Sl) (i12_' : Int) (h' : H), I_ s11_' i12_' h' → m_ s11_' i12_' h' < m_ s11_ i12_ h → X2 (spec_l06Lasting_e2 s7_ s9_ s11_' i12_') h') → spec_l06Lasting_b2 S K X2 s7_ s9_ s11_ i12_ h) (s11_ : Sl) (i12_ : Int) {h : H} (h0 : I_ s11_ i12_ h) : spec_l06Lasting_L2 S K s7_ s9_ s11_ i12_ h :=
  loop_rule (σ := (Sl) × (Int)) (fun s_ => spec_l06Lasting_e2 s7_ s9_ (s_.1) (s_.2)) (fun s_ h => I_ (s_.1) (s_.2) h) (fun s_ h => m_ (s_.1) (s_.2) h)
    (fun X s_ h hi hx => (spec_l06Lasting_link2 S K X s7_ s9_ (s_.1) (s_.2) h).mpr (hs X (s_.1) (s_.2) h hi fun s11_' i12_' h' hi' hm' => hx (s11_', i12_') h' hi' hm')) (s11_, i12_) h0
theorem spec_l06Lasting_unroll2 (S : SatT) (K : AVal → H → Prop) (s7_ : Sl) (s9_ : Sl) (s11_ : Sl) (i12_ : Int) (h : H) (hb : spec_l06Lasting_b2 S K (fun fr h => loopK (spec_l06Lasting_w2 S K) fr h) s7_ s9_ s11_ i12_ h) : spec_l06Lasting_L2 S K s7_ s9_ s11_ i12_ h := loop_unroll ((spec_l06Lasting_link2 S K _ s7_ s9_ s11_ i12_ h).mpr hb)
def spec_l06Lasting_C0 (S : SatT) (K : AVal → H → Prop) (s7_ : Sl) (s9_ : Sl) (h : H) : Prop :=
 callS S i_spec_l04Sorted [.sl s9_] h fun s1 h0 =>
 bif (decide ((s1.len : Int) > (40))) then
 K (.tuple [.sl Sl.nil, .sl Sl.nil, .int .i64 (3)]) h0
 else
 newS 0 1 [] h0 fun s2 h3 =>
 spec_l06Lasting_L2 S K s7_ s1 s2 (0) h3
def spec_l06Lasting_b0 (S : SatT) (K : AVal → H → Prop) (X0 : Frame → H → Prop) (s7_ : Sl) (s9_ : Sl) (i10_ : Int) (h : H) : Prop :=
 bif (decide (i10_ < (s7_.len : Int))) then
 ixS s7_ 1 i10_ fun p0 =>
 ldS p0 h fun s1 =>
 ixS s1 1 (0) fun p2 =>
 ldI .i64 p2 h fun n3 =>
 ixS s7_ 1 i10_ fun p4 =>
 ldS p4 h fun s5 =>
 ixS s5 1 (1) fun p6 =>
 ldI .i64 p6 h fun n7 =>
 newS 2 1 [.int .i64 n3, .int .i64 n7] h fun s8 h9 =>
 app s9_ s8 1 h9 fun s10 h11 =>
 X0 (spec_l06Lasting_e0 s7_ s10 (w64 (i10_ + (1)))) h11
 else
 spec_l06Lasting_C0 S K s7_ s9_ h
theorem spec_l06Lasting_link0 (S : SatT) (K : AVal → H → Prop) (X0 : Frame → H → Prop) (s7_ : Sl) (s9_ : Sl) (i10_ : Int) (h : H) : spec_l06Lasting_w0 S K X0 (spec_l06Lasting_e0 s7_ s9_ i10_) h = spec_l06Lasting_b0 S K X0 s7_ s9_ i10_ h := by kernel_rfl
theorem spec_l06Lasting_rule0 (S : SatT) (K : AVal → H → Prop) (s7_ : Sl) (I_ : Sl → Int → H → Prop) (m_ : Sl → Int → H → Nat)
    (hs : ∀ (X0 : Frame → H → Prop) (s9_ : Sl) (i10_ : Int) (h : H), I_ s9_ i10_ h → (∀ (s9_' : Sl) (i10_' : Int) (h' : H), I_ s9_' i10_' h' → m_ s9_' i10_' h' < m_ s9_ i10_ h → X0 (spec_l06Lasting_e0 s7_ s9_' i10_') h') → spec_l06Lasting_b0 S K X0 s7_ s9_ i10_ h) (s9_ : Sl) (i10_ : Int) {h : H} (h0 : I_ s9_ i10_ h) : spec_l06Lasting_L0 S K s7_ s9_ i10_ h :=
  loop_rule (σ := (Sl) × (Int)) (fun s_ => spec_l06Lasting_e0 s7_ (s_.1) (s_.2)) (fun s_ h => I_ (s_.1) (s_.2) h) (fun s_ h => m_ (s_.1) (s_.2) h)
    (fun X s_ h hi hx => (spec_l06Lasting_link0 S K X s7_ (s_.1) (s_.2) h).mpr (hs X (s_.1) (s_.2) h hi fun s9_' i10_' h' hi' hm' => hx (s9_', i10_') h' hi' hm')) (s9_, i10_) h0
theorem spec_l06Lasting_unroll0 (S : SatT) (K : AVal → H → Prop) (s7_ : Sl) (s9_ : Sl) (i10_ : Int) (h : H) (hb : spec_l06Lasting_b0 S K (fun fr h => loopK (spec_l06Lasting_w0 S K) fr h) s7_ s9_ i10_ h) : spec_l06Lasting_L0 S K s7_ s9_ i10_ h := loop_unroll ((spec_l06Lasting_link0 S K _ s7_ s9_ i10_ h).mpr hb)
def spec_l06Lasting_main (S : SatT) (K : AVal → H → Prop) (x0 : List AVal) (x1 : Int) (h : H) : Prop :=
 newK 2 x0 h fun p0 h1 =>
 ldA p0 2 h1 fun cs2 =>
 callV S i_spec_l06Code [.agg cs2, .int .i64 x1] h1 fun v4 h3 =>
 viaT v4 fun vs5 =>
 exS vs5 0 fun s6 =>
 viaT v4 fun vs7 =>
 exI .i64 vs7 1 fun n8 =>
 bif (n8 != (0)) then
 K (.tuple [.sl Sl.nil, .sl Sl.nil, .int .i64 n8]) h3
 else
 ldA p0 2 h3 fun cs9 =>
 callI S .i64 i_spec_l06Size [.agg cs9, .int .i64 x1] h3 fun n11 h10 =>
 callS S i_spec_l06Keep [.sl s6, .int .i64 n11] h10 fun s13 h12 =>
 newS 0 1 [] h12 fun s14 h15 =>
 spec_l06Lasting_L0 S K s13 s14 (0) h15
theorem spec_l06Lasting_main_link (S : SatT) (K : AVal → H → Prop) (x0 : List AVal) (x1 : Int) (h : H) : cwp S tab spec_l06Lasting_M [] (bodyOf Try.f72) (kFun tab Try.f72.results.toList K) (fr0 Try.f72 [.agg x0, .int .i64 x1]) h = spec_l06Lasting_main S K x0 x1 h := by kernel_rfl
theorem spec_l06Lasting_call (x0 : List AVal) (x1 : Int) (h : H) (K : AVal → H → Prop) (hm : spec_l06Lasting_main (Sat Try.prog) (fun v h' => K v h') x0 x1 h) : callV (Sat Try.prog) i_spec_l06Lasting [.agg x0, .int .i64 x1] h K := by
  have := Sat.ex tok mixed spec_l06Lasting_M Try.func72 (c := bodyOf Try.f72) (by kernel_rfl) (calls_of Try.func72 (c := bodyOf Try.f72) (by kernel_rfl) (by decide)) ((spec_l06Lasting_main_link _ _ x0 x1 h).mpr hm)
  exact this

/-! ### loop.example/g01354/impl.ColumnWords -/
def impl_ColumnWords_M : Nat → List Nat := fun i => bif i == 2 then [1, 6, 10, 12, 13, 14, 27, 28, 29] else bif i == 0 then [1, 6, 10, 27, 28, 29] else []
def impl_ColumnWords_ks6 (S : SatT) (K : AVal → H → Prop) : Kont := kSeq (cwp S tab impl_ColumnWords_M [] (sub [1, 1, 1, 1, 1] (bodyOf Try.f33)) (kFun tab (Try.f33).results.toList K)) (kFun tab (Try.f33).results.toList K)
def impl_ColumnWords_e0 (i1_ : Int) (p6_ : Pt) (s10_ : Sl) (s27_ : Sl) (i28_ : Int) (i29_ : Int) : Frame := [U, .int .i64 i1_, U, U, U, U, .ptr p6_, U, U, U, .sl s10_, U, U, U, U, U, U, U, U, U, U, U, U, U, U, U, U, .sl s27_, .int .i64 i28_, .int .i64 i29_, U, U, U, U, U, U, U, U, U, U, U, U, U, U, U, U, U, U, U, U, U, U, U, U, U, U, U, U, U, U, U, U, U, U]
def impl_ColumnWords_w0 (S : SatT) (K : AVal → H → Prop) : (Frame → H → Prop) → Frame → H → Prop := fun X fr h => cwp S tab impl_ColumnWords_M (impl_ColumnWords_M 0) (sub [1, 1, 1, 1, 0, 1, 0, 0] (bodyOf Try.f33)) (kSeq (fun fr h => X (mask (impl_ColumnWords_M 0) fr) h) (kBlk 0 (impl_ColumnWords_ks6 S K))) fr h
def impl_ColumnWords_L0 (S : SatT) (K : AVal → H → Prop) (i1_ : Int) (p6_ : Pt) (s10_ : Sl) (s27_ : Sl) (i28_ : Int) (i29_ : Int) (h : H) : Prop := loopK (impl_ColumnWords_w0 S K) (impl_ColumnWords_e0 i1_ p6_ s10_ s27_ i28_ i29_) h
def impl_ColumnWords_ks10 (S : SatT) (K : AVal → H → Prop) (X0 : Frame → H → Prop) : Kont := kSeq (cwp S tab impl_ColumnWords_M (impl_ColumnWords_M 0) (sub [1, 1, 1, 1, 0, 1, 0, 0, 1, 1, 1] (bodyOf Try.f33)) (kSeq (fun fr h => X0 (mask (impl_ColumnWords_M 0) fr) h) (kBlk 0 (impl_ColumnWords_ks6 S K)))) (kSeq (fun fr h => X0 (mask (impl_ColumnWords_M 0) fr) h) (kBlk 0 (impl_ColumnWords_ks6 S K)))
def impl_ColumnWords_ks13 (S : SatT) (K : AVal → H → Prop) (X0 : Frame → H → Prop) : Kont := kSeq (cwp S tab impl_ColumnWords_M (impl_ColumnWords_M 1) (sub [1, 1, 1, 1, 0, 1, 0, 0, 1, 1, 0, 0, 1, 1, 1] (bodyOf Try.f33)) (kBlk 1 (impl_ColumnWords_ks10 S K X0))) (kBlk 1 (impl_ColumnWords_ks10 S K X0))
def impl_ColumnWords_e2 (i1_ : Int) (p6_ : Pt) (s10_ : Sl) (i12_ : Int) (s13_ : Sl) (i14_ : Int) (s27_ : Sl) (i28_ : Int) (i29_ : Int) : Frame := [U, .int .i64 i1_, U, U, U, U, .ptr p6_, U, U, U, .sl s10_, U, .int .i64 i12_, .sl s13_, .int .i64 i14_, U, U, U, U, U, U, U, U, U, U, U, U, .sl s27_, .int .i64 i28_, .int .i64 i29_, U, U, U, U, U, U, U, U, U, U, U, U, U, U, U, U, U, U, U, U, U, U, U, U, U, U, U, U, U, U, U, U, U, U]
def impl_ColumnWords_w2 (S : SatT) (K : AVal → H → Prop) (X0 : Frame → H → Prop) : (Frame → H → Prop) → Frame → H → Prop := fun X fr h => cwp S tab impl_ColumnWords_M (impl_ColumnWords_M 2) (sub [1, 1, 1, 1, 0, 1, 0, 0, 1, 1, 0, 0, 1, 1, 0, 1, 0, 0] (bodyOf Try.f33)) (kSeq (fun fr h => X (mask (impl_ColumnWords_M 2) fr) h) (kBlk 2 (impl_ColumnWords_ks13 S K X0))) fr h
def impl_ColumnWords_L2 (S : SatT) (K : AVal → H → Prop) (X0 : Frame → H → Prop) (i1_ : Int) (p6_ : Pt) (s10_ : Sl) (i12_ : Int) (s13_ : Sl) (i14_ : Int) (s27_ : Sl) (i28_ : Int) (i29_ : Int) (h : H) : Prop := loopK (impl_ColumnWords_w2 S K X0) (impl_ColumnWords_e2 i1_ p6_ s10_ i12_ s13_ i14_ s27_ i28_ i29_) h
def impl_ColumnWords_C1 (S : SatT) (K : AVal → H → Prop) (X0 : Frame → H → Prop) (i1_ : Int) (p6_ : Pt) (s10_ : Sl) (s27_ : Sl) (i28_ : Int) (i29_ : Int) (h : H) : Prop :=
 X0 (impl_ColumnWords_e0 i1_ p6_ s10_ s27_ i28_ (w64 (i29_ + (1)))) h
def impl_ColumnWords_C2 (S : SatT) (K : AVal → H → Prop) (X0 : Frame → H → Prop) (i1_ : Int) (p6_ : Pt) (s10_ : Sl) (s13_ : Sl) (s27_ : Sl) (i28_ : Int) (i29_ : Int) (h : H) : Prop :=
 newS 1 1 [.sl s13_] h fun s0 h1 =>
 app s10_ s0 1 h1 fun s2 h3 =>
 impl_ColumnWords_C1 S K X0 i1_ p6_ s2 s27_ i28_ i29_ h3
def impl_ColumnWords_b2 (S : SatT) (K : AVal → H → Prop) (X0 : Frame → H → Prop) (X2 : Frame → H → Prop) (i1_ : Int) (p6_ : Pt) (s10_ : Sl) (i12_ : Int) (s13_ : Sl) (i14_ : Int) (s27_ : Sl) (i28_ : Int) (i29_ : Int) (h : H) : Prop :=
 bif (decide (i14_ ≥ (0))) then
 nilC (.ptr p6_) (
 isPt p6_ (
 isPt (Pt.add p6_ 0) (
 ldI .i64 (Pt.add (Pt.add p6_ 0) 0) h fun n0 =>
 nz n0 (
 ixS s13_ 1 i14_ fun p1 =>
 st1 p1 (.int .i64 (Int.tmod i12_ n0)) h fun h2 =>
 nilC (.ptr p6_) (
 isPt p6_ (
 isPt (Pt.add p6_ 0) (
 ldI .i64 (Pt.add (Pt.add p6_ 0) 0) h2 fun n3 =>
 nz n3 (
 X2 (impl_ColumnWords_e2 i1_ p6_ s10_ (w64 (Int.tdiv i12_ n3)) s13_ (w64 (i14_ - (1))) s27_ i28_ i29_) h2))))))))
 else
 impl_ColumnWords_C2 S K X0 i1_ p6_ s10_ s13_ s27_ i28_ i29_ h
theorem impl_ColumnWords_link2 (S : SatT) (K : AVal → H → Prop) (X0 : Frame → H → Prop) (X2 : Frame → H → Prop) (i1_ : Int) (p6_ : Pt) (s10_ : Sl) (i12_ : Int) (s13_ : Sl) (i14_ : Int) (s27_ : Sl) (i28_ : Int) (i29_ : Int) (h : H) : impl_ColumnWords_w2 S K X0 X2 (impl_ColumnWords_e2 i1_ p6_ s10_ i12_ s13_ i14_ s27_ i28_ i29_) h = impl_ColumnWords_b2 S K X0 X2 i1_ p6_ s10_ i12_ s13_ i14_ s27_ i28_ i29_ h := by kernel_rfl
theorem impl_ColumnWords_rule2 (S : SatT) (K : AVal → H → Prop) (X0 : Frame → H → Prop) (i1_ : Int) (p6_ : Pt) (s10_ : Sl) (s13_ : Sl) (s27_ : Sl) (i28_ : Int) (i29_ : Int) (I_ : Int → Int → H → Prop) (m_ : Int → Int → H → Nat)
    (hs : ∀ (X2 : Frame → H → Prop) (i12_ : Int) (i14_ : Int) (h : H), I_ i12_ i14_ h → (∀ (i12_' : Int) (i14_' : Int) (h' : H), I_ i12_' i14_' h' → m_ i12_' i14_' h' < m_ i12_ i14_ h → X2 (impl_ColumnWords_e2 i1_ p6_ s10_ i12_' s13_ i14_' s27_ i28_ i29_) h') → impl_ColumnWords_b2 S K X0 X2 i1_ p6_ s10_ i12_ s13_ i14_ s27_ i28_ i29_ h) (i12_ : Int) (i14_ : Int) {h : H} (h0 : I_ i12_ i14_ h) : impl_ColumnWords_L2 S K X0 i1_ p6_ s10_ i12_ s13_ i14_ s27_ i28_ i29_ h :=
  loop_rule (σ := (Int) × (Int)) (fun s_ => impl_ColumnWords_e2 i1_ p6_ s10_ (s_.1) s13_ (s_.2) s27_ i28_ i29_) (fun s_ h => I_ (s_.1) (s_.2) h) (fun s_ h => m_ (s_.1) (s_.2) h)
    (fun X s_ h hi hx => (impl_ColumnWords_link2 S K X0 X i1_ p6_ s10_ (s_.1) s13_ (s_.2) s27_ i28_ i29_ h).mpr (hs X (s_.1) (s_.2) h hi fun i12_' i14_' h' hi' hm' => hx (i12_', i14_') h' hi' hm')) (i12_, i14_) h0
theorem impl_ColumnWords_unroll2 (S : SatT) (K : AVal → H → Prop) (X0 : Frame → H → Prop) (i1_ : Int) (p6_ : Pt) (s10_ : Sl) (i12_ : Int) (s13_ : Sl) (i14_ : Int) (s27_ : Sl) (i28_ : Int) (i29_ : Int) (h : H) (hb : impl_ColumnWords_b2 S K X0 (fun fr h => loopK (impl_ColumnWords_w2 S K X0) fr h) i1_ p6_ s10_ i12_ s13_ i14_ s27_ i28_ i29_ h) : impl_ColumnWords_L2 S K X0 i1_ p6_ s10_ i12_ s13_ i14_ s27_ i28_ i29_ h := loop_unroll ((impl_ColumnWords_link2 S K X0 _ i1_ p6_ s10_ i12_ s13_ i14_ s27_ i28_ i29_ h).mpr hb)
def impl_ColumnWords_C0 (S : SatT) (K : AVal → H → Prop) (s10_ : Sl) (h : H) : Prop :=
 K (.tuple [.sl s10_, .int .i64 (0)]) h
def impl_ColumnWords_b0 (S : SatT) (K : AVal → H → Prop) (X0 : Frame → H → Prop) (i1_ : Int) (p6_ : Pt) (s10_ : Sl) (s27_ : Sl) (i28_ : Int) (i29_ : Int) (h : H) : Prop :=
 bif (decide (i29_ < i28_)) then
 ixS s27_ 1 i29_ fun p0 =>
 ldI .i64 p0 h fun n1 =>
 mkS i1_ [.int .i64 (0)] h fun s2 h3 =>
 impl_ColumnWords_L2 S K X0 i1_ p6_ s10_ n1 s2 (w64 (i1_ - (1))) s27_ i28_ i29_ h3
 else
 impl_ColumnWords_C0 S K s10_ h
theorem impl_ColumnWords_link0 (S : SatT) (K : AVal → H → Prop) (X0 : Frame → H → Prop) (i1_ : Int) (p6_ : Pt) (s10_ : Sl) (s27_ : Sl) (i28_ : Int) (i29_ : Int) (h : H) : impl_ColumnWords_w0 S K X0 (impl_ColumnWords_e0 i1_ p6_ s10_ s27_ i28_ i29_) h = impl_ColumnWords_b0 S K X0 i1_ p6_ s10_ s27_ i28_ i29_ h := by kernel_rfl
theorem impl_ColumnWords_rule0 (S : SatT) (K : AVal → H → Prop) (i1_ : Int) (p6_ : Pt) (s27_ : Sl) (i28_ : Int) (I_ : Sl → Int → H → Prop) (m_ : Sl → Int → H → Nat)
    (hs : ∀ (X0 : Frame → H → Prop) (s10_ : Sl) (i29_ : Int) (h : H), I_ s10_ i29_ h → (∀ (s10_' : Sl) (i29_' : Int) (h' : H), I_ s10_' i29_' h' → m_ s10_' i29_' h' < m_ s10_ i29_ h → X0 (impl_ColumnWords_e0 i1_ p6_ s10_' s27_ i28_ i29_') h') → impl_ColumnWords_b0 S K X0 i1_ p6_ s10_ s27_ i28_ i29_ h) (s10_ : Sl) (i29_ : Int) {h : H} (h0 : I_ s10_ i29_ h) : impl_ColumnWords_L0 S K i1_ p6_ s10_ s27_ i28_ i29_ h :=
  loop_rule (σ := (Sl) × (Int)) (fun s_ => impl_ColumnWords_e0 i1_ p6_ (s_.1) s27_ i28_ (s_.2)) (fun s_ h => I_ (s_.1) (s_.2) h) (fun s_ h => m_ (s_.1) (s_.2) h)
    (fun X s_ h hi hx => (impl_ColumnWords_link0 S K X i1_ p6_ (s_.1) s27_ i28_ (s_.2) h).mpr (hs X (s_.1) (s_.2) h hi fun s10_' i29_' h' hi' hm' => hx (s10_', i29_') h' hi' hm')) (s10_, i29_) h0
theorem impl_ColumnWords_unroll0 (S : SatT) (K : AVal → H → Prop) (i1_ : Int) (p6_ : Pt) (s10_ : Sl) (s27_ : Sl) (i28_ : Int) (i29_ : Int) (h : H) (hb : impl_ColumnWords_b0 S K (fun fr h => loopK (impl_ColumnWords_w0 S K) fr h) i1_ p6_ s10_ s27_ i28_ i29_ h) : impl_ColumnWords_L0 S K i1_ p6_ s10_ s27_ i28_ i29_ h := loop_unroll ((impl_ColumnWords_link0 S K _ i1_ p6_ s10_ s27_ i28_ i29_ h).mpr hb)
def impl_ColumnWords_main (S : SatT) (K : AVal → H → Prop) (x0 : List AVal) (x1 : Int) (h : H) : Prop :=
 newK 2 x0 h fun p0 h1 =>
 ldA p0 2 h1 fun cs2 =>
 callV S i_impl_lastingOf [.agg cs2, .int .i64 x1] h1 fun v4 h3 =>
 viaT v4 fun vs5 =>
 exP vs5 0 fun p6 =>
 viaT v4 fun vs7 =>
 exS vs7 1 fun s8 =>
 viaT v4 fun vs9 =>
 exS vs9 2 fun s10 =>
 viaT v4 fun vs11 =>
 exI .i64 vs11 3 fun n12 =>
 bif (n12 != (0)) then
 K (.tuple [.sl Sl.nil, .int .i64 n12]) h3
 else
 newS 0 1 [] h3 fun s13 h14 =>
 impl_ColumnWords_L0 S K x1 p6 s13 s8 (s8.len : Int) (0) h14
theorem impl_ColumnWords_main_link (S : SatT) (K : AVal → H → Prop) (x0 : List AVal) (x1 : Int) (h : H) : cwp S tab impl_ColumnWords_M [] (bodyOf Try.f33) (kFun tab Try.f33.results.toList K) (fr0 Try.f33 [.agg x0, .int .i64 x1]) h = impl_ColumnWords_main S K x0 x1 h := by kernel_rfl
theorem impl_ColumnWords_call (x0 : List AVal) (x1 : Int) (h : H) (K : AVal → H → Prop) (hm : impl_ColumnWords_main (Sat Try.prog) (fun v h' => K v h') x0 x1 h) : callV (Sat Try.prog) i_impl_ColumnWords [.agg x0, .int .i64 x1] h K := by
  have := Sat.ex tok mixed impl_ColumnWords_M Try.func33 (c := bodyOf Try.f33) (by kernel_rfl) (calls_of Try.func33 (c := bodyOf Try.f33) (by kernel_rfl) (by decide)) ((impl_ColumnWords_main_link _ _ x0 x1 h).mpr hm)
  exact this

/-! ### (*loop.example/g01354/impl.strip).endless -/
def impl_strip_endless_M : Nat → List Nat := fun i => bif i == 2 then [0, 1, 2, 7, 8, 25, 26, 27] else bif i == 0 then [0, 1, 2, 7] else []
def impl_strip_endless_e0 (p0_ : Pt) (i1_ : Int) (i2_ : Int) (s7_ : Sl) : Frame := [.ptr p0_, .int .i64 i1_, .int .i64 i2_, U, U, U, U, .sl s7_, U, U, U, U, U, U, U, U, U, U, U, U, U, U, U, U, U, U, U, U, U, U, U, U, U, U, U, U, U, U, U, U, U, U, U, U, U, U, U, U, U, U, U, U, U, U, U, U]
def impl_strip_endless_w0 (S : SatT) (K : AVal → H → Prop) : (Frame → H → Prop) → Frame → H → Prop := fun X fr h => cwp S tab impl_strip_endless_M (impl_strip_endless_M 0) (sub [1, 1, 0, 0] (bodyOf Try.f121)) (kSeq (fun fr h => X (mask (impl_strip_endless_M 0) fr) h) (kBlk 0 (kFun tab (Try.f121).results.toList K))) fr h
def impl_strip_endless_L0 (S : SatT) (K : AVal → H → Prop) (p0_ : Pt) (i1_ : Int) (i2_ : Int) (s7_ : Sl) (h : H) : Prop := loopK (impl_strip_endless_w0 S K) (impl_strip_endless_e0 p0_ i1_ i2_ s7_) h
def impl_strip_endless_ks3 (S : SatT) (K : AVal → H → Prop) (X0 : Frame → H → Prop) : Kont := kSeq (cwp S tab impl_strip_endless_M (impl_strip_endless_M 1) (sub [1, 1, 0, 0, 0, 1, 1] (bodyOf Try.f121)) (kBlk 1 (kSeq (fun fr h => X0 (mask (impl_strip_endless_M 0) fr) h) (kBlk 0 (kFun tab (Try.f121).results.toList K))))) (kBlk 1 (kSeq (fun fr h => X0 (mask (impl_strip_endless_M 0) fr) h) (kBlk 0 (kFun tab (Try.f121).results.toList K))))
def impl_strip_endless_e2 (p0_ : Pt) (i1_ : Int) (i2_ : Int) (s7_ : Sl) (s8_ : Sl) (s25_ : Sl) (i26_ : Int) (i27_ : Int) : Frame := [.ptr p0_, .int .i64 i1_, .int .i64 i2_, U, U, U, U, .sl s7_, .sl s8_, U, U, U, U, U, U, U, U, U, U, U, U, U, U, U, U, .sl s25_, .int .i64 i26_, .int .i64 i27_, U, U, U, U, U, U, U, U, U, U, U, U, U, U, U, U, U, U, U, U, U, U, U, U, U, U, U, U]
def impl_strip_endless_w2 (S : SatT) (K : AVal → H → Prop) (X0 : Frame → H → Prop) : (Frame → H → Prop) → Frame → H → Prop := fun X fr h => cwp S tab impl_strip_endless_M (impl_strip_endless_M 2) (sub [1, 1, 0, 0, 0, 1, 0, 1, 0, 0] (bodyOf Try.f121)) (kSeq (fun fr h => X (mask (impl_strip_endless_M 2) fr) h) (kBlk 2 (impl_strip_endless_ks3 S K X0))) fr h
def impl_strip_endless_L2 (S : SatT) (K : AVal → H → Prop) (X0 : Frame → H → Prop) (p0_ : Pt) (i1_ : Int) (i2_ : Int) (s7_ : Sl) (s8_ : Sl) (s25_ : Sl) (i26_ : Int) (i27_ : Int) (h : H) : Prop := loopK (impl_strip_endless_w2 S K X0) (impl_strip_endless_e2 p0_ i1_ i2_ s7_ s8_ s25_ i26_ i27_) h
def impl_strip_endless_C2 (S : SatT) (K : AVal → H → Prop) (X0 : Frame → H → Prop) (p0_ : Pt) (i1_ : Int) (i2_ : Int) (s7_ : Sl) (s8_ : Sl) (h : H) : Prop :=
 callB S i_slices_Equal_s_bool_bool_ [.sl s8_, .sl s7_] h fun b1 h0 =>
 bif b1 then
 K (.sl s7_) h0
 else
 X0 (impl_strip_endless_e0 p0_ i1_ i2_ s8_) h0
def impl_strip_endless_b2 (S : SatT) (K : AVal → H → Prop) (X0 : Frame → H → Prop) (X2 : Frame → H → Prop) (p0_ : Pt) (i1_ : Int) (i2_ : Int) (s7_ : Sl) (s8_ : Sl) (s25_ : Sl) (i26_ : Int) (i27_ : Int) (h : H) : Prop :=
 bif (decide (i27_ < i26_)) then
 ixS s25_ 3 i27_ fun p0 =>
 ldA p0 3 h fun cs1 =>
 newO [.int .i64 (0), .int .i64 (0), .int .i64 (0)] h fun p2 h3 =>
 stN p2 3 cs1 h3 fun h4 =>
 ixA p2 3 1 i1_ fun p5 =>
 ldI .i64 p5 h4 fun n6 =>
 ixA p2 3 1 i1_ fun p7 =>
 ldI .i64 p7 h4 fun n8 =>
 ixS s8_ 1 n8 fun p9 =>
 ldB p9 h4 fun b10 =>
 bif b10 then
 ixS s8_ 1 n6 fun p11 =>
 st1 p11 (.bool true) h4 fun h12 =>
 X2 (impl_strip_endless_e2 p0_ i1_ i2_ s7_ s8_ s25_ i26_ (w64 (i27_ + (1)))) h12
 else
 ixA p2 3 1 i2_ fun p13 =>
 ldI .i64 p13 h4 fun n14 =>
 ixS s7_ 1 n14 fun p15 =>
 ldB p15 h4 fun b16 =>
 ixS s8_ 1 n6 fun p17 =>
 st1 p17 (.bool b16) h4 fun h18 =>
 X2 (impl_strip_endless_e2 p0_ i1_ i2_ s7_ s8_ s25_ i26_ (w64 (i27_ + (1)))) h18
 else
 impl_strip_endless_C2 S K X0 p0_ i1_ i2_ s7_ s8_ h
theorem impl_strip_endless_link2 (S : SatT) (K : AVal → H → Prop) (X0 : Frame → H → Prop) (X2 : Frame → H → Prop) (p0_ : Pt) (i1_ : Int) (i2_ : Int) (s7_ : Sl) (s8_ : Sl) (s25_ : Sl) (i26_ : Int) (i27_ : Int) (h : H) : impl_strip_endless_w2 S K X0 X2 (impl_strip_endless_e2 p0_ i1_ i2_ s7_ s8_ s25_ i26_ i27_) h = impl_strip_endless_b2 S K X0 X2 p0_ i1_ i2_ s7_ s8_ s25_ i26_ i27_ h := by kernel_rfl
theorem impl_strip_endless_rule2 (S : SatT) (K : AVal → H → Prop) (X0 : Frame → H → Prop) (p0_ : Pt) (i1_ : Int) (i2_ : Int) (s7_ : Sl) (s8_ : Sl) (s25_ : Sl) (i26_ : Int) (I_ : Int → H → Prop) (m_ : Int → H → Nat)
    (hs : ∀ (X2 : Frame → H → Prop) (i27_ : Int) (h : H), I_ i27_ h → (∀ (i27_' : Int) (h' : H), I_ i27_' h' → m_ i27_' h' < m_ i27_ h → X2 (impl_strip_endless_e2 p0_ i1_ i2_ s7_ s8_ s25_ i26_ i27_') h') → impl_strip_endless_b2 S K X0 X2 p0_ i1_ i2_ s7_ s8_ s25_ i26_ i27_ h) (i27_ : Int) {h : H} (h0 : I_ i27_ h) : impl_strip_endless_L2 S K X0 p0_ i1_ i2_ s7_ s8_ s25_ i26_ i27_ h :=
  loop_rule (σ := (Int)) (fun s_ => impl_strip_endless_e2 p0_ i1_ i2_ s7_ s8_ s25_ i26_ (s_)) (fun s_ h => I_ (s_) h) (fun s_ h => m_ (s_) h)
    (fun X s_ h hi hx => (impl_strip_endless_link2 S K X0 X p0_ i1_ i2_ s7_ s8_ s25_ i26_ (s_) h).mpr (hs X (s_) h hi fun i27_' h' hi' hm' => hx (i27_') h' hi' hm')) (i27_) h0
theorem impl_strip_endless_unroll2 (S : SatT) (K : AVal → H → Prop) (X0 : Frame → H → Prop) (p0_ : Pt) (i1_ : Int) (i2_ : Int) (s7_ : Sl) (s8_ : Sl) (s25_ : Sl) (i26_ : Int) (i27_ : Int) (h : H) (hb : impl_strip_endless_b2 S K X0 (fun fr h => loopK (impl_strip_endless_w2 S K X0) fr h) p0_ i1_ i2_ s7_ s8_ s25_ i26_ i27_ h) : impl_strip_endless_L2 S K X0 p0_ i1_ i2_ s7_ s8_ s25_ i26_ i27_ h := loop_unroll ((impl_strip_endless_link2 S K X0 _ p0_ i1_ i2_ s7_ s8_ s25_ i26_ i27_ h).mpr hb)
def impl_strip_endless_b0 (S : SatT) (K : AVal → H → Prop) (X0 : Frame → H → Prop) (p0_ : Pt) (i1_ : Int) (i2_ : Int) (s7_ : Sl) (h : H) : Prop :=
 nilC (.ptr p0_) (
 isPt p0_ (
 ldI .i64 (Pt.add p0_ 3) h fun n0 =>
 mkS n0 [.bool false] h fun s1 h2 =>
 nilC (.ptr p0_) (
 isPt p0_ (
 ldS (Pt.add p0_ 4) h2 fun s3 =>
 impl_strip_endless_L2 S K X0 p0_ i1_ i2_ s7_ s1 s3 (s3.len : Int) (0) h2))))
theorem impl_strip_endless_link0 (S : SatT) (K : AVal → H → Prop) (X0 : Frame → H → Prop) (p0_ : Pt) (i1_ : Int) (i2_ : Int) (s7_ : Sl) (h : H) : impl_strip_endless_w0 S K X0 (impl_strip_endless_e0 p0_ i1_ i2_ s7_) h = impl_strip_endless_b0 S K X0 p0_ i1_ i2_ s7_ h := by kernel_rfl
theorem impl_strip_endless_rule0 (S : SatT) (K : AVal → H → Prop) (p0_ : Pt) (i1_ : Int) (i2_ : Int) (I_ : Sl → H → Prop) (m_ : Sl → H → Nat)
    (hs : ∀ (X0 : Frame → H → Prop) (s7_ : Sl) (h : H), I_ s7_ h → (∀ (s7_' : Sl) (h' : H), I_ s7_' h' → m_ s7_' h' < m_ s7_ h → X0 (impl_strip_endless_e0 p0_ i1_ i2_ s7_') h') → impl_strip_endless_b0 S K X0 p0_ i1_ i2_ s7_ h) (s7_ : Sl) {h : H} (h0 : I_ s7_ h) : impl_strip_endless_L0 S K p0_ i1_ i2_ s7_ h :=
  loop_rule (σ := (Sl)) (fun s_ => impl_strip_endless_e0 p0_ i1_ i2_ (s_)) (fun s_ h => I_ (s_) h) (fun s_ h => m_ (s_) h)
    (fun X s_ h hi hx => (impl_strip_endless_link0 S K X p0_ i1_ i2_ (s_) h).mpr (hs X (s_) h hi fun s7_' h' hi' hm' => hx (s7_') h' hi' hm')) (s7_) h0
theorem impl_strip_endless_unroll0 (S : SatT) (K : AVal → H → Prop) (p0_ : Pt) (i1_ : Int) (i2_ : Int) (s7_ : Sl) (h : H) (hb : impl_strip_endless_b0 S K (fun fr h => loopK (impl_strip_endless_w0 S K) fr h) p0_ i1_ i2_ s7_ h) : impl_strip_endless_L0 S K p0_ i1_ i2_ s7_ h := loop_unroll ((impl_strip_endless_link0 S K _ p0_ i1_ i2_ s7_ h).mpr hb)
def impl_strip_endless_main (S : SatT) (K : AVal → H → Prop) (x0 : Pt) (x1 : Int) (x2 : Int) (h : H) : Prop :=
 newS 1 1 [.bool true] h fun s0 h1 =>
 nilC (.ptr x0) (
 isPt x0 (
 ldI .i64 (Pt.add x0 3) h1 fun n2 =>
 callS S i_slices_Repeat_s_bool_bool_ [.sl s0, .int .i64 n2] h1 fun s4 h3 =>
 impl_strip_endless_L0 S K x0 x1 x2 s4 h3))
theorem impl_strip_endless_main_link (S : SatT) (K : AVal → H → Prop) (x0 : Pt) (x1 : Int) (x2 : Int) (h : H) : cwp S tab impl_strip_endless_M [] (bodyOf Try.f121) (kFun tab Try.f121.results.toList K) (fr0 Try.f121 [.ptr x0, .int .i64 x1, .int .i64 x2]) h = impl_strip_endless_main S K x0 x1 x2 h := by kernel_rfl
theorem impl_strip_endless_call (x0 : Pt) (x1 : Int) (x2 : Int) (h : H) (K : Sl → H → Prop) (hm : impl_strip_endless_main (Sat Try.prog) (fun v h' => ∃ r, v = .sl r ∧ K r h') x0 x1 x2 h) : callS (Sat Try.prog) i_impl_strip_endless [.ptr x0, .int .i64 x1, .int .i64 x2] h K := by
  have := Sat.ex tok mixed impl_strip_endless_M Try.func121 (c := bodyOf Try.f121) (by kernel_rfl) (calls_of Try.func121 (c := bodyOf Try.f121) (by kernel_rfl) (by decide)) ((impl_strip_endless_main_link _ _ x0 x1 x2 h).mpr hm)
  obtain ⟨v, h2, h3, r, rfl, h4⟩ := this; exact ⟨r, h2, h3, h4⟩

/-! ### loop.example/g01354/spec.l04Sorted -/
def spec_l04Sorted_M : Nat → List Nat := fun i => bif i == 0 then [4, 5, 6, 7, 8] else []
def spec_l04Sorted_ks6 (S : SatT) (K : AVal → H → Prop) : Kont := kSeq (cwp S tab spec_l04Sorted_M [] (sub [1, 1, 1, 1, 1] (bodyOf Try.f75)) (kFun tab (Try.f75).results.toList K)) (kFun tab (Try.f75).results.toList K)
def spec_l04Sorted_e0 (s4_ : Sl) (s5_ : Sl) (s6_ : Sl) (i7_ : Int) (i8_ : Int) : Frame := [U, U, U, U, .sl s4_, .sl s5_, .sl s6_, .int .i64 i7_, .int .i64 i8_, U, U, U, U, U, U, U, U, U, U, U, U, U, U, U, U, U, U, U, U, U, U, U, U, U, U, U, U, U, U, U, U, U, U, U, U, U, U, U, U, U, U, U, U, U, U, U, U, U, U, U, U, U, U, U, U, U, U, U, U, U, U, U, U, U, U, U, U, U, U, U, U, U, U, U, U, U, U, U, U, U, U, U, U, U]
def spec_l04Sorted_w0 (S : SatT) (K : AVal → H → Prop) : (Frame → H → Prop) → Frame → H → Prop := fun X fr h => cwp S tab spec_l04Sorted_M (spec_l04Sorted_M 0) (sub [1, 1, 1, 1, 0, 1, 0, 0] (bodyOf Try.f75)) (kSeq (fun fr h => X (mask (spec_l04Sorted_M 0) fr) h) (kBlk 0 (spec_l04Sorted_ks6 S K))) fr h
def spec_l04Sorted_L0 (S : SatT) (K : AVal → H → Prop) (s4_ : Sl) (s5_ : Sl) (s6_ : Sl) (i7_ : Int) (i8_ : Int) (h : H) : Prop := loopK (spec_l04Sorted_w0 S K) (spec_l04Sorted_e0 s4_ s5_ s6_ i7_ i8_) h
def spec_l04Sorted_C0 (S : SatT) (K : AVal → H → Prop) (s6_ : Sl) (h : H) : Prop :=
 K (.sl s6_) h
def spec_l04Sorted_b0 (S : SatT) (K : AVal → H → Prop) (X0 : Frame → H → Prop) (s4_ : Sl) (s5_ : Sl) (s6_ : Sl) (i7_ : Int) (i8_ : Int) (h : H) : Prop :=
 bif (decide (i7_ < (s4_.len : Int))) then
 bif (i8_ == (s5_.len : Int)) then
 ixS s4_ 1 i7_ fun p0 =>
 ldI .i64 p0 h fun n1 =>
 newS 1 1 [.int .i64 n1] h fun s2 h3 =>
 app s6_ s2 1 h3 fun s4 h5 =>
 X0 (spec_l04Sorted_e0 s4_ s5_ s4 (w64 (i7_ + (1))) i8_) h5
 else
 bif (decide (i7_ < (s4_.len : Int))) then
 ixS s4_ 1 i7_ fun p6 =>
 ldI .i64 p6 h fun n7 =>
 ixS s5_ 1 i8_ fun p8 =>
 ldI .i64 p8 h fun n9 =>
 bif (decide (n7 < n9)) then
 ixS s4_ 1 i7_ fun p10 =>
 ldI .i64 p10 h fun n11 =>
 newS 1 1 [.int .i64 n11] h fun s12 h13 =>
 app s6_ s12 1 h13 fun s14 h15 =>
 X0 (spec_l04Sorted_e0 s4_ s5_ s14 (w64 (i7_ + (1))) i8_) h15
 else
 bif (i7_ == (s4_.len : Int)) then
 ixS s5_ 1 i8_ fun p16 =>
 ldI .i64 p16 h fun n17 =>
 newS 1 1 [.int .i64 n17] h fun s18 h19 =>
 app s6_ s18 1 h19 fun s20 h21 =>
 X0 (spec_l04Sorted_e0 s4_ s5_ s20 i7_ (w64 (i8_ + (1)))) h21
 else
 ixS s5_ 1 i8_ fun p22 =>
 ldI .i64 p22 h fun n23 =>
 ixS s4_ 1 i7_ fun p24 =>
 ldI .i64 p24 h fun n25 =>
 bif (decide (n23 < n25)) then
 ixS s5_ 1 i8_ fun p26 =>
 ldI .i64 p26 h fun n27 =>
 newS 1 1 [.int .i64 n27] h fun s28 h29 =>
 app s6_ s28 1 h29 fun s30 h31 =>
 X0 (spec_l04Sorted_e0 s4_ s5_ s30 i7_ (w64 (i8_ + (1)))) h31
 else
 X0 (spec_l04Sorted_e0 s4_ s5_ s6_ (w64 (i7_ + (1))) i8_) h
 else
 bif (i7_ == (s4_.len : Int)) then
 ixS s5_ 1 i8_ fun p32 =>
 ldI .i64 p32 h fun n33 =>
 newS 1 1 [.int .i64 n33] h fun s34 h35 =>
 app s6_ s34 1 h35 fun s36 h37 =>
 X0 (spec_l04Sorted_e0 s4_ s5_ s36 i7_ (w64 (i8_ + (1)))) h37
 else
 ixS s5_ 1 i8_ fun p38 =>
 ldI .i64 p38 h fun n39 =>
 ixS s4_ 1 i7_ fun p40 =>
 ldI .i64 p40 h fun n41 =>
 bif (decide (n39 < n41)) then
 ixS s5_ 1 i8_ fun p42 =>
 ldI .i64 p42 h fun n43 =>
 newS 1 1 [.int .i64 n43] h fun s44 h45 =>
 app s6_ s44 1 h45 fun s46 h47 =>
 X0 (spec_l04Sorted_e0 s4_ s5_ s46 i7_ (w64 (i8_ + (1)))) h47
 else
 X0 (spec_l04Sorted_e0 s4_ s5_ s6_ (w64 (i7_ + (1))) i8_) h
 else
 bif (decide (i8_ < (s5_.len : Int))) then
 bif (i8_ == (s5_.len : Int)) then
 ixS s4_ 1 i7_ fun p48 =>
 ldI .i64 p48 h fun n49 =>
 newS 1 1 [.int .i64 n49] h fun s50 h51 =>
 app s6_ s50 1 h51 fun s52 h53 =>
 X0 (spec_l04Sorted_e0 s4_ s5_ s52 (w64 (i7_ + (1))) i8_) h53
 else
 bif (decide (i7_ < (s4_.len : Int))) then
 ixS s4_ 1 i7_ fun p54 =>
 ldI .i64 p54 h fun n55 =>
 ixS s5_ 1 i8_ fun p56 =>
 ldI .i64 p56 h fun n57 =>
 bif (decide (n55 < n57)) then
 ixS s4_ 1 i7_ fun p58 =>
 ldI .i64 p58 h fun n59 =>
 newS 1 1 [.int .i64 n59] h fun s60 h61 =>
 app s6_ s60 1 h61 fun s62 h63 =>
 X0 (spec_l04Sorted_e0 s4_ s5_ s62 (w64 (i7_ + (1))) i8_) h63
 else
 bif (i7_ == (s4_.len : Int)) then
 ixS s5_ 1 i8_ fun p64 =>
 ldI .i64 p64 h fun n65 =>
 newS 1 1 [.int .i64 n65] h fun s66 h67 =>
 app s6_ s66 1 h67 fun s68 h69 =>
 X0 (spec_l04Sorted_e0 s4_ s5_ s68 i7_ (w64 (i8_ + (1)))) h69
 else
 ixS s5_ 1 i8_ fun p70 =>
 ldI .i64 p70 h fun n71 =>
 ixS s4_ 1 i7_ fun p72 =>
 ldI .i64 p72 h fun n73 =>
 bif (decide (n71 < n73)) then
 ixS s5_ 1 i8_ fun p74 =>
 ldI .i64 p74 h fun n75 =>
 newS 1 1 [.int .i64 n75] h fun s76 h77 =>
 app s6_ s76 1 h77 fun s78 h79 =>
 X0 (spec_l04Sorted_e0 s4_ s5_ s78 i7_ (w64 (i8_ + (1)))) h79
 else
 X0 (spec_l04Sorted_e0 s4_ s5_ s6_ (w64 (i7_ + (1))) i8_) h
 else
 bif (i7_ == (s4_.len : Int)) then
 ixS s5_ 1 i8_ fun p80 =>
 ldI .i64 p80 h fun n81 =>
 newS 1 1 [.int .i64 n81] h fun s82 h83 =>
 app s6_ s82 1 h83 fun s84 h85 =>
 X0 (spec_l04Sorted_e0 s4_ s5_ s84 i7_ (w64 (i8_ + (1)))) h85
 else
 ixS s5_ 1 i8_ fun p86 =>
 ldI .i64 p86 h fun n87 =>
 ixS s4_ 1 i7_ fun p88 =>
 ldI .i64 p88 h fun n89 =>
 bif (decide (n87 < n89)) then
 ixS s5_ 1 i8_ fun p90 =>
 ldI .i64 p90 h fun n91 =>
 newS 1 1 [.int .i64 n91] h fun s92 h93 =>
 app s6_ s92 1 h93 fun s94 h95 =>
 X0 (spec_l04Sorted_e0 s4_ s5_ s94 i7_ (w64 (i8_ + (1)))) h95
 else
 X0 (spec_l04Sorted_e0 s4_ s5_ s6_ (w64 (i7_ + (1))) i8_) h
 else
 spec_l04Sorted_C0 S K s6_ h
theorem spec_l04Sorted_link0 (S : SatT) (K : AVal → H → Prop) (X0 : Frame → H → Prop) (s4_ : Sl) (s5_ : Sl) (s6_ : Sl) (i7_ : Int) (i8_ : Int) (h : H) : spec_l04Sorted_w0 S K X0 (spec_l04Sorted_e0 s4_ s5_ s6_ i7_ i8_) h = spec_l04Sorted_b0 S K X0 s4_ s5_ s6_ i7_ i8_ h := by kernel_rfl
theorem spec_l04Sorted_rule0 (S : SatT) (K : AVal → H → Prop) (s4_ : Sl) (s5_ : Sl) (I_ : Sl → Int → Int → H → Prop) (m_ : Sl → Int → Int → H → Nat)
    (hs : ∀ (X0 : Frame → H → Prop) (s6_ : Sl) (i7_ : Int) (i8_ : Int) (h : H), I_ s6_ i7_ i8_ h → (∀ (s6_' : Sl) (i7_' : Int) (i8_' : Int) (h' : H), I_ s6_' i7_' i8_' h' → m_ s6_' i7_' i8_' h' < m_ s6_ i7_ i8_ h → X0 (spec_l04Sorted_e0 s4_ s5_ s6_' i7_' i8_') h') → spec_l04Sorted_b0 S K X0 s4_ s5_ s6_ i7_ i8_ h) (s6_ : Sl) (i7_ : Int) (i8_ : Int) {h : H} (h0 : I_ s6_ i7_ i8_ h) : spec_l04Sorted_L0 S K s4_ s5_ s6_ i7_ i8_ h :=
  loop_rule (σ := (Sl) × (Int) × (Int)) (fun s_ => spec_l04Sorted_e0 s4_ s5_ (s_.1) (s_.2.1) (s_.2.2)) (fun s_ h => I_ (s_.1) (s_.2.1) (s_.2.2) h) (fun s_ h => m_ (s_.1) (s_.2.1) (s_.2.2) h)
    (fun X s_ h hi hx => (spec_l04Sorted_link0 S K X s4_ s5_ (s_.1) (s_.2.1) (s_.2.2) h).mpr (hs X (s_.1) (s_.2.1) (s_.2.2) h hi fun s6_' i7_' i8_' h' hi' hm' => hx (s6_', i7_', i8_') h' hi' hm')) (s6_, i7_, i8_) h0
theorem spec_l04Sorted_unroll0 (S : SatT) (K : AVal → H → Prop) (s4_ : Sl) (s5_ : Sl) (s6_ : Sl) (i7_ : Int) (i8_ : Int) (h : H) (hb : spec_l04Sorted_b0 S K (fun fr h => loopK (spec_l04Sorted_w0 S K) fr h) s4_ s5_ s6_ i7_ i8_ h) : spec_l04Sorted_L0 S K s4_ s5_ s6_ i7_ i8_ h := loop_unroll ((spec_l04Sorted_link0 S K _ s4_ s5_ s6_ i7_ i8_ h).mpr hb)
def spec_l04Sorted_main (S : SatT) (K : AVal → H → Prop) (x0 : Sl) (h : H) : Prop :=
 bif (decide ((x0.len : Int) < (2))) then
 K (.sl x0) h
 else
 nz (2) (
 slotK 12 h fun h0 =>
 cut x0 1 (0) (w64 (Int.tdiv (x0.len : Int) (2))) h0 fun s1 =>
 callS S i_spec_l04Sorted [.sl s1] h0 fun s3 h2 =>
 cut x0 1 (w64 (Int.tdiv (x0.len : Int) (2))) (x0.len : Int) h2 fun s4 =>
 okS h0 x0 ∧ (
 callS S i_spec_l04Sorted [.sl s4] h2 fun s6 h5 =>
 newSat 0 1 [] h5 (h.length + 8) fun s7 h8 =>
 okS h5 x0 ∧ (
 okS h5 x0 ∧ (
 okS h8 x0 ∧ (
 okS h8 x0 ∧ (
 spec_l04Sorted_L0 S K s3 s6 s7 (0) (0) h8))))))
theorem spec_l04Sorted_main_link (S : SatT) (K : AVal → H → Prop) (x0 : Sl) (h : H) : cwp S tab spec_l04Sorted_M [] (bodyOf Try.f75) (kFun tab Try.f75.results.toList K) (fr0 Try.f75 [.sl x0]) h = spec_l04Sorted_main S K x0 h := by kernel_rfl
theorem spec_l04Sorted_call (x0 : Sl) (h : H) (K : Sl → H → Prop) (hm : spec_l04Sorted_main (Sat Try.prog) (fun v h' => ∃ r, v = .sl r ∧ K r h') x0 h) : callS (Sat Try.prog) i_spec_l04Sorted [.sl x0] h K := by
  have := Sat.ex tok mixed spec_l04Sorted_M Try.func75 (c := bodyOf Try.f75) (by kernel_rfl) (calls_of Try.func75 (c := bodyOf Try.f75) (by kernel_rfl) (by decide)) ((spec_l04Sorted_main_link _ _ x0 h).mpr hm)
  obtain ⟨v, h2, h3, r, rfl, h4⟩ := this; exact ⟨r, h2, h3, h4⟩

/-! ### slices.Compare[[]int64,int64] -/
def slices_Compare_s_int64_int64__M : Nat → List Nat := fun i => bif i == 0 then [0, 1, 9, 10, 11] else []
def slices_Compare_s_int64_int64__ks1 (S : SatT) (K : AVal → H → Prop) : Kont := kSeq (cwp S tab slices_Compare_s_int64_int64__M [] (sub [1, 1] (bodyOf Try.f119)) (kFun tab (Try.f119).results.toList K)) (kFun tab (Try.f119).results.toList K)
def slices_Compare_s_int64_int64__e0 (s0_ : Sl) (s1_ : Sl) (s9_ : Sl) (i10_ : Int) (i11_ : Int) : Frame := [.sl s0_, .sl s1_, U, U, U, U, U, U, U, .sl s9_, .int .i64 i10_, .int .i64 i11_, U, U, U, U, U, U, U, U, U, U, U, U, U, U, U, U, U, U, U, U, U, U, U, U]
def slices_Compare_s_int64_int64__w0 (S : SatT) (K : AVal → H → Prop) : (Frame → H → Prop) → Frame → H → Prop := fun X fr h => cwp S tab slices_Compare_s_int64_int64__M (slices_Compare_s_int64_int64__M 0) (sub [1, 0, 1, 0, 0] (bodyOf Try.f119)) (kSeq (fun fr h => X (mask (slices_Compare_s_int64_int64__M 0) fr) h) (kBlk 0 (slices_Compare_s_int64_int64__ks1 S K))) fr h
def slices_Compare_s_int64_int64__L0 (S : SatT) (K : AVal → H → Prop) (s0_ : Sl) (s1_ : Sl) (s9_ : Sl) (i10_ : Int) (i11_ : Int) (h : H) : Prop := loopK (slices_Compare_s_int64_int64__w0 S K) (slices_Compare_s_int64_int64__e0 s0_ s1_ s9_ i10_ i11_) h
def slices_Compare_s_int64_int64__C0 (S : SatT) (K : AVal → H → Prop) (s0_ : Sl) (s1_ : Sl) (h : H) : Prop :=
 bif (decide ((s0_.len : Int) < (s1_.len : Int))) then
 K (.int .i64 (-1)) h
 else
 K (.int .i64 (0)) h
def slices_Compare_s_int64_int64__b0 (S : SatT) (K : AVal → H → Prop) (X0 : Frame → H → Prop) (s0_ : Sl) (s1_ : Sl) (s9_ : Sl) (i10_ : Int) (i11_ : Int) (h : H) : Prop :=
 bif (decide (i11_ < i10_)) then
 ixS s9_ 1 i11_ fun p0 =>
 ldI .i64 p0 h fun n1 =>
 bif (decide (i11_ ≥ (s1_.len : Int))) then
 K (.int .i64 (1)) h
 else
 ixS s1_ 1 i11_ fun p2 =>
 ldI .i64 p2 h fun n3 =>
 callI S .i64 i_cmp_Compare_int64_ [.int .i64 n1, .int .i64 n3] h fun n5 h4 =>
 bif (n5 != (0)) then
 K (.int .i64 n5) h4
 else
 X0 (slices_Compare_s_int64_int64__e0 s0_ s1_ s9_ i10_ (w64 (i11_ + (1)))) h4
 else
 slices_Compare_s_int64_int64__C0 S K s0_ s1_ h
theorem slices_Compare_s_int64_int64__link0 (S : SatT) (K : AVal → H → Prop) (X0 : Frame → H → Prop) (s0_ : Sl) (s1_ : Sl) (s9_ : Sl) (i10_ : Int) (i11_ : Int) (h : H) : slices_Compare_s_int64_int64__w0 S K X0 (slices_Compare_s_int64_int64__e0 s0_ s1_ s9_ i10_ i11_) h = slices_Compare_s_int64_int64__b0 S K X0 s0_ s1_ s9_ i10_ i11_ h := by kernel_rfl
theorem slices_Compare_s_int64_int64__rule0 (S : SatT) (K : AVal → H → Prop) (s0_ : Sl) (s1_ : Sl) (s9_ : Sl) (i10_ : Int) (I_ : Int → H → Prop) (m_ : Int → H → Nat)
    (hs : ∀ (X0 : Frame → H → Prop) (i11_ : Int) (h : H), I_ i11_ h → (∀ (i11_' : Int) (h' : H), I_ i11_' h' → m_ i11_' h' < m_ i11_ h → X0 (slices_Compare_s_int64_int64__e0 s0_ s1_ s9_ i10_ i11_') h') → slices_Compare_s_int64_int64__b0 S K X0 s0_ s1_ s9_ i10_ i11_ h) (i11_ : Int) {h : H} (h0 : I_ i11_ h) : slices_Compare_s_int64_int64__L0 S K s0_ s1_ s9_ i10_ i11_ h :=
  loop_rule (σ := (Int)) (fun s_ => slices_Compare_s_int64_int64__e0 s0_ s1_ s9_ i10_ (s_)) (fun s_ h => I_ (s_) h) (fun s_ h => m_ (s_) h)
    (fun X s_ h hi hx => (slices_Compare_s_int64_int64__link0 S K X s0_ s1_ s9_ i10_ (s_) h).mpr (hs X (s_) h hi fun i11_' h' hi' hm' => hx (i11_') h' hi' hm')) (i11_) h0
theorem slices_Compare_s_int64_int64__unroll0 (S : SatT) (K : AVal → H → Prop) (s0_ : Sl) (s1_ : Sl) (s9_ : Sl) (i10_ : Int) (i11_ : Int) (h : H) (hb : slices_Compare_s_int64_int64__b0 S K (fun fr h => loopK (slices_Compare_s_int64_int64__w0 S K) fr h) s0_ s1_ s9_ i10_ i11_ h) : slices_Compare_s_int64_int64__L0 S K s0_ s1_ s9_ i10_ i11_ h := loop_unroll ((slices_Compare_s_int64_int64__link0 S K _ s0_ s1_ s9_ i10_ i11_ h).mpr hb)
def slices_Compare_s_int64_int64__main (S : SatT) (K : AVal → H → Prop) (x0 : Sl) (x1 : Sl) (h : H) : Prop :=
 slices_Compare_s_int64_int64__L0 S K x0 x1 x0 (x0.len : Int) (0) h
theorem slices_Compare_s_int64_int64__main_link (S : SatT) (K : AVal → H → Prop) (x0 : Sl) (x1 : Sl) (h : H) : cwp S tab slices_Compare_s_int64_int64__M [] (bodyOf Try.f119) (kFun tab Try.f119.results.toList K) (fr0 Try.f119 [.sl x0, .sl x1]) h = slices_Compare_s_int64_int64__main S K x0 x1 h := by kernel_rfl
theorem slices_Compare_s_int64_int64__call (x0 : Sl) (x1 : Sl) (h : H) (K : Int → H → Prop) (hm : slices_Compare_s_int64_int64__main (Sat Try.prog) (fun v h' => ∃ r, v = .int .i64 r ∧ K r h') x0 x1 h) : callI (Sat Try.prog) .i64 i_slices_Compare_s_int64_int64_ [.sl x0, .sl x1] h K := by
  have := Sat.ex tok mixed slices_Compare_s_int64_int64__M Try.func119 (c := bodyOf Try.f119) (by kernel_rfl) (calls_of Try.func119 (c := bodyOf Try.f119) (by kernel_rfl) (by decide)) ((slices_Compare_s_int64_int64__main_link _ _ x0 x1 h).mpr hm)
  obtain ⟨v, h2, h3, r, rfl, h4⟩ := this; exact ⟨r, h2, h3, h4⟩

/-! ### slices.IndexFunc[[]int64,int64] -/
def slices_IndexFunc_s_int64_int64__M : Nat → List Nat := fun i => bif i == 0 then [0, 1, 7, 8] else []
def slices_IndexFunc_s_int64_int64__ks1 (S : SatT) (K : AVal → H → Prop) : Kont := kSeq (cwp S tab slices_IndexFunc_s_int64_int64__M [] (sub [1, 1] (bodyOf Try.f125)) (kFun tab (Try.f125).results.toList K)) (kFun tab (Try.f125).results.toList K)
def slices_IndexFunc_s_int64_int64__e0 (s0_ : Sl) (f1_ : AVal) (i7_ : Int) (i8_ : Int) : Frame := [.sl s0_, f1_, U, U, U, U, U, .int .i64 i7_, .int .i64 i8_, U, U, U, U, U, U, U, U, U, U]
def slices_IndexFunc_s_int64_int64__w0 (S : SatT) (K : AVal → H → Prop) : (Frame → H → Prop) → Frame → H → Prop := fun X fr h => cwp S tab slices_IndexFunc_s_int64_int64__M (slices_IndexFunc_s_int64_int64__M 0) (sub [1, 0, 1, 0, 0] (bodyOf Try.f125)) (kSeq (fun fr h => X (mask (slices_IndexFunc_s_int64_int64__M 0) fr) h) (kBlk 0 (slices_IndexFunc_s_int64_int64__ks1 S K))) fr h
def slices_IndexFunc_s_int64_int64__L0 (S : SatT) (K : AVal → H → Prop) (s0_ : Sl) (f1_ : AVal) (i7_ : Int) (i8_ : Int) (h : H) : Prop := loopK (slices_IndexFunc_s_int64_int64__w0 S K) (slices_IndexFunc_s_int64_int64__e0 s0_ f1_ i7_ i8_) h
def slices_IndexFunc_s_int64_int64__C0 (S : SatT) (K : AVal → H → Prop) (h : H) : Prop :=
 K (.int .i64 (-1)) h
def slices_IndexFunc_s_int64_int64__b0 (S : SatT) (K : AVal → H → Prop) (X0 : Frame → H → Prop) (s0_ : Sl) (f1_ : AVal) (i7_ : Int) (i8_ : Int) (h : H) : Prop :=
 bif (decide (i8_ < i7_)) then
 ixS s0_ 1 i8_ fun p0 =>
 ldI .i64 p0 h fun n1 =>
 viaF f1_ [.int .i64 n1] fun g2 ys3 =>
 callB S g2 ys3 h fun b5 h4 =>
 bif b5 then
 K (.int .i64 i8_) h4
 else
 X0 (slices_IndexFunc_s_int64_int64__e0 s0_ f1_ i7_ (w64 (i8_ + (1)))) h4
 else
 slices_IndexFunc_s_int64_int64__C0 S K h
theorem slices_IndexFunc_s_int64_int64__link0 (S : SatT) (K : AVal → H → Prop) (X0 : Frame → H → Prop) (s0_ : Sl) (f1_ : AVal) (i7_ : Int) (i8_ : Int) (h : H) : slices_IndexFunc_s_int64_int64__w0 S K X0 (slices_IndexFunc_s_int64_int64__e0 s0_ f1_ i7_ i8_) h = slices_IndexFunc_s_int64_int64__b0 S K X0 s0_ f1_ i7_ i8_ h := by kernel_rfl
theorem slices_IndexFunc_s_int64_int64__rule0 (S : SatT) (K : AVal → H → Prop) (s0_ : Sl) (f1_ : AVal) (i7_ : Int) (I_ : Int → H → Prop) (m_ : Int → H → Nat)
    (hs : ∀ (X0 : Frame → H → Prop) (i8_ : Int) (h : H), I_ i8_ h → (∀ (i8_' : Int) (h' : H), I_ i8_' h' → m_ i8_' h' < m_ i8_ h → X0 (slices_IndexFunc_s_int64_int64__e0 s0_ f1_ i7_ i8_') h') → slices_IndexFunc_s_int64_int64__b0 S K X0 s0_ f1_ i7_ i8_ h) (i8_ : Int) {h : H} (h0 : I_ i8_ h) : slices_IndexFunc_s_int64_int64__L0 S K s0_ f1_ i7_ i8_ h :=
  loop_rule (σ := (Int)) (fun s_ => slices_IndexFunc_s_int64_int64__e0 s0_ f1_ i7_ (s_)) (fun s_ h => I_ (s_) h) (fun s_ h => m_ (s_) h)
    (fun X s_ h hi hx => (slices_IndexFunc_s_int64_int64__link0 S K X s0_ f1_ i7_ (s_) h).mpr (hs X (s_) h hi fun i8_' h' hi' hm' => hx (i8_') h' hi' hm')) (i8_) h0
theorem slices_IndexFunc_s_int64_int64__unroll0 (S : SatT) (K : AVal → H → Prop) (s0_ : Sl) (f1_ : AVal) (i7_ : Int) (i8_ : Int) (h : H) (hb : slices_IndexFunc_s_int64_int64__b0 S K (fun fr h => loopK (slices_IndexFunc_s_int64_int64__w0 S K) fr h) s0_ f1_ i7_ i8_ h) : slices_IndexFunc_s_int64_int64__L0 S K s0_ f1_ i7_ i8_ h := loop_unroll ((slices_IndexFunc_s_int64_int64__link0 S K _ s0_ f1_ i7_ i8_ h).mpr hb)
def slices_IndexFunc_s_int64_int64__main (S : SatT) (K : AVal → H → Prop) (x0 : Sl) (x1 : AVal) (h : H) : Prop :=
 slices_IndexFunc_s_int64_int64__L0 S K x0 x1 (x0.len : Int) (0) h
theorem slices_IndexFunc_s_int64_int64__main_link (S : SatT) (K : AVal → H → Prop) (x0 : Sl) (x1 : AVal) (h : H) : cwp S tab slices_IndexFunc_s_int64_int64__M [] (bodyOf Try.f125) (kFun tab Try.f125.results.toList K) (fr0 Try.f125 [.sl x0, x1]) h = slices_IndexFunc_s_int64_int64__main S K x0 x1 h := by kernel_rfl
theorem slices_IndexFunc_s_int64_int64__call (x0 : Sl) (x1 : AVal) (h : H) (K : Int → H → Prop) (hm : slices_IndexFunc_s_int64_int64__main (Sat Try.prog) (fun v h' => ∃ r, v = .int .i64 r ∧ K r h') x0 x1 h) : callI (Sat Try.prog) .i64 i_slices_IndexFunc_s_int64_int64_ [.sl x0, x1] h K := by
  have := Sat.ex tok mixed slices_IndexFunc_s_int64_int64__M Try.func125 (c := bodyOf Try.f125) (by kernel_rfl) (calls_of Try.func125 (c := bodyOf Try.f125) (by kernel_rfl) (by decide)) ((slices_IndexFunc_s_int64_int64__main_link _ _ x0 x1 h).mpr hm)
  obtain ⟨v, h2, h3, r, rfl, h4⟩ := this; exact ⟨r, h2, h3, h4⟩

end Go.Proofs.Ytdmhchgaeepdmaa.Cl
