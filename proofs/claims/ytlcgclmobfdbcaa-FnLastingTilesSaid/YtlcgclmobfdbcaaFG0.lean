/- Typed forms of functions, and their links. No claim is stated here. -/
import Derived.Test.YtlcgclmobfdbcaaFT
/- Typed forms of functions of the program, and their links. Printed by program. No claim is stated here. -/
set_option linter.unusedVariables false
namespace Go.Proofs.Ytlcgclmobfdbcaa.Cl
open Go
abbrev KT := AVal → H → Prop
abbrev XT := Frame → H → Prop
/-! ### loop.example/g01354/impl.IsDetermined -/
def impl_IsDetermined_M : Nat → List Nat := fun i => bif i == 2 then [2, 7, 8, 10, 24, 25, 26, 34, 35, 36] else bif i == 0 then [2, 7, 8, 24, 25, 26] else []
def impl_IsDetermined_ks6 (S : SatT) (K : KT) : Kont := kSeq (cwp S tab impl_IsDetermined_M [] (sub [1, 1, 1, 1] (bodyOf Try.f16)) (kFun tab (Try.f16).results.toList K)) (kFun tab (Try.f16).results.toList K)
def impl_IsDetermined_e0 (p2_ : Pt) (i7_ i8_ : Int) (s24_ : Sl) (i25_ i26_ : Int) : Frame := [U, U, .ptr p2_, U, U, U, U, .int .i64 i7_, .int .i64 i8_, U, U, U, U, U, U, U, U, U, U, U, U, U, U, U, .sl s24_, .int .i64 i25_, .int .i64 i26_, U, U, U, U, U, U, U, U, U, U, U, U, U, U, U, U, U, U, U, U, U, U, U, U, U, U, U, U, U, U, U]
def impl_IsDetermined_w0 (S : SatT) (K : KT) : (XT) → XT := fun X fr h => cwp S tab impl_IsDetermined_M (impl_IsDetermined_M 0) (sub [1, 1, 1, 0, 1, 0, 0] (bodyOf Try.f16)) (kSeq (fun fr h => X (mask (impl_IsDetermined_M 0) fr) h) (kBlk 0 (impl_IsDetermined_ks6 S K))) fr h
def impl_IsDetermined_L0 (S : SatT) (K : KT) (p2_ : Pt) (i7_ i8_ : Int) (s24_ : Sl) (i25_ i26_ : Int) (h : H) : Prop := loopK (impl_IsDetermined_w0 S K) (impl_IsDetermined_e0 p2_ i7_ i8_ s24_ i25_ i26_) h
def impl_IsDetermined_ks10 (S : SatT) (K : KT) (X0 : XT) : Kont := kSeq (cwp S tab impl_IsDetermined_M (impl_IsDetermined_M 0) (sub [1, 1, 1, 0, 1, 0, 0, 1, 1, 1] (bodyOf Try.f16)) (kSeq (fun fr h => X0 (mask (impl_IsDetermined_M 0) fr) h) (kBlk 0 (impl_IsDetermined_ks6 S K)))) (kSeq (fun fr h => X0 (mask (impl_IsDetermined_M 0) fr) h) (kBlk 0 (impl_IsDetermined_ks6 S K)))
def impl_IsDetermined_e2 (p2_ : Pt) (i7_ i8_ : Int) (p10_ : Pt) (s24_ : Sl) (i25_ i26_ : Int) (s34_ : Sl) (i35_ i36_ : Int) : Frame := [U, U, .ptr p2_, U, U, U, U, .int .i64 i7_, .int .i64 i8_, U, .ptr p10_, U, U, U, U, U, U, U, U, U, U, U, U, U, .sl s24_, .int .i64 i25_, .int .i64 i26_, U, U, U, U, U, U, U, .sl s34_, .int .i64 i35_, .int .i64 i36_, U, U, U, U, U, U, U, U, U, U, U, U, U, U, U, U, U, U, U, U, U]
def impl_IsDetermined_w2 (S : SatT) (K : KT) (X0 : XT) : (XT) → XT := fun X fr h => cwp S tab impl_IsDetermined_M (impl_IsDetermined_M 2) (sub [1, 1, 1, 0, 1, 0, 0, 1, 1, 0, 0, 1, 1, 0, 0] (bodyOf Try.f16)) (kSeq (fun fr h => X (mask (impl_IsDetermined_M 2) fr) h) (kBlk 2 (kBlk 1 (impl_IsDetermined_ks10 S K X0)))) fr h
def impl_IsDetermined_L2 (S : SatT) (K : KT) (X0 : XT) (p2_ : Pt) (i7_ i8_ : Int) (p10_ : Pt) (s24_ : Sl) (i25_ i26_ : Int) (s34_ : Sl) (i35_ i36_ : Int) (h : H) : Prop := loopK (impl_IsDetermined_w2 S K X0) (impl_IsDetermined_e2 p2_ i7_ i8_ p10_ s24_ i25_ i26_ s34_ i35_ i36_) h
def impl_IsDetermined_C1 (S : SatT) (K : KT) (X0 : XT) (p2_ : Pt) (i7_ i8_ : Int) (s24_ : Sl) (i25_ i26_ : Int) (h : H) : Prop :=
 X0 (impl_IsDetermined_e0 p2_ i7_ i8_ s24_ i25_ (w64 (i26_ + (1)))) h
def impl_IsDetermined_C2 (S : SatT) (K : KT) (X0 : XT) (p2_ : Pt) (i7_ i8_ : Int) (s24_ : Sl) (i25_ i26_ : Int) (h : H) : Prop :=
 impl_IsDetermined_C1 S K X0 p2_ i7_ i8_ s24_ i25_ i26_ h
def impl_IsDetermined_b2 (S : SatT) (K : KT) (X0 X2 : XT) (p2_ : Pt) (i7_ i8_ : Int) (p10_ : Pt) (s24_ : Sl) (i25_ i26_ : Int) (s34_ : Sl) (i35_ i36_ : Int) (h : H) : Prop :=
 bif (decide (i36_ < i35_)) then
 ixS s34_ 4 i36_ fun p0 =>
 ldA p0 4 h fun cs1 =>
 newO [.int .i64 (0), .int .i64 (0), .int .i64 (0), .int .i64 (0)] h fun p2 h3 =>
 stN p2 4 cs1 h3 fun h4 =>
 ixA p10_ 4 1 i7_ fun p5 =>
 ldI .i64 p5 h4 fun n6 =>
 ixA p2 4 1 i7_ fun p7 =>
 ldI .i64 p7 h4 fun n8 =>
 bif (n6 == n8) then
 ixA p10_ 4 1 i8_ fun p9 =>
 ldI .i64 p9 h4 fun n10 =>
 ixA p2 4 1 i8_ fun p11 =>
 ldI .i64 p11 h4 fun n12 =>
 bif (n10 == n12) then
 K (.tuple [.bool false, .int .i64 (0)]) h4
 else
 X2 (impl_IsDetermined_e2 p2_ i7_ i8_ p10_ s24_ i25_ i26_ s34_ i35_ (w64 (i36_ + (1)))) h4
 else
 X2 (impl_IsDetermined_e2 p2_ i7_ i8_ p10_ s24_ i25_ i26_ s34_ i35_ (w64 (i36_ + (1)))) h4
 else
 impl_IsDetermined_C2 S K X0 p2_ i7_ i8_ s24_ i25_ i26_ h
theorem impl_IsDetermined_link2 (S : SatT) (K : KT) (X0 X2 : XT) (p2_ : Pt) (i7_ i8_ : Int) (p10_ : Pt) (s24_ : Sl) (i25_ i26_ : Int) (s34_ : Sl) (i35_ i36_ : Int) (h : H) : impl_IsDetermined_w2 S K X0 X2 (impl_IsDetermined_e2 p2_ i7_ i8_ p10_ s24_ i25_ i26_ s34_ i35_ i36_) h = impl_IsDetermined_b2 S K X0 X2 p2_ i7_ i8_ p10_ s24_ i25_ i26_ s34_ i35_ i36_ h := by kernel_rfl
theorem impl_IsDetermined_rule2 (S : SatT) (K : KT) (X0 : XT) (p2_ : Pt) (i7_ i8_ : Int) (p10_ : Pt) (s24_ : Sl) (i25_ i26_ : Int) (s34_ : Sl) (i35_ : Int) (I_ : Int → H → Prop) (m_ : Int → H → Nat)
    (hs : ∀ (X2 : XT) (i36_ : Int) (h : H), I_ i36_ h → (∀ (i36_' : Int) (h' : H), I_ i36_' h' → m_ i36_' h' < m_ i36_ h → X2 (impl_IsDetermined_e2 p2_ i7_ i8_ p10_ s24_ i25_ i26_ s34_ i35_ i36_') h') → impl_IsDetermined_b2 S K X0 X2 p2_ i7_ i8_ p10_ s24_ i25_ i26_ s34_ i35_ i36_ h) (i36_ : Int) {h : H} (h0 : I_ i36_ h) : impl_IsDetermined_L2 S K X0 p2_ i7_ i8_ p10_ s24_ i25_ i26_ s34_ i35_ i36_ h :=
  loop_rule (σ := (Int)) (fun s_ => impl_IsDetermined_e2 p2_ i7_ i8_ p10_ s24_ i25_ i26_ s34_ i35_ (s_)) (fun s_ h => I_ (s_) h) (fun s_ h => m_ (s_) h)
    (fun X s_ h hi hx => (impl_IsDetermined_link2 S K X0 X p2_ i7_ i8_ p10_ s24_ i25_ i26_ s34_ i35_ (s_) h).mpr (hs X (s_) h hi fun i36_' h' hi' hm' => hx (i36_') h' hi' hm')) (i36_) h0
def impl_IsDetermined_C0 (S : SatT) (K : KT) (h : H) : Prop :=
 K (.tuple [.bool true, .int .i64 (0)]) h
def impl_IsDetermined_b0 (S : SatT) (K : KT) (X0 : XT) (p2_ : Pt) (i7_ i8_ : Int) (s24_ : Sl) (i25_ i26_ : Int) (h : H) : Prop :=
 bif (decide (i26_ < i25_)) then
 ixS s24_ 4 i26_ fun p0 =>
 ldA p0 4 h fun cs1 =>
 newO [.int .i64 (0), .int .i64 (0), .int .i64 (0), .int .i64 (0)] h fun p2 h3 =>
 stN p2 4 cs1 h3 fun h4 =>
 isPt p2_ (
 ldS (Pt.add p2_ 1) h4 fun s5 =>
 cut s5 4 (0) i26_ h4 fun s6 =>
 impl_IsDetermined_L2 S K X0 p2_ i7_ i8_ p2 s24_ i25_ i26_ s6 (s6.len : Int) (0) h4)
 else
 impl_IsDetermined_C0 S K h
theorem impl_IsDetermined_link0 (S : SatT) (K : KT) (X0 : XT) (p2_ : Pt) (i7_ i8_ : Int) (s24_ : Sl) (i25_ i26_ : Int) (h : H) : impl_IsDetermined_w0 S K X0 (impl_IsDetermined_e0 p2_ i7_ i8_ s24_ i25_ i26_) h = impl_IsDetermined_b0 S K X0 p2_ i7_ i8_ s24_ i25_ i26_ h := by kernel_rfl
theorem impl_IsDetermined_rule0 (S : SatT) (K : KT) (p2_ : Pt) (i7_ i8_ : Int) (s24_ : Sl) (i25_ : Int) (I_ : Int → H → Prop) (m_ : Int → H → Nat)
    (hs : ∀ (X0 : XT) (i26_ : Int) (h : H), I_ i26_ h → (∀ (i26_' : Int) (h' : H), I_ i26_' h' → m_ i26_' h' < m_ i26_ h → X0 (impl_IsDetermined_e0 p2_ i7_ i8_ s24_ i25_ i26_') h') → impl_IsDetermined_b0 S K X0 p2_ i7_ i8_ s24_ i25_ i26_ h) (i26_ : Int) {h : H} (h0 : I_ i26_ h) : impl_IsDetermined_L0 S K p2_ i7_ i8_ s24_ i25_ i26_ h :=
  loop_rule (σ := (Int)) (fun s_ => impl_IsDetermined_e0 p2_ i7_ i8_ s24_ i25_ (s_)) (fun s_ h => I_ (s_) h) (fun s_ h => m_ (s_) h)
    (fun X s_ h hi hx => (impl_IsDetermined_link0 S K X p2_ i7_ i8_ s24_ i25_ (s_) h).mpr (hs X (s_) h hi fun i26_' h' hi' hm' => hx (i26_') h' hi' hm')) (i26_) h0
def impl_IsDetermined_main (S : SatT) (K : KT) (x0 : List AVal) (x1 : Int) (h : H) : Prop :=
 newK 2 x0 h fun p0 h1 =>
 newO [.int .i64 x1] h1 fun p2 h3 =>
 ldA p0 2 h3 fun cs4 =>
 callI S .i64 i_impl_setCode [.agg cs4, .func 36 [.ptr p2]] h3 fun n6 h5 =>
 bif (n6 != (0)) then
 K (.tuple [.bool false, .int .i64 n6]) h5
 else
 ldI .i64 p2 h5 fun n7 =>
 ldI .i64 p2 h5 fun n8 =>
 nz (4) (
 isPt p0 (
 ldS (Pt.add p0 1) h5 fun s9 =>
 impl_IsDetermined_L0 S K p0 n7 (Int.tmod (w64 (n8 + (1))) (4)) s9 (s9.len : Int) (0) h5))
theorem impl_IsDetermined_main_link (S : SatT) (K : KT) (x0 : List AVal) (x1 : Int) (h : H) : cwp S tab impl_IsDetermined_M [] (bodyOf Try.f16) (kFun tab Try.f16.results.toList K) (fr0 Try.f16 [.agg x0, .int .i64 x1]) h = impl_IsDetermined_main S K x0 x1 h := by kernel_rfl
theorem impl_IsDetermined_call (x0 : List AVal) (x1 : Int) (h : H) (K : KT) (hm : impl_IsDetermined_main (Sat Try.prog) (fun v h' => K v h') x0 x1 h) : callV (Sat Try.prog) i_impl_IsDetermined [.agg x0, .int .i64 x1] h K := by
  have := Sat.ex tok mixed impl_IsDetermined_M Try.func16 (c := bodyOf Try.f16) (by kernel_rfl) (calls_of Try.func16 (c := bodyOf Try.f16) (by kernel_rfl) (by decide)) ((impl_IsDetermined_main_link _ _ x0 x1 h).mpr hm)
  exact this

/-! ### loop.example/g01354/spec.IsDetermined -/
def spec_IsDetermined_M : Nat → List Nat := fun i => bif i == 3 then [2, 6, 7, 8, 9] else bif i == 1 then [2, 6, 7, 8] else []
def spec_IsDetermined_ks7 (S : SatT) (K : KT) : Kont := kSeq (cwp S tab spec_IsDetermined_M [] (sub [1, 1, 1, 1] (bodyOf Try.f17)) (kFun tab (Try.f17).results.toList K)) (kFun tab (Try.f17).results.toList K)
def spec_IsDetermined_e1 (p2_ : Pt) (i6_ i7_ i8_ : Int) : Frame := [U, U, .ptr p2_, U, U, U, .int .i64 i6_, .int .i64 i7_, .int .i64 i8_, U, U, U, U, U, U, U, U, U, U, U, U, U, U, U, U, U, U, U, U, U, U, U, U, U, U, U, U, U, U, U, U, U, U, U, U, U, U, U, U, U, U, U, U, U, U, U, U, U, U, U, U, U, U, U, U, U]
def spec_IsDetermined_w1 (S : SatT) (K : KT) : (XT) → XT := fun X fr h => cwp S tab spec_IsDetermined_M (spec_IsDetermined_M 1) (sub [1, 1, 1, 0, 1, 0, 0] (bodyOf Try.f17)) (kSeq (fun fr h => X (mask (spec_IsDetermined_M 1) fr) h) (kBlk 1 (spec_IsDetermined_ks7 S K))) fr h
def spec_IsDetermined_L1 (S : SatT) (K : KT) (p2_ : Pt) (i6_ i7_ i8_ : Int) (h : H) : Prop := loopK (spec_IsDetermined_w1 S K) (spec_IsDetermined_e1 p2_ i6_ i7_ i8_) h
def spec_IsDetermined_ks11 (S : SatT) (K : KT) (X1 : XT) : Kont := kSeq (cwp S tab spec_IsDetermined_M (spec_IsDetermined_M 1) (sub [1, 1, 1, 0, 1, 0, 0, 1, 1] (bodyOf Try.f17)) (kSeq (fun fr h => X1 (mask (spec_IsDetermined_M 1) fr) h) (kBlk 1 (spec_IsDetermined_ks7 S K)))) (kSeq (fun fr h => X1 (mask (spec_IsDetermined_M 1) fr) h) (kBlk 1 (spec_IsDetermined_ks7 S K)))
def spec_IsDetermined_e3 (p2_ : Pt) (i6_ i7_ : Int) (i8_ i9_ : Int) : Frame := [U, U, .ptr p2_, U, U, U, .int .i64 i6_, .int .i64 i7_, .int .i64 i8_, .int .i64 i9_, U, U, U, U, U, U, U, U, U, U, U, U, U, U, U, U, U, U, U, U, U, U, U, U, U, U, U, U, U, U, U, U, U, U, U, U, U, U, U, U, U, U, U, U, U, U, U, U, U, U, U, U, U, U, U, U]
def spec_IsDetermined_w3 (S : SatT) (K : KT) (X1 : XT) : (XT) → XT := fun X fr h => cwp S tab spec_IsDetermined_M (spec_IsDetermined_M 3) (sub [1, 1, 1, 0, 1, 0, 0, 1, 0, 0, 1, 0, 0] (bodyOf Try.f17)) (kSeq (fun fr h => X (mask (spec_IsDetermined_M 3) fr) h) (kBlk 3 (kBlk 2 (spec_IsDetermined_ks11 S K X1)))) fr h
def spec_IsDetermined_L3 (S : SatT) (K : KT) (X1 : XT) (p2_ : Pt) (i6_ i7_ : Int) (i8_ i9_ : Int) (h : H) : Prop := loopK (spec_IsDetermined_w3 S K X1) (spec_IsDetermined_e3 p2_ i6_ i7_ i8_ i9_) h
def spec_IsDetermined_C2 (S : SatT) (K : KT) (X1 : XT) (p2_ : Pt) (i6_ i7_ i8_ : Int) (h : H) : Prop :=
 X1 (spec_IsDetermined_e1 p2_ i6_ i7_ (w64 (i8_ + (1)))) h
def spec_IsDetermined_C3 (S : SatT) (K : KT) (X1 : XT) (p2_ : Pt) (i6_ i7_ i8_ : Int) (h : H) : Prop :=
 spec_IsDetermined_C2 S K X1 p2_ i6_ i7_ i8_ h
def spec_IsDetermined_b3 (S : SatT) (K : KT) (X1 X3 : XT) (p2_ : Pt) (i6_ i7_ : Int) (i8_ i9_ : Int) (h : H) : Prop :=
 bif (decide (i9_ < i8_)) then
 isPt p2_ (
 ldS (Pt.add p2_ 1) h fun s0 =>
 ixS s0 4 i8_ fun p1 =>
 ixA p1 4 1 i6_ fun p2 =>
 ldI .i64 p2 h fun n3 =>
 isPt p2_ (
 ldS (Pt.add p2_ 1) h fun s4 =>
 ixS s4 4 i9_ fun p5 =>
 ixA p5 4 1 i6_ fun p6 =>
 ldI .i64 p6 h fun n7 =>
 bif (n3 == n7) then
 isPt p2_ (
 ldS (Pt.add p2_ 1) h fun s8 =>
 ixS s8 4 i8_ fun p9 =>
 ixA p9 4 1 i7_ fun p10 =>
 ldI .i64 p10 h fun n11 =>
 isPt p2_ (
 ldS (Pt.add p2_ 1) h fun s12 =>
 ixS s12 4 i9_ fun p13 =>
 ixA p13 4 1 i7_ fun p14 =>
 ldI .i64 p14 h fun n15 =>
 bif (n11 == n15) then
 K (.tuple [.bool false, .int .i64 (0)]) h
 else
 X3 (spec_IsDetermined_e3 p2_ i6_ i7_ i8_ (w64 (i9_ + (1)))) h))
 else
 X3 (spec_IsDetermined_e3 p2_ i6_ i7_ i8_ (w64 (i9_ + (1)))) h))
 else
 spec_IsDetermined_C3 S K X1 p2_ i6_ i7_ i8_ h
theorem spec_IsDetermined_link3 (S : SatT) (K : KT) (X1 X3 : XT) (p2_ : Pt) (i6_ i7_ : Int) (i8_ i9_ : Int) (h : H) : spec_IsDetermined_w3 S K X1 X3 (spec_IsDetermined_e3 p2_ i6_ i7_ i8_ i9_) h = spec_IsDetermined_b3 S K X1 X3 p2_ i6_ i7_ i8_ i9_ h := by kernel_rfl
theorem spec_IsDetermined_rule3 (S : SatT) (K : KT) (X1 : XT) (p2_ : Pt) (i6_ i7_ i8_ : Int) (I_ : Int → H → Prop) (m_ : Int → H → Nat)
    (hs : ∀ (X3 : XT) (i9_ : Int) (h : H), I_ i9_ h → (∀ (i9_' : Int) (h' : H), I_ i9_' h' → m_ i9_' h' < m_ i9_ h → X3 (spec_IsDetermined_e3 p2_ i6_ i7_ i8_ i9_') h') → spec_IsDetermined_b3 S K X1 X3 p2_ i6_ i7_ i8_ i9_ h) (i9_ : Int) {h : H} (h0 : I_ i9_ h) : spec_IsDetermined_L3 S K X1 p2_ i6_ i7_ i8_ i9_ h :=
  loop_rule (σ := (Int)) (fun s_ => spec_IsDetermined_e3 p2_ i6_ i7_ i8_ (s_)) (fun s_ h => I_ (s_) h) (fun s_ h => m_ (s_) h)
    (fun X s_ h hi hx => (spec_IsDetermined_link3 S K X1 X p2_ i6_ i7_ i8_ (s_) h).mpr (hs X (s_) h hi fun i9_' h' hi' hm' => hx (i9_') h' hi' hm')) (i9_) h0
def spec_IsDetermined_C1 (S : SatT) (K : KT) (h : H) : Prop :=
 K (.tuple [.bool true, .int .i64 (0)]) h
def spec_IsDetermined_b1 (S : SatT) (K : KT) (X1 : XT) (p2_ : Pt) (i6_ i7_ i8_ : Int) (h : H) : Prop :=
 isPt p2_ (
 ldS (Pt.add p2_ 1) h fun s0 =>
 bif (decide (i8_ < (s0.len : Int))) then
 spec_IsDetermined_L3 S K X1 p2_ i6_ i7_ i8_ (0) h
 else
 spec_IsDetermined_C1 S K h)
theorem spec_IsDetermined_link1 (S : SatT) (K : KT) (X1 : XT) (p2_ : Pt) (i6_ i7_ i8_ : Int) (h : H) : spec_IsDetermined_w1 S K X1 (spec_IsDetermined_e1 p2_ i6_ i7_ i8_) h = spec_IsDetermined_b1 S K X1 p2_ i6_ i7_ i8_ h := by kernel_rfl
theorem spec_IsDetermined_rule1 (S : SatT) (K : KT) (p2_ : Pt) (i6_ i7_ : Int) (I_ : Int → H → Prop) (m_ : Int → H → Nat)
    (hs : ∀ (X1 : XT) (i8_ : Int) (h : H), I_ i8_ h → (∀ (i8_' : Int) (h' : H), I_ i8_' h' → m_ i8_' h' < m_ i8_ h → X1 (spec_IsDetermined_e1 p2_ i6_ i7_ i8_') h') → spec_IsDetermined_b1 S K X1 p2_ i6_ i7_ i8_ h) (i8_ : Int) {h : H} (h0 : I_ i8_ h) : spec_IsDetermined_L1 S K p2_ i6_ i7_ i8_ h :=
  loop_rule (σ := (Int)) (fun s_ => spec_IsDetermined_e1 p2_ i6_ i7_ (s_)) (fun s_ h => I_ (s_) h) (fun s_ h => m_ (s_) h)
    (fun X s_ h hi hx => (spec_IsDetermined_link1 S K X p2_ i6_ i7_ (s_) h).mpr (hs X (s_) h hi fun i8_' h' hi' hm' => hx (i8_') h' hi' hm')) (i8_) h0
def spec_IsDetermined_main (S : SatT) (K : KT) (x0 : List AVal) (x1 : Int) (h : H) : Prop :=
 newK 2 x0 h fun p0 h1 =>
 ldA p0 2 h1 fun cs2 =>
 callB S i_spec_l01Is [.agg cs2] h1 fun b4 h3 =>
 bif (!b4) then
 K (.tuple [.bool false, .int .i64 (1)]) h3
 else
 callB S i_spec_l01In [.int .i64 x1, .int .i64 (0), .int .i64 (3)] h3 fun b6 h5 =>
 bif (!b6) then
 K (.tuple [.bool false, .int .i64 (2)]) h5
 else
 nz (4) (
 spec_IsDetermined_L1 S K p0 x1 (Int.tmod (w64 (x1 + (1))) (4)) (0) h5)
theorem spec_IsDetermined_main_link (S : SatT) (K : KT) (x0 : List AVal) (x1 : Int) (h : H) : cwp S tab spec_IsDetermined_M [] (bodyOf Try.f17) (kFun tab Try.f17.results.toList K) (fr0 Try.f17 [.agg x0, .int .i64 x1]) h = spec_IsDetermined_main S K x0 x1 h := by kernel_rfl
theorem spec_IsDetermined_call (x0 : List AVal) (x1 : Int) (h : H) (K : KT) (hm : spec_IsDetermined_main (Sat Try.prog) (fun v h' => K v h') x0 x1 h) : callV (Sat Try.prog) i_spec_IsDetermined [.agg x0, .int .i64 x1] h K := by
  have := Sat.ex tok mixed spec_IsDetermined_M Try.func17 (c := bodyOf Try.f17) (by kernel_rfl) (calls_of Try.func17 (c := bodyOf Try.f17) (by kernel_rfl) (by decide)) ((spec_IsDetermined_main_link _ _ x0 x1 h).mpr hm)
  exact this

/-! ### loop.example/g01354/spec.l01Renamed -/
def spec_l01Renamed_M : Nat → List Nat := fun i => bif i == 0 then [1, 2, 4, 5, 6] else []
def spec_l01Renamed_ks2 (S : SatT) (K : KT) : Kont := kSeq (cwp S tab spec_l01Renamed_M [] (sub [1, 1, 1] (bodyOf Try.f65)) (kFun tab (Try.f65).results.toList K)) (kFun tab (Try.f65).results.toList K)
def spec_l01Renamed_e0 (s1_ : Sl) (p2_ p4_ : Pt) (s5_ : Sl) (i6_ : Int) : Frame := [U, .sl s1_, .ptr p2_, U, .ptr p4_, .sl s5_, .int .i64 i6_, U, U, U, U, U, U, U, U, U, U, U, U, U, U, U, U, U, U, U, U, U, U, U, U, U, U, U, U, U, U, U, U, U, U, U, U, U, U, U, U, U, U]
def spec_l01Renamed_w0 (S : SatT) (K : KT) : (XT) → XT := fun X fr h => cwp S tab spec_l01Renamed_M (spec_l01Renamed_M 0) (sub [1, 1, 0, 1, 0, 0] (bodyOf Try.f65)) (kSeq (fun fr h => X (mask (spec_l01Renamed_M 0) fr) h) (kBlk 0 (spec_l01Renamed_ks2 S K))) fr h
def spec_l01Renamed_L0 (S : SatT) (K : KT) (s1_ : Sl) (p2_ p4_ : Pt) (s5_ : Sl) (i6_ : Int) (h : H) : Prop := loopK (spec_l01Renamed_w0 S K) (spec_l01Renamed_e0 s1_ p2_ p4_ s5_ i6_) h
def spec_l01Renamed_C0 (S : SatT) (K : KT) (p2_ p4_ : Pt) (s5_ : Sl) (h : H) : Prop :=
 isPt p2_ (
 ldI .i64 (Pt.add p2_ 0) h fun n0 =>
 callA S i_spec_l01Made [.int .i64 n0, .sl s5_] h fun cs2 h1 =>
 stN p4_ 2 cs2 h1 fun h3 =>
 ldA p4_ 2 h3 fun cs4 =>
 K (.agg cs4) h3)
def spec_l01Renamed_b0 (S : SatT) (K : KT) (X0 : XT) (s1_ : Sl) (p2_ p4_ : Pt) (s5_ : Sl) (i6_ : Int) (h : H) : Prop :=
 isPt p2_ (
 ldS (Pt.add p2_ 1) h fun s0 =>
 bif (decide (i6_ < (s0.len : Int))) then
 isPt p2_ (
 ldS (Pt.add p2_ 1) h fun s1 =>
 ixS s1 4 i6_ fun p2 =>
 ldA p2 4 h fun cs3 =>
 newO [.int .i64 (0), .int .i64 (0), .int .i64 (0), .int .i64 (0)] h fun p4 h5 =>
 stN p4 4 cs3 h5 fun h6 =>
 ixA p4 4 1 (0) fun p7 =>
 ldI .i64 p7 h6 fun n8 =>
 ixS s1_ 1 n8 fun p9 =>
 ldI .i64 p9 h6 fun n10 =>
 ixA p4 4 1 (1) fun p11 =>
 ldI .i64 p11 h6 fun n12 =>
 ixS s1_ 1 n12 fun p13 =>
 ldI .i64 p13 h6 fun n14 =>
 ixA p4 4 1 (2) fun p15 =>
 ldI .i64 p15 h6 fun n16 =>
 ixS s1_ 1 n16 fun p17 =>
 ldI .i64 p17 h6 fun n18 =>
 ixA p4 4 1 (3) fun p19 =>
 ldI .i64 p19 h6 fun n20 =>
 ixS s1_ 1 n20 fun p21 =>
 ldI .i64 p21 h6 fun n22 =>
 lenA [.int .i64 n10, .int .i64 n14, .int .i64 n18, .int .i64 n22] 4 (
 newS 1 4 (spl [.int .i64 (0), .int .i64 (0), .int .i64 (0), .int .i64 (0)] 0 4 [.int .i64 n10, .int .i64 n14, .int .i64 n18, .int .i64 n22]) h6 fun s23 h24 =>
 app s5_ s23 4 h24 fun s25 h26 =>
 X0 (spec_l01Renamed_e0 s1_ p2_ p4_ s25 (w64 (i6_ + (1)))) h26))
 else
 spec_l01Renamed_C0 S K p2_ p4_ s5_ h)
theorem spec_l01Renamed_link0 (S : SatT) (K : KT) (X0 : XT) (s1_ : Sl) (p2_ p4_ : Pt) (s5_ : Sl) (i6_ : Int) (h : H) : spec_l01Renamed_w0 S K X0 (spec_l01Renamed_e0 s1_ p2_ p4_ s5_ i6_) h = spec_l01Renamed_b0 S K X0 s1_ p2_ p4_ s5_ i6_ h := by kernel_rfl
theorem spec_l01Renamed_rule0 (S : SatT) (K : KT) (s1_ : Sl) (p2_ p4_ : Pt) (I_ : Sl → Int → H → Prop) (m_ : Sl → Int → H → Nat)
    (hs : ∀ (X0 : XT) (s5_ : Sl) (i6_ : Int) (h : H), I_ s5_ i6_ h → (∀ (s5_' : Sl) (i6_' : Int) (h' : H), I_ s5_' i6_' h' → m_ s5_' i6_' h' < m_ s5_ i6_ h → X0 (spec_l01Renamed_e0 s1_ p2_ p4_ s5_' i6_') h') → spec_l01Renamed_b0 S K X0 s1_ p2_ p4_ s5_ i6_ h) (s5_ : Sl) (i6_ : Int) {h : H} (h0 : I_ s5_ i6_ h) : spec_l01Renamed_L0 S K s1_ p2_ p4_ s5_ i6_ h :=
  loop_rule (σ := (Sl) × (Int)) (fun s_ => spec_l01Renamed_e0 s1_ p2_ p4_ (s_.1) (s_.2)) (fun s_ h => I_ (s_.1) (s_.2) h) (fun s_ h => m_ (s_.1) (s_.2) h)
    (fun X s_ h hi hx => (spec_l01Renamed_link0 S K X s1_ p2_ p4_ (s_.1) (s_.2) h).mpr (hs X (s_.1) (s_.2) h hi fun s5_' i6_' h' hi' hm' => hx (s5_', i6_') h' hi' hm')) (s5_, i6_) h0
def spec_l01Renamed_main (S : SatT) (K : KT) (x0 : List AVal) (x1 : Sl) (h : H) : Prop :=
 newK 2 x0 h fun p0 h1 =>
 newO [.int .i64 (0), .sl Sl.nil] h1 fun p2 h3 =>
 newS 0 4 [] h3 fun s4 h5 =>
 spec_l01Renamed_L0 S K x1 p0 p2 s4 (0) h5
theorem spec_l01Renamed_main_link (S : SatT) (K : KT) (x0 : List AVal) (x1 : Sl) (h : H) : cwp S tab spec_l01Renamed_M [] (bodyOf Try.f65) (kFun tab Try.f65.results.toList K) (fr0 Try.f65 [.agg x0, .sl x1]) h = spec_l01Renamed_main S K x0 x1 h := by kernel_rfl
theorem spec_l01Renamed_call (x0 : List AVal) (x1 : Sl) (h : H) (K : List AVal → H → Prop) (hm : spec_l01Renamed_main (Sat Try.prog) (fun v h' => ∃ r, v = .agg r ∧ K r h') x0 x1 h) : callA (Sat Try.prog) i_spec_l01Renamed [.agg x0, .sl x1] h K := by
  have := Sat.ex tok mixed spec_l01Renamed_M Try.func65 (c := bodyOf Try.f65) (by kernel_rfl) (calls_of Try.func65 (c := bodyOf Try.f65) (by kernel_rfl) (by decide)) ((spec_l01Renamed_main_link _ _ x0 x1 h).mpr hm)
  obtain ⟨v, h2, h3, r, rfl, h4⟩ := this; exact ⟨r, h2, h3, h4⟩

/-! ### slices.IndexFunc[[]loop.example/g01354/impl.Tile,loop.example/g01354/impl.Tile] -/
def slices_IndexFunc_s_impl_Tile_impl_Tile__M : Nat → List Nat := fun i => bif i == 0 then [0, 1, 7, 8] else []
def slices_IndexFunc_s_impl_Tile_impl_Tile__ks1 (S : SatT) (K : KT) : Kont := kSeq (cwp S tab slices_IndexFunc_s_impl_Tile_impl_Tile__M [] (sub [1, 1] (bodyOf Try.f29)) (kFun tab (Try.f29).results.toList K)) (kFun tab (Try.f29).results.toList K)
def slices_IndexFunc_s_impl_Tile_impl_Tile__e0 (s0_ : Sl) (f1_ : AVal) (i7_ i8_ : Int) : Frame := [.sl s0_, f1_, U, U, U, U, U, .int .i64 i7_, .int .i64 i8_, U, U, U, U, U, U, U, U, U, U]
def slices_IndexFunc_s_impl_Tile_impl_Tile__w0 (S : SatT) (K : KT) : (XT) → XT := fun X fr h => cwp S tab slices_IndexFunc_s_impl_Tile_impl_Tile__M (slices_IndexFunc_s_impl_Tile_impl_Tile__M 0) (sub [1, 0, 1, 0, 0] (bodyOf Try.f29)) (kSeq (fun fr h => X (mask (slices_IndexFunc_s_impl_Tile_impl_Tile__M 0) fr) h) (kBlk 0 (slices_IndexFunc_s_impl_Tile_impl_Tile__ks1 S K))) fr h
def slices_IndexFunc_s_impl_Tile_impl_Tile__L0 (S : SatT) (K : KT) (s0_ : Sl) (f1_ : AVal) (i7_ i8_ : Int) (h : H) : Prop := loopK (slices_IndexFunc_s_impl_Tile_impl_Tile__w0 S K) (slices_IndexFunc_s_impl_Tile_impl_Tile__e0 s0_ f1_ i7_ i8_) h
def slices_IndexFunc_s_impl_Tile_impl_Tile__C0 (S : SatT) (K : KT) (h : H) : Prop :=
 K (.int .i64 (-1)) h
def slices_IndexFunc_s_impl_Tile_impl_Tile__b0 (S : SatT) (K : KT) (X0 : XT) (s0_ : Sl) (f1_ : AVal) (i7_ i8_ : Int) (h : H) : Prop :=
 bif (decide (i8_ < i7_)) then
 ixS s0_ 4 i8_ fun p0 =>
 ldA p0 4 h fun cs1 =>
 viaF f1_ [.agg cs1] fun g2 ys3 =>
 callB S g2 ys3 h fun b5 h4 =>
 bif b5 then
 K (.int .i64 i8_) h4
 else
 X0 (slices_IndexFunc_s_impl_Tile_impl_Tile__e0 s0_ f1_ i7_ (w64 (i8_ + (1)))) h4
 else
 slices_IndexFunc_s_impl_Tile_impl_Tile__C0 S K h
theorem slices_IndexFunc_s_impl_Tile_impl_Tile__link0 (S : SatT) (K : KT) (X0 : XT) (s0_ : Sl) (f1_ : AVal) (i7_ i8_ : Int) (h : H) : slices_IndexFunc_s_impl_Tile_impl_Tile__w0 S K X0 (slices_IndexFunc_s_impl_Tile_impl_Tile__e0 s0_ f1_ i7_ i8_) h = slices_IndexFunc_s_impl_Tile_impl_Tile__b0 S K X0 s0_ f1_ i7_ i8_ h := by kernel_rfl
theorem slices_IndexFunc_s_impl_Tile_impl_Tile__rule0 (S : SatT) (K : KT) (s0_ : Sl) (f1_ : AVal) (i7_ : Int) (I_ : Int → H → Prop) (m_ : Int → H → Nat)
    (hs : ∀ (X0 : XT) (i8_ : Int) (h : H), I_ i8_ h → (∀ (i8_' : Int) (h' : H), I_ i8_' h' → m_ i8_' h' < m_ i8_ h → X0 (slices_IndexFunc_s_impl_Tile_impl_Tile__e0 s0_ f1_ i7_ i8_') h') → slices_IndexFunc_s_impl_Tile_impl_Tile__b0 S K X0 s0_ f1_ i7_ i8_ h) (i8_ : Int) {h : H} (h0 : I_ i8_ h) : slices_IndexFunc_s_impl_Tile_impl_Tile__L0 S K s0_ f1_ i7_ i8_ h :=
  loop_rule (σ := (Int)) (fun s_ => slices_IndexFunc_s_impl_Tile_impl_Tile__e0 s0_ f1_ i7_ (s_)) (fun s_ h => I_ (s_) h) (fun s_ h => m_ (s_) h)
    (fun X s_ h hi hx => (slices_IndexFunc_s_impl_Tile_impl_Tile__link0 S K X s0_ f1_ i7_ (s_) h).mpr (hs X (s_) h hi fun i8_' h' hi' hm' => hx (i8_') h' hi' hm')) (i8_) h0
def slices_IndexFunc_s_impl_Tile_impl_Tile__main (S : SatT) (K : KT) (x0 : Sl) (x1 : AVal) (h : H) : Prop :=
 slices_IndexFunc_s_impl_Tile_impl_Tile__L0 S K x0 x1 (x0.len : Int) (0) h
theorem slices_IndexFunc_s_impl_Tile_impl_Tile__main_link (S : SatT) (K : KT) (x0 : Sl) (x1 : AVal) (h : H) : cwp S tab slices_IndexFunc_s_impl_Tile_impl_Tile__M [] (bodyOf Try.f29) (kFun tab Try.f29.results.toList K) (fr0 Try.f29 [.sl x0, x1]) h = slices_IndexFunc_s_impl_Tile_impl_Tile__main S K x0 x1 h := by kernel_rfl
theorem slices_IndexFunc_s_impl_Tile_impl_Tile__call (x0 : Sl) (x1 : AVal) (h : H) (K : Int → H → Prop) (hm : slices_IndexFunc_s_impl_Tile_impl_Tile__main (Sat Try.prog) (fun v h' => ∃ r, v = .int .i64 r ∧ K r h') x0 x1 h) : callI (Sat Try.prog) .i64 i_slices_IndexFunc_s_impl_Tile_impl_Tile_ [.sl x0, x1] h K := by
  have := Sat.ex tok mixed slices_IndexFunc_s_impl_Tile_impl_Tile__M Try.func29 (c := bodyOf Try.f29) (by kernel_rfl) (calls_of Try.func29 (c := bodyOf Try.f29) (by kernel_rfl) (by decide)) ((slices_IndexFunc_s_impl_Tile_impl_Tile__main_link _ _ x0 x1 h).mpr hm)
  obtain ⟨v, h2, h3, r, rfl, h4⟩ := this; exact ⟨r, h2, h3, h4⟩

/-! ### loop.example/g01354/spec.l01Split -/
def spec_l01Split_M : Nat → List Nat := fun i => bif i == 0 then [0, 1, 5, 6, 7] else []
def spec_l01Split_ks3 (S : SatT) (K : KT) : Kont := kSeq (cwp S tab spec_l01Split_M [] (sub [1, 1, 1, 1] (bodyOf Try.f80)) (kFun tab (Try.f80).results.toList K)) (kFun tab (Try.f80).results.toList K)
def spec_l01Split_e0 (f0_ : AVal) (i1_ : Int) (s5_ : Sl) (i6_ i7_ : Int) : Frame := [f0_, .int .u8 i1_, U, U, U, .sl s5_, .int .i64 i6_, .int .i64 i7_, U, U, U, U, U, U, U, U, U, U, U, U, U, U, U, U, U, U, U, U, U, U, U, U, U, U, U]
def spec_l01Split_w0 (S : SatT) (K : KT) : (XT) → XT := fun X fr h => cwp S tab spec_l01Split_M (spec_l01Split_M 0) (sub [1, 1, 1, 0, 1, 0, 0] (bodyOf Try.f80)) (kSeq (fun fr h => X (mask (spec_l01Split_M 0) fr) h) (kBlk 0 (spec_l01Split_ks3 S K))) fr h
def spec_l01Split_L0 (S : SatT) (K : KT) (f0_ : AVal) (i1_ : Int) (s5_ : Sl) (i6_ i7_ : Int) (h : H) : Prop := loopK (spec_l01Split_w0 S K) (spec_l01Split_e0 f0_ i1_ s5_ i6_ i7_) h
def spec_l01Split_C0 (S : SatT) (K : KT) (f0_ : AVal) (s5_ : Sl) (i6_ : Int) (h : H) : Prop :=
 viaStr f0_ fun t0 =>
 cutStr t0 i6_ (t0.size : Int) fun t1 =>
 newS 1 1 [.str t1] h fun s2 h3 =>
 app s5_ s2 1 h3 fun s4 h5 =>
 K (.sl s4) h5
def spec_l01Split_b0 (S : SatT) (K : KT) (X0 : XT) (f0_ : AVal) (i1_ : Int) (s5_ : Sl) (i6_ i7_ : Int) (h : H) : Prop :=
 viaStr f0_ fun t0 =>
 bif (decide (i7_ < (t0.size : Int))) then
 viaStr f0_ fun t1 =>
 ixStr t1 i7_ fun n2 =>
 bif (n2 == i1_) then
 viaStr f0_ fun t3 =>
 cutStr t3 i6_ i7_ fun t4 =>
 newS 1 1 [.str t4] h fun s5 h6 =>
 app s5_ s5 1 h6 fun s7 h8 =>
 X0 (spec_l01Split_e0 f0_ i1_ s7 (w64 (i7_ + (1))) (w64 (i7_ + (1)))) h8
 else
 X0 (spec_l01Split_e0 f0_ i1_ s5_ i6_ (w64 (i7_ + (1)))) h
 else
 spec_l01Split_C0 S K f0_ s5_ i6_ h
theorem spec_l01Split_link0 (S : SatT) (K : KT) (X0 : XT) (f0_ : AVal) (i1_ : Int) (s5_ : Sl) (i6_ i7_ : Int) (h : H) : spec_l01Split_w0 S K X0 (spec_l01Split_e0 f0_ i1_ s5_ i6_ i7_) h = spec_l01Split_b0 S K X0 f0_ i1_ s5_ i6_ i7_ h := by kernel_rfl
theorem spec_l01Split_rule0 (S : SatT) (K : KT) (f0_ : AVal) (i1_ : Int) (I_ : Sl → Int → Int → H → Prop) (m_ : Sl → Int → Int → H → Nat)
    (hs : ∀ (X0 : XT) (s5_ : Sl) (i6_ i7_ : Int) (h : H), I_ s5_ i6_ i7_ h → (∀ (s5_' : Sl) (i6_' i7_' : Int) (h' : H), I_ s5_' i6_' i7_' h' → m_ s5_' i6_' i7_' h' < m_ s5_ i6_ i7_ h → X0 (spec_l01Split_e0 f0_ i1_ s5_' i6_' i7_') h') → spec_l01Split_b0 S K X0 f0_ i1_ s5_ i6_ i7_ h) (s5_ : Sl) (i6_ i7_ : Int) {h : H} (h0 : I_ s5_ i6_ i7_ h) : spec_l01Split_L0 S K f0_ i1_ s5_ i6_ i7_ h :=
  loop_rule (σ := (Sl) × (Int) × (Int)) (fun s_ => spec_l01Split_e0 f0_ i1_ (s_.1) (s_.2.1) (s_.2.2)) (fun s_ h => I_ (s_.1) (s_.2.1) (s_.2.2) h) (fun s_ h => m_ (s_.1) (s_.2.1) (s_.2.2) h)
    (fun X s_ h hi hx => (spec_l01Split_link0 S K X f0_ i1_ (s_.1) (s_.2.1) (s_.2.2) h).mpr (hs X (s_.1) (s_.2.1) (s_.2.2) h hi fun s5_' i6_' i7_' h' hi' hm' => hx (s5_', i6_', i7_') h' hi' hm')) (s5_, i6_, i7_) h0
def spec_l01Split_main (S : SatT) (K : KT) (x0 : AVal) (x1 : Int) (h : H) : Prop :=
 newS 0 1 [] h fun s0 h1 =>
 spec_l01Split_L0 S K x0 x1 s0 (0) (0) h1
theorem spec_l01Split_main_link (S : SatT) (K : KT) (x0 : AVal) (x1 : Int) (h : H) : cwp S tab spec_l01Split_M [] (bodyOf Try.f80) (kFun tab Try.f80.results.toList K) (fr0 Try.f80 [x0, .int .u8 x1]) h = spec_l01Split_main S K x0 x1 h := by kernel_rfl
theorem spec_l01Split_call (x0 : AVal) (x1 : Int) (h : H) (K : Sl → H → Prop) (hm : spec_l01Split_main (Sat Try.prog) (fun v h' => ∃ r, v = .sl r ∧ K r h') x0 x1 h) : callS (Sat Try.prog) i_spec_l01Split [x0, .int .u8 x1] h K := by
  have := Sat.ex tok mixed spec_l01Split_M Try.func80 (c := bodyOf Try.f80) (by kernel_rfl) (calls_of Try.func80 (c := bodyOf Try.f80) (by kernel_rfl) (by decide)) ((spec_l01Split_main_link _ _ x0 x1 h).mpr hm)
  obtain ⟨v, h2, h3, r, rfl, h4⟩ := this; exact ⟨r, h2, h3, h4⟩

/-! ### loop.example/g01354/impl.IsSet -/
def impl_IsSet_M : Nat → List Nat := fun i => bif i == 0 then [1, 6, 7, 8] else []
def impl_IsSet_ks1 (S : SatT) (K : KT) : Kont := kSeq (cwp S tab impl_IsSet_M [] (sub [1, 1] (bodyOf Try.f22)) (kFun tab (Try.f22).results.toList K)) (kFun tab (Try.f22).results.toList K)
def impl_IsSet_e0 (p1_ : Pt) (s6_ : Sl) (i7_ i8_ : Int) : Frame := [U, .ptr p1_, U, U, U, U, .sl s6_, .int .i64 i7_, .int .i64 i8_, U, U, U, U, U, U, U, U, U, U, U, U, U, U, U, U, U, U, U, U, U, U, U, U, U, U, U, U, U, U, U, U, U, U]
def impl_IsSet_w0 (S : SatT) (K : KT) : (XT) → XT := fun X fr h => cwp S tab impl_IsSet_M (impl_IsSet_M 0) (sub [1, 0, 1, 0, 0] (bodyOf Try.f22)) (kSeq (fun fr h => X (mask (impl_IsSet_M 0) fr) h) (kBlk 0 (impl_IsSet_ks1 S K))) fr h
def impl_IsSet_L0 (S : SatT) (K : KT) (p1_ : Pt) (s6_ : Sl) (i7_ i8_ : Int) (h : H) : Prop := loopK (impl_IsSet_w0 S K) (impl_IsSet_e0 p1_ s6_ i7_ i8_) h
def impl_IsSet_C0 (S : SatT) (K : KT) (p1_ : Pt) (h : H) : Prop :=
 isPt p1_ (
 ldI .i64 (Pt.add p1_ 0) h fun n0 =>
 callB S i_impl_within [.int .i64 n0, .int .i64 (1), .int .i64 (6)] h fun b2 h1 =>
 bif b2 then
 isPt p1_ (
 ldS (Pt.add p1_ 1) h1 fun s3 =>
 K (.bool (decide ((s3.len : Int) ≤ (16)))) h1)
 else
 K (.bool false) h1)
def impl_IsSet_b0 (S : SatT) (K : KT) (X0 : XT) (p1_ : Pt) (s6_ : Sl) (i7_ i8_ : Int) (h : H) : Prop :=
 bif (decide (i8_ < i7_)) then
 ixS s6_ 4 i8_ fun p0 =>
 ldA p0 4 h fun cs1 =>
 newO [.int .i64 (0), .int .i64 (0), .int .i64 (0), .int .i64 (0)] h fun p2 h3 =>
 stN p2 4 cs1 h3 fun h4 =>
 ldA p2 4 h4 fun cs5 =>
 isPt p1_ (
 ldI .i64 (Pt.add p1_ 0) h4 fun n6 =>
 callB S i_impl_isTile [.agg cs5, .int .i64 n6] h4 fun b8 h7 =>
 bif (!b8) then
 K (.bool false) h7
 else
 bif (decide (i8_ > (0))) then
 isPt p1_ (
 ldS (Pt.add p1_ 1) h7 fun s9 =>
 ixS s9 4 (w64 (i8_ - (1))) fun p10 =>
 ldA p10 4 h7 fun cs11 =>
 ldA p2 4 h7 fun cs12 =>
 callI S .i64 i_impl_compare [.agg cs11, .agg cs12] h7 fun n14 h13 =>
 bif (decide (n14 ≥ (0))) then
 K (.bool false) h13
 else
 X0 (impl_IsSet_e0 p1_ s6_ i7_ (w64 (i8_ + (1)))) h13)
 else
 X0 (impl_IsSet_e0 p1_ s6_ i7_ (w64 (i8_ + (1)))) h7)
 else
 impl_IsSet_C0 S K p1_ h
theorem impl_IsSet_link0 (S : SatT) (K : KT) (X0 : XT) (p1_ : Pt) (s6_ : Sl) (i7_ i8_ : Int) (h : H) : impl_IsSet_w0 S K X0 (impl_IsSet_e0 p1_ s6_ i7_ i8_) h = impl_IsSet_b0 S K X0 p1_ s6_ i7_ i8_ h := by kernel_rfl
theorem impl_IsSet_rule0 (S : SatT) (K : KT) (p1_ : Pt) (s6_ : Sl) (i7_ : Int) (I_ : Int → H → Prop) (m_ : Int → H → Nat)
    (hs : ∀ (X0 : XT) (i8_ : Int) (h : H), I_ i8_ h → (∀ (i8_' : Int) (h' : H), I_ i8_' h' → m_ i8_' h' < m_ i8_ h → X0 (impl_IsSet_e0 p1_ s6_ i7_ i8_') h') → impl_IsSet_b0 S K X0 p1_ s6_ i7_ i8_ h) (i8_ : Int) {h : H} (h0 : I_ i8_ h) : impl_IsSet_L0 S K p1_ s6_ i7_ i8_ h :=
  loop_rule (σ := (Int)) (fun s_ => impl_IsSet_e0 p1_ s6_ i7_ (s_)) (fun s_ h => I_ (s_) h) (fun s_ h => m_ (s_) h)
    (fun X s_ h hi hx => (impl_IsSet_link0 S K X p1_ s6_ i7_ (s_) h).mpr (hs X (s_) h hi fun i8_' h' hi' hm' => hx (i8_') h' hi' hm')) (i8_) h0
def impl_IsSet_main (S : SatT) (K : KT) (x0 : List AVal) (h : H) : Prop :=
 newK 2 x0 h fun p0 h1 =>
 isPt p0 (
 ldS (Pt.add p0 1) h1 fun s2 =>
 impl_IsSet_L0 S K p0 s2 (s2.len : Int) (0) h1)
theorem impl_IsSet_main_link (S : SatT) (K : KT) (x0 : List AVal) (h : H) : cwp S tab impl_IsSet_M [] (bodyOf Try.f22) (kFun tab Try.f22.results.toList K) (fr0 Try.f22 [.agg x0]) h = impl_IsSet_main S K x0 h := by kernel_rfl
theorem impl_IsSet_call (x0 : List AVal) (h : H) (K : Bool → H → Prop) (hm : impl_IsSet_main (Sat Try.prog) (fun v h' => ∃ r, v = .bool r ∧ K r h') x0 h) : callB (Sat Try.prog) i_impl_IsSet [.agg x0] h K := by
  have := Sat.ex tok mixed impl_IsSet_M Try.func22 (c := bodyOf Try.f22) (by kernel_rfl) (calls_of Try.func22 (c := bodyOf Try.f22) (by kernel_rfl) (by decide)) ((impl_IsSet_main_link _ _ x0 h).mpr hm)
  obtain ⟨v, h2, h3, r, rfl, h4⟩ := this; exact ⟨r, h2, h3, h4⟩

/-! ### loop.example/g01354/spec.l01DrawOrder -/
def spec_l01DrawOrder_M : Nat → List Nat := fun i => bif i == 0 then [0, 1, 5, 6] else []
def spec_l01DrawOrder_ks2 (S : SatT) (K : KT) : Kont := kSeq (cwp S tab spec_l01DrawOrder_M [] (sub [1, 1, 1] (bodyOf Try.f66)) (kFun tab (Try.f66).results.toList K)) (kFun tab (Try.f66).results.toList K)
def spec_l01DrawOrder_e0 (p0_ : Pt) (i1_ : Int) (s5_ : Sl) (i6_ : Int) : Frame := [.ptr p0_, .int .i64 i1_, U, U, U, .sl s5_, .int .i64 i6_, U, U, U, U, U, U, U, U, U, U, U, U, U, U, U, U, U, U, U, U, U, U, U]
def spec_l01DrawOrder_w0 (S : SatT) (K : KT) : (XT) → XT := fun X fr h => cwp S tab spec_l01DrawOrder_M (spec_l01DrawOrder_M 0) (sub [1, 1, 0, 1, 0, 0] (bodyOf Try.f66)) (kSeq (fun fr h => X (mask (spec_l01DrawOrder_M 0) fr) h) (kBlk 0 (spec_l01DrawOrder_ks2 S K))) fr h
def spec_l01DrawOrder_L0 (S : SatT) (K : KT) (p0_ : Pt) (i1_ : Int) (s5_ : Sl) (i6_ : Int) (h : H) : Prop := loopK (spec_l01DrawOrder_w0 S K) (spec_l01DrawOrder_e0 p0_ i1_ s5_ i6_) h
def spec_l01DrawOrder_C0 (S : SatT) (K : KT) (s5_ : Sl) (h : H) : Prop :=
 K (.sl s5_) h
def spec_l01DrawOrder_b0 (S : SatT) (K : KT) (X0 : XT) (p0_ : Pt) (i1_ : Int) (s5_ : Sl) (i6_ : Int) (h : H) : Prop :=
 bif (decide (i6_ < i1_)) then
 callI S .i64 i_spec_l01Next [.ptr p0_, .int .i64 (w64 (i6_ + (1)))] h fun n1 h0 =>
 slotK 12 h0 fun h2 =>
 cut s5_ 1 (0) n1 h2 fun s3 =>
 callS S i_spec_l01Own [.sl s3] h2 fun s5 h4 =>
 cut s5_ 1 n1 (s5_.len : Int) h4 fun s6 =>
 okS h2 s5_ ∧ (
 newSat 1 1 [.int .i64 i6_] h4 (h0.length + 5) fun s7 h8 =>
 okS h4 s5_ ∧ (
 okS h8 s5_ ∧ (
 okS h8 s5_ ∧ (
 app s5 s7 1 h8 fun s9 h10 =>
 okS h10 s5_ ∧ (
 app s9 s6 1 h10 fun s11 h12 =>
 X0 (spec_l01DrawOrder_e0 p0_ i1_ s11 (w64 (i6_ + (1)))) h12)))))
 else
 spec_l01DrawOrder_C0 S K s5_ h
theorem spec_l01DrawOrder_link0 (S : SatT) (K : KT) (X0 : XT) (p0_ : Pt) (i1_ : Int) (s5_ : Sl) (i6_ : Int) (h : H) : spec_l01DrawOrder_w0 S K X0 (spec_l01DrawOrder_e0 p0_ i1_ s5_ i6_) h = spec_l01DrawOrder_b0 S K X0 p0_ i1_ s5_ i6_ h := by kernel_rfl
theorem spec_l01DrawOrder_rule0 (S : SatT) (K : KT) (p0_ : Pt) (i1_ : Int) (I_ : Sl → Int → H → Prop) (m_ : Sl → Int → H → Nat)
    (hs : ∀ (X0 : XT) (s5_ : Sl) (i6_ : Int) (h : H), I_ s5_ i6_ h → (∀ (s5_' : Sl) (i6_' : Int) (h' : H), I_ s5_' i6_' h' → m_ s5_' i6_' h' < m_ s5_ i6_ h → X0 (spec_l01DrawOrder_e0 p0_ i1_ s5_' i6_') h') → spec_l01DrawOrder_b0 S K X0 p0_ i1_ s5_ i6_ h) (s5_ : Sl) (i6_ : Int) {h : H} (h0 : I_ s5_ i6_ h) : spec_l01DrawOrder_L0 S K p0_ i1_ s5_ i6_ h :=
  loop_rule (σ := (Sl) × (Int)) (fun s_ => spec_l01DrawOrder_e0 p0_ i1_ (s_.1) (s_.2)) (fun s_ h => I_ (s_.1) (s_.2) h) (fun s_ h => m_ (s_.1) (s_.2) h)
    (fun X s_ h hi hx => (spec_l01DrawOrder_link0 S K X p0_ i1_ (s_.1) (s_.2) h).mpr (hs X (s_.1) (s_.2) h hi fun s5_' i6_' h' hi' hm' => hx (s5_', i6_') h' hi' hm')) (s5_, i6_) h0
def spec_l01DrawOrder_main (S : SatT) (K : KT) (x0 : Pt) (x1 : Int) (h : H) : Prop :=
 newS 0 1 [] h fun s0 h1 =>
 spec_l01DrawOrder_L0 S K x0 x1 s0 (0) h1
theorem spec_l01DrawOrder_main_link (S : SatT) (K : KT) (x0 : Pt) (x1 : Int) (h : H) : cwp S tab spec_l01DrawOrder_M [] (bodyOf Try.f66) (kFun tab Try.f66.results.toList K) (fr0 Try.f66 [.ptr x0, .int .i64 x1]) h = spec_l01DrawOrder_main S K x0 x1 h := by kernel_rfl
theorem spec_l01DrawOrder_call (x0 : Pt) (x1 : Int) (h : H) (K : Sl → H → Prop) (hm : spec_l01DrawOrder_main (Sat Try.prog) (fun v h' => ∃ r, v = .sl r ∧ K r h') x0 x1 h) : callS (Sat Try.prog) i_spec_l01DrawOrder [.ptr x0, .int .i64 x1] h K := by
  have := Sat.ex tok mixed spec_l01DrawOrder_M Try.func66 (c := bodyOf Try.f66) (by kernel_rfl) (calls_of Try.func66 (c := bodyOf Try.f66) (by kernel_rfl) (by decide)) ((spec_l01DrawOrder_main_link _ _ x0 x1 h).mpr hm)
  obtain ⟨v, h2, h3, r, rfl, h4⟩ := this; exact ⟨r, h2, h3, h4⟩

/-! ### loop.example/g01354/laws.set9 -/
def laws_set9_M : Nat → List Nat := fun i => bif i == 0 then [2, 3, 5] else []
def laws_set9_ks5 (S : SatT) (K : KT) : Kont := kSeq (cwp S tab laws_set9_M [] (sub [1, 1, 1] (bodyOf Try.f11)) (kFun tab (Try.f11).results.toList K)) (kFun tab (Try.f11).results.toList K)
def laws_set9_e0 (p2_ p3_ : Pt) (i5_ : Int) : Frame := [U, U, .ptr p2_, .ptr p3_, U, .int .i64 i5_, U, U, U, U, U, U, U, U, U, U, U, U, U, U, U, U, U, U, U, U, U, U, U, U, U, U, U, U, U, U, U, U]
def laws_set9_w0 (S : SatT) (K : KT) : (XT) → XT := fun X fr h => cwp S tab laws_set9_M (laws_set9_M 0) (sub [1, 1, 0, 1, 0, 0] (bodyOf Try.f11)) (kSeq (fun fr h => X (mask (laws_set9_M 0) fr) h) (kBlk 0 (laws_set9_ks5 S K))) fr h
def laws_set9_L0 (S : SatT) (K : KT) (p2_ p3_ : Pt) (i5_ : Int) (h : H) : Prop := loopK (laws_set9_w0 S K) (laws_set9_e0 p2_ p3_ i5_) h
def laws_set9_C0 (S : SatT) (K : KT) (h : H) : Prop :=
 K (.bool true) h
def laws_set9_b0 (S : SatT) (K : KT) (X0 : XT) (p2_ p3_ : Pt) (i5_ : Int) (h : H) : Prop :=
 isPt p2_ (
 ldS (Pt.add p2_ 1) h fun s0 =>
 bif (decide (i5_ < (s0.len : Int))) then
 isPt p2_ (
 ldS (Pt.add p2_ 1) h fun s1 =>
 ixS s1 4 i5_ fun p2 =>
 ldA p2 4 h fun cs3 =>
 isPt p3_ (
 ldS (Pt.add p3_ 1) h fun s4 =>
 ixS s4 4 i5_ fun p5 =>
 ldA p5 4 h fun cs6 =>
 eqA .i64 4 cs3 cs6 fun b7 =>
 bif (!b7) then
 K (.bool false) h
 else
 X0 (laws_set9_e0 p2_ p3_ (w64 (i5_ + (1)))) h))
 else
 laws_set9_C0 S K h)
theorem laws_set9_link0 (S : SatT) (K : KT) (X0 : XT) (p2_ p3_ : Pt) (i5_ : Int) (h : H) : laws_set9_w0 S K X0 (laws_set9_e0 p2_ p3_ i5_) h = laws_set9_b0 S K X0 p2_ p3_ i5_ h := by kernel_rfl
theorem laws_set9_rule0 (S : SatT) (K : KT) (p2_ p3_ : Pt) (I_ : Int → H → Prop) (m_ : Int → H → Nat)
    (hs : ∀ (X0 : XT) (i5_ : Int) (h : H), I_ i5_ h → (∀ (i5_' : Int) (h' : H), I_ i5_' h' → m_ i5_' h' < m_ i5_ h → X0 (laws_set9_e0 p2_ p3_ i5_') h') → laws_set9_b0 S K X0 p2_ p3_ i5_ h) (i5_ : Int) {h : H} (h0 : I_ i5_ h) : laws_set9_L0 S K p2_ p3_ i5_ h :=
  loop_rule (σ := (Int)) (fun s_ => laws_set9_e0 p2_ p3_ (s_)) (fun s_ h => I_ (s_) h) (fun s_ h => m_ (s_) h)
    (fun X s_ h hi hx => (laws_set9_link0 S K X p2_ p3_ (s_) h).mpr (hs X (s_) h hi fun i5_' h' hi' hm' => hx (i5_') h' hi' hm')) (i5_) h0
def laws_set9_main (S : SatT) (K : KT) (x0 x1 : List AVal) (h : H) : Prop :=
 newK 2 x0 h fun p0 h1 =>
 newK 2 x1 h1 fun p2 h3 =>
 isPt p0 (
 ldI .i64 (Pt.add p0 0) h3 fun n4 =>
 isPt p2 (
 ldI .i64 (Pt.add p2 0) h3 fun n5 =>
 bif (n4 != n5) then
 K (.bool false) h3
 else
 isPt p0 (
 ldS (Pt.add p0 1) h3 fun s6 =>
 isPt p2 (
 ldS (Pt.add p2 1) h3 fun s7 =>
 bif ((s6.len : Int) != (s7.len : Int)) then
 K (.bool false) h3
 else
 laws_set9_L0 S K p0 p2 (0) h3))))
theorem laws_set9_main_link (S : SatT) (K : KT) (x0 x1 : List AVal) (h : H) : cwp S tab laws_set9_M [] (bodyOf Try.f11) (kFun tab Try.f11.results.toList K) (fr0 Try.f11 [.agg x0, .agg x1]) h = laws_set9_main S K x0 x1 h := by kernel_rfl
theorem laws_set9_call (x0 x1 : List AVal) (h : H) (K : Bool → H → Prop) (hm : laws_set9_main (Sat Try.prog) (fun v h' => ∃ r, v = .bool r ∧ K r h') x0 x1 h) : callB (Sat Try.prog) i_laws_set9 [.agg x0, .agg x1] h K := by
  have := Sat.ex tok mixed laws_set9_M Try.func11 (c := bodyOf Try.f11) (by kernel_rfl) (calls_of Try.func11 (c := bodyOf Try.f11) (by kernel_rfl) (by decide)) ((laws_set9_main_link _ _ x0 x1 h).mpr hm)
  obtain ⟨v, h2, h3, r, rfl, h4⟩ := this; exact ⟨r, h2, h3, h4⟩

/-! ### loop.example/g01354/laws.likeInts -/
def laws_likeInts_M : Nat → List Nat := fun i => bif i == 0 then [0, 1, 5] else []
def laws_likeInts_ks4 (S : SatT) (K : KT) : Kont := kSeq (cwp S tab laws_likeInts_M [] (sub [1, 1, 1] (bodyOf Try.f8)) (kFun tab (Try.f8).results.toList K)) (kFun tab (Try.f8).results.toList K)
def laws_likeInts_e0 (s0_ s1_ : Sl) (i5_ : Int) : Frame := [.sl s0_, .sl s1_, U, U, U, .int .i64 i5_, U, U, U, U, U, U, U, U, U, U, U, U, U, U, U, U, U, U, U, U]
def laws_likeInts_w0 (S : SatT) (K : KT) : (XT) → XT := fun X fr h => cwp S tab laws_likeInts_M (laws_likeInts_M 0) (sub [1, 1, 0, 1, 0, 0] (bodyOf Try.f8)) (kSeq (fun fr h => X (mask (laws_likeInts_M 0) fr) h) (kBlk 0 (laws_likeInts_ks4 S K))) fr h
def laws_likeInts_L0 (S : SatT) (K : KT) (s0_ s1_ : Sl) (i5_ : Int) (h : H) : Prop := loopK (laws_likeInts_w0 S K) (laws_likeInts_e0 s0_ s1_ i5_) h
def laws_likeInts_C0 (S : SatT) (K : KT) (h : H) : Prop :=
 K (.bool true) h
def laws_likeInts_b0 (S : SatT) (K : KT) (X0 : XT) (s0_ s1_ : Sl) (i5_ : Int) (h : H) : Prop :=
 bif (decide (i5_ < (s0_.len : Int))) then
 ixS s0_ 1 i5_ fun p0 =>
 ldI .i64 p0 h fun n1 =>
 ixS s1_ 1 i5_ fun p2 =>
 ldI .i64 p2 h fun n3 =>
 bif (n1 != n3) then
 K (.bool false) h
 else
 X0 (laws_likeInts_e0 s0_ s1_ (w64 (i5_ + (1)))) h
 else
 laws_likeInts_C0 S K h
theorem laws_likeInts_link0 (S : SatT) (K : KT) (X0 : XT) (s0_ s1_ : Sl) (i5_ : Int) (h : H) : laws_likeInts_w0 S K X0 (laws_likeInts_e0 s0_ s1_ i5_) h = laws_likeInts_b0 S K X0 s0_ s1_ i5_ h := by kernel_rfl
theorem laws_likeInts_rule0 (S : SatT) (K : KT) (s0_ s1_ : Sl) (I_ : Int → H → Prop) (m_ : Int → H → Nat)
    (hs : ∀ (X0 : XT) (i5_ : Int) (h : H), I_ i5_ h → (∀ (i5_' : Int) (h' : H), I_ i5_' h' → m_ i5_' h' < m_ i5_ h → X0 (laws_likeInts_e0 s0_ s1_ i5_') h') → laws_likeInts_b0 S K X0 s0_ s1_ i5_ h) (i5_ : Int) {h : H} (h0 : I_ i5_ h) : laws_likeInts_L0 S K s0_ s1_ i5_ h :=
  loop_rule (σ := (Int)) (fun s_ => laws_likeInts_e0 s0_ s1_ (s_)) (fun s_ h => I_ (s_) h) (fun s_ h => m_ (s_) h)
    (fun X s_ h hi hx => (laws_likeInts_link0 S K X s0_ s1_ (s_) h).mpr (hs X (s_) h hi fun i5_' h' hi' hm' => hx (i5_') h' hi' hm')) (i5_) h0
def laws_likeInts_main (S : SatT) (K : KT) (x0 x1 : Sl) (h : H) : Prop :=
 bif ((x0.len : Int) != (x1.len : Int)) then
 K (.bool false) h
 else
 laws_likeInts_L0 S K x0 x1 (0) h
theorem laws_likeInts_main_link (S : SatT) (K : KT) (x0 x1 : Sl) (h : H) : cwp S tab laws_likeInts_M [] (bodyOf Try.f8) (kFun tab Try.f8.results.toList K) (fr0 Try.f8 [.sl x0, .sl x1]) h = laws_likeInts_main S K x0 x1 h := by kernel_rfl
theorem laws_likeInts_call (x0 x1 : Sl) (h : H) (K : Bool → H → Prop) (hm : laws_likeInts_main (Sat Try.prog) (fun v h' => ∃ r, v = .bool r ∧ K r h') x0 x1 h) : callB (Sat Try.prog) i_laws_likeInts [.sl x0, .sl x1] h K := by
  have := Sat.ex tok mixed laws_likeInts_M Try.func8 (c := bodyOf Try.f8) (by kernel_rfl) (calls_of Try.func8 (c := bodyOf Try.f8) (by kernel_rfl) (by decide)) ((laws_likeInts_main_link _ _ x0 x1 h).mpr hm)
  obtain ⟨v, h2, h3, r, rfl, h4⟩ := this; exact ⟨r, h2, h3, h4⟩

/-! ### loop.example/g01354/spec.l01Small -/
def spec_l01Small_M : Nat → List Nat := fun i => []
def spec_l01Small_main (S : SatT) (K : KT) (x0 : Pt) (h : H) : Prop :=
 newO [.int .i64 (0), .sl Sl.nil] h fun p0 h1 =>
 callI S .i64 i_spec_l01Next [.ptr x0, .int .i64 (3)] h1 fun n3 h2 =>
 bif (n3 == (0)) then
 callS S i_spec_l01Names [] h2 fun s5 h4 =>
 callI S .i64 i_spec_l01Next [.ptr x0, .int .i64 (s5.len : Int)] h4 fun n7 h6 =>
 ixS s5 1 n7 fun p8 =>
 ldV p8 h6 fun v9 =>
 callV S i_spec_l01Named [v9] h6 fun v11 h10 =>
 viaT v11 fun vs12 =>
 exA vs12 0 fun cs13 =>
 viaT v11 fun vs14 =>
 exB vs14 1 fun b15 =>
 newO [.int .i64 (0), .sl Sl.nil] h10 fun p16 h17 =>
 stN p16 2 cs13 h17 fun h18 =>
 ldA p16 2 h18 fun cs19 =>
 isPt p16 (
 ldI .i64 (Pt.add p16 0) h18 fun n20 =>
 callS S i_spec_l01DrawOrder [.ptr x0, .int .i64 n20] h18 fun s22 h21 =>
(range h21 p16.o p16.n p16.off 2 = range h18 p16.o p16.n p16.off 2) ∧ (
 callA S i_spec_l01Renamed [.agg cs19, .sl s22] h21 fun cs24 h23 =>
 stN p0 2 cs24 h23 fun h25 =>
 ldA p0 2 h25 fun cs26 =>
 K (.agg cs26) h25))
 else
 newS 5 1 [.int .i64 (1), .int .i64 (2), .int .i64 (2), .int .i64 (2), .int .i64 (3)] h2 fun s27 h28 =>
 callI S .i64 i_spec_l01Pick [.ptr x0, .sl s27] h28 fun n30 h29 =>
 newS 3 1 [.int .i64 (3), .int .i64 (6), .int .i64 (9)] h29 fun s31 h32 =>
 callI S .i64 i_spec_l01Pick [.ptr x0, .sl s31] h32 fun n34 h33 =>
 callI S .i64 i_spec_l01Next [.ptr x0, .int .i64 n34] h33 fun n36 h35 =>
 callA S i_spec_l01DrawOf [.ptr x0, .int .i64 n30, .int .i64 n36] h35 fun cs38 h37 =>
 stN p0 2 cs38 h37 fun h39 =>
 ldA p0 2 h39 fun cs40 =>
 K (.agg cs40) h39
theorem spec_l01Small_main_link (S : SatT) (K : KT) (x0 : Pt) (h : H) : cwp S tab spec_l01Small_M [] (bodyOf Try.f56) (kFun tab Try.f56.results.toList K) (fr0 Try.f56 [.ptr x0]) h = spec_l01Small_main S K x0 h := by kernel_rfl
theorem spec_l01Small_call (x0 : Pt) (h : H) (K : List AVal → H → Prop) (hm : spec_l01Small_main (Sat Try.prog) (fun v h' => ∃ r, v = .agg r ∧ K r h') x0 h) : callA (Sat Try.prog) i_spec_l01Small [.ptr x0] h K := by
  have := Sat.ex tok mixed spec_l01Small_M Try.func56 (c := bodyOf Try.f56) (by kernel_rfl) (calls_of Try.func56 (c := bodyOf Try.f56) (by kernel_rfl) (by decide)) ((spec_l01Small_main_link _ _ x0 h).mpr hm)
  obtain ⟨v, h2, h3, r, rfl, h4⟩ := this; exact ⟨r, h2, h3, h4⟩

/-! ### slices.Delete[[]loop.example/g01354/impl.Tile,loop.example/g01354/impl.Tile] -/
def slices_Delete_s_impl_Tile_impl_Tile__M : Nat → List Nat := fun i => []
def slices_Delete_s_impl_Tile_impl_Tile__main (S : SatT) (K : KT) (x0 : Sl) (x1 x2 : Int) (h : H) : Prop :=
 cutM x0 4 x1 x2 (x0.len : Int) h (
 bif (x1 == x2) then
 K (.sl x0) h
 else
 cut x0 4 (0) x1 h fun s0 =>
 cut x0 4 x2 (x0.len : Int) h fun s1 =>
 app s0 s1 4 h fun s2 h3 =>
 cut s2 4 (s2.len : Int) (x0.len : Int) h3 fun s4 =>
 clearS s4 [.int .i64 (0), .int .i64 (0), .int .i64 (0), .int .i64 (0)] h3 fun h5 =>
 K (.sl s2) h5)
theorem slices_Delete_s_impl_Tile_impl_Tile__main_link (S : SatT) (K : KT) (x0 : Sl) (x1 x2 : Int) (h : H) : cwp S tab slices_Delete_s_impl_Tile_impl_Tile__M [] (bodyOf Try.f32) (kFun tab Try.f32.results.toList K) (fr0 Try.f32 [.sl x0, .int .i64 x1, .int .i64 x2]) h = slices_Delete_s_impl_Tile_impl_Tile__main S K x0 x1 x2 h := by kernel_rfl
theorem slices_Delete_s_impl_Tile_impl_Tile__call (x0 : Sl) (x1 x2 : Int) (h : H) (K : Sl → H → Prop) (hm : slices_Delete_s_impl_Tile_impl_Tile__main (Sat Try.prog) (fun v h' => ∃ r, v = .sl r ∧ K r h') x0 x1 x2 h) : callS (Sat Try.prog) i_slices_Delete_s_impl_Tile_impl_Tile_ [.sl x0, .int .i64 x1, .int .i64 x2] h K := by
  have := Sat.ex tok mixed slices_Delete_s_impl_Tile_impl_Tile__M Try.func32 (c := bodyOf Try.f32) (by kernel_rfl) (calls_of Try.func32 (c := bodyOf Try.f32) (by kernel_rfl) (by decide)) ((slices_Delete_s_impl_Tile_impl_Tile__main_link _ _ x0 x1 x2 h).mpr hm)
  obtain ⟨v, h2, h3, r, rfl, h4⟩ := this; exact ⟨r, h2, h3, h4⟩

/-! ### loop.example/g01354/impl.KeepLasting -/
def impl_KeepLasting_M : Nat → List Nat := fun i => []
def impl_KeepLasting_main (S : SatT) (K : KT) (x0 : List AVal) (h : H) : Prop :=
 newK 2 x0 h fun p0 h1 =>
 newO [.int .i64 (0), .sl Sl.nil] h1 fun p2 h3 =>
 ldA p0 2 h3 fun cs4 =>
 callB S i_impl_IsSet [.agg cs4] h3 fun b6 h5 =>
 bif (!b6) then
 stN p2 2 [.int .i64 (0), .sl Sl.nil] h5 fun h7 =>
 ldA p2 2 h7 fun cs8 =>
 K (.tuple [.agg cs8, .int .i64 (1)]) h7
 else
 isPt p0 (
 ldI .i64 (Pt.add p0 0) h5 fun n9 =>
 isPt p0 (
 ldS (Pt.add p0 1) h5 fun s10 =>
 callS S i_impl_kept [.sl s10] h5 fun s12 h11 =>
(cell h11 (Pt.add p0 0) = cell h5 (Pt.add p0 0)) ∧ (
 stN p2 2 [.int .i64 n9, .sl s12] h11 fun h13 =>
 ldA p2 2 h13 fun cs14 =>
 K (.tuple [.agg cs14, .int .i64 (0)]) h13)))
theorem impl_KeepLasting_main_link (S : SatT) (K : KT) (x0 : List AVal) (h : H) : cwp S tab impl_KeepLasting_M [] (bodyOf Try.f9) (kFun tab Try.f9.results.toList K) (fr0 Try.f9 [.agg x0]) h = impl_KeepLasting_main S K x0 h := by kernel_rfl
theorem impl_KeepLasting_call (x0 : List AVal) (h : H) (K : KT) (hm : impl_KeepLasting_main (Sat Try.prog) (fun v h' => K v h') x0 h) : callV (Sat Try.prog) i_impl_KeepLasting [.agg x0] h K := by
  have := Sat.ex tok mixed impl_KeepLasting_M Try.func9 (c := bodyOf Try.f9) (by kernel_rfl) (calls_of Try.func9 (c := bodyOf Try.f9) (by kernel_rfl) (by decide)) ((impl_KeepLasting_main_link _ _ x0 h).mpr hm)
  exact this

/-! ### loop.example/g01354/spec.DrawIsDetermined -/
def spec_DrawIsDetermined_M : Nat → List Nat := fun i => []
def spec_DrawIsDetermined_main (S : SatT) (K : KT) (x0 : Sl) (h : H) : Prop :=
 newO [.int .i64 (0), .sl Sl.nil] h fun p0 h1 =>
 callP S i_spec_l01From [.sl x0] h1 fun p3 h2 =>
 callA S i_spec_l01Spoil [.ptr p3] h2 fun cs5 h4 =>
 callI S .i64 i_spec_l01Next [.ptr p3, .int .i64 (4)] h4 fun n7 h6 =>
 callI S .i64 i_spec_l01Next [.ptr p3, .int .i64 (24)] h6 fun n9 h8 =>
 nz (23) (
 stN p0 2 cs5 h8 fun h10 =>
 ldA p0 2 h10 fun cs11 =>
 K (.tuple [.agg cs11, .int .i64 (w64 (n7 + (w64 ((w64 (Int.tdiv n9 (23))) * (4)))))]) h10)
theorem spec_DrawIsDetermined_main_link (S : SatT) (K : KT) (x0 : Sl) (h : H) : cwp S tab spec_DrawIsDetermined_M [] (bodyOf Try.f15) (kFun tab Try.f15.results.toList K) (fr0 Try.f15 [.sl x0]) h = spec_DrawIsDetermined_main S K x0 h := by kernel_rfl
theorem spec_DrawIsDetermined_call (x0 : Sl) (h : H) (K : KT) (hm : spec_DrawIsDetermined_main (Sat Try.prog) (fun v h' => K v h') x0 h) : callV (Sat Try.prog) i_spec_DrawIsDetermined [.sl x0] h K := by
  have := Sat.ex tok mixed spec_DrawIsDetermined_M Try.func15 (c := bodyOf Try.f15) (by kernel_rfl) (calls_of Try.func15 (c := bodyOf Try.f15) (by kernel_rfl) (by decide)) ((spec_DrawIsDetermined_main_link _ _ x0 h).mpr hm)
  exact this

/-! ### slices.ContainsFunc[[]int64,int64] -/
def slices_ContainsFunc_s_int64_int64__M : Nat → List Nat := fun i => []
def slices_ContainsFunc_s_int64_int64__main (S : SatT) (K : KT) (x0 : Sl) (x1 : AVal) (h : H) : Prop :=
 callI S .i64 i_slices_IndexFunc_s_int64_int64_ [.sl x0, x1] h fun n1 h0 =>
 K (.bool (decide (n1 ≥ (0)))) h0
theorem slices_ContainsFunc_s_int64_int64__main_link (S : SatT) (K : KT) (x0 : Sl) (x1 : AVal) (h : H) : cwp S tab slices_ContainsFunc_s_int64_int64__M [] (bodyOf Try.f58) (kFun tab Try.f58.results.toList K) (fr0 Try.f58 [.sl x0, x1]) h = slices_ContainsFunc_s_int64_int64__main S K x0 x1 h := by kernel_rfl
theorem slices_ContainsFunc_s_int64_int64__call (x0 : Sl) (x1 : AVal) (h : H) (K : Bool → H → Prop) (hm : slices_ContainsFunc_s_int64_int64__main (Sat Try.prog) (fun v h' => ∃ r, v = .bool r ∧ K r h') x0 x1 h) : callB (Sat Try.prog) i_slices_ContainsFunc_s_int64_int64_ [.sl x0, x1] h K := by
  have := Sat.ex tok mixed slices_ContainsFunc_s_int64_int64__M Try.func58 (c := bodyOf Try.f58) (by kernel_rfl) (calls_of Try.func58 (c := bodyOf Try.f58) (by kernel_rfl) (by decide)) ((slices_ContainsFunc_s_int64_int64__main_link _ _ x0 x1 h).mpr hm)
  obtain ⟨v, h2, h3, r, rfl, h4⟩ := this; exact ⟨r, h2, h3, h4⟩

/-! ### slices.Clone[[]loop.example/g01354/impl.Tile,loop.example/g01354/impl.Tile] -/
def slices_Clone_s_impl_Tile_impl_Tile__M : Nat → List Nat := fun i => []
def slices_Clone_s_impl_Tile_impl_Tile__main (S : SatT) (K : KT) (x0 : Sl) (h : H) : Prop :=
 bif (isNilS x0) then
 K (.sl Sl.nil) h
 else
 newS 0 4 [] h fun s0 h1 =>
 app s0 x0 4 h1 fun s2 h3 =>
 K (.sl s2) h3
theorem slices_Clone_s_impl_Tile_impl_Tile__main_link (S : SatT) (K : KT) (x0 : Sl) (h : H) : cwp S tab slices_Clone_s_impl_Tile_impl_Tile__M [] (bodyOf Try.f28) (kFun tab Try.f28.results.toList K) (fr0 Try.f28 [.sl x0]) h = slices_Clone_s_impl_Tile_impl_Tile__main S K x0 h := by kernel_rfl
theorem slices_Clone_s_impl_Tile_impl_Tile__call (x0 : Sl) (h : H) (K : Sl → H → Prop) (hm : slices_Clone_s_impl_Tile_impl_Tile__main (Sat Try.prog) (fun v h' => ∃ r, v = .sl r ∧ K r h') x0 h) : callS (Sat Try.prog) i_slices_Clone_s_impl_Tile_impl_Tile_ [.sl x0] h K := by
  have := Sat.ex tok mixed slices_Clone_s_impl_Tile_impl_Tile__M Try.func28 (c := bodyOf Try.f28) (by kernel_rfl) (calls_of Try.func28 (c := bodyOf Try.f28) (by kernel_rfl) (by decide)) ((slices_Clone_s_impl_Tile_impl_Tile__main_link _ _ x0 h).mpr hm)
  obtain ⟨v, h2, h3, r, rfl, h4⟩ := this; exact ⟨r, h2, h3, h4⟩

/-! ### loop.example/g01354/impl.setCode -/
def impl_setCode_M : Nat → List Nat := fun i => []
def impl_setCode_main (S : SatT) (K : KT) (x0 : List AVal) (x1 : AVal) (h : H) : Prop :=
 newK 2 x0 h fun p0 h1 =>
 ldA p0 2 h1 fun cs2 =>
 callB S i_impl_IsSet [.agg cs2] h1 fun b4 h3 =>
 bif (!b4) then
 K (.int .i64 (1)) h3
 else
 viaF x1 [] fun g5 ys6 =>
 callB S g5 ys6 h3 fun b8 h7 =>
 bif (!b8) then
 K (.int .i64 (2)) h7
 else
 K (.int .i64 (0)) h7
theorem impl_setCode_main_link (S : SatT) (K : KT) (x0 : List AVal) (x1 : AVal) (h : H) : cwp S tab impl_setCode_M [] (bodyOf Try.f35) (kFun tab Try.f35.results.toList K) (fr0 Try.f35 [.agg x0, x1]) h = impl_setCode_main S K x0 x1 h := by kernel_rfl
theorem impl_setCode_call (x0 : List AVal) (x1 : AVal) (h : H) (K : Int → H → Prop) (hm : impl_setCode_main (Sat Try.prog) (fun v h' => ∃ r, v = .int .i64 r ∧ K r h') x0 x1 h) : callI (Sat Try.prog) .i64 i_impl_setCode [.agg x0, x1] h K := by
  have := Sat.ex tok mixed impl_setCode_M Try.func35 (c := bodyOf Try.f35) (by kernel_rfl) (calls_of Try.func35 (c := bodyOf Try.f35) (by kernel_rfl) (by decide)) ((impl_setCode_main_link _ _ x0 x1 h).mpr hm)
  obtain ⟨v, h2, h3, r, rfl, h4⟩ := this; exact ⟨r, h2, h3, h4⟩

/-! ### loop.example/g01354/spec.l01Made -/
def spec_l01Made_M : Nat → List Nat := fun i => []
def spec_l01Made_main (S : SatT) (K : KT) (x0 : Int) (x1 : Sl) (h : H) : Prop :=
 newO [.int .i64 (0), .sl Sl.nil] h fun p0 h1 =>
 callS S i_spec_l01Sort [.sl x1] h1 fun s3 h2 =>
 stN p0 2 [.int .i64 x0, .sl s3] h2 fun h4 =>
 ldA p0 2 h4 fun cs5 =>
 K (.agg cs5) h4
theorem spec_l01Made_main_link (S : SatT) (K : KT) (x0 : Int) (x1 : Sl) (h : H) : cwp S tab spec_l01Made_M [] (bodyOf Try.f33) (kFun tab Try.f33.results.toList K) (fr0 Try.f33 [.int .i64 x0, .sl x1]) h = spec_l01Made_main S K x0 x1 h := by kernel_rfl
theorem spec_l01Made_call (x0 : Int) (x1 : Sl) (h : H) (K : List AVal → H → Prop) (hm : spec_l01Made_main (Sat Try.prog) (fun v h' => ∃ r, v = .agg r ∧ K r h') x0 x1 h) : callA (Sat Try.prog) i_spec_l01Made [.int .i64 x0, .sl x1] h K := by
  have := Sat.ex tok mixed spec_l01Made_M Try.func33 (c := bodyOf Try.f33) (by kernel_rfl) (calls_of Try.func33 (c := bodyOf Try.f33) (by kernel_rfl) (by decide)) ((spec_l01Made_main_link _ _ x0 x1 h).mpr hm)
  obtain ⟨v, h2, h3, r, rfl, h4⟩ := this; exact ⟨r, h2, h3, h4⟩

/-! ### loop.example/g01354/impl.within -/
def impl_within_M : Nat → List Nat := fun i => []
def impl_within_main (S : SatT) (K : KT) (x0 x1 x2 : Int) (h : H) : Prop :=
 bif (decide (x0 ≥ x1)) then
 K (.bool (decide (x0 ≤ x2))) h
 else
 K (.bool false) h
theorem impl_within_main_link (S : SatT) (K : KT) (x0 x1 x2 : Int) (h : H) : cwp S tab impl_within_M [] (bodyOf Try.f37) (kFun tab Try.f37.results.toList K) (fr0 Try.f37 [.int .i64 x0, .int .i64 x1, .int .i64 x2]) h = impl_within_main S K x0 x1 x2 h := by kernel_rfl
theorem impl_within_call (x0 x1 x2 : Int) (h : H) (K : Bool → H → Prop) (hm : impl_within_main (Sat Try.prog) (fun v h' => ∃ r, v = .bool r ∧ K r h') x0 x1 x2 h) : callB (Sat Try.prog) i_impl_within [.int .i64 x0, .int .i64 x1, .int .i64 x2] h K := by
  have := Sat.ex tok mixed impl_within_M Try.func37 (c := bodyOf Try.f37) (by kernel_rfl) (calls_of Try.func37 (c := bodyOf Try.f37) (by kernel_rfl) (by decide)) ((impl_within_main_link _ _ x0 x1 x2 h).mpr hm)
  obtain ⟨v, h2, h3, r, rfl, h4⟩ := this; exact ⟨r, h2, h3, h4⟩

/-! ### math/bits.Mul -/
def math_bits_Mul_M : Nat → List Nat := fun i => []
def math_bits_Mul_main (S : SatT) (K : KT) (x0 x1 : Int) (h : H) : Prop :=
 callV S i_math_bits_Mul64 [.int .u64 x0, .int .u64 x1] h fun v1 h0 =>
 viaT v1 fun vs2 =>
 exI .u64 vs2 0 fun n3 =>
 viaT v1 fun vs4 =>
 exI .u64 vs4 1 fun n5 =>
 K (.tuple [.int .u64 n3, .int .u64 n5]) h0
theorem math_bits_Mul_main_link (S : SatT) (K : KT) (x0 x1 : Int) (h : H) : cwp S tab math_bits_Mul_M [] (bodyOf Try.f61) (kFun tab Try.f61.results.toList K) (fr0 Try.f61 [.int .u64 x0, .int .u64 x1]) h = math_bits_Mul_main S K x0 x1 h := by kernel_rfl
theorem math_bits_Mul_call (x0 x1 : Int) (h : H) (K : KT) (hm : math_bits_Mul_main (Sat Try.prog) (fun v h' => K v h') x0 x1 h) : callV (Sat Try.prog) i_math_bits_Mul [.int .u64 x0, .int .u64 x1] h K := by
  have := Sat.ex tok mixed math_bits_Mul_M Try.func61 (c := bodyOf Try.f61) (by kernel_rfl) (calls_of Try.func61 (c := bodyOf Try.f61) (by kernel_rfl) (by decide)) ((math_bits_Mul_main_link _ _ x0 x1 h).mpr hm)
  exact this

/-! ### loop.example/g01354/impl.CountRows$1 -/
def impl_CountRows_1_M : Nat → List Nat := fun i => []
def impl_CountRows_1_main (S : SatT) (K : KT) (x0 : Pt) (h : H) : Prop :=
 ldI .i64 x0 h fun n0 =>
 callB S i_impl_within [.int .i64 n0, .int .i64 (1), .int .i64 (40)] h fun b2 h1 =>
 K (.bool b2) h1
theorem impl_CountRows_1_main_link (S : SatT) (K : KT) (x0 : Pt) (h : H) : cwp S tab impl_CountRows_1_M [] (bodyOf Try.f41) (kFun tab Try.f41.results.toList K) (fr0 Try.f41 [.ptr x0]) h = impl_CountRows_1_main S K x0 h := by kernel_rfl
theorem impl_CountRows_1_call (x0 : Pt) (h : H) (K : Bool → H → Prop) (hm : impl_CountRows_1_main (Sat Try.prog) (fun v h' => ∃ r, v = .bool r ∧ K r h') x0 h) : callB (Sat Try.prog) i_impl_CountRows_1 [.ptr x0] h K := by
  have := Sat.ex tok mixed impl_CountRows_1_M Try.func41 (c := bodyOf Try.f41) (by kernel_rfl) (calls_of Try.func41 (c := bodyOf Try.f41) (by kernel_rfl) (by decide)) ((impl_CountRows_1_main_link _ _ x0 h).mpr hm)
  obtain ⟨v, h2, h3, r, rfl, h4⟩ := this; exact ⟨r, h2, h3, h4⟩

/-! ### loop.example/g01354/laws.big -/
def laws_big_M : Nat → List Nat := fun i => []
def laws_big_main (S : SatT) (K : KT) (x0 : Sl) (h : H) : Prop :=
 K (.bool (decide ((x0.len : Int) > (4096)))) h
theorem laws_big_main_link (S : SatT) (K : KT) (x0 : Sl) (h : H) : cwp S tab laws_big_M [] (bodyOf Try.f4) (kFun tab Try.f4.results.toList K) (fr0 Try.f4 [.sl x0]) h = laws_big_main S K x0 h := by kernel_rfl
theorem laws_big_call (x0 : Sl) (h : H) (K : Bool → H → Prop) (hm : laws_big_main (Sat Try.prog) (fun v h' => ∃ r, v = .bool r ∧ K r h') x0 h) : callB (Sat Try.prog) i_laws_big [.sl x0] h K := by
  have := Sat.ex tok mixed laws_big_M Try.func4 (c := bodyOf Try.f4) (by kernel_rfl) (calls_of Try.func4 (c := bodyOf Try.f4) (by kernel_rfl) (by decide)) ((laws_big_main_link _ _ x0 h).mpr hm)
  obtain ⟨v, h2, h3, r, rfl, h4⟩ := this; exact ⟨r, h2, h3, h4⟩

/-! ### (loop.example/g01354/impl.Set).ways -/
def impl_Set_ways_M : Nat → List Nat := fun i => bif i == 4 then [1, 2, 5, 7, 8, 13, 14, 23, 24, 30, 31, 32] else bif i == 2 then [1, 2, 5, 7, 13, 14, 23, 24] else bif i == 0 then [1, 2, 5, 13, 14] else []
def impl_Set_ways_ks2 (S : SatT) (K : KT) : Kont := kSeq (cwp S tab impl_Set_ways_M [] (sub [1, 1, 1] (bodyOf Try.f42)) (kFun tab (Try.f42).results.toList K)) (kFun tab (Try.f42).results.toList K)
def impl_Set_ways_e0 (i1_ : Int) (p2_ : Pt) (s5_ : Sl) (i13_ i14_ : Int) : Frame := [U, .int .i64 i1_, .ptr p2_, U, U, .sl s5_, U, U, U, U, U, U, U, .int .i64 i13_, .int .i64 i14_, U, U, U, U, U, U, U, U, U, U, U, U, U, U, U, U, U, U, U, U, U, U, U, U, U, U, U, U, U, U, U, U, U, U, U, U, U, U, U, U, U, U, U, U, U, U]
def impl_Set_ways_w0 (S : SatT) (K : KT) : (XT) → XT := fun X fr h => cwp S tab impl_Set_ways_M (impl_Set_ways_M 0) (sub [1, 1, 0, 1, 0, 0] (bodyOf Try.f42)) (kSeq (fun fr h => X (mask (impl_Set_ways_M 0) fr) h) (kBlk 0 (impl_Set_ways_ks2 S K))) fr h
def impl_Set_ways_L0 (S : SatT) (K : KT) (i1_ : Int) (p2_ : Pt) (s5_ : Sl) (i13_ i14_ : Int) (h : H) : Prop := loopK (impl_Set_ways_w0 S K) (impl_Set_ways_e0 i1_ p2_ s5_ i13_ i14_) h
def impl_Set_ways_ks6 (S : SatT) (K : KT) (X0 : XT) : Kont := kSeq (cwp S tab impl_Set_ways_M (impl_Set_ways_M 0) (sub [1, 1, 0, 1, 0, 0, 1, 1, 1] (bodyOf Try.f42)) (kSeq (fun fr h => X0 (mask (impl_Set_ways_M 0) fr) h) (kBlk 0 (impl_Set_ways_ks2 S K)))) (kSeq (fun fr h => X0 (mask (impl_Set_ways_M 0) fr) h) (kBlk 0 (impl_Set_ways_ks2 S K)))
def impl_Set_ways_ks10 (S : SatT) (K : KT) (X0 : XT) : Kont := kSeq (cwp S tab impl_Set_ways_M (impl_Set_ways_M 1) (sub [1, 1, 0, 1, 0, 0, 1, 1, 0, 0, 1, 1, 1, 1] (bodyOf Try.f42)) (kBlk 1 (impl_Set_ways_ks6 S K X0))) (kBlk 1 (impl_Set_ways_ks6 S K X0))
def impl_Set_ways_e2 (i1_ : Int) (p2_ : Pt) (s5_ s7_ : Sl) (i13_ i14_ : Int) (i23_ i24_ : Int) : Frame := [U, .int .i64 i1_, .ptr p2_, U, U, .sl s5_, U, .sl s7_, U, U, U, U, U, .int .i64 i13_, .int .i64 i14_, U, U, U, U, U, U, U, U, .int .i64 i23_, .int .i64 i24_, U, U, U, U, U, U, U, U, U, U, U, U, U, U, U, U, U, U, U, U, U, U, U, U, U, U, U, U, U, U, U, U, U, U, U, U]
def impl_Set_ways_w2 (S : SatT) (K : KT) (X0 : XT) : (XT) → XT := fun X fr h => cwp S tab impl_Set_ways_M (impl_Set_ways_M 2) (sub [1, 1, 0, 1, 0, 0, 1, 1, 0, 0, 1, 1, 1, 0, 1, 0, 0] (bodyOf Try.f42)) (kSeq (fun fr h => X (mask (impl_Set_ways_M 2) fr) h) (kBlk 2 (impl_Set_ways_ks10 S K X0))) fr h
def impl_Set_ways_L2 (S : SatT) (K : KT) (X0 : XT) (i1_ : Int) (p2_ : Pt) (s5_ s7_ : Sl) (i13_ i14_ : Int) (i23_ i24_ : Int) (h : H) : Prop := loopK (impl_Set_ways_w2 S K X0) (impl_Set_ways_e2 i1_ p2_ s5_ s7_ i13_ i14_ i23_ i24_) h
def impl_Set_ways_ks14 (S : SatT) (K : KT) (X0 X2 : XT) : Kont := kSeq (cwp S tab impl_Set_ways_M (impl_Set_ways_M 2) (sub [1, 1, 0, 1, 0, 0, 1, 1, 0, 0, 1, 1, 1, 0, 1, 0, 0, 1, 1, 1] (bodyOf Try.f42)) (kSeq (fun fr h => X2 (mask (impl_Set_ways_M 2) fr) h) (kBlk 2 (impl_Set_ways_ks10 S K X0)))) (kSeq (fun fr h => X2 (mask (impl_Set_ways_M 2) fr) h) (kBlk 2 (impl_Set_ways_ks10 S K X0)))
def impl_Set_ways_ks16 (S : SatT) (K : KT) (X0 X2 : XT) : Kont := kSeq (cwp S tab impl_Set_ways_M (impl_Set_ways_M 3) (sub [1, 1, 0, 1, 0, 0, 1, 1, 0, 0, 1, 1, 1, 0, 1, 0, 0, 1, 1, 0, 0, 1, 1] (bodyOf Try.f42)) (kBlk 3 (impl_Set_ways_ks14 S K X0 X2))) (kBlk 3 (impl_Set_ways_ks14 S K X0 X2))
def impl_Set_ways_e4 (i1_ : Int) (p2_ : Pt) (s5_ s7_ s8_ : Sl) (i13_ i14_ : Int) (i23_ i24_ : Int) (s30_ : Sl) (i31_ i32_ : Int) : Frame := [U, .int .i64 i1_, .ptr p2_, U, U, .sl s5_, U, .sl s7_, .sl s8_, U, U, U, U, .int .i64 i13_, .int .i64 i14_, U, U, U, U, U, U, U, U, .int .i64 i23_, .int .i64 i24_, U, U, U, U, U, .sl s30_, .int .i64 i31_, .int .i64 i32_, U, U, U, U, U, U, U, U, U, U, U, U, U, U, U, U, U, U, U, U, U, U, U, U, U, U, U, U]
def impl_Set_ways_w4 (S : SatT) (K : KT) (X0 X2 : XT) : (XT) → XT := fun X fr h => cwp S tab impl_Set_ways_M (impl_Set_ways_M 4) (sub [1, 1, 0, 1, 0, 0, 1, 1, 0, 0, 1, 1, 1, 0, 1, 0, 0, 1, 1, 0, 0, 1, 0, 1, 0, 0] (bodyOf Try.f42)) (kSeq (fun fr h => X (mask (impl_Set_ways_M 4) fr) h) (kBlk 4 (impl_Set_ways_ks16 S K X0 X2))) fr h
def impl_Set_ways_L4 (S : SatT) (K : KT) (X0 X2 : XT) (i1_ : Int) (p2_ : Pt) (s5_ s7_ s8_ : Sl) (i13_ i14_ : Int) (i23_ i24_ : Int) (s30_ : Sl) (i31_ i32_ : Int) (h : H) : Prop := loopK (impl_Set_ways_w4 S K X0 X2) (impl_Set_ways_e4 i1_ p2_ s5_ s7_ s8_ i13_ i14_ i23_ i24_ s30_ i31_ i32_) h
def impl_Set_ways_C3 (S : SatT) (K : KT) (X0 X2 : XT) (i1_ : Int) (p2_ : Pt) (s5_ s7_ : Sl) (i13_ i14_ : Int) (i23_ i24_ : Int) (h : H) : Prop :=
 X2 (impl_Set_ways_e2 i1_ p2_ s5_ s7_ i13_ i14_ i23_ (w64 (i24_ + (1)))) h
def impl_Set_ways_C4 (S : SatT) (K : KT) (X0 X2 : XT) (i1_ : Int) (p2_ : Pt) (s5_ s8_ : Sl) (i13_ i14_ : Int) (i23_ i24_ : Int) (h : H) : Prop :=
 impl_Set_ways_C3 S K X0 X2 i1_ p2_ s5_ s8_ i13_ i14_ i23_ i24_ h
def impl_Set_ways_b4 (S : SatT) (K : KT) (X0 X2 X4 : XT) (i1_ : Int) (p2_ : Pt) (s5_ s7_ s8_ : Sl) (i13_ i14_ : Int) (i23_ i24_ : Int) (s30_ : Sl) (i31_ i32_ : Int) (h : H) : Prop :=
 bif (decide (i32_ < i31_)) then
 ixS s30_ 4 i32_ fun p0 =>
 ldA p0 4 h fun cs1 =>
 newO [.int .i64 (0), .int .i64 (0), .int .i64 (0), .int .i64 (0)] h fun p2 h3 =>
 stN p2 4 cs1 h3 fun h4 =>
 ixA p2 4 1 (2) fun p5 =>
 ldI .i64 p5 h4 fun n6 =>
 ixA p2 4 1 (2) fun p7 =>
 ldI .i64 p7 h4 fun n8 =>
 ixS s8_ 1 n8 fun p9 =>
 ldI .i64 p9 h4 fun n10 =>
 ixA p2 4 1 (0) fun p11 =>
 ldI .i64 p11 h4 fun n12 =>
 ixS s7_ 1 n12 fun p13 =>
 ldI .i64 p13 h4 fun n14 =>
 ixS s8_ 1 n6 fun p15 =>
 st1 p15 (.int .i64 (mnI (1000000000000001) (w64 (n10 + n14)))) h4 fun h16 =>
 X4 (impl_Set_ways_e4 i1_ p2_ s5_ s7_ s8_ i13_ i14_ i23_ i24_ s30_ i31_ (w64 (i32_ + (1)))) h16
 else
 impl_Set_ways_C4 S K X0 X2 i1_ p2_ s5_ s8_ i13_ i14_ i23_ i24_ h
theorem impl_Set_ways_link4 (S : SatT) (K : KT) (X0 X2 X4 : XT) (i1_ : Int) (p2_ : Pt) (s5_ s7_ s8_ : Sl) (i13_ i14_ : Int) (i23_ i24_ : Int) (s30_ : Sl) (i31_ i32_ : Int) (h : H) : impl_Set_ways_w4 S K X0 X2 X4 (impl_Set_ways_e4 i1_ p2_ s5_ s7_ s8_ i13_ i14_ i23_ i24_ s30_ i31_ i32_) h = impl_Set_ways_b4 S K X0 X2 X4 i1_ p2_ s5_ s7_ s8_ i13_ i14_ i23_ i24_ s30_ i31_ i32_ h := by kernel_rfl
theorem impl_Set_ways_rule4 (S : SatT) (K : KT) (X0 X2 : XT) (i1_ : Int) (p2_ : Pt) (s5_ s7_ s8_ : Sl) (i13_ i14_ : Int) (i23_ i24_ : Int) (s30_ : Sl) (i31_ : Int) (I_ : Int → H → Prop) (m_ : Int → H → Nat)
    (hs : ∀ (X4 : XT) (i32_ : Int) (h : H), I_ i32_ h → (∀ (i32_' : Int) (h' : H), I_ i32_' h' → m_ i32_' h' < m_ i32_ h → X4 (impl_Set_ways_e4 i1_ p2_ s5_ s7_ s8_ i13_ i14_ i23_ i24_ s30_ i31_ i32_') h') → impl_Set_ways_b4 S K X0 X2 X4 i1_ p2_ s5_ s7_ s8_ i13_ i14_ i23_ i24_ s30_ i31_ i32_ h) (i32_ : Int) {h : H} (h0 : I_ i32_ h) : impl_Set_ways_L4 S K X0 X2 i1_ p2_ s5_ s7_ s8_ i13_ i14_ i23_ i24_ s30_ i31_ i32_ h :=
  loop_rule (σ := (Int)) (fun s_ => impl_Set_ways_e4 i1_ p2_ s5_ s7_ s8_ i13_ i14_ i23_ i24_ s30_ i31_ (s_)) (fun s_ h => I_ (s_) h) (fun s_ h => m_ (s_) h)
    (fun X s_ h hi hx => (impl_Set_ways_link4 S K X0 X2 X i1_ p2_ s5_ s7_ s8_ i13_ i14_ i23_ i24_ s30_ i31_ (s_) h).mpr (hs X (s_) h hi fun i32_' h' hi' hm' => hx (i32_') h' hi' hm')) (i32_) h0
def impl_Set_ways_C1 (S : SatT) (K : KT) (X0 : XT) (i1_ : Int) (p2_ : Pt) (s5_ : Sl) (i13_ i14_ : Int) (h : H) : Prop :=
 X0 (impl_Set_ways_e0 i1_ p2_ s5_ i13_ (w64 (i14_ + (1)))) h
def impl_Set_ways_C2 (S : SatT) (K : KT) (X0 : XT) (i1_ : Int) (p2_ : Pt) (s5_ s7_ : Sl) (i13_ i14_ : Int) (h : H) : Prop :=
 newS 1 1 [.sl s7_] h fun s0 h1 =>
 app s5_ s0 1 h1 fun s2 h3 =>
 impl_Set_ways_C1 S K X0 i1_ p2_ s2 i13_ i14_ h3
def impl_Set_ways_b2 (S : SatT) (K : KT) (X0 X2 : XT) (i1_ : Int) (p2_ : Pt) (s5_ s7_ : Sl) (i13_ i14_ : Int) (i23_ i24_ : Int) (h : H) : Prop :=
 bif (decide (i24_ < i23_)) then
 isPt p2_ (
 ldI .i64 (Pt.add p2_ 0) h fun n0 =>
 mkS n0 [.int .i64 (0)] h fun s1 h2 =>
 isPt p2_ (
 ldS (Pt.add p2_ 1) h2 fun s3 =>
 impl_Set_ways_L4 S K X0 X2 i1_ p2_ s5_ s7_ s1 i13_ i14_ i23_ i24_ s3 (s3.len : Int) (0) h2))
 else
 impl_Set_ways_C2 S K X0 i1_ p2_ s5_ s7_ i13_ i14_ h
theorem impl_Set_ways_link2 (S : SatT) (K : KT) (X0 X2 : XT) (i1_ : Int) (p2_ : Pt) (s5_ s7_ : Sl) (i13_ i14_ : Int) (i23_ i24_ : Int) (h : H) : impl_Set_ways_w2 S K X0 X2 (impl_Set_ways_e2 i1_ p2_ s5_ s7_ i13_ i14_ i23_ i24_) h = impl_Set_ways_b2 S K X0 X2 i1_ p2_ s5_ s7_ i13_ i14_ i23_ i24_ h := by kernel_rfl
theorem impl_Set_ways_rule2 (S : SatT) (K : KT) (X0 : XT) (i1_ : Int) (p2_ : Pt) (s5_ : Sl) (i13_ i14_ i23_ : Int) (I_ : Sl → Int → H → Prop) (m_ : Sl → Int → H → Nat)
    (hs : ∀ (X2 : XT) (s7_ : Sl) (i24_ : Int) (h : H), I_ s7_ i24_ h → (∀ (s7_' : Sl) (i24_' : Int) (h' : H), I_ s7_' i24_' h' → m_ s7_' i24_' h' < m_ s7_ i24_ h → X2 (impl_Set_ways_e2 i1_ p2_ s5_ s7_' i13_ i14_ i23_ i24_') h') → impl_Set_ways_b2 S K X0 X2 i1_ p2_ s5_ s7_ i13_ i14_ i23_ i24_ h) (s7_ : Sl) (i24_ : Int) {h : H} (h0 : I_ s7_ i24_ h) : impl_Set_ways_L2 S K X0 i1_ p2_ s5_ s7_ i13_ i14_ i23_ i24_ h :=
  loop_rule (σ := (Sl) × (Int)) (fun s_ => impl_Set_ways_e2 i1_ p2_ s5_ (s_.1) i13_ i14_ i23_ (s_.2)) (fun s_ h => I_ (s_.1) (s_.2) h) (fun s_ h => m_ (s_.1) (s_.2) h)
    (fun X s_ h hi hx => (impl_Set_ways_link2 S K X0 X i1_ p2_ s5_ (s_.1) i13_ i14_ i23_ (s_.2) h).mpr (hs X (s_.1) (s_.2) h hi fun s7_' i24_' h' hi' hm' => hx (s7_', i24_') h' hi' hm')) (s7_, i24_) h0
def impl_Set_ways_C0 (S : SatT) (K : KT) (s5_ : Sl) (h : H) : Prop :=
 K (.sl s5_) h
def impl_Set_ways_b0 (S : SatT) (K : KT) (X0 : XT) (i1_ : Int) (p2_ : Pt) (s5_ : Sl) (i13_ i14_ : Int) (h : H) : Prop :=
 bif (decide (i14_ < i13_)) then
 isPt p2_ (
 ldI .i64 (Pt.add p2_ 0) h fun n0 =>
 mkS n0 [.int .i64 (0)] h fun s1 h2 =>
 ixS s1 1 i14_ fun p3 =>
 st1 p3 (.int .i64 (1)) h2 fun h4 =>
 impl_Set_ways_L2 S K X0 i1_ p2_ s5_ s1 i13_ i14_ i1_ (0) h4)
 else
 impl_Set_ways_C0 S K s5_ h
theorem impl_Set_ways_link0 (S : SatT) (K : KT) (X0 : XT) (i1_ : Int) (p2_ : Pt) (s5_ : Sl) (i13_ i14_ : Int) (h : H) : impl_Set_ways_w0 S K X0 (impl_Set_ways_e0 i1_ p2_ s5_ i13_ i14_) h = impl_Set_ways_b0 S K X0 i1_ p2_ s5_ i13_ i14_ h := by kernel_rfl
theorem impl_Set_ways_rule0 (S : SatT) (K : KT) (i1_ : Int) (p2_ : Pt) (i13_ : Int) (I_ : Sl → Int → H → Prop) (m_ : Sl → Int → H → Nat)
    (hs : ∀ (X0 : XT) (s5_ : Sl) (i14_ : Int) (h : H), I_ s5_ i14_ h → (∀ (s5_' : Sl) (i14_' : Int) (h' : H), I_ s5_' i14_' h' → m_ s5_' i14_' h' < m_ s5_ i14_ h → X0 (impl_Set_ways_e0 i1_ p2_ s5_' i13_ i14_') h') → impl_Set_ways_b0 S K X0 i1_ p2_ s5_ i13_ i14_ h) (s5_ : Sl) (i14_ : Int) {h : H} (h0 : I_ s5_ i14_ h) : impl_Set_ways_L0 S K i1_ p2_ s5_ i13_ i14_ h :=
  loop_rule (σ := (Sl) × (Int)) (fun s_ => impl_Set_ways_e0 i1_ p2_ (s_.1) i13_ (s_.2)) (fun s_ h => I_ (s_.1) (s_.2) h) (fun s_ h => m_ (s_.1) (s_.2) h)
    (fun X s_ h hi hx => (impl_Set_ways_link0 S K X i1_ p2_ (s_.1) i13_ (s_.2) h).mpr (hs X (s_.1) (s_.2) h hi fun s5_' i14_' h' hi' hm' => hx (s5_', i14_') h' hi' hm')) (s5_, i14_) h0
def impl_Set_ways_main (S : SatT) (K : KT) (x0 : List AVal) (x1 : Int) (h : H) : Prop :=
 newK 2 x0 h fun p0 h1 =>
 newS 0 1 [] h1 fun s2 h3 =>
 isPt p0 (
 ldI .i64 (Pt.add p0 0) h3 fun n4 =>
 impl_Set_ways_L0 S K x1 p0 s2 n4 (0) h3)
theorem impl_Set_ways_main_link (S : SatT) (K : KT) (x0 : List AVal) (x1 : Int) (h : H) : cwp S tab impl_Set_ways_M [] (bodyOf Try.f42) (kFun tab Try.f42.results.toList K) (fr0 Try.f42 [.agg x0, .int .i64 x1]) h = impl_Set_ways_main S K x0 x1 h := by kernel_rfl
theorem impl_Set_ways_call (x0 : List AVal) (x1 : Int) (h : H) (K : Sl → H → Prop) (hm : impl_Set_ways_main (Sat Try.prog) (fun v h' => ∃ r, v = .sl r ∧ K r h') x0 x1 h) : callS (Sat Try.prog) i_impl_Set_ways [.agg x0, .int .i64 x1] h K := by
  have := Sat.ex tok mixed impl_Set_ways_M Try.func42 (c := bodyOf Try.f42) (by kernel_rfl) (calls_of Try.func42 (c := bodyOf Try.f42) (by kernel_rfl) (by decide)) ((impl_Set_ways_main_link _ _ x0 x1 h).mpr hm)
  obtain ⟨v, h2, h3, r, rfl, h4⟩ := this; exact ⟨r, h2, h3, h4⟩

/-! ### slices.Compact[[]loop.example/g01354/impl.Tile,loop.example/g01354/impl.Tile] -/
def slices_Compact_s_impl_Tile_impl_Tile__M : Nat → List Nat := fun i => bif i == 2 then [0, 3, 4, 5] else bif i == 0 then [0, 3] else []
def slices_Compact_s_impl_Tile_impl_Tile__ks4 (S : SatT) (K : KT) : Kont := kSeq (cwp S tab slices_Compact_s_impl_Tile_impl_Tile__M [] (sub [1, 1, 1] (bodyOf Try.f73)) (kFun tab (Try.f73).results.toList K)) (kFun tab (Try.f73).results.toList K)
def slices_Compact_s_impl_Tile_impl_Tile__e0 (s0_ : Sl) (i3_ : Int) : Frame := [.sl s0_, U, U, .int .i64 i3_, U, U, U, U, U, U, U, U, U, U, U, U, U, U, U, U, U, U, U, U, U, U, U, U, U, U, U, U, U, U, U, U, U, U, U, U, U, U, U, U, U, U, U, U, U, U, U, U, U, U, U, U, U, U, U, U, U]
def slices_Compact_s_impl_Tile_impl_Tile__w0 (S : SatT) (K : KT) : (XT) → XT := fun X fr h => cwp S tab slices_Compact_s_impl_Tile_impl_Tile__M (slices_Compact_s_impl_Tile_impl_Tile__M 0) (sub [1, 1, 0, 1, 0, 0] (bodyOf Try.f73)) (kSeq (fun fr h => X (mask (slices_Compact_s_impl_Tile_impl_Tile__M 0) fr) h) (kBlk 0 (slices_Compact_s_impl_Tile_impl_Tile__ks4 S K))) fr h
def slices_Compact_s_impl_Tile_impl_Tile__L0 (S : SatT) (K : KT) (s0_ : Sl) (i3_ : Int) (h : H) : Prop := loopK (slices_Compact_s_impl_Tile_impl_Tile__w0 S K) (slices_Compact_s_impl_Tile_impl_Tile__e0 s0_ i3_) h
def slices_Compact_s_impl_Tile_impl_Tile__ks8 (S : SatT) (K : KT) (X0 : XT) : Kont := kSeq (cwp S tab slices_Compact_s_impl_Tile_impl_Tile__M (slices_Compact_s_impl_Tile_impl_Tile__M 0) (sub [1, 1, 0, 1, 0, 0, 1, 1] (bodyOf Try.f73)) (kSeq (fun fr h => X0 (mask (slices_Compact_s_impl_Tile_impl_Tile__M 0) fr) h) (kBlk 0 (slices_Compact_s_impl_Tile_impl_Tile__ks4 S K)))) (kSeq (fun fr h => X0 (mask (slices_Compact_s_impl_Tile_impl_Tile__M 0) fr) h) (kBlk 0 (slices_Compact_s_impl_Tile_impl_Tile__ks4 S K)))
def slices_Compact_s_impl_Tile_impl_Tile__ks11 (S : SatT) (K : KT) (X0 : XT) : Kont := kSeq (cwp S tab slices_Compact_s_impl_Tile_impl_Tile__M (slices_Compact_s_impl_Tile_impl_Tile__M 1) (sub [1, 1, 0, 1, 0, 0, 1, 0, 0, 1, 0, 1, 1] (bodyOf Try.f73)) (kBlk 1 (slices_Compact_s_impl_Tile_impl_Tile__ks8 S K X0))) (kBlk 1 (slices_Compact_s_impl_Tile_impl_Tile__ks8 S K X0))
def slices_Compact_s_impl_Tile_impl_Tile__e2 (s0_ : Sl) (i3_ : Int) (s4_ : Sl) (i5_ : Int) : Frame := [.sl s0_, U, U, .int .i64 i3_, .sl s4_, .int .i64 i5_, U, U, U, U, U, U, U, U, U, U, U, U, U, U, U, U, U, U, U, U, U, U, U, U, U, U, U, U, U, U, U, U, U, U, U, U, U, U, U, U, U, U, U, U, U, U, U, U, U, U, U, U, U, U, U]
def slices_Compact_s_impl_Tile_impl_Tile__w2 (S : SatT) (K : KT) (X0 : XT) : (XT) → XT := fun X fr h => cwp S tab slices_Compact_s_impl_Tile_impl_Tile__M (slices_Compact_s_impl_Tile_impl_Tile__M 2) (sub [1, 1, 0, 1, 0, 0, 1, 0, 0, 1, 0, 1, 0, 1, 0, 0] (bodyOf Try.f73)) (kSeq (fun fr h => X (mask (slices_Compact_s_impl_Tile_impl_Tile__M 2) fr) h) (kBlk 2 (slices_Compact_s_impl_Tile_impl_Tile__ks11 S K X0))) fr h
def slices_Compact_s_impl_Tile_impl_Tile__L2 (S : SatT) (K : KT) (X0 : XT) (s0_ : Sl) (i3_ : Int) (s4_ : Sl) (i5_ : Int) (h : H) : Prop := loopK (slices_Compact_s_impl_Tile_impl_Tile__w2 S K X0) (slices_Compact_s_impl_Tile_impl_Tile__e2 s0_ i3_ s4_ i5_) h
def slices_Compact_s_impl_Tile_impl_Tile__C2 (S : SatT) (K : KT) (X0 : XT) (s0_ : Sl) (i3_ : Int) (h : H) : Prop :=
 cut s0_ 4 i3_ (s0_.len : Int) h fun s0 =>
 clearS s0 [.int .i64 (0), .int .i64 (0), .int .i64 (0), .int .i64 (0)] h fun h1 =>
 cut s0_ 4 (0) i3_ h1 fun s2 =>
 K (.sl s2) h1
def slices_Compact_s_impl_Tile_impl_Tile__b2 (S : SatT) (K : KT) (X0 X2 : XT) (s0_ : Sl) (i3_ : Int) (s4_ : Sl) (i5_ : Int) (h : H) : Prop :=
 bif (decide (i5_ < (s4_.len : Int))) then
 ixS s4_ 4 i5_ fun p0 =>
 ldA p0 4 h fun cs1 =>
 ixS s4_ 4 (w64 (i5_ - (1))) fun p2 =>
 ldA p2 4 h fun cs3 =>
 eqA .i64 4 cs1 cs3 fun b4 =>
 bif (!b4) then
 ixS s4_ 4 i5_ fun p5 =>
 ldA p5 4 h fun cs6 =>
 ixS s0_ 4 i3_ fun p7 =>
 stN p7 4 cs6 h fun h8 =>
 X2 (slices_Compact_s_impl_Tile_impl_Tile__e2 s0_ (w64 (i3_ + (1))) s4_ (w64 (i5_ + (1)))) h8
 else
 X2 (slices_Compact_s_impl_Tile_impl_Tile__e2 s0_ i3_ s4_ (w64 (i5_ + (1)))) h
 else
 slices_Compact_s_impl_Tile_impl_Tile__C2 S K X0 s0_ i3_ h
theorem slices_Compact_s_impl_Tile_impl_Tile__link2 (S : SatT) (K : KT) (X0 X2 : XT) (s0_ : Sl) (i3_ : Int) (s4_ : Sl) (i5_ : Int) (h : H) : slices_Compact_s_impl_Tile_impl_Tile__w2 S K X0 X2 (slices_Compact_s_impl_Tile_impl_Tile__e2 s0_ i3_ s4_ i5_) h = slices_Compact_s_impl_Tile_impl_Tile__b2 S K X0 X2 s0_ i3_ s4_ i5_ h := by kernel_rfl
theorem slices_Compact_s_impl_Tile_impl_Tile__rule2 (S : SatT) (K : KT) (X0 : XT) (s0_ s4_ : Sl) (I_ : Int → Int → H → Prop) (m_ : Int → Int → H → Nat)
    (hs : ∀ (X2 : XT) (i3_ i5_ : Int) (h : H), I_ i3_ i5_ h → (∀ (i3_' i5_' : Int) (h' : H), I_ i3_' i5_' h' → m_ i3_' i5_' h' < m_ i3_ i5_ h → X2 (slices_Compact_s_impl_Tile_impl_Tile__e2 s0_ i3_' s4_ i5_') h') → slices_Compact_s_impl_Tile_impl_Tile__b2 S K X0 X2 s0_ i3_ s4_ i5_ h) (i3_ i5_ : Int) {h : H} (h0 : I_ i3_ i5_ h) : slices_Compact_s_impl_Tile_impl_Tile__L2 S K X0 s0_ i3_ s4_ i5_ h :=
  loop_rule (σ := (Int) × (Int)) (fun s_ => slices_Compact_s_impl_Tile_impl_Tile__e2 s0_ (s_.1) s4_ (s_.2)) (fun s_ h => I_ (s_.1) (s_.2) h) (fun s_ h => m_ (s_.1) (s_.2) h)
    (fun X s_ h hi hx => (slices_Compact_s_impl_Tile_impl_Tile__link2 S K X0 X s0_ (s_.1) s4_ (s_.2) h).mpr (hs X (s_.1) (s_.2) h hi fun i3_' i5_' h' hi' hm' => hx (i3_', i5_') h' hi' hm')) (i3_, i5_) h0
def slices_Compact_s_impl_Tile_impl_Tile__C1 (S : SatT) (K : KT) (X0 : XT) (s0_ : Sl) (i3_ : Int) (h : H) : Prop :=
 X0 (slices_Compact_s_impl_Tile_impl_Tile__e0 s0_ (w64 (i3_ + (1)))) h
def slices_Compact_s_impl_Tile_impl_Tile__C0 (S : SatT) (K : KT) (s0_ : Sl) (h : H) : Prop :=
 K (.sl s0_) h
def slices_Compact_s_impl_Tile_impl_Tile__b0 (S : SatT) (K : KT) (X0 : XT) (s0_ : Sl) (i3_ : Int) (h : H) : Prop :=
 bif (decide (i3_ < (s0_.len : Int))) then
 ixS s0_ 4 i3_ fun p0 =>
 ldA p0 4 h fun cs1 =>
 ixS s0_ 4 (w64 (i3_ - (1))) fun p2 =>
 ldA p2 4 h fun cs3 =>
 eqA .i64 4 cs1 cs3 fun b4 =>
 bif b4 then
 cut s0_ 4 i3_ (s0_.len : Int) h fun s5 =>
 slices_Compact_s_impl_Tile_impl_Tile__L2 S K X0 s0_ i3_ s5 (1) h
 else
 slices_Compact_s_impl_Tile_impl_Tile__C1 S K X0 s0_ i3_ h
 else
 slices_Compact_s_impl_Tile_impl_Tile__C0 S K s0_ h
theorem slices_Compact_s_impl_Tile_impl_Tile__link0 (S : SatT) (K : KT) (X0 : XT) (s0_ : Sl) (i3_ : Int) (h : H) : slices_Compact_s_impl_Tile_impl_Tile__w0 S K X0 (slices_Compact_s_impl_Tile_impl_Tile__e0 s0_ i3_) h = slices_Compact_s_impl_Tile_impl_Tile__b0 S K X0 s0_ i3_ h := by kernel_rfl
theorem slices_Compact_s_impl_Tile_impl_Tile__rule0 (S : SatT) (K : KT) (s0_ : Sl) (I_ : Int → H → Prop) (m_ : Int → H → Nat)
    (hs : ∀ (X0 : XT) (i3_ : Int) (h : H), I_ i3_ h → (∀ (i3_' : Int) (h' : H), I_ i3_' h' → m_ i3_' h' < m_ i3_ h → X0 (slices_Compact_s_impl_Tile_impl_Tile__e0 s0_ i3_') h') → slices_Compact_s_impl_Tile_impl_Tile__b0 S K X0 s0_ i3_ h) (i3_ : Int) {h : H} (h0 : I_ i3_ h) : slices_Compact_s_impl_Tile_impl_Tile__L0 S K s0_ i3_ h :=
  loop_rule (σ := (Int)) (fun s_ => slices_Compact_s_impl_Tile_impl_Tile__e0 s0_ (s_)) (fun s_ h => I_ (s_) h) (fun s_ h => m_ (s_) h)
    (fun X s_ h hi hx => (slices_Compact_s_impl_Tile_impl_Tile__link0 S K X s0_ (s_) h).mpr (hs X (s_) h hi fun i3_' h' hi' hm' => hx (i3_') h' hi' hm')) (i3_) h0
def slices_Compact_s_impl_Tile_impl_Tile__main (S : SatT) (K : KT) (x0 : Sl) (h : H) : Prop :=
 bif (decide ((x0.len : Int) < (2))) then
 K (.sl x0) h
 else
 slices_Compact_s_impl_Tile_impl_Tile__L0 S K x0 (1) h
theorem slices_Compact_s_impl_Tile_impl_Tile__main_link (S : SatT) (K : KT) (x0 : Sl) (h : H) : cwp S tab slices_Compact_s_impl_Tile_impl_Tile__M [] (bodyOf Try.f73) (kFun tab Try.f73.results.toList K) (fr0 Try.f73 [.sl x0]) h = slices_Compact_s_impl_Tile_impl_Tile__main S K x0 h := by kernel_rfl
theorem slices_Compact_s_impl_Tile_impl_Tile__call (x0 : Sl) (h : H) (K : Sl → H → Prop) (hm : slices_Compact_s_impl_Tile_impl_Tile__main (Sat Try.prog) (fun v h' => ∃ r, v = .sl r ∧ K r h') x0 h) : callS (Sat Try.prog) i_slices_Compact_s_impl_Tile_impl_Tile_ [.sl x0] h K := by
  have := Sat.ex tok mixed slices_Compact_s_impl_Tile_impl_Tile__M Try.func73 (c := bodyOf Try.f73) (by kernel_rfl) (calls_of Try.func73 (c := bodyOf Try.f73) (by kernel_rfl) (by decide)) ((slices_Compact_s_impl_Tile_impl_Tile__main_link _ _ x0 h).mpr hm)
  obtain ⟨v, h2, h3, r, rfl, h4⟩ := this; exact ⟨r, h2, h3, h4⟩

/-! ### loop.example/g01354/spec.l01Read -/
def spec_l01Read_M : Nat → List Nat := fun i => bif i == 0 then [2, 5, 6, 7] else []
def spec_l01Read_ks6 (S : SatT) (K : KT) : Kont := kSeq (cwp S tab spec_l01Read_M [] (sub [1, 1, 1, 1, 1] (bodyOf Try.f74)) (kFun tab (Try.f74).results.toList K)) (kFun tab (Try.f74).results.toList K)
def spec_l01Read_e0 (p2_ p5_ : Pt) (s6_ : Sl) (i7_ : Int) : Frame := [U, U, .ptr p2_, U, U, .ptr p5_, .sl s6_, .int .i64 i7_, U, U, U, U, U, U, U, U, U, U, U, U, U, U, U, U, U, U, U, U, U, U, U, U, U, U, U, U, U, U, U, U, U, U, U, U, U, U, U, U, U, U, U, U, U, U, U, U, U, U, U, U, U, U, U, U, U, U, U, U, U, U]
def spec_l01Read_w0 (S : SatT) (K : KT) : (XT) → XT := fun X fr h => cwp S tab spec_l01Read_M (spec_l01Read_M 0) (sub [1, 1, 1, 1, 0, 1, 0, 1, 1, 0, 0] (bodyOf Try.f74)) (kSeq (fun fr h => X (mask (spec_l01Read_M 0) fr) h) (kBlk 0 (spec_l01Read_ks6 S K))) fr h
def spec_l01Read_L0 (S : SatT) (K : KT) (p2_ p5_ : Pt) (s6_ : Sl) (i7_ : Int) (h : H) : Prop := loopK (spec_l01Read_w0 S K) (spec_l01Read_e0 p2_ p5_ s6_ i7_) h
def spec_l01Read_C0 (S : SatT) (K : KT) (p2_ p5_ : Pt) (h : H) : Prop :=
 ldA p5_ 2 h fun cs0 =>
 callB S i_spec_l01Is [.agg cs0] h fun b2 h1 =>
 bif (!b2) then
 stN p2_ 2 [.int .i64 (0), .sl Sl.nil] h1 fun h3 =>
 ldA p2_ 2 h3 fun cs4 =>
 K (.tuple [.agg cs4, .bool false]) h3
 else
 ldA p5_ 2 h1 fun cs5 =>
 stN p2_ 2 cs5 h1 fun h6 =>
 ldA p2_ 2 h6 fun cs7 =>
 K (.tuple [.agg cs7, .bool true]) h6
def spec_l01Read_b0 (S : SatT) (K : KT) (X0 : XT) (p2_ p5_ : Pt) (s6_ : Sl) (i7_ : Int) (h : H) : Prop :=
 bif (decide (i7_ < (s6_.len : Int))) then
 ixS s6_ 1 i7_ fun p0 =>
 ldV p0 h fun v1 =>
 viaStr v1 fun t2 =>
 bif ((t2.size : Int) != (4)) then
 stN p2_ 2 [.int .i64 (0), .sl Sl.nil] h fun h3 =>
 ldA p2_ 2 h3 fun cs4 =>
 K (.tuple [.agg cs4, .bool false]) h3
 else
 isPt p5_ (
 ldS (Pt.add p5_ 1) h fun s5 =>
 viaStr v1 fun t6 =>
 ixStr t6 (0) fun n7 =>
 viaStr v1 fun t8 =>
 ixStr t8 (1) fun n9 =>
 viaStr v1 fun t10 =>
 ixStr t10 (2) fun n11 =>
 viaStr v1 fun t12 =>
 ixStr t12 (3) fun n13 =>
 lenA [.int .i64 (w64 ((w64 (n7)) - (48))), .int .i64 (w64 ((w64 (n9)) - (48))), .int .i64 (w64 ((w64 (n11)) - (48))), .int .i64 (w64 ((w64 (n13)) - (48)))] 4 (
 newS 1 4 (spl [.int .i64 (0), .int .i64 (0), .int .i64 (0), .int .i64 (0)] 0 4 [.int .i64 (w64 ((w64 (n7)) - (48))), .int .i64 (w64 ((w64 (n9)) - (48))), .int .i64 (w64 ((w64 (n11)) - (48))), .int .i64 (w64 ((w64 (n13)) - (48)))]) h fun s14 h15 =>
(cell h15 (Pt.add p5_ 1) = cell h (Pt.add p5_ 1)) ∧ (
 app s5 s14 4 h15 fun s16 h17 =>
 isPt p5_ (
 st1 (Pt.add p5_ 1) (.sl s16) h17 fun h18 =>
 X0 (spec_l01Read_e0 p2_ p5_ s6_ (w64 (i7_ + (1)))) h18))))
 else
 spec_l01Read_C0 S K p2_ p5_ h
theorem spec_l01Read_link0 (S : SatT) (K : KT) (X0 : XT) (p2_ p5_ : Pt) (s6_ : Sl) (i7_ : Int) (h : H) : spec_l01Read_w0 S K X0 (spec_l01Read_e0 p2_ p5_ s6_ i7_) h = spec_l01Read_b0 S K X0 p2_ p5_ s6_ i7_ h := by kernel_rfl
theorem spec_l01Read_rule0 (S : SatT) (K : KT) (p2_ p5_ : Pt) (s6_ : Sl) (I_ : Int → H → Prop) (m_ : Int → H → Nat)
    (hs : ∀ (X0 : XT) (i7_ : Int) (h : H), I_ i7_ h → (∀ (i7_' : Int) (h' : H), I_ i7_' h' → m_ i7_' h' < m_ i7_ h → X0 (spec_l01Read_e0 p2_ p5_ s6_ i7_') h') → spec_l01Read_b0 S K X0 p2_ p5_ s6_ i7_ h) (i7_ : Int) {h : H} (h0 : I_ i7_ h) : spec_l01Read_L0 S K p2_ p5_ s6_ i7_ h :=
  loop_rule (σ := (Int)) (fun s_ => spec_l01Read_e0 p2_ p5_ s6_ (s_)) (fun s_ h => I_ (s_) h) (fun s_ h => m_ (s_) h)
    (fun X s_ h hi hx => (spec_l01Read_link0 S K X p2_ p5_ s6_ (s_) h).mpr (hs X (s_) h hi fun i7_' h' hi' hm' => hx (i7_') h' hi' hm')) (i7_) h0
def spec_l01Read_main (S : SatT) (K : KT) (x0 : AVal) (h : H) : Prop :=
 newO [.int .i64 (0), .sl Sl.nil] h fun p0 h1 =>
 callS S i_spec_l01Split [x0, .int .u8 (58)] h1 fun s3 h2 =>
 bif ((s3.len : Int) != (2)) then
 stN p0 2 [.int .i64 (0), .sl Sl.nil] h2 fun h4 =>
 ldA p0 2 h4 fun cs5 =>
 K (.tuple [.agg cs5, .bool false]) h4
 else
 ixS s3 1 (0) fun p6 =>
 ldV p6 h2 fun v7 =>
 callI S .i64 i_spec_l01Number [v7] h2 fun n9 h8 =>
 newS 0 4 [] h8 fun s10 h11 =>
 newO [.int .i64 (0), .sl Sl.nil] h11 fun p12 h13 =>
 stN p12 2 [.int .i64 n9, .sl s10] h13 fun h14 =>
 ixS s3 1 (1) fun p15 =>
 ldV p15 h14 fun v16 =>
 strEq v16 (.str ByteArray.empty) fun b17 =>
 bif (!b17) then
 ixS s3 1 (1) fun p18 =>
 ldV p18 h14 fun v19 =>
 callS S i_spec_l01Split [v19, .int .u8 (44)] h14 fun s21 h20 =>
 spec_l01Read_L0 S K p0 p12 s21 (0) h20
 else
 ldA p12 2 h14 fun cs22 =>
 callB S i_spec_l01Is [.agg cs22] h14 fun b24 h23 =>
 bif (!b24) then
 stN p0 2 [.int .i64 (0), .sl Sl.nil] h23 fun h25 =>
 ldA p0 2 h25 fun cs26 =>
 K (.tuple [.agg cs26, .bool false]) h25
 else
 ldA p12 2 h23 fun cs27 =>
 stN p0 2 cs27 h23 fun h28 =>
 ldA p0 2 h28 fun cs29 =>
 K (.tuple [.agg cs29, .bool true]) h28
theorem spec_l01Read_main_link (S : SatT) (K : KT) (x0 : AVal) (h : H) : cwp S tab spec_l01Read_M [] (bodyOf Try.f74) (kFun tab Try.f74.results.toList K) (fr0 Try.f74 [x0]) h = spec_l01Read_main S K x0 h := by kernel_rfl
theorem spec_l01Read_call (x0 : AVal) (h : H) (K : KT) (hm : spec_l01Read_main (Sat Try.prog) (fun v h' => K v h') x0 h) : callV (Sat Try.prog) i_spec_l01Read [x0] h K := by
  have := Sat.ex tok mixed spec_l01Read_M Try.func74 (c := bodyOf Try.f74) (by kernel_rfl) (calls_of Try.func74 (c := bodyOf Try.f74) (by kernel_rfl) (by decide)) ((spec_l01Read_main_link _ _ x0 h).mpr hm)
  exact this

/-! ### loop.example/g01354/impl.changed -/
def impl_changed_M : Nat → List Nat := fun i => bif i == 0 then [1, 2, 4, 6, 15, 16, 17] else []
def impl_changed_ks5 (S : SatT) (K : KT) : Kont := kSeq (cwp S tab impl_changed_M [] (sub [1, 1, 1, 1] (bodyOf Try.f39)) (kFun tab (Try.f39).results.toList K)) (kFun tab (Try.f39).results.toList K)
def impl_changed_e0 (f1_ : AVal) (p2_ p4_ : Pt) (s6_ s15_ : Sl) (i16_ i17_ : Int) : Frame := [U, f1_, .ptr p2_, U, .ptr p4_, U, .sl s6_, U, U, U, U, U, U, U, U, .sl s15_, .int .i64 i16_, .int .i64 i17_, U, U, U, U, U, U, U, U, U, U, U, U, U, U, U, U]
def impl_changed_w0 (S : SatT) (K : KT) : (XT) → XT := fun X fr h => cwp S tab impl_changed_M (impl_changed_M 0) (sub [1, 1, 1, 0, 1, 0, 0] (bodyOf Try.f39)) (kSeq (fun fr h => X (mask (impl_changed_M 0) fr) h) (kBlk 0 (impl_changed_ks5 S K))) fr h
def impl_changed_L0 (S : SatT) (K : KT) (f1_ : AVal) (p2_ p4_ : Pt) (s6_ s15_ : Sl) (i16_ i17_ : Int) (h : H) : Prop := loopK (impl_changed_w0 S K) (impl_changed_e0 f1_ p2_ p4_ s6_ s15_ i16_ i17_) h
def impl_changed_C0 (S : SatT) (K : KT) (p2_ p4_ : Pt) (s6_ : Sl) (h : H) : Prop :=
 isPt p2_ (
 ldI .i64 (Pt.add p2_ 0) h fun n0 =>
 callV S i_impl_limited [.int .i64 n0, .sl s6_] h fun v2 h1 =>
 viaT v2 fun vs3 =>
 exA vs3 0 fun cs4 =>
 viaT v2 fun vs5 =>
 exI .i64 vs5 1 fun n6 =>
 stN p4_ 2 cs4 h1 fun h7 =>
 ldA p4_ 2 h7 fun cs8 =>
 K (.tuple [.agg cs8, .int .i64 n6]) h7)
def impl_changed_b0 (S : SatT) (K : KT) (X0 : XT) (f1_ : AVal) (p2_ p4_ : Pt) (s6_ s15_ : Sl) (i16_ i17_ : Int) (h : H) : Prop :=
 bif (decide (i17_ < i16_)) then
 ixS s15_ 4 i17_ fun p0 =>
 ldA p0 4 h fun cs1 =>
 newO [.int .i64 (0), .int .i64 (0), .int .i64 (0), .int .i64 (0)] h fun p2 h3 =>
 stN p2 4 cs1 h3 fun h4 =>
 ldA p2 4 h4 fun cs5 =>
 viaF f1_ [.agg cs5] fun g6 ys7 =>
 callA S g6 ys7 h4 fun cs9 h8 =>
 lenA cs9 4 (
 newS 1 4 (spl [.int .i64 (0), .int .i64 (0), .int .i64 (0), .int .i64 (0)] 0 4 cs9) h8 fun s10 h11 =>
 app s6_ s10 4 h11 fun s12 h13 =>
 X0 (impl_changed_e0 f1_ p2_ p4_ s12 s15_ i16_ (w64 (i17_ + (1)))) h13)
 else
 impl_changed_C0 S K p2_ p4_ s6_ h
theorem impl_changed_link0 (S : SatT) (K : KT) (X0 : XT) (f1_ : AVal) (p2_ p4_ : Pt) (s6_ s15_ : Sl) (i16_ i17_ : Int) (h : H) : impl_changed_w0 S K X0 (impl_changed_e0 f1_ p2_ p4_ s6_ s15_ i16_ i17_) h = impl_changed_b0 S K X0 f1_ p2_ p4_ s6_ s15_ i16_ i17_ h := by kernel_rfl
theorem impl_changed_rule0 (S : SatT) (K : KT) (f1_ : AVal) (p2_ p4_ : Pt) (s15_ : Sl) (i16_ : Int) (I_ : Sl → Int → H → Prop) (m_ : Sl → Int → H → Nat)
    (hs : ∀ (X0 : XT) (s6_ : Sl) (i17_ : Int) (h : H), I_ s6_ i17_ h → (∀ (s6_' : Sl) (i17_' : Int) (h' : H), I_ s6_' i17_' h' → m_ s6_' i17_' h' < m_ s6_ i17_ h → X0 (impl_changed_e0 f1_ p2_ p4_ s6_' s15_ i16_ i17_') h') → impl_changed_b0 S K X0 f1_ p2_ p4_ s6_ s15_ i16_ i17_ h) (s6_ : Sl) (i17_ : Int) {h : H} (h0 : I_ s6_ i17_ h) : impl_changed_L0 S K f1_ p2_ p4_ s6_ s15_ i16_ i17_ h :=
  loop_rule (σ := (Sl) × (Int)) (fun s_ => impl_changed_e0 f1_ p2_ p4_ (s_.1) s15_ i16_ (s_.2)) (fun s_ h => I_ (s_.1) (s_.2) h) (fun s_ h => m_ (s_.1) (s_.2) h)
    (fun X s_ h hi hx => (impl_changed_link0 S K X f1_ p2_ p4_ (s_.1) s15_ i16_ (s_.2) h).mpr (hs X (s_.1) (s_.2) h hi fun s6_' i17_' h' hi' hm' => hx (s6_', i17_') h' hi' hm')) (s6_, i17_) h0
def impl_changed_main (S : SatT) (K : KT) (x0 : List AVal) (x1 : AVal) (h : H) : Prop :=
 newK 2 x0 h fun p0 h1 =>
 newO [.int .i64 (0), .sl Sl.nil] h1 fun p2 h3 =>
 ldA p0 2 h3 fun cs4 =>
 callB S i_impl_IsSet [.agg cs4] h3 fun b6 h5 =>
 bif (!b6) then
 stN p2 2 [.int .i64 (0), .sl Sl.nil] h5 fun h7 =>
 ldA p2 2 h7 fun cs8 =>
 K (.tuple [.agg cs8, .int .i64 (1)]) h7
 else
 newS 0 4 [] h5 fun s9 h10 =>
 isPt p0 (
 ldS (Pt.add p0 1) h10 fun s11 =>
 impl_changed_L0 S K x1 p0 p2 s9 s11 (s11.len : Int) (0) h10)
theorem impl_changed_main_link (S : SatT) (K : KT) (x0 : List AVal) (x1 : AVal) (h : H) : cwp S tab impl_changed_M [] (bodyOf Try.f39) (kFun tab Try.f39.results.toList K) (fr0 Try.f39 [.agg x0, x1]) h = impl_changed_main S K x0 x1 h := by kernel_rfl
theorem impl_changed_call (x0 : List AVal) (x1 : AVal) (h : H) (K : KT) (hm : impl_changed_main (Sat Try.prog) (fun v h' => K v h') x0 x1 h) : callV (Sat Try.prog) i_impl_changed [.agg x0, x1] h K := by
  have := Sat.ex tok mixed impl_changed_M Try.func39 (c := bodyOf Try.f39) (by kernel_rfl) (calls_of Try.func39 (c := bodyOf Try.f39) (by kernel_rfl) (by decide)) ((impl_changed_main_link _ _ x0 x1 h).mpr hm)
  exact this

/-! ### slices.Repeat[[]bool,bool] -/
def slices_Repeat_s_bool_bool__M : Nat → List Nat := fun i => bif i == 0 then [7, 8] else []
def slices_Repeat_s_bool_bool__ks8 (S : SatT) (K : KT) : Kont := kSeq (cwp S tab slices_Repeat_s_bool_bool__M [] (sub [1, 1, 1, 1, 1, 1, 1] (bodyOf Try.f48)) (kFun tab (Try.f48).results.toList K)) (kFun tab (Try.f48).results.toList K)
def slices_Repeat_s_bool_bool__e0 (s7_ : Sl) (i8_ : Int) : Frame := [U, U, U, U, U, U, U, .sl s7_, .int .i64 i8_, U, U, U, U, U, U, U, U, U, U, U, U, U, U, U, U, U, U, U, U, U, U, U, U, U, U, U, U, U, U, U, U, U, U, U, U, U, U, U]
def slices_Repeat_s_bool_bool__w0 (S : SatT) (K : KT) : (XT) → XT := fun X fr h => cwp S tab slices_Repeat_s_bool_bool__M (slices_Repeat_s_bool_bool__M 0) (sub [1, 1, 1, 1, 1, 1, 0, 0, 0] (bodyOf Try.f48)) (kSeq (fun fr h => X (mask (slices_Repeat_s_bool_bool__M 0) fr) h) (kBlk 0 (slices_Repeat_s_bool_bool__ks8 S K))) fr h
def slices_Repeat_s_bool_bool__L0 (S : SatT) (K : KT) (s7_ : Sl) (i8_ : Int) (h : H) : Prop := loopK (slices_Repeat_s_bool_bool__w0 S K) (slices_Repeat_s_bool_bool__e0 s7_ i8_) h
def slices_Repeat_s_bool_bool__C0 (S : SatT) (K : KT) (s7_ : Sl) (h : H) : Prop :=
 K (.sl s7_) h
def slices_Repeat_s_bool_bool__b0 (S : SatT) (K : KT) (X0 : XT) (s7_ : Sl) (i8_ : Int) (h : H) : Prop :=
 bif (decide (i8_ < (s7_.len : Int))) then
 cut s7_ 1 i8_ (s7_.len : Int) h fun s0 =>
 cut s7_ 1 (0) i8_ h fun s1 =>
 copyS s0 s1 1 h fun n2 h3 =>
 X0 (slices_Repeat_s_bool_bool__e0 s7_ (w64 (i8_ + n2))) h3
 else
 slices_Repeat_s_bool_bool__C0 S K s7_ h
theorem slices_Repeat_s_bool_bool__link0 (S : SatT) (K : KT) (X0 : XT) (s7_ : Sl) (i8_ : Int) (h : H) : slices_Repeat_s_bool_bool__w0 S K X0 (slices_Repeat_s_bool_bool__e0 s7_ i8_) h = slices_Repeat_s_bool_bool__b0 S K X0 s7_ i8_ h := by kernel_rfl
theorem slices_Repeat_s_bool_bool__rule0 (S : SatT) (K : KT) (s7_ : Sl) (I_ : Int → H → Prop) (m_ : Int → H → Nat)
    (hs : ∀ (X0 : XT) (i8_ : Int) (h : H), I_ i8_ h → (∀ (i8_' : Int) (h' : H), I_ i8_' h' → m_ i8_' h' < m_ i8_ h → X0 (slices_Repeat_s_bool_bool__e0 s7_ i8_') h') → slices_Repeat_s_bool_bool__b0 S K X0 s7_ i8_ h) (i8_ : Int) {h : H} (h0 : I_ i8_ h) : slices_Repeat_s_bool_bool__L0 S K s7_ i8_ h :=
  loop_rule (σ := (Int)) (fun s_ => slices_Repeat_s_bool_bool__e0 s7_ (s_)) (fun s_ h => I_ (s_) h) (fun s_ h => m_ (s_) h)
    (fun X s_ h hi hx => (slices_Repeat_s_bool_bool__link0 S K X s7_ (s_) h).mpr (hs X (s_) h hi fun i8_' h' hi' hm' => hx (i8_') h' hi' hm')) (i8_) h0
def slices_Repeat_s_bool_bool__main (S : SatT) (K : KT) (x0 : Sl) (x1 : Int) (h : H) : Prop :=
 bif (decide (x1 < (0))) then
 False
 else
 callV S i_math_bits_Mul [.int .u64 (IntKind.wrap .u64 ((x0.len : Int))), .int .u64 (IntKind.wrap .u64 (x1))] h fun v1 h0 =>
 viaT v1 fun vs2 =>
 exI .u64 vs2 0 fun n3 =>
 viaT v1 fun vs4 =>
 exI .u64 vs4 1 fun n5 =>
 bif (decide (n3 > (0))) then
 False
 else
 bif (decide (n5 > (9223372036854775807))) then
 False
 else
 mkS (w64 (n5)) [.bool false] h0 fun s6 h7 =>
 copyS s6 x0 1 h7 fun n8 h9 =>
 slices_Repeat_s_bool_bool__L0 S K s6 n8 h9
theorem slices_Repeat_s_bool_bool__main_link (S : SatT) (K : KT) (x0 : Sl) (x1 : Int) (h : H) : cwp S tab slices_Repeat_s_bool_bool__M [] (bodyOf Try.f48) (kFun tab Try.f48.results.toList K) (fr0 Try.f48 [.sl x0, .int .i64 x1]) h = slices_Repeat_s_bool_bool__main S K x0 x1 h := by kernel_rfl
theorem slices_Repeat_s_bool_bool__call (x0 : Sl) (x1 : Int) (h : H) (K : Sl → H → Prop) (hm : slices_Repeat_s_bool_bool__main (Sat Try.prog) (fun v h' => ∃ r, v = .sl r ∧ K r h') x0 x1 h) : callS (Sat Try.prog) i_slices_Repeat_s_bool_bool_ [.sl x0, .int .i64 x1] h K := by
  have := Sat.ex tok mixed slices_Repeat_s_bool_bool__M Try.func48 (c := bodyOf Try.f48) (by kernel_rfl) (calls_of Try.func48 (c := bodyOf Try.f48) (by kernel_rfl) (by decide)) ((slices_Repeat_s_bool_bool__main_link _ _ x0 x1 h).mpr hm)
  obtain ⟨v, h2, h3, r, rfl, h4⟩ := this; exact ⟨r, h2, h3, h4⟩

/-! ### loop.example/g01354/spec.l01Is -/
def spec_l01Is_M : Nat → List Nat := fun i => bif i == 0 then [1, 3] else []
def spec_l01Is_ks5 (S : SatT) (K : KT) : Kont := kSeq (cwp S tab spec_l01Is_M [] (sub [1, 1, 1] (bodyOf Try.f24)) (kFun tab (Try.f24).results.toList K)) (kFun tab (Try.f24).results.toList K)
def spec_l01Is_e0 (p1_ : Pt) (i3_ : Int) : Frame := [U, .ptr p1_, U, .int .i64 i3_, U, U, U, U, U, U, U, U, U, U, U, U, U, U, U, U, U, U, U, U, U, U, U, U, U, U, U, U, U, U, U, U, U, U, U, U, U, U, U, U, U, U, U, U, U]
def spec_l01Is_w0 (S : SatT) (K : KT) : (XT) → XT := fun X fr h => cwp S tab spec_l01Is_M (spec_l01Is_M 0) (sub [1, 1, 0, 1, 0, 0] (bodyOf Try.f24)) (kSeq (fun fr h => X (mask (spec_l01Is_M 0) fr) h) (kBlk 0 (spec_l01Is_ks5 S K))) fr h
def spec_l01Is_L0 (S : SatT) (K : KT) (p1_ : Pt) (i3_ : Int) (h : H) : Prop := loopK (spec_l01Is_w0 S K) (spec_l01Is_e0 p1_ i3_) h
def spec_l01Is_C0 (S : SatT) (K : KT) (h : H) : Prop :=
 K (.bool true) h
def spec_l01Is_b0 (S : SatT) (K : KT) (X0 : XT) (p1_ : Pt) (i3_ : Int) (h : H) : Prop :=
 isPt p1_ (
 ldS (Pt.add p1_ 1) h fun s0 =>
 bif (decide (i3_ < (s0.len : Int))) then
 isPt p1_ (
 ldI .i64 (Pt.add p1_ 0) h fun n1 =>
 isPt p1_ (
 ldS (Pt.add p1_ 1) h fun s2 =>
 ixS s2 4 i3_ fun p3 =>
 ldA p3 4 h fun cs4 =>
 callB S i_spec_l01Tile [.int .i64 n1, .agg cs4] h fun b6 h5 =>
 bif (!b6) then
 K (.bool false) h5
 else
 bif (decide (i3_ > (0))) then
 isPt p1_ (
 ldS (Pt.add p1_ 1) h5 fun s7 =>
 ixS s7 4 (w64 (i3_ - (1))) fun p8 =>
 ldA p8 4 h5 fun cs9 =>
 isPt p1_ (
 ldS (Pt.add p1_ 1) h5 fun s10 =>
 ixS s10 4 i3_ fun p11 =>
 ldA p11 4 h5 fun cs12 =>
 callB S i_spec_l01Before [.agg cs9, .agg cs12] h5 fun b14 h13 =>
 bif (!b14) then
 K (.bool false) h13
 else
 X0 (spec_l01Is_e0 p1_ (w64 (i3_ + (1)))) h13))
 else
 X0 (spec_l01Is_e0 p1_ (w64 (i3_ + (1)))) h5))
 else
 spec_l01Is_C0 S K h)
theorem spec_l01Is_link0 (S : SatT) (K : KT) (X0 : XT) (p1_ : Pt) (i3_ : Int) (h : H) : spec_l01Is_w0 S K X0 (spec_l01Is_e0 p1_ i3_) h = spec_l01Is_b0 S K X0 p1_ i3_ h := by kernel_rfl
theorem spec_l01Is_rule0 (S : SatT) (K : KT) (p1_ : Pt) (I_ : Int → H → Prop) (m_ : Int → H → Nat)
    (hs : ∀ (X0 : XT) (i3_ : Int) (h : H), I_ i3_ h → (∀ (i3_' : Int) (h' : H), I_ i3_' h' → m_ i3_' h' < m_ i3_ h → X0 (spec_l01Is_e0 p1_ i3_') h') → spec_l01Is_b0 S K X0 p1_ i3_ h) (i3_ : Int) {h : H} (h0 : I_ i3_ h) : spec_l01Is_L0 S K p1_ i3_ h :=
  loop_rule (σ := (Int)) (fun s_ => spec_l01Is_e0 p1_ (s_)) (fun s_ h => I_ (s_) h) (fun s_ h => m_ (s_) h)
    (fun X s_ h hi hx => (spec_l01Is_link0 S K X p1_ (s_) h).mpr (hs X (s_) h hi fun i3_' h' hi' hm' => hx (i3_') h' hi' hm')) (i3_) h0
def spec_l01Is_main (S : SatT) (K : KT) (x0 : List AVal) (h : H) : Prop :=
 newK 2 x0 h fun p0 h1 =>
 isPt p0 (
 ldI .i64 (Pt.add p0 0) h1 fun n2 =>
 callB S i_spec_l01In [.int .i64 n2, .int .i64 (1), .int .i64 (6)] h1 fun b4 h3 =>
 bif (!b4) then
 K (.bool false) h3
 else
 isPt p0 (
 ldS (Pt.add p0 1) h3 fun s5 =>
 bif (decide ((s5.len : Int) > (16))) then
 K (.bool false) h3
 else
 spec_l01Is_L0 S K p0 (0) h3))
theorem spec_l01Is_main_link (S : SatT) (K : KT) (x0 : List AVal) (h : H) : cwp S tab spec_l01Is_M [] (bodyOf Try.f24) (kFun tab Try.f24.results.toList K) (fr0 Try.f24 [.agg x0]) h = spec_l01Is_main S K x0 h := by kernel_rfl
theorem spec_l01Is_call (x0 : List AVal) (h : H) (K : Bool → H → Prop) (hm : spec_l01Is_main (Sat Try.prog) (fun v h' => ∃ r, v = .bool r ∧ K r h') x0 h) : callB (Sat Try.prog) i_spec_l01Is [.agg x0] h K := by
  have := Sat.ex tok mixed spec_l01Is_M Try.func24 (c := bodyOf Try.f24) (by kernel_rfl) (calls_of Try.func24 (c := bodyOf Try.f24) (by kernel_rfl) (by decide)) ((spec_l01Is_main_link _ _ x0 h).mpr hm)
  obtain ⟨v, h2, h3, r, rfl, h4⟩ := this; exact ⟨r, h2, h3, h4⟩

/-! ### loop.example/g01354/spec.l01Before -/
def spec_l01Before_M : Nat → List Nat := fun i => bif i == 0 then [2, 3, 5] else []
def spec_l01Before_ks1 (S : SatT) (K : KT) : Kont := kSeq (cwp S tab spec_l01Before_M [] (sub [1, 1] (bodyOf Try.f50)) (kFun tab (Try.f50).results.toList K)) (kFun tab (Try.f50).results.toList K)
def spec_l01Before_e0 (p2_ p3_ : Pt) (i5_ : Int) : Frame := [U, U, .ptr p2_, .ptr p3_, U, .int .i64 i5_, U, U, U, U, U, U, U, U, U, U, U, U, U, U, U, U, U, U]
def spec_l01Before_w0 (S : SatT) (K : KT) : (XT) → XT := fun X fr h => cwp S tab spec_l01Before_M (spec_l01Before_M 0) (sub [1, 0, 1, 0, 0] (bodyOf Try.f50)) (kSeq (fun fr h => X (mask (spec_l01Before_M 0) fr) h) (kBlk 0 (spec_l01Before_ks1 S K))) fr h
def spec_l01Before_L0 (S : SatT) (K : KT) (p2_ p3_ : Pt) (i5_ : Int) (h : H) : Prop := loopK (spec_l01Before_w0 S K) (spec_l01Before_e0 p2_ p3_ i5_) h
def spec_l01Before_C0 (S : SatT) (K : KT) (h : H) : Prop :=
 K (.bool false) h
def spec_l01Before_b0 (S : SatT) (K : KT) (X0 : XT) (p2_ p3_ : Pt) (i5_ : Int) (h : H) : Prop :=
 bif (decide (i5_ < (4))) then
 ixA p2_ 4 1 i5_ fun p0 =>
 ldI .i64 p0 h fun n1 =>
 ixA p3_ 4 1 i5_ fun p2 =>
 ldI .i64 p2 h fun n3 =>
 bif (n1 != n3) then
 ixA p2_ 4 1 i5_ fun p4 =>
 ldI .i64 p4 h fun n5 =>
 ixA p3_ 4 1 i5_ fun p6 =>
 ldI .i64 p6 h fun n7 =>
 K (.bool (decide (n5 < n7))) h
 else
 X0 (spec_l01Before_e0 p2_ p3_ (w64 (i5_ + (1)))) h
 else
 spec_l01Before_C0 S K h
theorem spec_l01Before_link0 (S : SatT) (K : KT) (X0 : XT) (p2_ p3_ : Pt) (i5_ : Int) (h : H) : spec_l01Before_w0 S K X0 (spec_l01Before_e0 p2_ p3_ i5_) h = spec_l01Before_b0 S K X0 p2_ p3_ i5_ h := by kernel_rfl
theorem spec_l01Before_rule0 (S : SatT) (K : KT) (p2_ p3_ : Pt) (I_ : Int → H → Prop) (m_ : Int → H → Nat)
    (hs : ∀ (X0 : XT) (i5_ : Int) (h : H), I_ i5_ h → (∀ (i5_' : Int) (h' : H), I_ i5_' h' → m_ i5_' h' < m_ i5_ h → X0 (spec_l01Before_e0 p2_ p3_ i5_') h') → spec_l01Before_b0 S K X0 p2_ p3_ i5_ h) (i5_ : Int) {h : H} (h0 : I_ i5_ h) : spec_l01Before_L0 S K p2_ p3_ i5_ h :=
  loop_rule (σ := (Int)) (fun s_ => spec_l01Before_e0 p2_ p3_ (s_)) (fun s_ h => I_ (s_) h) (fun s_ h => m_ (s_) h)
    (fun X s_ h hi hx => (spec_l01Before_link0 S K X p2_ p3_ (s_) h).mpr (hs X (s_) h hi fun i5_' h' hi' hm' => hx (i5_') h' hi' hm')) (i5_) h0
def spec_l01Before_main (S : SatT) (K : KT) (x0 x1 : List AVal) (h : H) : Prop :=
 newK 4 x0 h fun p0 h1 =>
 newK 4 x1 h1 fun p2 h3 =>
 spec_l01Before_L0 S K p0 p2 (0) h3
theorem spec_l01Before_main_link (S : SatT) (K : KT) (x0 x1 : List AVal) (h : H) : cwp S tab spec_l01Before_M [] (bodyOf Try.f50) (kFun tab Try.f50.results.toList K) (fr0 Try.f50 [.agg x0, .agg x1]) h = spec_l01Before_main S K x0 x1 h := by kernel_rfl
theorem spec_l01Before_call (x0 x1 : List AVal) (h : H) (K : Bool → H → Prop) (hm : spec_l01Before_main (Sat Try.prog) (fun v h' => ∃ r, v = .bool r ∧ K r h') x0 x1 h) : callB (Sat Try.prog) i_spec_l01Before [.agg x0, .agg x1] h K := by
  have := Sat.ex tok mixed spec_l01Before_M Try.func50 (c := bodyOf Try.f50) (by kernel_rfl) (calls_of Try.func50 (c := bodyOf Try.f50) (by kernel_rfl) (by decide)) ((spec_l01Before_main_link _ _ x0 x1 h).mpr hm)
  obtain ⟨v, h2, h3, r, rfl, h4⟩ := this; exact ⟨r, h2, h3, h4⟩

/-! ### loop.example/g01354/spec.l01Tile -/
def spec_l01Tile_M : Nat → List Nat := fun i => bif i == 0 then [0, 3, 5] else []
def spec_l01Tile_ks1 (S : SatT) (K : KT) : Kont := kSeq (cwp S tab spec_l01Tile_M [] (sub [1, 1] (bodyOf Try.f49)) (kFun tab (Try.f49).results.toList K)) (kFun tab (Try.f49).results.toList K)
def spec_l01Tile_e0 (i0_ : Int) (p3_ : Pt) (i5_ : Int) : Frame := [.int .i64 i0_, U, U, .ptr p3_, U, .int .i64 i5_, U, U, U, U, U, U, U, U, U, U, U]
def spec_l01Tile_w0 (S : SatT) (K : KT) : (XT) → XT := fun X fr h => cwp S tab spec_l01Tile_M (spec_l01Tile_M 0) (sub [1, 0, 1, 0, 0] (bodyOf Try.f49)) (kSeq (fun fr h => X (mask (spec_l01Tile_M 0) fr) h) (kBlk 0 (spec_l01Tile_ks1 S K))) fr h
def spec_l01Tile_L0 (S : SatT) (K : KT) (i0_ : Int) (p3_ : Pt) (i5_ : Int) (h : H) : Prop := loopK (spec_l01Tile_w0 S K) (spec_l01Tile_e0 i0_ p3_ i5_) h
def spec_l01Tile_C0 (S : SatT) (K : KT) (h : H) : Prop :=
 K (.bool true) h
def spec_l01Tile_b0 (S : SatT) (K : KT) (X0 : XT) (i0_ : Int) (p3_ : Pt) (i5_ : Int) (h : H) : Prop :=
 bif (decide (i5_ < (4))) then
 ixA p3_ 4 1 i5_ fun p0 =>
 ldI .i64 p0 h fun n1 =>
 callB S i_spec_l01In [.int .i64 n1, .int .i64 (0), .int .i64 (w64 (i0_ - (1)))] h fun b3 h2 =>
 bif (!b3) then
 K (.bool false) h2
 else
 X0 (spec_l01Tile_e0 i0_ p3_ (w64 (i5_ + (1)))) h2
 else
 spec_l01Tile_C0 S K h
theorem spec_l01Tile_link0 (S : SatT) (K : KT) (X0 : XT) (i0_ : Int) (p3_ : Pt) (i5_ : Int) (h : H) : spec_l01Tile_w0 S K X0 (spec_l01Tile_e0 i0_ p3_ i5_) h = spec_l01Tile_b0 S K X0 i0_ p3_ i5_ h := by kernel_rfl
theorem spec_l01Tile_rule0 (S : SatT) (K : KT) (i0_ : Int) (p3_ : Pt) (I_ : Int → H → Prop) (m_ : Int → H → Nat)
    (hs : ∀ (X0 : XT) (i5_ : Int) (h : H), I_ i5_ h → (∀ (i5_' : Int) (h' : H), I_ i5_' h' → m_ i5_' h' < m_ i5_ h → X0 (spec_l01Tile_e0 i0_ p3_ i5_') h') → spec_l01Tile_b0 S K X0 i0_ p3_ i5_ h) (i5_ : Int) {h : H} (h0 : I_ i5_ h) : spec_l01Tile_L0 S K i0_ p3_ i5_ h :=
  loop_rule (σ := (Int)) (fun s_ => spec_l01Tile_e0 i0_ p3_ (s_)) (fun s_ h => I_ (s_) h) (fun s_ h => m_ (s_) h)
    (fun X s_ h hi hx => (spec_l01Tile_link0 S K X i0_ p3_ (s_) h).mpr (hs X (s_) h hi fun i5_' h' hi' hm' => hx (i5_') h' hi' hm')) (i5_) h0
def spec_l01Tile_main (S : SatT) (K : KT) (x0 : Int) (x1 : List AVal) (h : H) : Prop :=
 newK 4 x1 h fun p0 h1 =>
 spec_l01Tile_L0 S K x0 p0 (0) h1
theorem spec_l01Tile_main_link (S : SatT) (K : KT) (x0 : Int) (x1 : List AVal) (h : H) : cwp S tab spec_l01Tile_M [] (bodyOf Try.f49) (kFun tab Try.f49.results.toList K) (fr0 Try.f49 [.int .i64 x0, .agg x1]) h = spec_l01Tile_main S K x0 x1 h := by kernel_rfl
theorem spec_l01Tile_call (x0 : Int) (x1 : List AVal) (h : H) (K : Bool → H → Prop) (hm : spec_l01Tile_main (Sat Try.prog) (fun v h' => ∃ r, v = .bool r ∧ K r h') x0 x1 h) : callB (Sat Try.prog) i_spec_l01Tile [.int .i64 x0, .agg x1] h K := by
  have := Sat.ex tok mixed spec_l01Tile_M Try.func49 (c := bodyOf Try.f49) (by kernel_rfl) (calls_of Try.func49 (c := bodyOf Try.f49) (by kernel_rfl) (by decide)) ((spec_l01Tile_main_link _ _ x0 x1 h).mpr hm)
  obtain ⟨v, h2, h3, r, rfl, h4⟩ := this; exact ⟨r, h2, h3, h4⟩

/-! ### math/bits.Mul64 -/
def math_bits_Mul64_M : Nat → List Nat := fun i => []
def math_bits_Mul64_main (S : SatT) (K : KT) (x0 x1 : Int) (h : H) : Prop :=
 nn (32) (
 nn (32) (
 nn (32) (
 nn (32) (
 nn (32) (
 K (.tuple [.int .u64 (IntKind.wrap .u64 ((IntKind.wrap .u64 ((IntKind.wrap .u64 ((shrI .u64 x0 (32)) * (shrI .u64 x1 (32)))) + (shrI .u64 (IntKind.wrap .u64 ((IntKind.wrap .u64 ((shrI .u64 x0 (32)) * (bitsOp .and .u64 x1 (4294967295)))) + (shrI .u64 (IntKind.wrap .u64 ((bitsOp .and .u64 x0 (4294967295)) * (bitsOp .and .u64 x1 (4294967295)))) (32)))) (32)))) + (shrI .u64 (IntKind.wrap .u64 ((bitsOp .and .u64 (IntKind.wrap .u64 ((IntKind.wrap .u64 ((shrI .u64 x0 (32)) * (bitsOp .and .u64 x1 (4294967295)))) + (shrI .u64 (IntKind.wrap .u64 ((bitsOp .and .u64 x0 (4294967295)) * (bitsOp .and .u64 x1 (4294967295)))) (32)))) (4294967295)) + (IntKind.wrap .u64 ((bitsOp .and .u64 x0 (4294967295)) * (shrI .u64 x1 (32)))))) (32)))), .int .u64 (IntKind.wrap .u64 (x0 * x1))]) h)))))
theorem math_bits_Mul64_main_link (S : SatT) (K : KT) (x0 x1 : Int) (h : H) : cwp S tab math_bits_Mul64_M [] (bodyOf Try.f70) (kFun tab Try.f70.results.toList K) (fr0 Try.f70 [.int .u64 x0, .int .u64 x1]) h = math_bits_Mul64_main S K x0 x1 h := by kernel_rfl
theorem math_bits_Mul64_call (x0 x1 : Int) (h : H) (K : KT) (hm : math_bits_Mul64_main (Sat Try.prog) (fun v h' => K v h') x0 x1 h) : callV (Sat Try.prog) i_math_bits_Mul64 [.int .u64 x0, .int .u64 x1] h K := by
  have := Sat.ex tok mixed math_bits_Mul64_M Try.func70 (c := bodyOf Try.f70) (by kernel_rfl) (calls_of Try.func70 (c := bodyOf Try.f70) (by kernel_rfl) (by decide)) ((math_bits_Mul64_main_link _ _ x0 x1 h).mpr hm)
  exact this

/-! ### (loop.example/g01354/impl.Tile).sides -/
def impl_Tile_sides_M : Nat → List Nat := fun i => []
def impl_Tile_sides_main (S : SatT) (K : KT) (x0 : List AVal) (x1 x2 : Int) (x3 x4 : Int) (h : H) : Prop :=
 newK 4 x0 h fun p0 h1 =>
 newO [.int .i64 (0), .int .i64 (0), .int .i64 (0), .int .i64 (0)] h1 fun p2 h3 =>
 ixA p0 4 1 x1 fun p4 =>
 ldI .i64 p4 h3 fun n5 =>
 ixA p0 4 1 x2 fun p6 =>
 ldI .i64 p6 h3 fun n7 =>
 ixA p0 4 1 x3 fun p8 =>
 ldI .i64 p8 h3 fun n9 =>
 ixA p0 4 1 x4 fun p10 =>
 ldI .i64 p10 h3 fun n11 =>
 stN p2 4 [.int .i64 n5, .int .i64 n7, .int .i64 n9, .int .i64 n11] h3 fun h12 =>
 ldA p2 4 h12 fun cs13 =>
 K (.agg cs13) h12
theorem impl_Tile_sides_main_link (S : SatT) (K : KT) (x0 : List AVal) (x1 x2 : Int) (x3 x4 : Int) (h : H) : cwp S tab impl_Tile_sides_M [] (bodyOf Try.f53) (kFun tab Try.f53.results.toList K) (fr0 Try.f53 [.agg x0, .int .i64 x1, .int .i64 x2, .int .i64 x3, .int .i64 x4]) h = impl_Tile_sides_main S K x0 x1 x2 x3 x4 h := by kernel_rfl
theorem impl_Tile_sides_call (x0 : List AVal) (x1 x2 : Int) (x3 x4 : Int) (h : H) (K : List AVal → H → Prop) (hm : impl_Tile_sides_main (Sat Try.prog) (fun v h' => ∃ r, v = .agg r ∧ K r h') x0 x1 x2 x3 x4 h) : callA (Sat Try.prog) i_impl_Tile_sides [.agg x0, .int .i64 x1, .int .i64 x2, .int .i64 x3, .int .i64 x4] h K := by
  have := Sat.ex tok mixed impl_Tile_sides_M Try.func53 (c := bodyOf Try.f53) (by kernel_rfl) (calls_of Try.func53 (c := bodyOf Try.f53) (by kernel_rfl) (by decide)) ((impl_Tile_sides_main_link _ _ x0 x1 x2 x3 x4 h).mpr hm)
  obtain ⟨v, h2, h3, r, rfl, h4⟩ := this; exact ⟨r, h2, h3, h4⟩

/-! ### loop.example/g01354/spec.KeepLasting -/
def spec_KeepLasting_M : Nat → List Nat := fun i => []
def spec_KeepLasting_main (S : SatT) (K : KT) (x0 : List AVal) (h : H) : Prop :=
 newK 2 x0 h fun p0 h1 =>
 newO [.int .i64 (0), .sl Sl.nil] h1 fun p2 h3 =>
 ldA p0 2 h3 fun cs4 =>
 callB S i_spec_l01Is [.agg cs4] h3 fun b6 h5 =>
 bif (!b6) then
 stN p2 2 [.int .i64 (0), .sl Sl.nil] h5 fun h7 =>
 ldA p2 2 h7 fun cs8 =>
 K (.tuple [.agg cs8, .int .i64 (1)]) h7
 else
 ldA p0 2 h5 fun cs9 =>
 callA S i_spec_l04Kept [.agg cs9] h5 fun cs11 h10 =>
 stN p2 2 cs11 h10 fun h12 =>
 ldA p2 2 h12 fun cs13 =>
 K (.tuple [.agg cs13, .int .i64 (0)]) h12
theorem spec_KeepLasting_main_link (S : SatT) (K : KT) (x0 : List AVal) (h : H) : cwp S tab spec_KeepLasting_M [] (bodyOf Try.f10) (kFun tab Try.f10.results.toList K) (fr0 Try.f10 [.agg x0]) h = spec_KeepLasting_main S K x0 h := by kernel_rfl
theorem spec_KeepLasting_call (x0 : List AVal) (h : H) (K : KT) (hm : spec_KeepLasting_main (Sat Try.prog) (fun v h' => K v h') x0 h) : callV (Sat Try.prog) i_spec_KeepLasting [.agg x0] h K := by
  have := Sat.ex tok mixed spec_KeepLasting_M Try.func10 (c := bodyOf Try.f10) (by kernel_rfl) (calls_of Try.func10 (c := bodyOf Try.f10) (by kernel_rfl) (by decide)) ((spec_KeepLasting_main_link _ _ x0 h).mpr hm)
  exact this

/-! ### loop.example/g01354/impl.compare -/
def impl_compare_M : Nat → List Nat := fun i => []
def impl_compare_main (S : SatT) (K : KT) (x0 x1 : List AVal) (h : H) : Prop :=
 newK 4 x0 h fun p0 h1 =>
 newK 4 x1 h1 fun p2 h3 =>
 cutA p0 4 1 (0) ((4 : Nat) : Int) fun s4 =>
 cutA p2 4 1 (0) ((4 : Nat) : Int) fun s5 =>
 callI S .i64 i_slices_Compare_s_int64_int64_ [.sl s4, .sl s5] h3 fun n7 h6 =>
 K (.int .i64 n7) h6
theorem impl_compare_main_link (S : SatT) (K : KT) (x0 x1 : List AVal) (h : H) : cwp S tab impl_compare_M [] (bodyOf Try.f47) (kFun tab Try.f47.results.toList K) (fr0 Try.f47 [.agg x0, .agg x1]) h = impl_compare_main S K x0 x1 h := by kernel_rfl
theorem impl_compare_call (x0 x1 : List AVal) (h : H) (K : Int → H → Prop) (hm : impl_compare_main (Sat Try.prog) (fun v h' => ∃ r, v = .int .i64 r ∧ K r h') x0 x1 h) : callI (Sat Try.prog) .i64 i_impl_compare [.agg x0, .agg x1] h K := by
  have := Sat.ex tok mixed impl_compare_M Try.func47 (c := bodyOf Try.f47) (by kernel_rfl) (calls_of Try.func47 (c := bodyOf Try.f47) (by kernel_rfl) (by decide)) ((impl_compare_main_link _ _ x0 x1 h).mpr hm)
  obtain ⟨v, h2, h3, r, rfl, h4⟩ := this; exact ⟨r, h2, h3, h4⟩

/-! ### loop.example/g01354/impl.isTile -/
def impl_isTile_M : Nat → List Nat := fun i => []
def impl_isTile_main (S : SatT) (K : KT) (x0 : List AVal) (x1 : Int) (h : H) : Prop :=
 newK 4 x0 h fun p0 h1 =>
 newO [.int .i64 x1] h1 fun p2 h3 =>
 cutA p0 4 1 (0) ((4 : Nat) : Int) fun s4 =>
 callB S i_slices_ContainsFunc_s_int64_int64_ [.sl s4, .func 59 [.ptr p2]] h3 fun b6 h5 =>
 K (.bool (!b6)) h5
theorem impl_isTile_main_link (S : SatT) (K : KT) (x0 : List AVal) (x1 : Int) (h : H) : cwp S tab impl_isTile_M [] (bodyOf Try.f46) (kFun tab Try.f46.results.toList K) (fr0 Try.f46 [.agg x0, .int .i64 x1]) h = impl_isTile_main S K x0 x1 h := by kernel_rfl
theorem impl_isTile_call (x0 : List AVal) (x1 : Int) (h : H) (K : Bool → H → Prop) (hm : impl_isTile_main (Sat Try.prog) (fun v h' => ∃ r, v = .bool r ∧ K r h') x0 x1 h) : callB (Sat Try.prog) i_impl_isTile [.agg x0, .int .i64 x1] h K := by
  have := Sat.ex tok mixed impl_isTile_M Try.func46 (c := bodyOf Try.f46) (by kernel_rfl) (calls_of Try.func46 (c := bodyOf Try.f46) (by kernel_rfl) (by decide)) ((impl_isTile_main_link _ _ x0 x1 h).mpr hm)
  obtain ⟨v, h2, h3, r, rfl, h4⟩ := this; exact ⟨r, h2, h3, h4⟩

/-! ### loop.example/g01354/impl.isTile$1 -/
def impl_isTile_1_M : Nat → List Nat := fun i => []
def impl_isTile_1_main (S : SatT) (K : KT) (x0 : Int) (x1 : Pt) (h : H) : Prop :=
 ldI .i64 x1 h fun n0 =>
 callB S i_impl_within [.int .i64 x0, .int .i64 (0), .int .i64 (w64 (n0 - (1)))] h fun b2 h1 =>
 K (.bool (!b2)) h1
theorem impl_isTile_1_main_link (S : SatT) (K : KT) (x0 : Int) (x1 : Pt) (h : H) : cwp S tab impl_isTile_1_M [] (bodyOf Try.f59) (kFun tab Try.f59.results.toList K) (fr0 Try.f59 [.int .i64 x0, .ptr x1]) h = impl_isTile_1_main S K x0 x1 h := by kernel_rfl
theorem impl_isTile_1_call (x0 : Int) (x1 : Pt) (h : H) (K : Bool → H → Prop) (hm : impl_isTile_1_main (Sat Try.prog) (fun v h' => ∃ r, v = .bool r ∧ K r h') x0 x1 h) : callB (Sat Try.prog) i_impl_isTile_1 [.int .i64 x0, .ptr x1] h K := by
  have := Sat.ex tok mixed impl_isTile_1_M Try.func59 (c := bodyOf Try.f59) (by kernel_rfl) (calls_of Try.func59 (c := bodyOf Try.f59) (by kernel_rfl) (by decide)) ((impl_isTile_1_main_link _ _ x0 x1 h).mpr hm)
  obtain ⟨v, h2, h3, r, rfl, h4⟩ := this; exact ⟨r, h2, h3, h4⟩

/-! ### loop.example/g01354/impl.counted -/
def impl_counted_M : Nat → List Nat := fun i => []
def impl_counted_main (S : SatT) (K : KT) (x0 : Int) (h : H) : Prop :=
 bif (decide (x0 > (1000000000000000))) then
 K (.tuple [.int .i64 (0), .int .i64 (3)]) h
 else
 K (.tuple [.int .i64 x0, .int .i64 (0)]) h
theorem impl_counted_main_link (S : SatT) (K : KT) (x0 : Int) (h : H) : cwp S tab impl_counted_M [] (bodyOf Try.f43) (kFun tab Try.f43.results.toList K) (fr0 Try.f43 [.int .i64 x0]) h = impl_counted_main S K x0 h := by kernel_rfl
theorem impl_counted_call (x0 : Int) (h : H) (K : KT) (hm : impl_counted_main (Sat Try.prog) (fun v h' => K v h') x0 h) : callV (Sat Try.prog) i_impl_counted [.int .i64 x0] h K := by
  have := Sat.ex tok mixed impl_counted_M Try.func43 (c := bodyOf Try.f43) (by kernel_rfl) (calls_of Try.func43 (c := bodyOf Try.f43) (by kernel_rfl) (by decide)) ((impl_counted_main_link _ _ x0 h).mpr hm)
  exact this

/-! ### cmp.isNaN[int64] -/
def cmp_isNaN_int64__M : Nat → List Nat := fun i => []
def cmp_isNaN_int64__main (S : SatT) (K : KT) (x0 : Int) (h : H) : Prop :=
 K (.bool (x0 != x0)) h
theorem cmp_isNaN_int64__main_link (S : SatT) (K : KT) (x0 : Int) (h : H) : cwp S tab cmp_isNaN_int64__M [] (bodyOf Try.f76) (kFun tab Try.f76.results.toList K) (fr0 Try.f76 [.int .i64 x0]) h = cmp_isNaN_int64__main S K x0 h := by kernel_rfl
theorem cmp_isNaN_int64__call (x0 : Int) (h : H) (K : Bool → H → Prop) (hm : cmp_isNaN_int64__main (Sat Try.prog) (fun v h' => ∃ r, v = .bool r ∧ K r h') x0 h) : callB (Sat Try.prog) i_cmp_isNaN_int64_ [.int .i64 x0] h K := by
  have := Sat.ex tok mixed cmp_isNaN_int64__M Try.func76 (c := bodyOf Try.f76) (by kernel_rfl) (calls_of Try.func76 (c := bodyOf Try.f76) (by kernel_rfl) (by decide)) ((cmp_isNaN_int64__main_link _ _ x0 h).mpr hm)
  obtain ⟨v, h2, h3, r, rfl, h4⟩ := this; exact ⟨r, h2, h3, h4⟩

/-! ### (loop.example/g01354/impl.Set).endless -/
def impl_Set_endless_M : Nat → List Nat := fun i => bif i == 2 then [1, 2, 3, 7, 8, 16, 17, 23, 24, 25] else bif i == 0 then [1, 2, 3, 7, 16, 17] else []
def impl_Set_endless_ks2 (S : SatT) (K : KT) : Kont := kSeq (cwp S tab impl_Set_endless_M [] (sub [1, 1, 1] (bodyOf Try.f23)) (kFun tab (Try.f23).results.toList K)) (kFun tab (Try.f23).results.toList K)
def impl_Set_endless_e0 (i1_ i2_ : Int) (p3_ : Pt) (s7_ : Sl) (i16_ i17_ : Int) : Frame := [U, .int .i64 i1_, .int .i64 i2_, .ptr p3_, U, U, U, .sl s7_, U, U, U, U, U, U, U, U, .int .i64 i16_, .int .i64 i17_, U, U, U, U, U, U, U, U, U, U, U, U, U, U, U, U, U, U, U, U, U, U, U, U, U, U, U, U, U, U, U, U, U, U]
def impl_Set_endless_w0 (S : SatT) (K : KT) : (XT) → XT := fun X fr h => cwp S tab impl_Set_endless_M (impl_Set_endless_M 0) (sub [1, 1, 0, 1, 0, 0] (bodyOf Try.f23)) (kSeq (fun fr h => X (mask (impl_Set_endless_M 0) fr) h) (kBlk 0 (impl_Set_endless_ks2 S K))) fr h
def impl_Set_endless_L0 (S : SatT) (K : KT) (i1_ i2_ : Int) (p3_ : Pt) (s7_ : Sl) (i16_ i17_ : Int) (h : H) : Prop := loopK (impl_Set_endless_w0 S K) (impl_Set_endless_e0 i1_ i2_ p3_ s7_ i16_ i17_) h
def impl_Set_endless_ks6 (S : SatT) (K : KT) (X0 : XT) : Kont := kSeq (cwp S tab impl_Set_endless_M (impl_Set_endless_M 0) (sub [1, 1, 0, 1, 0, 0, 1, 1, 1] (bodyOf Try.f23)) (kSeq (fun fr h => X0 (mask (impl_Set_endless_M 0) fr) h) (kBlk 0 (impl_Set_endless_ks2 S K)))) (kSeq (fun fr h => X0 (mask (impl_Set_endless_M 0) fr) h) (kBlk 0 (impl_Set_endless_ks2 S K)))
def impl_Set_endless_ks8 (S : SatT) (K : KT) (X0 : XT) : Kont := kSeq (cwp S tab impl_Set_endless_M (impl_Set_endless_M 1) (sub [1, 1, 0, 1, 0, 0, 1, 1, 0, 0, 1, 1] (bodyOf Try.f23)) (kBlk 1 (impl_Set_endless_ks6 S K X0))) (kBlk 1 (impl_Set_endless_ks6 S K X0))
def impl_Set_endless_e2 (i1_ i2_ : Int) (p3_ : Pt) (s7_ s8_ : Sl) (i16_ i17_ : Int) (s23_ : Sl) (i24_ i25_ : Int) : Frame := [U, .int .i64 i1_, .int .i64 i2_, .ptr p3_, U, U, U, .sl s7_, .sl s8_, U, U, U, U, U, U, U, .int .i64 i16_, .int .i64 i17_, U, U, U, U, U, .sl s23_, .int .i64 i24_, .int .i64 i25_, U, U, U, U, U, U, U, U, U, U, U, U, U, U, U, U, U, U, U, U, U, U, U, U, U, U]
def impl_Set_endless_w2 (S : SatT) (K : KT) (X0 : XT) : (XT) → XT := fun X fr h => cwp S tab impl_Set_endless_M (impl_Set_endless_M 2) (sub [1, 1, 0, 1, 0, 0, 1, 1, 0, 0, 1, 0, 1, 0, 0] (bodyOf Try.f23)) (kSeq (fun fr h => X (mask (impl_Set_endless_M 2) fr) h) (kBlk 2 (impl_Set_endless_ks8 S K X0))) fr h
def impl_Set_endless_L2 (S : SatT) (K : KT) (X0 : XT) (i1_ i2_ : Int) (p3_ : Pt) (s7_ s8_ : Sl) (i16_ i17_ : Int) (s23_ : Sl) (i24_ i25_ : Int) (h : H) : Prop := loopK (impl_Set_endless_w2 S K X0) (impl_Set_endless_e2 i1_ i2_ p3_ s7_ s8_ i16_ i17_ s23_ i24_ i25_) h
def impl_Set_endless_C1 (S : SatT) (K : KT) (X0 : XT) (i1_ i2_ : Int) (p3_ : Pt) (s7_ : Sl) (i16_ i17_ : Int) (h : H) : Prop :=
 X0 (impl_Set_endless_e0 i1_ i2_ p3_ s7_ i16_ (w64 (i17_ + (1)))) h
def impl_Set_endless_C2 (S : SatT) (K : KT) (X0 : XT) (i1_ i2_ : Int) (p3_ : Pt) (s8_ : Sl) (i16_ i17_ : Int) (h : H) : Prop :=
 impl_Set_endless_C1 S K X0 i1_ i2_ p3_ s8_ i16_ i17_ h
def impl_Set_endless_b2 (S : SatT) (K : KT) (X0 X2 : XT) (i1_ i2_ : Int) (p3_ : Pt) (s7_ s8_ : Sl) (i16_ i17_ : Int) (s23_ : Sl) (i24_ i25_ : Int) (h : H) : Prop :=
 bif (decide (i25_ < i24_)) then
 ixS s23_ 4 i25_ fun p0 =>
 ldA p0 4 h fun cs1 =>
 newO [.int .i64 (0), .int .i64 (0), .int .i64 (0), .int .i64 (0)] h fun p2 h3 =>
 stN p2 4 cs1 h3 fun h4 =>
 ixA p2 4 1 i1_ fun p5 =>
 ldI .i64 p5 h4 fun n6 =>
 ixA p2 4 1 i1_ fun p7 =>
 ldI .i64 p7 h4 fun n8 =>
 ixS s8_ 1 n8 fun p9 =>
 ldB p9 h4 fun b10 =>
 bif b10 then
 ixS s8_ 1 n6 fun p11 =>
 st1 p11 (.bool true) h4 fun h12 =>
 X2 (impl_Set_endless_e2 i1_ i2_ p3_ s7_ s8_ i16_ i17_ s23_ i24_ (w64 (i25_ + (1)))) h12
 else
 ixA p2 4 1 i2_ fun p13 =>
 ldI .i64 p13 h4 fun n14 =>
 ixS s7_ 1 n14 fun p15 =>
 ldB p15 h4 fun b16 =>
 ixS s8_ 1 n6 fun p17 =>
 st1 p17 (.bool b16) h4 fun h18 =>
 X2 (impl_Set_endless_e2 i1_ i2_ p3_ s7_ s8_ i16_ i17_ s23_ i24_ (w64 (i25_ + (1)))) h18
 else
 impl_Set_endless_C2 S K X0 i1_ i2_ p3_ s8_ i16_ i17_ h
theorem impl_Set_endless_link2 (S : SatT) (K : KT) (X0 X2 : XT) (i1_ i2_ : Int) (p3_ : Pt) (s7_ s8_ : Sl) (i16_ i17_ : Int) (s23_ : Sl) (i24_ i25_ : Int) (h : H) : impl_Set_endless_w2 S K X0 X2 (impl_Set_endless_e2 i1_ i2_ p3_ s7_ s8_ i16_ i17_ s23_ i24_ i25_) h = impl_Set_endless_b2 S K X0 X2 i1_ i2_ p3_ s7_ s8_ i16_ i17_ s23_ i24_ i25_ h := by kernel_rfl
theorem impl_Set_endless_rule2 (S : SatT) (K : KT) (X0 : XT) (i1_ i2_ : Int) (p3_ : Pt) (s7_ s8_ : Sl) (i16_ i17_ : Int) (s23_ : Sl) (i24_ : Int) (I_ : Int → H → Prop) (m_ : Int → H → Nat)
    (hs : ∀ (X2 : XT) (i25_ : Int) (h : H), I_ i25_ h → (∀ (i25_' : Int) (h' : H), I_ i25_' h' → m_ i25_' h' < m_ i25_ h → X2 (impl_Set_endless_e2 i1_ i2_ p3_ s7_ s8_ i16_ i17_ s23_ i24_ i25_') h') → impl_Set_endless_b2 S K X0 X2 i1_ i2_ p3_ s7_ s8_ i16_ i17_ s23_ i24_ i25_ h) (i25_ : Int) {h : H} (h0 : I_ i25_ h) : impl_Set_endless_L2 S K X0 i1_ i2_ p3_ s7_ s8_ i16_ i17_ s23_ i24_ i25_ h :=
  loop_rule (σ := (Int)) (fun s_ => impl_Set_endless_e2 i1_ i2_ p3_ s7_ s8_ i16_ i17_ s23_ i24_ (s_)) (fun s_ h => I_ (s_) h) (fun s_ h => m_ (s_) h)
    (fun X s_ h hi hx => (impl_Set_endless_link2 S K X0 X i1_ i2_ p3_ s7_ s8_ i16_ i17_ s23_ i24_ (s_) h).mpr (hs X (s_) h hi fun i25_' h' hi' hm' => hx (i25_') h' hi' hm')) (i25_) h0
def impl_Set_endless_C0 (S : SatT) (K : KT) (s7_ : Sl) (h : H) : Prop :=
 K (.sl s7_) h
def impl_Set_endless_b0 (S : SatT) (K : KT) (X0 : XT) (i1_ i2_ : Int) (p3_ : Pt) (s7_ : Sl) (i16_ i17_ : Int) (h : H) : Prop :=
 bif (decide (i17_ < i16_)) then
 isPt p3_ (
 ldI .i64 (Pt.add p3_ 0) h fun n0 =>
 mkS n0 [.bool false] h fun s1 h2 =>
 isPt p3_ (
 ldS (Pt.add p3_ 1) h2 fun s3 =>
 impl_Set_endless_L2 S K X0 i1_ i2_ p3_ s7_ s1 i16_ i17_ s3 (s3.len : Int) (0) h2))
 else
 impl_Set_endless_C0 S K s7_ h
theorem impl_Set_endless_link0 (S : SatT) (K : KT) (X0 : XT) (i1_ i2_ : Int) (p3_ : Pt) (s7_ : Sl) (i16_ i17_ : Int) (h : H) : impl_Set_endless_w0 S K X0 (impl_Set_endless_e0 i1_ i2_ p3_ s7_ i16_ i17_) h = impl_Set_endless_b0 S K X0 i1_ i2_ p3_ s7_ i16_ i17_ h := by kernel_rfl
theorem impl_Set_endless_rule0 (S : SatT) (K : KT) (i1_ i2_ : Int) (p3_ : Pt) (i16_ : Int) (I_ : Sl → Int → H → Prop) (m_ : Sl → Int → H → Nat)
    (hs : ∀ (X0 : XT) (s7_ : Sl) (i17_ : Int) (h : H), I_ s7_ i17_ h → (∀ (s7_' : Sl) (i17_' : Int) (h' : H), I_ s7_' i17_' h' → m_ s7_' i17_' h' < m_ s7_ i17_ h → X0 (impl_Set_endless_e0 i1_ i2_ p3_ s7_' i16_ i17_') h') → impl_Set_endless_b0 S K X0 i1_ i2_ p3_ s7_ i16_ i17_ h) (s7_ : Sl) (i17_ : Int) {h : H} (h0 : I_ s7_ i17_ h) : impl_Set_endless_L0 S K i1_ i2_ p3_ s7_ i16_ i17_ h :=
  loop_rule (σ := (Sl) × (Int)) (fun s_ => impl_Set_endless_e0 i1_ i2_ p3_ (s_.1) i16_ (s_.2)) (fun s_ h => I_ (s_.1) (s_.2) h) (fun s_ h => m_ (s_.1) (s_.2) h)
    (fun X s_ h hi hx => (impl_Set_endless_link0 S K X i1_ i2_ p3_ (s_.1) i16_ (s_.2) h).mpr (hs X (s_.1) (s_.2) h hi fun s7_' i17_' h' hi' hm' => hx (s7_', i17_') h' hi' hm')) (s7_, i17_) h0
def impl_Set_endless_main (S : SatT) (K : KT) (x0 : List AVal) (x1 x2 : Int) (h : H) : Prop :=
 newK 2 x0 h fun p0 h1 =>
 newS 1 1 [.bool true] h1 fun s2 h3 =>
 isPt p0 (
 ldI .i64 (Pt.add p0 0) h3 fun n4 =>
 callS S i_slices_Repeat_s_bool_bool_ [.sl s2, .int .i64 n4] h3 fun s6 h5 =>
 isPt p0 (
 ldI .i64 (Pt.add p0 0) h5 fun n7 =>
 impl_Set_endless_L0 S K x1 x2 p0 s6 n7 (0) h5))
theorem impl_Set_endless_main_link (S : SatT) (K : KT) (x0 : List AVal) (x1 x2 : Int) (h : H) : cwp S tab impl_Set_endless_M [] (bodyOf Try.f23) (kFun tab Try.f23.results.toList K) (fr0 Try.f23 [.agg x0, .int .i64 x1, .int .i64 x2]) h = impl_Set_endless_main S K x0 x1 x2 h := by kernel_rfl
theorem impl_Set_endless_call (x0 : List AVal) (x1 x2 : Int) (h : H) (K : Sl → H → Prop) (hm : impl_Set_endless_main (Sat Try.prog) (fun v h' => ∃ r, v = .sl r ∧ K r h') x0 x1 x2 h) : callS (Sat Try.prog) i_impl_Set_endless [.agg x0, .int .i64 x1, .int .i64 x2] h K := by
  have := Sat.ex tok mixed impl_Set_endless_M Try.func23 (c := bodyOf Try.f23) (by kernel_rfl) (calls_of Try.func23 (c := bodyOf Try.f23) (by kernel_rfl) (by decide)) ((impl_Set_endless_main_link _ _ x0 x1 x2 h).mpr hm)
  obtain ⟨v, h2, h3, r, rfl, h4⟩ := this; exact ⟨r, h2, h3, h4⟩

/-! ### loop.example/g01354/spec.l01Sort -/
def spec_l01Sort_M : Nat → List Nat := fun i => bif i == 2 then [0, 3, 4, 5] else bif i == 0 then [0, 3, 4] else []
def spec_l01Sort_ks2 (S : SatT) (K : KT) : Kont := kSeq (cwp S tab spec_l01Sort_M [] (sub [1, 1, 1] (bodyOf Try.f51)) (kFun tab (Try.f51).results.toList K)) (kFun tab (Try.f51).results.toList K)
def spec_l01Sort_e0 (s0_ s3_ : Sl) (i4_ : Int) : Frame := [.sl s0_, U, U, .sl s3_, .int .i64 i4_, U, U, U, U, U, U, U, U, U, U, U, U, U, U, U, U, U, U, U, U, U, U, U, U, U, U, U, U, U, U, U, U, U, U, U, U, U, U, U, U, U, U, U, U, U, U, U, U, U, U, U, U, U, U, U, U, U, U]
def spec_l01Sort_w0 (S : SatT) (K : KT) : (XT) → XT := fun X fr h => cwp S tab spec_l01Sort_M (spec_l01Sort_M 0) (sub [1, 1, 0, 1, 0, 0] (bodyOf Try.f51)) (kSeq (fun fr h => X (mask (spec_l01Sort_M 0) fr) h) (kBlk 0 (spec_l01Sort_ks2 S K))) fr h
def spec_l01Sort_L0 (S : SatT) (K : KT) (s0_ s3_ : Sl) (i4_ : Int) (h : H) : Prop := loopK (spec_l01Sort_w0 S K) (spec_l01Sort_e0 s0_ s3_ i4_) h
def spec_l01Sort_ks6 (S : SatT) (K : KT) (X0 : XT) : Kont := kSeq (cwp S tab spec_l01Sort_M (spec_l01Sort_M 0) (sub [1, 1, 0, 1, 0, 0, 1, 1] (bodyOf Try.f51)) (kSeq (fun fr h => X0 (mask (spec_l01Sort_M 0) fr) h) (kBlk 0 (spec_l01Sort_ks2 S K)))) (kSeq (fun fr h => X0 (mask (spec_l01Sort_M 0) fr) h) (kBlk 0 (spec_l01Sort_ks2 S K)))
def spec_l01Sort_ks8 (S : SatT) (K : KT) (X0 : XT) : Kont := kSeq (cwp S tab spec_l01Sort_M (spec_l01Sort_M 1) (sub [1, 1, 0, 1, 0, 0, 1, 0, 0, 1, 1] (bodyOf Try.f51)) (kBlk 1 (spec_l01Sort_ks6 S K X0))) (kBlk 1 (spec_l01Sort_ks6 S K X0))
def spec_l01Sort_e2 (s0_ s3_ : Sl) (i4_ i5_ : Int) : Frame := [.sl s0_, U, U, .sl s3_, .int .i64 i4_, .int .i64 i5_, U, U, U, U, U, U, U, U, U, U, U, U, U, U, U, U, U, U, U, U, U, U, U, U, U, U, U, U, U, U, U, U, U, U, U, U, U, U, U, U, U, U, U, U, U, U, U, U, U, U, U, U, U, U, U, U, U]
def spec_l01Sort_w2 (S : SatT) (K : KT) (X0 : XT) : (XT) → XT := fun X fr h => cwp S tab spec_l01Sort_M (spec_l01Sort_M 2) (sub [1, 1, 0, 1, 0, 0, 1, 0, 0, 1, 0, 0, 0] (bodyOf Try.f51)) (kSeq (fun fr h => X (mask (spec_l01Sort_M 2) fr) h) (kBlk 2 (spec_l01Sort_ks8 S K X0))) fr h
def spec_l01Sort_L2 (S : SatT) (K : KT) (X0 : XT) (s0_ s3_ : Sl) (i4_ i5_ : Int) (h : H) : Prop := loopK (spec_l01Sort_w2 S K X0) (spec_l01Sort_e2 s0_ s3_ i4_ i5_) h
def spec_l01Sort_C1 (S : SatT) (K : KT) (X0 : XT) (s0_ s3_ : Sl) (i4_ : Int) (h : H) : Prop :=
 X0 (spec_l01Sort_e0 s0_ s3_ (w64 (i4_ + (1)))) h
def spec_l01Sort_C2 (S : SatT) (K : KT) (X0 : XT) (s0_ s3_ : Sl) (i4_ i5_ : Int) (h : H) : Prop :=
 bif (decide (i5_ > (0))) then
 ixS s3_ 4 (w64 (i5_ - (1))) fun p0 =>
 ldA p0 4 h fun cs1 =>
 ixS s0_ 4 i4_ fun p2 =>
 ldA p2 4 h fun cs3 =>
 eqA .i64 4 cs1 cs3 fun b4 =>
 bif b4 then
 spec_l01Sort_C1 S K X0 s0_ s3_ i4_ h
 else
 ixS s0_ 4 i4_ fun p5 =>
 ldA p5 4 h fun cs6 =>
 lenA cs6 4 (
 newS 1 4 (spl [.int .i64 (0), .int .i64 (0), .int .i64 (0), .int .i64 (0)] 0 4 cs6) h fun s7 h8 =>
 cut s3_ 4 i5_ (s3_.len : Int) h8 fun s9 =>
 okS h s3_ ∧ (
 app s7 s9 4 h8 fun s10 h11 =>
 newS 0 4 [] h11 fun s12 h13 =>
 cut s3_ 4 (0) i5_ h13 fun s14 =>
 app s12 s14 4 h13 fun s15 h16 =>
 app s15 s10 4 h16 fun s17 h18 =>
 spec_l01Sort_C1 S K X0 s0_ s17 i4_ h18))
 else
 ixS s0_ 4 i4_ fun p19 =>
 ldA p19 4 h fun cs20 =>
 lenA cs20 4 (
 newS 1 4 (spl [.int .i64 (0), .int .i64 (0), .int .i64 (0), .int .i64 (0)] 0 4 cs20) h fun s21 h22 =>
 cut s3_ 4 i5_ (s3_.len : Int) h22 fun s23 =>
 okS h s3_ ∧ (
 app s21 s23 4 h22 fun s24 h25 =>
 newS 0 4 [] h25 fun s26 h27 =>
 cut s3_ 4 (0) i5_ h27 fun s28 =>
 app s26 s28 4 h27 fun s29 h30 =>
 app s29 s24 4 h30 fun s31 h32 =>
 spec_l01Sort_C1 S K X0 s0_ s31 i4_ h32))
def spec_l01Sort_b2 (S : SatT) (K : KT) (X0 X2 : XT) (s0_ s3_ : Sl) (i4_ i5_ : Int) (h : H) : Prop :=
 bif (decide (i5_ > (0))) then
 ixS s0_ 4 i4_ fun p0 =>
 ldA p0 4 h fun cs1 =>
 ixS s3_ 4 (w64 (i5_ - (1))) fun p2 =>
 ldA p2 4 h fun cs3 =>
 callB S i_spec_l01Before [.agg cs1, .agg cs3] h fun b5 h4 =>
 bif b5 then
 X2 (spec_l01Sort_e2 s0_ s3_ i4_ (w64 (i5_ - (1)))) h4
 else
 spec_l01Sort_C2 S K X0 s0_ s3_ i4_ i5_ h4
 else
 spec_l01Sort_C2 S K X0 s0_ s3_ i4_ i5_ h
theorem spec_l01Sort_link2 (S : SatT) (K : KT) (X0 X2 : XT) (s0_ s3_ : Sl) (i4_ i5_ : Int) (h : H) : spec_l01Sort_w2 S K X0 X2 (spec_l01Sort_e2 s0_ s3_ i4_ i5_) h = spec_l01Sort_b2 S K X0 X2 s0_ s3_ i4_ i5_ h := by kernel_rfl
theorem spec_l01Sort_rule2 (S : SatT) (K : KT) (X0 : XT) (s0_ s3_ : Sl) (i4_ : Int) (I_ : Int → H → Prop) (m_ : Int → H → Nat)
    (hs : ∀ (X2 : XT) (i5_ : Int) (h : H), I_ i5_ h → (∀ (i5_' : Int) (h' : H), I_ i5_' h' → m_ i5_' h' < m_ i5_ h → X2 (spec_l01Sort_e2 s0_ s3_ i4_ i5_') h') → spec_l01Sort_b2 S K X0 X2 s0_ s3_ i4_ i5_ h) (i5_ : Int) {h : H} (h0 : I_ i5_ h) : spec_l01Sort_L2 S K X0 s0_ s3_ i4_ i5_ h :=
  loop_rule (σ := (Int)) (fun s_ => spec_l01Sort_e2 s0_ s3_ i4_ (s_)) (fun s_ h => I_ (s_) h) (fun s_ h => m_ (s_) h)
    (fun X s_ h hi hx => (spec_l01Sort_link2 S K X0 X s0_ s3_ i4_ (s_) h).mpr (hs X (s_) h hi fun i5_' h' hi' hm' => hx (i5_') h' hi' hm')) (i5_) h0
def spec_l01Sort_C0 (S : SatT) (K : KT) (s3_ : Sl) (h : H) : Prop :=
 K (.sl s3_) h
def spec_l01Sort_b0 (S : SatT) (K : KT) (X0 : XT) (s0_ s3_ : Sl) (i4_ : Int) (h : H) : Prop :=
 bif (decide (i4_ < (s0_.len : Int))) then
 spec_l01Sort_L2 S K X0 s0_ s3_ i4_ (s3_.len : Int) h
 else
 spec_l01Sort_C0 S K s3_ h
theorem spec_l01Sort_link0 (S : SatT) (K : KT) (X0 : XT) (s0_ s3_ : Sl) (i4_ : Int) (h : H) : spec_l01Sort_w0 S K X0 (spec_l01Sort_e0 s0_ s3_ i4_) h = spec_l01Sort_b0 S K X0 s0_ s3_ i4_ h := by kernel_rfl
theorem spec_l01Sort_rule0 (S : SatT) (K : KT) (s0_ : Sl) (I_ : Sl → Int → H → Prop) (m_ : Sl → Int → H → Nat)
    (hs : ∀ (X0 : XT) (s3_ : Sl) (i4_ : Int) (h : H), I_ s3_ i4_ h → (∀ (s3_' : Sl) (i4_' : Int) (h' : H), I_ s3_' i4_' h' → m_ s3_' i4_' h' < m_ s3_ i4_ h → X0 (spec_l01Sort_e0 s0_ s3_' i4_') h') → spec_l01Sort_b0 S K X0 s0_ s3_ i4_ h) (s3_ : Sl) (i4_ : Int) {h : H} (h0 : I_ s3_ i4_ h) : spec_l01Sort_L0 S K s0_ s3_ i4_ h :=
  loop_rule (σ := (Sl) × (Int)) (fun s_ => spec_l01Sort_e0 s0_ (s_.1) (s_.2)) (fun s_ h => I_ (s_.1) (s_.2) h) (fun s_ h => m_ (s_.1) (s_.2) h)
    (fun X s_ h hi hx => (spec_l01Sort_link0 S K X s0_ (s_.1) (s_.2) h).mpr (hs X (s_.1) (s_.2) h hi fun s3_' i4_' h' hi' hm' => hx (s3_', i4_') h' hi' hm')) (s3_, i4_) h0
def spec_l01Sort_main (S : SatT) (K : KT) (x0 : Sl) (h : H) : Prop :=
 newS 0 4 [] h fun s0 h1 =>
 spec_l01Sort_L0 S K x0 s0 (0) h1
theorem spec_l01Sort_main_link (S : SatT) (K : KT) (x0 : Sl) (h : H) : cwp S tab spec_l01Sort_M [] (bodyOf Try.f51) (kFun tab Try.f51.results.toList K) (fr0 Try.f51 [.sl x0]) h = spec_l01Sort_main S K x0 h := by kernel_rfl
theorem spec_l01Sort_call (x0 : Sl) (h : H) (K : Sl → H → Prop) (hm : spec_l01Sort_main (Sat Try.prog) (fun v h' => ∃ r, v = .sl r ∧ K r h') x0 h) : callS (Sat Try.prog) i_spec_l01Sort [.sl x0] h K := by
  have := Sat.ex tok mixed spec_l01Sort_M Try.func51 (c := bodyOf Try.f51) (by kernel_rfl) (calls_of Try.func51 (c := bodyOf Try.f51) (by kernel_rfl) (by decide)) ((spec_l01Sort_main_link _ _ x0 h).mpr hm)
  obtain ⟨v, h2, h3, r, rfl, h4⟩ := this; exact ⟨r, h2, h3, h4⟩

/-! ### loop.example/g01354/spec.l01Draw -/
def spec_l01Draw_M : Nat → List Nat := fun i => []
def spec_l01Draw_main (S : SatT) (K : KT) (x0 : Pt) (h : H) : Prop :=
 newO [.int .i64 (0), .sl Sl.nil] h fun p0 h1 =>
 callI S .i64 i_spec_l01Next [.ptr x0, .int .i64 (4)] h1 fun n3 h2 =>
 bif (n3 == (0)) then
 bif (n3 == (0)) then
 callA S i_spec_l01Small [.ptr x0] h2 fun cs5 h4 =>
 stN p0 2 cs5 h4 fun h6 =>
 ldA p0 2 h6 fun cs7 =>
 K (.agg cs7) h6
 else
 bif (n3 == (2)) then
 newS 3 1 [.int .i64 (2), .int .i64 (3), .int .i64 (4)] h2 fun s8 h9 =>
 callI S .i64 i_spec_l01Pick [.ptr x0, .sl s8] h9 fun n11 h10 =>
 callI S .i64 i_spec_l01Next [.ptr x0, .int .i64 (10)] h10 fun n13 h12 =>
 callA S i_spec_l01DrawOf [.ptr x0, .int .i64 n11, .int .i64 n13] h12 fun cs15 h14 =>
 newO [.int .i64 (0), .sl Sl.nil] h14 fun p16 h17 =>
 stN p16 2 cs15 h17 fun h18 =>
 isPt p16 (
 ldI .i64 (Pt.add p16 0) h18 fun n19 =>
 callI S .i64 i_spec_l01Next [.ptr x0, .int .i64 n19] h18 fun n21 h20 =>
 isPt p16 (
 ldI .i64 (Pt.add p16 0) h20 fun n22 =>
(cell h18 (Pt.add p16 0) = cell h20 (Pt.add p16 0)) ∧ (
 callI S .i64 i_spec_l01Next [.ptr x0, .int .i64 n22] h20 fun n24 h23 =>
 slotK 15 h23 fun h25 =>
 isPt p16 (
 ldI .i64 (Pt.add p16 0) h25 fun n26 =>
 isPt p16 (
 ldS (Pt.add p16 1) h25 fun s27 =>
 newSat 0 4 [] h25 (h23.length + 2) fun s28 h29 =>
(cell h29 (Pt.add p16 1) = cell h25 (Pt.add p16 1)) ∧ (
(cell h29 (Pt.add p16 0) = cell h25 (Pt.add p16 0)) ∧ (
 app s28 s27 4 h29 fun s30 h31 =>
(cell h31 (Pt.add p16 0) = cell h25 (Pt.add p16 0)) ∧ (
 lenA [.int .i64 n21, .int .i64 n24, .int .i64 n21, .int .i64 n24] 4 (
 newSat 1 4 (spl [.int .i64 (0), .int .i64 (0), .int .i64 (0), .int .i64 (0)] 0 4 [.int .i64 n21, .int .i64 n24, .int .i64 n21, .int .i64 n24]) h31 (h23.length + 11) fun s32 h33 =>
(cell h31 (Pt.add p16 1) = cell h25 (Pt.add p16 1)) ∧ (
(cell h33 (Pt.add p16 1) = cell h25 (Pt.add p16 1)) ∧ (
(cell h33 (Pt.add p16 0) = cell h25 (Pt.add p16 0)) ∧ (
 app s30 s32 4 h33 fun s34 h35 =>
(cell h35 (Pt.add p16 0) = cell h25 (Pt.add p16 0)) ∧ (
 callA S i_spec_l01Made [.int .i64 n26, .sl s34] h35 fun cs37 h36 =>
 stN p0 2 cs37 h36 fun h38 =>
 ldA p0 2 h38 fun cs39 =>
 K (.agg cs39) h38)))))))))))))
 else
 callI S .i64 i_spec_l01Next [.ptr x0, .int .i64 (6)] h2 fun n41 h40 =>
 callI S .i64 i_spec_l01Next [.ptr x0, .int .i64 (17)] h40 fun n43 h42 =>
 callA S i_spec_l01DrawOf [.ptr x0, .int .i64 (w64 ((1) + n41)), .int .i64 n43] h42 fun cs45 h44 =>
 stN p0 2 cs45 h44 fun h46 =>
 ldA p0 2 h46 fun cs47 =>
 K (.agg cs47) h46
 else
 bif (n3 == (1)) then
 callA S i_spec_l01Small [.ptr x0] h2 fun cs49 h48 =>
 stN p0 2 cs49 h48 fun h50 =>
 ldA p0 2 h50 fun cs51 =>
 K (.agg cs51) h50
 else
 bif (n3 == (2)) then
 newS 3 1 [.int .i64 (2), .int .i64 (3), .int .i64 (4)] h2 fun s52 h53 =>
 callI S .i64 i_spec_l01Pick [.ptr x0, .sl s52] h53 fun n55 h54 =>
 callI S .i64 i_spec_l01Next [.ptr x0, .int .i64 (10)] h54 fun n57 h56 =>
 callA S i_spec_l01DrawOf [.ptr x0, .int .i64 n55, .int .i64 n57] h56 fun cs59 h58 =>
 newO [.int .i64 (0), .sl Sl.nil] h58 fun p60 h61 =>
 stN p60 2 cs59 h61 fun h62 =>
 isPt p60 (
 ldI .i64 (Pt.add p60 0) h62 fun n63 =>
 callI S .i64 i_spec_l01Next [.ptr x0, .int .i64 n63] h62 fun n65 h64 =>
 isPt p60 (
 ldI .i64 (Pt.add p60 0) h64 fun n66 =>
(cell h62 (Pt.add p60 0) = cell h64 (Pt.add p60 0)) ∧ (
 callI S .i64 i_spec_l01Next [.ptr x0, .int .i64 n66] h64 fun n68 h67 =>
 slotK 15 h67 fun h69 =>
 isPt p60 (
 ldI .i64 (Pt.add p60 0) h69 fun n70 =>
 isPt p60 (
 ldS (Pt.add p60 1) h69 fun s71 =>
 newSat 0 4 [] h69 (h67.length + 2) fun s72 h73 =>
(cell h73 (Pt.add p60 1) = cell h69 (Pt.add p60 1)) ∧ (
(cell h73 (Pt.add p60 0) = cell h69 (Pt.add p60 0)) ∧ (
 app s72 s71 4 h73 fun s74 h75 =>
(cell h75 (Pt.add p60 0) = cell h69 (Pt.add p60 0)) ∧ (
 lenA [.int .i64 n65, .int .i64 n68, .int .i64 n65, .int .i64 n68] 4 (
 newSat 1 4 (spl [.int .i64 (0), .int .i64 (0), .int .i64 (0), .int .i64 (0)] 0 4 [.int .i64 n65, .int .i64 n68, .int .i64 n65, .int .i64 n68]) h75 (h67.length + 11) fun s76 h77 =>
(cell h75 (Pt.add p60 1) = cell h69 (Pt.add p60 1)) ∧ (
(cell h77 (Pt.add p60 1) = cell h69 (Pt.add p60 1)) ∧ (
(cell h77 (Pt.add p60 0) = cell h69 (Pt.add p60 0)) ∧ (
 app s74 s76 4 h77 fun s78 h79 =>
(cell h79 (Pt.add p60 0) = cell h69 (Pt.add p60 0)) ∧ (
 callA S i_spec_l01Made [.int .i64 n70, .sl s78] h79 fun cs81 h80 =>
 stN p0 2 cs81 h80 fun h82 =>
 ldA p0 2 h82 fun cs83 =>
 K (.agg cs83) h82)))))))))))))
 else
 callI S .i64 i_spec_l01Next [.ptr x0, .int .i64 (6)] h2 fun n85 h84 =>
 callI S .i64 i_spec_l01Next [.ptr x0, .int .i64 (17)] h84 fun n87 h86 =>
 callA S i_spec_l01DrawOf [.ptr x0, .int .i64 (w64 ((1) + n85)), .int .i64 n87] h86 fun cs89 h88 =>
 stN p0 2 cs89 h88 fun h90 =>
 ldA p0 2 h90 fun cs91 =>
 K (.agg cs91) h90
theorem spec_l01Draw_main_link (S : SatT) (K : KT) (x0 : Pt) (h : H) : cwp S tab spec_l01Draw_M [] (bodyOf Try.f45) (kFun tab Try.f45.results.toList K) (fr0 Try.f45 [.ptr x0]) h = spec_l01Draw_main S K x0 h := by kernel_rfl
theorem spec_l01Draw_call (x0 : Pt) (h : H) (K : List AVal → H → Prop) (hm : spec_l01Draw_main (Sat Try.prog) (fun v h' => ∃ r, v = .agg r ∧ K r h') x0 h) : callA (Sat Try.prog) i_spec_l01Draw [.ptr x0] h K := by
  have := Sat.ex tok mixed spec_l01Draw_M Try.func45 (c := bodyOf Try.f45) (by kernel_rfl) (calls_of Try.func45 (c := bodyOf Try.f45) (by kernel_rfl) (by decide)) ((spec_l01Draw_main_link _ _ x0 h).mpr hm)
  obtain ⟨v, h2, h3, r, rfl, h4⟩ := this; exact ⟨r, h2, h3, h4⟩

/-! ### loop.example/g01354/spec.l01Named -/
def spec_l01Named_M : Nat → List Nat := fun i => bif i == 0 then [0, 2, 4, 5, 6] else []
def spec_l01Named_ks3 (S : SatT) (K : KT) : Kont := kSeq (cwp S tab spec_l01Named_M [] (sub [1, 1, 1, 1] (bodyOf Try.f64)) (kFun tab (Try.f64).results.toList K)) (kFun tab (Try.f64).results.toList K)
def spec_l01Named_e0 (f0_ : AVal) (p2_ : Pt) (s4_ s5_ : Sl) (i6_ : Int) : Frame := [f0_, U, .ptr p2_, U, .sl s4_, .sl s5_, .int .i64 i6_, U, U, U, U, U, U, U, U, U, U, U, U, U, U, U, U, U, U, U, U, U, U, U, U, U, U]
def spec_l01Named_w0 (S : SatT) (K : KT) : (XT) → XT := fun X fr h => cwp S tab spec_l01Named_M (spec_l01Named_M 0) (sub [1, 1, 1, 0, 1, 0, 0] (bodyOf Try.f64)) (kSeq (fun fr h => X (mask (spec_l01Named_M 0) fr) h) (kBlk 0 (spec_l01Named_ks3 S K))) fr h
def spec_l01Named_L0 (S : SatT) (K : KT) (f0_ : AVal) (p2_ : Pt) (s4_ s5_ : Sl) (i6_ : Int) (h : H) : Prop := loopK (spec_l01Named_w0 S K) (spec_l01Named_e0 f0_ p2_ s4_ s5_ i6_) h
def spec_l01Named_C0 (S : SatT) (K : KT) (p2_ : Pt) (h : H) : Prop :=
 stN p2_ 2 [.int .i64 (0), .sl Sl.nil] h fun h0 =>
 ldA p2_ 2 h0 fun cs1 =>
 K (.tuple [.agg cs1, .bool false]) h0
def spec_l01Named_b0 (S : SatT) (K : KT) (X0 : XT) (f0_ : AVal) (p2_ : Pt) (s4_ s5_ : Sl) (i6_ : Int) (h : H) : Prop :=
 bif (decide (i6_ < (s4_.len : Int))) then
 ixS s4_ 1 i6_ fun p0 =>
 ldV p0 h fun v1 =>
 strEq v1 f0_ fun b2 =>
 bif b2 then
 ixS s5_ 1 i6_ fun p3 =>
 ldV p3 h fun v4 =>
 callV S i_spec_l01Read [v4] h fun v6 h5 =>
 viaT v6 fun vs7 =>
 exA vs7 0 fun cs8 =>
 viaT v6 fun vs9 =>
 exB vs9 1 fun b10 =>
 newO [.int .i64 (0), .sl Sl.nil] h5 fun p11 h12 =>
 stN p11 2 cs8 h12 fun h13 =>
 ldA p11 2 h13 fun cs14 =>
 stN p2_ 2 cs14 h13 fun h15 =>
 ldA p2_ 2 h15 fun cs16 =>
 K (.tuple [.agg cs16, .bool true]) h15
 else
 X0 (spec_l01Named_e0 f0_ p2_ s4_ s5_ (w64 (i6_ + (1)))) h
 else
 spec_l01Named_C0 S K p2_ h
theorem spec_l01Named_link0 (S : SatT) (K : KT) (X0 : XT) (f0_ : AVal) (p2_ : Pt) (s4_ s5_ : Sl) (i6_ : Int) (h : H) : spec_l01Named_w0 S K X0 (spec_l01Named_e0 f0_ p2_ s4_ s5_ i6_) h = spec_l01Named_b0 S K X0 f0_ p2_ s4_ s5_ i6_ h := by kernel_rfl
theorem spec_l01Named_rule0 (S : SatT) (K : KT) (f0_ : AVal) (p2_ : Pt) (s4_ s5_ : Sl) (I_ : Int → H → Prop) (m_ : Int → H → Nat)
    (hs : ∀ (X0 : XT) (i6_ : Int) (h : H), I_ i6_ h → (∀ (i6_' : Int) (h' : H), I_ i6_' h' → m_ i6_' h' < m_ i6_ h → X0 (spec_l01Named_e0 f0_ p2_ s4_ s5_ i6_') h') → spec_l01Named_b0 S K X0 f0_ p2_ s4_ s5_ i6_ h) (i6_ : Int) {h : H} (h0 : I_ i6_ h) : spec_l01Named_L0 S K f0_ p2_ s4_ s5_ i6_ h :=
  loop_rule (σ := (Int)) (fun s_ => spec_l01Named_e0 f0_ p2_ s4_ s5_ (s_)) (fun s_ h => I_ (s_) h) (fun s_ h => m_ (s_) h)
    (fun X s_ h hi hx => (spec_l01Named_link0 S K X f0_ p2_ s4_ s5_ (s_) h).mpr (hs X (s_) h hi fun i6_' h' hi' hm' => hx (i6_') h' hi' hm')) (i6_) h0
def spec_l01Named_main (S : SatT) (K : KT) (x0 : AVal) (h : H) : Prop :=
 newO [.int .i64 (0), .sl Sl.nil] h fun p0 h1 =>
 callS S i_spec_l01Names [] h1 fun s3 h2 =>
 newS 8 1 [.str (⟨#[49, 58, 48, 48, 48, 48]⟩ : ByteArray), .str (⟨#[50, 58, 48, 48, 49, 49, 44, 49, 49, 48, 48]⟩ : ByteArray), .str (⟨#[50, 58, 48, 48, 48, 48, 44, 48, 49, 48, 49, 44, 49, 48, 49, 48, 44, 49, 49, 49, 49]⟩ : ByteArray), .str (⟨#[50, 58, 48, 48, 48, 48, 44, 48, 49, 49, 48, 44, 49, 48, 48, 49, 44, 49, 49, 49, 49]⟩ : ByteArray), .str (⟨#[50, 58, 48, 48, 48, 48, 44, 48, 49, 49, 49, 44, 49, 48, 49, 49, 44, 49, 49, 48, 48]⟩ : ByteArray), .str (⟨#[50, 58, 48, 48, 48, 48, 44, 48, 48, 49, 49, 44, 48, 49, 48, 49, 44, 49, 49, 49, 48]⟩ : ByteArray), .str (⟨#[50, 58, 48, 48, 48, 49]⟩ : ByteArray), .str (⟨#[51, 58, 48, 49, 50, 48, 44, 49, 50, 48, 49, 44, 50, 48, 49, 50]⟩ : ByteArray)] h2 fun s4 h5 =>
 spec_l01Named_L0 S K x0 p0 s3 s4 (0) h5
theorem spec_l01Named_main_link (S : SatT) (K : KT) (x0 : AVal) (h : H) : cwp S tab spec_l01Named_M [] (bodyOf Try.f64) (kFun tab Try.f64.results.toList K) (fr0 Try.f64 [x0]) h = spec_l01Named_main S K x0 h := by kernel_rfl
theorem spec_l01Named_call (x0 : AVal) (h : H) (K : KT) (hm : spec_l01Named_main (Sat Try.prog) (fun v h' => K v h') x0 h) : callV (Sat Try.prog) i_spec_l01Named [x0] h K := by
  have := Sat.ex tok mixed spec_l01Named_M Try.func64 (c := bodyOf Try.f64) (by kernel_rfl) (calls_of Try.func64 (c := bodyOf Try.f64) (by kernel_rfl) (by decide)) ((spec_l01Named_main_link _ _ x0 h).mpr hm)
  exact this

/-! ### loop.example/g01354/spec.l04Kept -/
def spec_l04Kept_M : Nat → List Nat := fun i => bif i == 0 then [1, 2, 3, 4, 5] else []
def spec_l04Kept_ks2 (S : SatT) (K : KT) : Kont := kSeq (cwp S tab spec_l04Kept_M [] (sub [1, 1, 1] (bodyOf Try.f27)) (kFun tab (Try.f27).results.toList K)) (kFun tab (Try.f27).results.toList K)
def spec_l04Kept_e0 (p1_ p2_ : Pt) (s3_ s4_ : Sl) (i5_ : Int) : Frame := [U, .ptr p1_, .ptr p2_, .sl s3_, .sl s4_, .int .i64 i5_, U, U, U, U, U, U, U, U, U, U, U, U, U, U, U, U, U, U, U, U, U, U, U, U, U]
def spec_l04Kept_w0 (S : SatT) (K : KT) : (XT) → XT := fun X fr h => cwp S tab spec_l04Kept_M (spec_l04Kept_M 0) (sub [1, 1, 0, 1, 0, 0] (bodyOf Try.f27)) (kSeq (fun fr h => X (mask (spec_l04Kept_M 0) fr) h) (kBlk 0 (spec_l04Kept_ks2 S K))) fr h
def spec_l04Kept_L0 (S : SatT) (K : KT) (p1_ p2_ : Pt) (s3_ s4_ : Sl) (i5_ : Int) (h : H) : Prop := loopK (spec_l04Kept_w0 S K) (spec_l04Kept_e0 p1_ p2_ s3_ s4_ i5_) h
def spec_l04Kept_C0 (S : SatT) (K : KT) (p1_ p2_ : Pt) (s4_ : Sl) (h : H) : Prop :=
 isPt p1_ (
 ldI .i64 (Pt.add p1_ 0) h fun n0 =>
 callA S i_spec_l01Made [.int .i64 n0, .sl s4_] h fun cs2 h1 =>
 stN p2_ 2 cs2 h1 fun h3 =>
 ldA p2_ 2 h3 fun cs4 =>
 K (.agg cs4) h3)
def spec_l04Kept_b0 (S : SatT) (K : KT) (X0 : XT) (p1_ p2_ : Pt) (s3_ s4_ : Sl) (i5_ : Int) (h : H) : Prop :=
 bif (decide (i5_ < (s3_.len : Int))) then
 ixS s3_ 1 i5_ fun p0 =>
 ldB p0 h fun b1 =>
 bif b1 then
 isPt p1_ (
 ldS (Pt.add p1_ 1) h fun s2 =>
 ixS s2 4 i5_ fun p3 =>
 ldA p3 4 h fun cs4 =>
 lenA cs4 4 (
 newS 1 4 (spl [.int .i64 (0), .int .i64 (0), .int .i64 (0), .int .i64 (0)] 0 4 cs4) h fun s5 h6 =>
 app s4_ s5 4 h6 fun s7 h8 =>
 X0 (spec_l04Kept_e0 p1_ p2_ s3_ s7 (w64 (i5_ + (1)))) h8))
 else
 X0 (spec_l04Kept_e0 p1_ p2_ s3_ s4_ (w64 (i5_ + (1)))) h
 else
 spec_l04Kept_C0 S K p1_ p2_ s4_ h
theorem spec_l04Kept_link0 (S : SatT) (K : KT) (X0 : XT) (p1_ p2_ : Pt) (s3_ s4_ : Sl) (i5_ : Int) (h : H) : spec_l04Kept_w0 S K X0 (spec_l04Kept_e0 p1_ p2_ s3_ s4_ i5_) h = spec_l04Kept_b0 S K X0 p1_ p2_ s3_ s4_ i5_ h := by kernel_rfl
theorem spec_l04Kept_rule0 (S : SatT) (K : KT) (p1_ p2_ : Pt) (s3_ : Sl) (I_ : Sl → Int → H → Prop) (m_ : Sl → Int → H → Nat)
    (hs : ∀ (X0 : XT) (s4_ : Sl) (i5_ : Int) (h : H), I_ s4_ i5_ h → (∀ (s4_' : Sl) (i5_' : Int) (h' : H), I_ s4_' i5_' h' → m_ s4_' i5_' h' < m_ s4_ i5_ h → X0 (spec_l04Kept_e0 p1_ p2_ s3_ s4_' i5_') h') → spec_l04Kept_b0 S K X0 p1_ p2_ s3_ s4_ i5_ h) (s4_ : Sl) (i5_ : Int) {h : H} (h0 : I_ s4_ i5_ h) : spec_l04Kept_L0 S K p1_ p2_ s3_ s4_ i5_ h :=
  loop_rule (σ := (Sl) × (Int)) (fun s_ => spec_l04Kept_e0 p1_ p2_ s3_ (s_.1) (s_.2)) (fun s_ h => I_ (s_.1) (s_.2) h) (fun s_ h => m_ (s_.1) (s_.2) h)
    (fun X s_ h hi hx => (spec_l04Kept_link0 S K X p1_ p2_ s3_ (s_.1) (s_.2) h).mpr (hs X (s_.1) (s_.2) h hi fun s4_' i5_' h' hi' hm' => hx (s4_', i5_') h' hi' hm')) (s4_, i5_) h0
def spec_l04Kept_main (S : SatT) (K : KT) (x0 : List AVal) (h : H) : Prop :=
 newK 2 x0 h fun p0 h1 =>
 newO [.int .i64 (0), .sl Sl.nil] h1 fun p2 h3 =>
 ldA p0 2 h3 fun cs4 =>
 callS S i_spec_l02Lasting [.agg cs4] h3 fun s6 h5 =>
 newS 0 4 [] h5 fun s7 h8 =>
 spec_l04Kept_L0 S K p0 p2 s6 s7 (0) h8
theorem spec_l04Kept_main_link (S : SatT) (K : KT) (x0 : List AVal) (h : H) : cwp S tab spec_l04Kept_M [] (bodyOf Try.f27) (kFun tab Try.f27.results.toList K) (fr0 Try.f27 [.agg x0]) h = spec_l04Kept_main S K x0 h := by kernel_rfl
theorem spec_l04Kept_call (x0 : List AVal) (h : H) (K : List AVal → H → Prop) (hm : spec_l04Kept_main (Sat Try.prog) (fun v h' => ∃ r, v = .agg r ∧ K r h') x0 h) : callA (Sat Try.prog) i_spec_l04Kept [.agg x0] h K := by
  have := Sat.ex tok mixed spec_l04Kept_M Try.func27 (c := bodyOf Try.f27) (by kernel_rfl) (calls_of Try.func27 (c := bodyOf Try.f27) (by kernel_rfl) (by decide)) ((spec_l04Kept_main_link _ _ x0 h).mpr hm)
  obtain ⟨v, h2, h3, r, rfl, h4⟩ := this; exact ⟨r, h2, h3, h4⟩

/-! ### loop.example/g01354/spec.l01DrawOf -/
def spec_l01DrawOf_M : Nat → List Nat := fun i => bif i == 0 then [0, 1, 6, 7, 8] else []
def spec_l01DrawOf_ks2 (S : SatT) (K : KT) : Kont := kSeq (cwp S tab spec_l01DrawOf_M [] (sub [1, 1, 1] (bodyOf Try.f57)) (kFun tab (Try.f57).results.toList K)) (kFun tab (Try.f57).results.toList K)
def spec_l01DrawOf_e0 (p0_ : Pt) (i1_ : Int) (p6_ : Pt) (s7_ : Sl) (i8_ : Int) : Frame := [.ptr p0_, .int .i64 i1_, U, U, U, U, .ptr p6_, .sl s7_, .int .i64 i8_, U, U, U, U, U, U, U, U, U, U, U, U, U, U, U]
def spec_l01DrawOf_w0 (S : SatT) (K : KT) : (XT) → XT := fun X fr h => cwp S tab spec_l01DrawOf_M (spec_l01DrawOf_M 0) (sub [1, 1, 0, 1, 0, 0] (bodyOf Try.f57)) (kSeq (fun fr h => X (mask (spec_l01DrawOf_M 0) fr) h) (kBlk 0 (spec_l01DrawOf_ks2 S K))) fr h
def spec_l01DrawOf_L0 (S : SatT) (K : KT) (p0_ : Pt) (i1_ : Int) (p6_ : Pt) (s7_ : Sl) (i8_ : Int) (h : H) : Prop := loopK (spec_l01DrawOf_w0 S K) (spec_l01DrawOf_e0 p0_ i1_ p6_ s7_ i8_) h
def spec_l01DrawOf_C0 (S : SatT) (K : KT) (i1_ : Int) (p6_ : Pt) (s7_ : Sl) (h : H) : Prop :=
 callA S i_spec_l01Made [.int .i64 i1_, .sl s7_] h fun cs1 h0 =>
 stN p6_ 2 cs1 h0 fun h2 =>
 ldA p6_ 2 h2 fun cs3 =>
 K (.agg cs3) h2
def spec_l01DrawOf_b0 (S : SatT) (K : KT) (X0 : XT) (p0_ : Pt) (i1_ : Int) (p6_ : Pt) (s7_ : Sl) (i8_ : Int) (h : H) : Prop :=
 bif (decide (i8_ > (0))) then
 callA S i_spec_l01DrawTile [.ptr p0_, .int .i64 i1_] h fun cs1 h0 =>
 lenA cs1 4 (
 newS 1 4 (spl [.int .i64 (0), .int .i64 (0), .int .i64 (0), .int .i64 (0)] 0 4 cs1) h0 fun s2 h3 =>
 app s7_ s2 4 h3 fun s4 h5 =>
 X0 (spec_l01DrawOf_e0 p0_ i1_ p6_ s4 (w64 (i8_ - (1)))) h5)
 else
 spec_l01DrawOf_C0 S K i1_ p6_ s7_ h
theorem spec_l01DrawOf_link0 (S : SatT) (K : KT) (X0 : XT) (p0_ : Pt) (i1_ : Int) (p6_ : Pt) (s7_ : Sl) (i8_ : Int) (h : H) : spec_l01DrawOf_w0 S K X0 (spec_l01DrawOf_e0 p0_ i1_ p6_ s7_ i8_) h = spec_l01DrawOf_b0 S K X0 p0_ i1_ p6_ s7_ i8_ h := by kernel_rfl
theorem spec_l01DrawOf_rule0 (S : SatT) (K : KT) (p0_ : Pt) (i1_ : Int) (p6_ : Pt) (I_ : Sl → Int → H → Prop) (m_ : Sl → Int → H → Nat)
    (hs : ∀ (X0 : XT) (s7_ : Sl) (i8_ : Int) (h : H), I_ s7_ i8_ h → (∀ (s7_' : Sl) (i8_' : Int) (h' : H), I_ s7_' i8_' h' → m_ s7_' i8_' h' < m_ s7_ i8_ h → X0 (spec_l01DrawOf_e0 p0_ i1_ p6_ s7_' i8_') h') → spec_l01DrawOf_b0 S K X0 p0_ i1_ p6_ s7_ i8_ h) (s7_ : Sl) (i8_ : Int) {h : H} (h0 : I_ s7_ i8_ h) : spec_l01DrawOf_L0 S K p0_ i1_ p6_ s7_ i8_ h :=
  loop_rule (σ := (Sl) × (Int)) (fun s_ => spec_l01DrawOf_e0 p0_ i1_ p6_ (s_.1) (s_.2)) (fun s_ h => I_ (s_.1) (s_.2) h) (fun s_ h => m_ (s_.1) (s_.2) h)
    (fun X s_ h hi hx => (spec_l01DrawOf_link0 S K X p0_ i1_ p6_ (s_.1) (s_.2) h).mpr (hs X (s_.1) (s_.2) h hi fun s7_' i8_' h' hi' hm' => hx (s7_', i8_') h' hi' hm')) (s7_, i8_) h0
def spec_l01DrawOf_main (S : SatT) (K : KT) (x0 : Pt) (x1 x2 : Int) (h : H) : Prop :=
 newO [.int .i64 (0), .sl Sl.nil] h fun p0 h1 =>
 newS 0 4 [] h1 fun s2 h3 =>
 spec_l01DrawOf_L0 S K x0 x1 p0 s2 x2 h3
theorem spec_l01DrawOf_main_link (S : SatT) (K : KT) (x0 : Pt) (x1 x2 : Int) (h : H) : cwp S tab spec_l01DrawOf_M [] (bodyOf Try.f57) (kFun tab Try.f57.results.toList K) (fr0 Try.f57 [.ptr x0, .int .i64 x1, .int .i64 x2]) h = spec_l01DrawOf_main S K x0 x1 x2 h := by kernel_rfl
theorem spec_l01DrawOf_call (x0 : Pt) (x1 x2 : Int) (h : H) (K : List AVal → H → Prop) (hm : spec_l01DrawOf_main (Sat Try.prog) (fun v h' => ∃ r, v = .agg r ∧ K r h') x0 x1 x2 h) : callA (Sat Try.prog) i_spec_l01DrawOf [.ptr x0, .int .i64 x1, .int .i64 x2] h K := by
  have := Sat.ex tok mixed spec_l01DrawOf_M Try.func57 (c := bodyOf Try.f57) (by kernel_rfl) (calls_of Try.func57 (c := bodyOf Try.f57) (by kernel_rfl) (by decide)) ((spec_l01DrawOf_main_link _ _ x0 x1 x2 h).mpr hm)
  obtain ⟨v, h2, h3, r, rfl, h4⟩ := this; exact ⟨r, h2, h3, h4⟩

/-! ### loop.example/g01354/spec.LastingTiles -/
def spec_LastingTiles_M : Nat → List Nat := fun i => bif i == 0 then [4, 5, 6] else []
def spec_LastingTiles_ks5 (S : SatT) (K : KT) : Kont := kSeq (cwp S tab spec_LastingTiles_M [] (sub [1, 1, 1, 1] (bodyOf Try.f7)) (kFun tab (Try.f7).results.toList K)) (kFun tab (Try.f7).results.toList K)
def spec_LastingTiles_e0 (s4_ s5_ : Sl) (i6_ : Int) : Frame := [U, U, U, U, .sl s4_, .sl s5_, .int .i64 i6_, U, U, U, U, U, U, U, U, U, U, U, U, U, U, U, U, U, U, U, U, U]
def spec_LastingTiles_w0 (S : SatT) (K : KT) : (XT) → XT := fun X fr h => cwp S tab spec_LastingTiles_M (spec_LastingTiles_M 0) (sub [1, 1, 1, 0, 1, 0, 0] (bodyOf Try.f7)) (kSeq (fun fr h => X (mask (spec_LastingTiles_M 0) fr) h) (kBlk 0 (spec_LastingTiles_ks5 S K))) fr h
def spec_LastingTiles_L0 (S : SatT) (K : KT) (s4_ s5_ : Sl) (i6_ : Int) (h : H) : Prop := loopK (spec_LastingTiles_w0 S K) (spec_LastingTiles_e0 s4_ s5_ i6_) h
def spec_LastingTiles_C0 (S : SatT) (K : KT) (s5_ : Sl) (h : H) : Prop :=
 K (.tuple [.sl s5_, .int .i64 (0)]) h
def spec_LastingTiles_b0 (S : SatT) (K : KT) (X0 : XT) (s4_ s5_ : Sl) (i6_ : Int) (h : H) : Prop :=
 bif (decide (i6_ < (s4_.len : Int))) then
 ixS s4_ 1 i6_ fun p0 =>
 ldB p0 h fun b1 =>
 bif b1 then
 newS 1 1 [.int .i64 i6_] h fun s2 h3 =>
 app s5_ s2 1 h3 fun s4 h5 =>
 X0 (spec_LastingTiles_e0 s4_ s4 (w64 (i6_ + (1)))) h5
 else
 X0 (spec_LastingTiles_e0 s4_ s5_ (w64 (i6_ + (1)))) h
 else
 spec_LastingTiles_C0 S K s5_ h
theorem spec_LastingTiles_link0 (S : SatT) (K : KT) (X0 : XT) (s4_ s5_ : Sl) (i6_ : Int) (h : H) : spec_LastingTiles_w0 S K X0 (spec_LastingTiles_e0 s4_ s5_ i6_) h = spec_LastingTiles_b0 S K X0 s4_ s5_ i6_ h := by kernel_rfl
theorem spec_LastingTiles_rule0 (S : SatT) (K : KT) (s4_ : Sl) (I_ : Sl → Int → H → Prop) (m_ : Sl → Int → H → Nat)
    (hs : ∀ (X0 : XT) (s5_ : Sl) (i6_ : Int) (h : H), I_ s5_ i6_ h → (∀ (s5_' : Sl) (i6_' : Int) (h' : H), I_ s5_' i6_' h' → m_ s5_' i6_' h' < m_ s5_ i6_ h → X0 (spec_LastingTiles_e0 s4_ s5_' i6_') h') → spec_LastingTiles_b0 S K X0 s4_ s5_ i6_ h) (s5_ : Sl) (i6_ : Int) {h : H} (h0 : I_ s5_ i6_ h) : spec_LastingTiles_L0 S K s4_ s5_ i6_ h :=
  loop_rule (σ := (Sl) × (Int)) (fun s_ => spec_LastingTiles_e0 s4_ (s_.1) (s_.2)) (fun s_ h => I_ (s_.1) (s_.2) h) (fun s_ h => m_ (s_.1) (s_.2) h)
    (fun X s_ h hi hx => (spec_LastingTiles_link0 S K X s4_ (s_.1) (s_.2) h).mpr (hs X (s_.1) (s_.2) h hi fun s5_' i6_' h' hi' hm' => hx (s5_', i6_') h' hi' hm')) (s5_, i6_) h0
def spec_LastingTiles_main (S : SatT) (K : KT) (x0 : List AVal) (h : H) : Prop :=
 newK 2 x0 h fun p0 h1 =>
 ldA p0 2 h1 fun cs2 =>
 callB S i_spec_l01Is [.agg cs2] h1 fun b4 h3 =>
 bif (!b4) then
 K (.tuple [.sl Sl.nil, .int .i64 (1)]) h3
 else
 ldA p0 2 h3 fun cs5 =>
 callS S i_spec_l02Lasting [.agg cs5] h3 fun s7 h6 =>
 newS 0 1 [] h6 fun s8 h9 =>
 spec_LastingTiles_L0 S K s7 s8 (0) h9
theorem spec_LastingTiles_main_link (S : SatT) (K : KT) (x0 : List AVal) (h : H) : cwp S tab spec_LastingTiles_M [] (bodyOf Try.f7) (kFun tab Try.f7.results.toList K) (fr0 Try.f7 [.agg x0]) h = spec_LastingTiles_main S K x0 h := by kernel_rfl
theorem spec_LastingTiles_call (x0 : List AVal) (h : H) (K : KT) (hm : spec_LastingTiles_main (Sat Try.prog) (fun v h' => K v h') x0 h) : callV (Sat Try.prog) i_spec_LastingTiles [.agg x0] h K := by
  have := Sat.ex tok mixed spec_LastingTiles_M Try.func7 (c := bodyOf Try.f7) (by kernel_rfl) (calls_of Try.func7 (c := bodyOf Try.f7) (by kernel_rfl) (by decide)) ((spec_LastingTiles_main_link _ _ x0 h).mpr hm)
  exact this

/-! ### loop.example/g01354/impl.TrimSet$1 -/
def impl_TrimSet_1_M : Nat → List Nat := fun i => bif i == 0 then [1, 6, 7] else []
def impl_TrimSet_1_ks1 (S : SatT) (K : KT) : Kont := kSeq (cwp S tab impl_TrimSet_1_M [] (sub [1, 1] (bodyOf Try.f30)) (kFun tab (Try.f30).results.toList K)) (kFun tab (Try.f30).results.toList K)
def impl_TrimSet_1_e0 (p1_ : Pt) (a6_ : List AVal) (i7_ : Int) : Frame := [U, .ptr p1_, U, U, U, U, .agg a6_, .int .i64 i7_, U, U, U, U, U, U, U, U, U, U, U, U]
def impl_TrimSet_1_w0 (S : SatT) (K : KT) : (XT) → XT := fun X fr h => cwp S tab impl_TrimSet_1_M (impl_TrimSet_1_M 0) (sub [1, 0, 1, 0, 0] (bodyOf Try.f30)) (kSeq (fun fr h => X (mask (impl_TrimSet_1_M 0) fr) h) (kBlk 0 (impl_TrimSet_1_ks1 S K))) fr h
def impl_TrimSet_1_L0 (S : SatT) (K : KT) (p1_ : Pt) (a6_ : List AVal) (i7_ : Int) (h : H) : Prop := loopK (impl_TrimSet_1_w0 S K) (impl_TrimSet_1_e0 p1_ a6_ i7_) h
def impl_TrimSet_1_C0 (S : SatT) (K : KT) (h : H) : Prop :=
 K (.bool false) h
def impl_TrimSet_1_b0 (S : SatT) (K : KT) (X0 : XT) (p1_ : Pt) (a6_ : List AVal) (i7_ : Int) (h : H) : Prop :=
 bif (decide (i7_ < (4))) then
 lenA a6_ 4 (
 partI .i64 a6_ i7_ fun n0 =>
 ldA p1_ 2 h fun cs1 =>
 nz (4) (
 callS S i_impl_Set_with [.agg cs1, .int .i64 (Int.tmod (w64 (i7_ + (2))) (4)), .int .i64 n0] h fun s3 h2 =>
 bif ((s3.len : Int) == (0)) then
 K (.bool true) h2
 else
 X0 (impl_TrimSet_1_e0 p1_ a6_ (w64 (i7_ + (1)))) h2))
 else
 impl_TrimSet_1_C0 S K h
theorem impl_TrimSet_1_link0 (S : SatT) (K : KT) (X0 : XT) (p1_ : Pt) (a6_ : List AVal) (i7_ : Int) (h : H) : impl_TrimSet_1_w0 S K X0 (impl_TrimSet_1_e0 p1_ a6_ i7_) h = impl_TrimSet_1_b0 S K X0 p1_ a6_ i7_ h := by kernel_rfl
theorem impl_TrimSet_1_rule0 (S : SatT) (K : KT) (p1_ : Pt) (a6_ : List AVal) (I_ : Int → H → Prop) (m_ : Int → H → Nat)
    (hs : ∀ (X0 : XT) (i7_ : Int) (h : H), I_ i7_ h → (∀ (i7_' : Int) (h' : H), I_ i7_' h' → m_ i7_' h' < m_ i7_ h → X0 (impl_TrimSet_1_e0 p1_ a6_ i7_') h') → impl_TrimSet_1_b0 S K X0 p1_ a6_ i7_ h) (i7_ : Int) {h : H} (h0 : I_ i7_ h) : impl_TrimSet_1_L0 S K p1_ a6_ i7_ h :=
  loop_rule (σ := (Int)) (fun s_ => impl_TrimSet_1_e0 p1_ a6_ (s_)) (fun s_ h => I_ (s_) h) (fun s_ h => m_ (s_) h)
    (fun X s_ h hi hx => (impl_TrimSet_1_link0 S K X p1_ a6_ (s_) h).mpr (hs X (s_) h hi fun i7_' h' hi' hm' => hx (i7_') h' hi' hm')) (i7_) h0
def impl_TrimSet_1_main (S : SatT) (K : KT) (x0 : List AVal) (x1 : Pt) (h : H) : Prop :=
 newK 4 x0 h fun p0 h1 =>
 ldA p0 4 h1 fun cs2 =>
 impl_TrimSet_1_L0 S K x1 cs2 (0) h1
theorem impl_TrimSet_1_main_link (S : SatT) (K : KT) (x0 : List AVal) (x1 : Pt) (h : H) : cwp S tab impl_TrimSet_1_M [] (bodyOf Try.f30) (kFun tab Try.f30.results.toList K) (fr0 Try.f30 [.agg x0, .ptr x1]) h = impl_TrimSet_1_main S K x0 x1 h := by kernel_rfl
theorem impl_TrimSet_1_call (x0 : List AVal) (x1 : Pt) (h : H) (K : Bool → H → Prop) (hm : impl_TrimSet_1_main (Sat Try.prog) (fun v h' => ∃ r, v = .bool r ∧ K r h') x0 x1 h) : callB (Sat Try.prog) i_impl_TrimSet_1 [.agg x0, .ptr x1] h K := by
  have := Sat.ex tok mixed impl_TrimSet_1_M Try.func30 (c := bodyOf Try.f30) (by kernel_rfl) (calls_of Try.func30 (c := bodyOf Try.f30) (by kernel_rfl) (by decide)) ((impl_TrimSet_1_main_link _ _ x0 x1 h).mpr hm)
  obtain ⟨v, h2, h3, r, rfl, h4⟩ := this; exact ⟨r, h2, h3, h4⟩

/-! ### loop.example/g01354/spec.l01Bad -/
def spec_l01Bad_M : Nat → List Nat := fun i => []
def spec_l01Bad_main (S : SatT) (K : KT) (x0 : Pt) (x1 : List AVal) (h : H) : Prop :=
 newK 2 x1 h fun p0 h1 =>
 newO [.int .i64 (0), .sl Sl.nil] h1 fun p2 h3 =>
 newS 0 4 [] h3 fun s4 h5 =>
 isPt p0 (
 ldS (Pt.add p0 1) h5 fun s6 =>
 app s4 s6 4 h5 fun s7 h8 =>
 callI S .i64 i_spec_l01Next [.ptr x0, .int .i64 (50)] h8 fun n10 h9 =>
 bif (n10 == (0)) then
 newS 3 1 [.int .i64 (0), .int .i64 (7), .int .i64 (-1)] h9 fun s11 h12 =>
 callI S .i64 i_spec_l01Pick [.ptr x0, .sl s11] h12 fun n14 h13 =>
 stN p2 2 [.int .i64 n14, .sl s7] h13 fun h15 =>
 ldA p2 2 h15 fun cs16 =>
 K (.agg cs16) h15
 else
 bif (n10 == (1)) then
 isPt p0 (
 ldI .i64 (Pt.add p0 0) h9 fun n17 =>
 newS 2 1 [.int .i64 (0), .int .i64 (-1)] h9 fun s18 h19 =>
(cell h19 (Pt.add p0 0) = cell h9 (Pt.add p0 0)) ∧ (
 callI S .i64 i_spec_l01Pick [.ptr x0, .sl s18] h19 fun n21 h20 =>
(cell h20 (Pt.add p0 0) = cell h9 (Pt.add p0 0)) ∧ (
 lenA [.int .i64 n17, .int .i64 (0), .int .i64 (0), .int .i64 n21] 4 (
 newS 1 4 (spl [.int .i64 (0), .int .i64 (0), .int .i64 (0), .int .i64 (0)] 0 4 [.int .i64 n17, .int .i64 (0), .int .i64 (0), .int .i64 n21]) h20 fun s22 h23 =>
 app s7 s22 4 h23 fun s24 h25 =>
 isPt p0 (
 ldI .i64 (Pt.add p0 0) h25 fun n26 =>
 stN p2 2 [.int .i64 n26, .sl s24] h25 fun h27 =>
 ldA p2 2 h27 fun cs28 =>
 K (.agg cs28) h27)))))
 else
 bif (n10 == (2)) then
 isPt p0 (
 ldI .i64 (Pt.add p0 0) h9 fun n29 =>
 callA S i_spec_l01DrawTile [.ptr x0, .int .i64 n29] h9 fun cs31 h30 =>
 lenA cs31 4 (
 newS 1 4 (spl [.int .i64 (0), .int .i64 (0), .int .i64 (0), .int .i64 (0)] 0 4 cs31) h30 fun s32 h33 =>
 app s7 s32 4 h33 fun s34 h35 =>
 isPt p0 (
 ldI .i64 (Pt.add p0 0) h35 fun n36 =>
 stN p2 2 [.int .i64 n36, .sl s34] h35 fun h37 =>
 ldA p2 2 h37 fun cs38 =>
 K (.agg cs38) h37)))
 else
 bif (n10 == (3)) then
 bif (decide ((s7.len : Int) > (1))) then
 ixS s7 4 (0) fun p39 =>
 ldA p39 4 h9 fun cs40 =>
 newO [.int .i64 (0), .int .i64 (0), .int .i64 (0), .int .i64 (0)] h9 fun p41 h42 =>
 stN p41 4 cs40 h42 fun h43 =>
 ixS s7 4 (1) fun p44 =>
 ldA p44 4 h43 fun cs45 =>
 ixS s7 4 (0) fun p46 =>
 stN p46 4 cs45 h43 fun h47 =>
 ldA p41 4 h47 fun cs48 =>
 ixS s7 4 (1) fun p49 =>
 stN p49 4 cs48 h47 fun h50 =>
 isPt p0 (
 ldI .i64 (Pt.add p0 0) h50 fun n51 =>
 stN p2 2 [.int .i64 n51, .sl s7] h50 fun h52 =>
 ldA p2 2 h52 fun cs53 =>
 K (.agg cs53) h52)
 else
 isPt p0 (
 ldI .i64 (Pt.add p0 0) h9 fun n54 =>
 stN p2 2 [.int .i64 n54, .sl s7] h9 fun h55 =>
 ldA p2 2 h55 fun cs56 =>
 K (.agg cs56) h55)
 else
 ldA p0 2 h9 fun cs57 =>
 stN p2 2 cs57 h9 fun h58 =>
 ldA p2 2 h58 fun cs59 =>
 K (.agg cs59) h58)
theorem spec_l01Bad_main_link (S : SatT) (K : KT) (x0 : Pt) (x1 : List AVal) (h : H) : cwp S tab spec_l01Bad_M [] (bodyOf Try.f44) (kFun tab Try.f44.results.toList K) (fr0 Try.f44 [.ptr x0, .agg x1]) h = spec_l01Bad_main S K x0 x1 h := by kernel_rfl
theorem spec_l01Bad_call (x0 : Pt) (x1 : List AVal) (h : H) (K : List AVal → H → Prop) (hm : spec_l01Bad_main (Sat Try.prog) (fun v h' => ∃ r, v = .agg r ∧ K r h') x0 x1 h) : callA (Sat Try.prog) i_spec_l01Bad [.ptr x0, .agg x1] h K := by
  have := Sat.ex tok mixed spec_l01Bad_M Try.func44 (c := bodyOf Try.f44) (by kernel_rfl) (calls_of Try.func44 (c := bodyOf Try.f44) (by kernel_rfl) (by decide)) ((spec_l01Bad_main_link _ _ x0 x1 h).mpr hm)
  obtain ⟨v, h2, h3, r, rfl, h4⟩ := this; exact ⟨r, h2, h3, h4⟩

/-! ### loop.example/g01354/spec.l01Next -/
def spec_l01Next_M : Nat → List Nat := fun i => []
def spec_l01Next_main (S : SatT) (K : KT) (x0 : Pt) (x1 : Int) (h : H) : Prop :=
 bif (decide (x1 < (1))) then
 K (.int .i64 (0)) h
 else
 nilC (.ptr x0) (
 isPt x0 (
 ldI .u64 (Pt.add x0 2) h fun n0 =>
 nilC (.ptr x0) (
 isPt x0 (
 st1 (Pt.add x0 2) (.int .u64 (IntKind.wrap .u64 ((IntKind.wrap .u64 (n0 * (6364136223846793005))) + (1442695040888963407)))) h fun h1 =>
 nilC (.ptr x0) (
 isPt x0 (
 ldI .u64 (Pt.add x0 2) h1 fun n2 =>
 nn (33) (
 nilC (.ptr x0) (
 isPt x0 (
 ldI .i64 (Pt.add x0 1) h1 fun n3 =>
 nilC (.ptr x0) (
 isPt x0 (
 ldS (Pt.add x0 0) h1 fun s4 =>
 bif (decide (n3 < (s4.len : Int))) then
 nilC (.ptr x0) (
 isPt x0 (
 ldS (Pt.add x0 0) h1 fun s5 =>
 nilC (.ptr x0) (
 isPt x0 (
 ldI .i64 (Pt.add x0 1) h1 fun n6 =>
 ixS s5 1 n6 fun p7 =>
 ldI .u8 p7 h1 fun n8 =>
 nilC (.ptr x0) (
 isPt x0 (
 ldI .i64 (Pt.add x0 1) h1 fun n9 =>
 nilC (.ptr x0) (
 isPt x0 (
 st1 (Pt.add x0 1) (.int .i64 (w64 (n9 + (1)))) h1 fun h10 =>
 nz x1 (
 K (.int .i64 (Int.tmod (w64 ((w64 ((bitsOp .and .u64 (shrI .u64 n2 (33)) (16777215)))) + (w64 (n8)))) x1)) h10)))))))))
 else
 nz x1 (
 K (.int .i64 (Int.tmod (w64 ((bitsOp .and .u64 (shrI .u64 n2 (33)) (16777215)))) x1)) h1))))))))))))
theorem spec_l01Next_main_link (S : SatT) (K : KT) (x0 : Pt) (x1 : Int) (h : H) : cwp S tab spec_l01Next_M [] (bodyOf Try.f34) (kFun tab Try.f34.results.toList K) (fr0 Try.f34 [.ptr x0, .int .i64 x1]) h = spec_l01Next_main S K x0 x1 h := by kernel_rfl
theorem spec_l01Next_call (x0 : Pt) (x1 : Int) (h : H) (K : Int → H → Prop) (hm : spec_l01Next_main (Sat Try.prog) (fun v h' => ∃ r, v = .int .i64 r ∧ K r h') x0 x1 h) : callI (Sat Try.prog) .i64 i_spec_l01Next [.ptr x0, .int .i64 x1] h K := by
  have := Sat.ex tok mixed spec_l01Next_M Try.func34 (c := bodyOf Try.f34) (by kernel_rfl) (calls_of Try.func34 (c := bodyOf Try.f34) (by kernel_rfl) (by decide)) ((spec_l01Next_main_link _ _ x0 x1 h).mpr hm)
  obtain ⟨v, h2, h3, r, rfl, h4⟩ := this; exact ⟨r, h2, h3, h4⟩

/-! ### loop.example/g01354/impl.setOf -/
def impl_setOf_M : Nat → List Nat := fun i => []
def impl_setOf_main (S : SatT) (K : KT) (x0 : Int) (x1 : Sl) (h : H) : Prop :=
 newO [.int .i64 (0), .sl Sl.nil] h fun p0 h1 =>
 callV S i_slices_Values_s_impl_Tile_impl_Tile_ [.sl x1] h1 fun v3 h2 =>
 callS S i_slices_SortedFunc_impl_Tile_ [v3, .func 47 []] h2 fun s5 h4 =>
 callS S i_slices_Compact_s_impl_Tile_impl_Tile_ [.sl s5] h4 fun s7 h6 =>
 newO [.int .i64 (0), .sl Sl.nil] h6 fun p8 h9 =>
 stN p8 2 [.int .i64 x0, .sl s7] h9 fun h10 =>
 ldA p8 2 h10 fun cs11 =>
 isPt p8 (
 ldI .i64 (Pt.add p8 0) h10 fun n12 =>
 bif (decide (n12 ≤ (6))) then
 isPt p8 (
 ldS (Pt.add p8 1) h10 fun s13 =>
 stN p0 2 cs11 h10 fun h14 =>
(cell h14 (Pt.add p8 1) = cell h10 (Pt.add p8 1)) ∧ (
 ldA p0 2 h14 fun cs15 =>
 K (.tuple [.agg cs15, .bool (decide ((s13.len : Int) ≤ (16)))]) h14))
 else
 stN p0 2 cs11 h10 fun h16 =>
 ldA p0 2 h16 fun cs17 =>
 K (.tuple [.agg cs17, .bool false]) h16)
theorem impl_setOf_main_link (S : SatT) (K : KT) (x0 : Int) (x1 : Sl) (h : H) : cwp S tab impl_setOf_M [] (bodyOf Try.f62) (kFun tab Try.f62.results.toList K) (fr0 Try.f62 [.int .i64 x0, .sl x1]) h = impl_setOf_main S K x0 x1 h := by kernel_rfl
theorem impl_setOf_call (x0 : Int) (x1 : Sl) (h : H) (K : KT) (hm : impl_setOf_main (Sat Try.prog) (fun v h' => K v h') x0 x1 h) : callV (Sat Try.prog) i_impl_setOf [.int .i64 x0, .sl x1] h K := by
  have := Sat.ex tok mixed impl_setOf_M Try.func62 (c := bodyOf Try.f62) (by kernel_rfl) (calls_of Try.func62 (c := bodyOf Try.f62) (by kernel_rfl) (by decide)) ((impl_setOf_main_link _ _ x0 x1 h).mpr hm)
  exact this

/-! ### loop.example/g01354/spec.l01DrawTile -/
def spec_l01DrawTile_M : Nat → List Nat := fun i => []
def spec_l01DrawTile_main (S : SatT) (K : KT) (x0 : Pt) (x1 : Int) (h : H) : Prop :=
 newO [.int .i64 (0), .int .i64 (0), .int .i64 (0), .int .i64 (0)] h fun p0 h1 =>
 callI S .i64 i_spec_l01Next [.ptr x0, .int .i64 x1] h1 fun n3 h2 =>
 callI S .i64 i_spec_l01Next [.ptr x0, .int .i64 x1] h2 fun n5 h4 =>
 callI S .i64 i_spec_l01Next [.ptr x0, .int .i64 x1] h4 fun n7 h6 =>
 callI S .i64 i_spec_l01Next [.ptr x0, .int .i64 x1] h6 fun n9 h8 =>
 stN p0 4 [.int .i64 n3, .int .i64 n5, .int .i64 n7, .int .i64 n9] h8 fun h10 =>
 ldA p0 4 h10 fun cs11 =>
 K (.agg cs11) h10
theorem spec_l01DrawTile_main_link (S : SatT) (K : KT) (x0 : Pt) (x1 : Int) (h : H) : cwp S tab spec_l01DrawTile_M [] (bodyOf Try.f55) (kFun tab Try.f55.results.toList K) (fr0 Try.f55 [.ptr x0, .int .i64 x1]) h = spec_l01DrawTile_main S K x0 x1 h := by kernel_rfl
theorem spec_l01DrawTile_call (x0 : Pt) (x1 : Int) (h : H) (K : List AVal → H → Prop) (hm : spec_l01DrawTile_main (Sat Try.prog) (fun v h' => ∃ r, v = .agg r ∧ K r h') x0 x1 h) : callA (Sat Try.prog) i_spec_l01DrawTile [.ptr x0, .int .i64 x1] h K := by
  have := Sat.ex tok mixed spec_l01DrawTile_M Try.func55 (c := bodyOf Try.f55) (by kernel_rfl) (calls_of Try.func55 (c := bodyOf Try.f55) (by kernel_rfl) (by decide)) ((spec_l01DrawTile_main_link _ _ x0 x1 h).mpr hm)
  obtain ⟨v, h2, h3, r, rfl, h4⟩ := this; exact ⟨r, h2, h3, h4⟩

/-! ### cmp.Compare[int64] -/
def cmp_Compare_int64__M : Nat → List Nat := fun i => []
def cmp_Compare_int64__main (S : SatT) (K : KT) (x0 x1 : Int) (h : H) : Prop :=
 callB S i_cmp_isNaN_int64_ [.int .i64 x0] h fun b1 h0 =>
 callB S i_cmp_isNaN_int64_ [.int .i64 x1] h0 fun b3 h2 =>
 bif b1 then
 bif b3 then
 K (.int .i64 (0)) h2
 else
 K (.int .i64 (-1)) h2
 else
 bif b3 then
 K (.int .i64 (1)) h2
 else
 bif (decide (x0 < x1)) then
 K (.int .i64 (-1)) h2
 else
 bif (decide (x0 > x1)) then
 K (.int .i64 (1)) h2
 else
 K (.int .i64 (0)) h2
theorem cmp_Compare_int64__main_link (S : SatT) (K : KT) (x0 x1 : Int) (h : H) : cwp S tab cmp_Compare_int64__M [] (bodyOf Try.f68) (kFun tab Try.f68.results.toList K) (fr0 Try.f68 [.int .i64 x0, .int .i64 x1]) h = cmp_Compare_int64__main S K x0 x1 h := by kernel_rfl
theorem cmp_Compare_int64__call (x0 x1 : Int) (h : H) (K : Int → H → Prop) (hm : cmp_Compare_int64__main (Sat Try.prog) (fun v h' => ∃ r, v = .int .i64 r ∧ K r h') x0 x1 h) : callI (Sat Try.prog) .i64 i_cmp_Compare_int64_ [.int .i64 x0, .int .i64 x1] h K := by
  have := Sat.ex tok mixed cmp_Compare_int64__M Try.func68 (c := bodyOf Try.f68) (by kernel_rfl) (calls_of Try.func68 (c := bodyOf Try.f68) (by kernel_rfl) (by decide)) ((cmp_Compare_int64__main_link _ _ x0 x1 h).mpr hm)
  obtain ⟨v, h2, h3, r, rfl, h4⟩ := this; exact ⟨r, h2, h3, h4⟩

/-! ### (loop.example/g01354/impl.Tile).turned -/
def impl_Tile_turned_M : Nat → List Nat := fun i => []
def impl_Tile_turned_main (S : SatT) (K : KT) (x0 : List AVal) (h : H) : Prop :=
 newK 4 x0 h fun p0 h1 =>
 newO [.int .i64 (0), .int .i64 (0), .int .i64 (0), .int .i64 (0)] h1 fun p2 h3 =>
 ldA p0 4 h3 fun cs4 =>
 callA S i_impl_Tile_sides [.agg cs4, .int .i64 (3), .int .i64 (0), .int .i64 (1), .int .i64 (2)] h3 fun cs6 h5 =>
 stN p2 4 cs6 h5 fun h7 =>
 ldA p2 4 h7 fun cs8 =>
 K (.agg cs8) h7
theorem impl_Tile_turned_main_link (S : SatT) (K : KT) (x0 : List AVal) (h : H) : cwp S tab impl_Tile_turned_M [] (bodyOf Try.f40) (kFun tab Try.f40.results.toList K) (fr0 Try.f40 [.agg x0]) h = impl_Tile_turned_main S K x0 h := by kernel_rfl
theorem impl_Tile_turned_call (x0 : List AVal) (h : H) (K : List AVal → H → Prop) (hm : impl_Tile_turned_main (Sat Try.prog) (fun v h' => ∃ r, v = .agg r ∧ K r h') x0 h) : callA (Sat Try.prog) i_impl_Tile_turned [.agg x0] h K := by
  have := Sat.ex tok mixed impl_Tile_turned_M Try.func40 (c := bodyOf Try.f40) (by kernel_rfl) (calls_of Try.func40 (c := bodyOf Try.f40) (by kernel_rfl) (by decide)) ((impl_Tile_turned_main_link _ _ x0 h).mpr hm)
  obtain ⟨v, h2, h3, r, rfl, h4⟩ := this; exact ⟨r, h2, h3, h4⟩

/-! ### slices.SortedFunc[loop.example/g01354/impl.Tile] -/
def slices_SortedFunc_impl_Tile__M : Nat → List Nat := fun i => []
def slices_SortedFunc_impl_Tile__main (S : SatT) (K : KT) (x0 x1 : AVal) (h : H) : Prop :=
 callS S i_slices_Collect_impl_Tile_ [x0] h fun s1 h0 =>
 callV S i_slices_SortFunc_s_impl_Tile_impl_Tile_ [.sl s1, x1] h0 fun v3 h2 =>
 K (.sl s1) h2
theorem slices_SortedFunc_impl_Tile__main_link (S : SatT) (K : KT) (x0 x1 : AVal) (h : H) : cwp S tab slices_SortedFunc_impl_Tile__M [] (bodyOf Try.f71) (kFun tab Try.f71.results.toList K) (fr0 Try.f71 [x0, x1]) h = slices_SortedFunc_impl_Tile__main S K x0 x1 h := by kernel_rfl
theorem slices_SortedFunc_impl_Tile__call (x0 x1 : AVal) (h : H) (K : Sl → H → Prop) (hm : slices_SortedFunc_impl_Tile__main (Sat Try.prog) (fun v h' => ∃ r, v = .sl r ∧ K r h') x0 x1 h) : callS (Sat Try.prog) i_slices_SortedFunc_impl_Tile_ [x0, x1] h K := by
  have := Sat.ex tok mixed slices_SortedFunc_impl_Tile__M Try.func71 (c := bodyOf Try.f71) (by kernel_rfl) (calls_of Try.func71 (c := bodyOf Try.f71) (by kernel_rfl) (by decide)) ((slices_SortedFunc_impl_Tile__main_link _ _ x0 x1 h).mpr hm)
  obtain ⟨v, h2, h3, r, rfl, h4⟩ := this; exact ⟨r, h2, h3, h4⟩

/-! ### loop.example/g01354/spec.DrawLastingTiles -/
def spec_DrawLastingTiles_M : Nat → List Nat := fun i => []
def spec_DrawLastingTiles_main (S : SatT) (K : KT) (x0 : Sl) (h : H) : Prop :=
 newO [.int .i64 (0), .sl Sl.nil] h fun p0 h1 =>
 callP S i_spec_l01From [.sl x0] h1 fun p3 h2 =>
 callA S i_spec_l01Spoil [.ptr p3] h2 fun cs5 h4 =>
 stN p0 2 cs5 h4 fun h6 =>
 ldA p0 2 h6 fun cs7 =>
 K (.agg cs7) h6
theorem spec_DrawLastingTiles_main_link (S : SatT) (K : KT) (x0 : Sl) (h : H) : cwp S tab spec_DrawLastingTiles_M [] (bodyOf Try.f5) (kFun tab Try.f5.results.toList K) (fr0 Try.f5 [.sl x0]) h = spec_DrawLastingTiles_main S K x0 h := by kernel_rfl
theorem spec_DrawLastingTiles_call (x0 : Sl) (h : H) (K : List AVal → H → Prop) (hm : spec_DrawLastingTiles_main (Sat Try.prog) (fun v h' => ∃ r, v = .agg r ∧ K r h') x0 h) : callA (Sat Try.prog) i_spec_DrawLastingTiles [.sl x0] h K := by
  have := Sat.ex tok mixed spec_DrawLastingTiles_M Try.func5 (c := bodyOf Try.f5) (by kernel_rfl) (calls_of Try.func5 (c := bodyOf Try.f5) (by kernel_rfl) (by decide)) ((spec_DrawLastingTiles_main_link _ _ x0 h).mpr hm)
  obtain ⟨v, h2, h3, r, rfl, h4⟩ := this; exact ⟨r, h2, h3, h4⟩

/-! ### slices.Values[[]loop.example/g01354/impl.Tile,loop.example/g01354/impl.Tile] -/
def slices_Values_s_impl_Tile_impl_Tile__M : Nat → List Nat := fun i => []
def slices_Values_s_impl_Tile_impl_Tile__main (S : SatT) (K : KT) (x0 : Sl) (h : H) : Prop :=
 newO [.sl x0] h fun p0 h1 =>
 K (.func 79 [.ptr p0]) h1
theorem slices_Values_s_impl_Tile_impl_Tile__main_link (S : SatT) (K : KT) (x0 : Sl) (h : H) : cwp S tab slices_Values_s_impl_Tile_impl_Tile__M [] (bodyOf Try.f72) (kFun tab Try.f72.results.toList K) (fr0 Try.f72 [.sl x0]) h = slices_Values_s_impl_Tile_impl_Tile__main S K x0 h := by kernel_rfl
theorem slices_Values_s_impl_Tile_impl_Tile__call (x0 : Sl) (h : H) (K : KT) (hm : slices_Values_s_impl_Tile_impl_Tile__main (Sat Try.prog) (fun v h' => K v h') x0 h) : callV (Sat Try.prog) i_slices_Values_s_impl_Tile_impl_Tile_ [.sl x0] h K := by
  have := Sat.ex tok mixed slices_Values_s_impl_Tile_impl_Tile__M Try.func72 (c := bodyOf Try.f72) (by kernel_rfl) (calls_of Try.func72 (c := bodyOf Try.f72) (by kernel_rfl) (by decide)) ((slices_Values_s_impl_Tile_impl_Tile__main_link _ _ x0 h).mpr hm)
  exact this

/-! ### slices.Collect[loop.example/g01354/impl.Tile] -/
def slices_Collect_impl_Tile__M : Nat → List Nat := fun i => []
def slices_Collect_impl_Tile__main (S : SatT) (K : KT) (x0 : AVal) (h : H) : Prop :=
 callS S i_slices_AppendSeq_s_impl_Tile_impl_Tile_ [.sl Sl.nil, x0] h fun s1 h0 =>
 K (.sl s1) h0
theorem slices_Collect_impl_Tile__main_link (S : SatT) (K : KT) (x0 : AVal) (h : H) : cwp S tab slices_Collect_impl_Tile__M [] (bodyOf Try.f77) (kFun tab Try.f77.results.toList K) (fr0 Try.f77 [x0]) h = slices_Collect_impl_Tile__main S K x0 h := by kernel_rfl
theorem slices_Collect_impl_Tile__call (x0 : AVal) (h : H) (K : Sl → H → Prop) (hm : slices_Collect_impl_Tile__main (Sat Try.prog) (fun v h' => ∃ r, v = .sl r ∧ K r h') x0 h) : callS (Sat Try.prog) i_slices_Collect_impl_Tile_ [x0] h K := by
  have := Sat.ex tok mixed slices_Collect_impl_Tile__M Try.func77 (c := bodyOf Try.f77) (by kernel_rfl) (calls_of Try.func77 (c := bodyOf Try.f77) (by kernel_rfl) (by decide)) ((slices_Collect_impl_Tile__main_link _ _ x0 h).mpr hm)
  obtain ⟨v, h2, h3, r, rfl, h4⟩ := this; exact ⟨r, h2, h3, h4⟩

/-! ### loop.example/g01354/spec.l01Pick -/
def spec_l01Pick_M : Nat → List Nat := fun i => []
def spec_l01Pick_main (S : SatT) (K : KT) (x0 : Pt) (x1 : Sl) (h : H) : Prop :=
 callI S .i64 i_spec_l01Next [.ptr x0, .int .i64 (x1.len : Int)] h fun n1 h0 =>
 ixS x1 1 n1 fun p2 =>
 ldI .i64 p2 h0 fun n3 =>
 K (.int .i64 n3) h0
theorem spec_l01Pick_main_link (S : SatT) (K : KT) (x0 : Pt) (x1 : Sl) (h : H) : cwp S tab spec_l01Pick_M [] (bodyOf Try.f54) (kFun tab Try.f54.results.toList K) (fr0 Try.f54 [.ptr x0, .sl x1]) h = spec_l01Pick_main S K x0 x1 h := by kernel_rfl
theorem spec_l01Pick_call (x0 : Pt) (x1 : Sl) (h : H) (K : Int → H → Prop) (hm : spec_l01Pick_main (Sat Try.prog) (fun v h' => ∃ r, v = .int .i64 r ∧ K r h') x0 x1 h) : callI (Sat Try.prog) .i64 i_spec_l01Pick [.ptr x0, .sl x1] h K := by
  have := Sat.ex tok mixed spec_l01Pick_M Try.func54 (c := bodyOf Try.f54) (by kernel_rfl) (calls_of Try.func54 (c := bodyOf Try.f54) (by kernel_rfl) (by decide)) ((spec_l01Pick_main_link _ _ x0 x1 h).mpr hm)
  obtain ⟨v, h2, h3, r, rfl, h4⟩ := this; exact ⟨r, h2, h3, h4⟩

/-! ### loop.example/g01354/impl.IsDetermined$1 -/
def impl_IsDetermined_1_M : Nat → List Nat := fun i => []
def impl_IsDetermined_1_main (S : SatT) (K : KT) (x0 : Pt) (h : H) : Prop :=
 ldI .i64 x0 h fun n0 =>
 callB S i_impl_within [.int .i64 n0, .int .i64 (0), .int .i64 (3)] h fun b2 h1 =>
 K (.bool b2) h1
theorem impl_IsDetermined_1_main_link (S : SatT) (K : KT) (x0 : Pt) (h : H) : cwp S tab impl_IsDetermined_1_M [] (bodyOf Try.f36) (kFun tab Try.f36.results.toList K) (fr0 Try.f36 [.ptr x0]) h = impl_IsDetermined_1_main S K x0 h := by kernel_rfl
theorem impl_IsDetermined_1_call (x0 : Pt) (h : H) (K : Bool → H → Prop) (hm : impl_IsDetermined_1_main (Sat Try.prog) (fun v h' => ∃ r, v = .bool r ∧ K r h') x0 h) : callB (Sat Try.prog) i_impl_IsDetermined_1 [.ptr x0] h K := by
  have := Sat.ex tok mixed impl_IsDetermined_1_M Try.func36 (c := bodyOf Try.f36) (by kernel_rfl) (calls_of Try.func36 (c := bodyOf Try.f36) (by kernel_rfl) (by decide)) ((impl_IsDetermined_1_main_link _ _ x0 h).mpr hm)
  obtain ⟨v, h2, h3, r, rfl, h4⟩ := this; exact ⟨r, h2, h3, h4⟩

/-! ### loop.example/g01354/spec.TrimSet -/
def spec_TrimSet_M : Nat → List Nat := fun i => bif i == 6 then [1, 2, 4, 5, 6, 7, 8, 9] else bif i == 4 then [1, 2, 4, 5, 6, 7, 8] else bif i == 2 then [1, 2, 4, 5, 6] else bif i == 0 then [1, 2, 4] else []
def spec_TrimSet_e0 (p1_ p2_ : Pt) (s4_ : Sl) : Frame := [U, .ptr p1_, .ptr p2_, U, .sl s4_, U, U, U, U, U, U, U, U, U, U, U, U, U, U, U, U, U, U, U, U, U, U, U, U, U, U, U, U, U, U, U, U, U, U, U, U, U, U, U, U, U, U, U, U, U, U, U, U, U, U, U, U, U, U, U, U, U, U, U, U, U, U, U, U, U, U, U, U, U, U, U, U, U, U, U, U, U, U, U, U, U, U, U, U]
def spec_TrimSet_w0 (S : SatT) (K : KT) : (XT) → XT := fun X fr h => cwp S tab spec_TrimSet_M (spec_TrimSet_M 0) (sub [1, 1, 1, 0, 0] (bodyOf Try.f14)) (kSeq (fun fr h => X (mask (spec_TrimSet_M 0) fr) h) (kBlk 0 (kFun tab (Try.f14).results.toList K))) fr h
def spec_TrimSet_L0 (S : SatT) (K : KT) (p1_ p2_ : Pt) (s4_ : Sl) (h : H) : Prop := loopK (spec_TrimSet_w0 S K) (spec_TrimSet_e0 p1_ p2_ s4_) h
def spec_TrimSet_ks6 (S : SatT) (K : KT) (X0 : XT) : Kont := kSeq (cwp S tab spec_TrimSet_M (spec_TrimSet_M 1) (sub [1, 1, 1, 0, 0, 0, 1, 1] (bodyOf Try.f14)) (kBlk 1 (kSeq (fun fr h => X0 (mask (spec_TrimSet_M 0) fr) h) (kBlk 0 (kFun tab (Try.f14).results.toList K))))) (kBlk 1 (kSeq (fun fr h => X0 (mask (spec_TrimSet_M 0) fr) h) (kBlk 0 (kFun tab (Try.f14).results.toList K))))
def spec_TrimSet_e2 (p1_ p2_ : Pt) (s4_ s5_ : Sl) (i6_ : Int) : Frame := [U, .ptr p1_, .ptr p2_, U, .sl s4_, .sl s5_, .int .i64 i6_, U, U, U, U, U, U, U, U, U, U, U, U, U, U, U, U, U, U, U, U, U, U, U, U, U, U, U, U, U, U, U, U, U, U, U, U, U, U, U, U, U, U, U, U, U, U, U, U, U, U, U, U, U, U, U, U, U, U, U, U, U, U, U, U, U, U, U, U, U, U, U, U, U, U, U, U, U, U, U, U, U, U]
def spec_TrimSet_w2 (S : SatT) (K : KT) (X0 : XT) : (XT) → XT := fun X fr h => cwp S tab spec_TrimSet_M (spec_TrimSet_M 2) (sub [1, 1, 1, 0, 0, 0, 1, 0, 1, 0, 0] (bodyOf Try.f14)) (kSeq (fun fr h => X (mask (spec_TrimSet_M 2) fr) h) (kBlk 2 (spec_TrimSet_ks6 S K X0))) fr h
def spec_TrimSet_L2 (S : SatT) (K : KT) (X0 : XT) (p1_ p2_ : Pt) (s4_ s5_ : Sl) (i6_ : Int) (h : H) : Prop := loopK (spec_TrimSet_w2 S K X0) (spec_TrimSet_e2 p1_ p2_ s4_ s5_ i6_) h
def spec_TrimSet_ks10 (S : SatT) (K : KT) (X0 X2 : XT) : Kont := kSeq (cwp S tab spec_TrimSet_M (spec_TrimSet_M 2) (sub [1, 1, 1, 0, 0, 0, 1, 0, 1, 0, 0, 1, 1] (bodyOf Try.f14)) (kSeq (fun fr h => X2 (mask (spec_TrimSet_M 2) fr) h) (kBlk 2 (spec_TrimSet_ks6 S K X0)))) (kSeq (fun fr h => X2 (mask (spec_TrimSet_M 2) fr) h) (kBlk 2 (spec_TrimSet_ks6 S K X0)))
def spec_TrimSet_ks12 (S : SatT) (K : KT) (X0 X2 : XT) : Kont := kSeq (cwp S tab spec_TrimSet_M (spec_TrimSet_M 3) (sub [1, 1, 1, 0, 0, 0, 1, 0, 1, 0, 0, 1, 0, 0, 1, 1] (bodyOf Try.f14)) (kBlk 3 (spec_TrimSet_ks10 S K X0 X2))) (kBlk 3 (spec_TrimSet_ks10 S K X0 X2))
def spec_TrimSet_e4 (p1_ p2_ : Pt) (s4_ s5_ : Sl) (i6_ : Int) (s7_ : Sl) (i8_ : Int) : Frame := [U, .ptr p1_, .ptr p2_, U, .sl s4_, .sl s5_, .int .i64 i6_, .sl s7_, .int .i64 i8_, U, U, U, U, U, U, U, U, U, U, U, U, U, U, U, U, U, U, U, U, U, U, U, U, U, U, U, U, U, U, U, U, U, U, U, U, U, U, U, U, U, U, U, U, U, U, U, U, U, U, U, U, U, U, U, U, U, U, U, U, U, U, U, U, U, U, U, U, U, U, U, U, U, U, U, U, U, U, U, U]
def spec_TrimSet_w4 (S : SatT) (K : KT) (X0 X2 : XT) : (XT) → XT := fun X fr h => cwp S tab spec_TrimSet_M (spec_TrimSet_M 4) (sub [1, 1, 1, 0, 0, 0, 1, 0, 1, 0, 0, 1, 0, 0, 1, 0, 1, 0, 0] (bodyOf Try.f14)) (kSeq (fun fr h => X (mask (spec_TrimSet_M 4) fr) h) (kBlk 4 (spec_TrimSet_ks12 S K X0 X2))) fr h
def spec_TrimSet_L4 (S : SatT) (K : KT) (X0 X2 : XT) (p1_ p2_ : Pt) (s4_ s5_ : Sl) (i6_ : Int) (s7_ : Sl) (i8_ : Int) (h : H) : Prop := loopK (spec_TrimSet_w4 S K X0 X2) (spec_TrimSet_e4 p1_ p2_ s4_ s5_ i6_ s7_ i8_) h
def spec_TrimSet_ks16 (S : SatT) (K : KT) (X0 X2 X4 : XT) : Kont := kSeq (cwp S tab spec_TrimSet_M (spec_TrimSet_M 4) (sub [1, 1, 1, 0, 0, 0, 1, 0, 1, 0, 0, 1, 0, 0, 1, 0, 1, 0, 0, 1, 1] (bodyOf Try.f14)) (kSeq (fun fr h => X4 (mask (spec_TrimSet_M 4) fr) h) (kBlk 4 (spec_TrimSet_ks12 S K X0 X2)))) (kSeq (fun fr h => X4 (mask (spec_TrimSet_M 4) fr) h) (kBlk 4 (spec_TrimSet_ks12 S K X0 X2)))
def spec_TrimSet_e6 (p1_ p2_ : Pt) (s4_ s5_ : Sl) (i6_ : Int) (s7_ : Sl) (i8_ i9_ : Int) : Frame := [U, .ptr p1_, .ptr p2_, U, .sl s4_, .sl s5_, .int .i64 i6_, .sl s7_, .int .i64 i8_, .int .i64 i9_, U, U, U, U, U, U, U, U, U, U, U, U, U, U, U, U, U, U, U, U, U, U, U, U, U, U, U, U, U, U, U, U, U, U, U, U, U, U, U, U, U, U, U, U, U, U, U, U, U, U, U, U, U, U, U, U, U, U, U, U, U, U, U, U, U, U, U, U, U, U, U, U, U, U, U, U, U, U, U]
def spec_TrimSet_w6 (S : SatT) (K : KT) (X0 X2 X4 : XT) : (XT) → XT := fun X fr h => cwp S tab spec_TrimSet_M (spec_TrimSet_M 6) (sub [1, 1, 1, 0, 0, 0, 1, 0, 1, 0, 0, 1, 0, 0, 1, 0, 1, 0, 0, 1, 0, 0, 1, 0, 0] (bodyOf Try.f14)) (kSeq (fun fr h => X (mask (spec_TrimSet_M 6) fr) h) (kBlk 6 (kBlk 5 (spec_TrimSet_ks16 S K X0 X2 X4)))) fr h
def spec_TrimSet_L6 (S : SatT) (K : KT) (X0 X2 X4 : XT) (p1_ p2_ : Pt) (s4_ s5_ : Sl) (i6_ : Int) (s7_ : Sl) (i8_ i9_ : Int) (h : H) : Prop := loopK (spec_TrimSet_w6 S K X0 X2 X4) (spec_TrimSet_e6 p1_ p2_ s4_ s5_ i6_ s7_ i8_ i9_) h
def spec_TrimSet_C5 (S : SatT) (K : KT) (X0 X2 X4 : XT) (p1_ p2_ : Pt) (s4_ s5_ : Sl) (i6_ : Int) (s7_ : Sl) (i8_ : Int) (h : H) : Prop :=
 X4 (spec_TrimSet_e4 p1_ p2_ s4_ s5_ i6_ s7_ (w64 (i8_ + (1)))) h
def spec_TrimSet_C6 (S : SatT) (K : KT) (X0 X2 X4 : XT) (p1_ p2_ : Pt) (s4_ s5_ : Sl) (i6_ : Int) (s7_ : Sl) (i8_ : Int) (h : H) : Prop :=
 spec_TrimSet_C5 S K X0 X2 X4 p1_ p2_ s4_ s5_ i6_ s7_ i8_ h
def spec_TrimSet_b6 (S : SatT) (K : KT) (X0 X2 : XT) (X4 X6 : XT) (p1_ p2_ : Pt) (s4_ s5_ : Sl) (i6_ : Int) (s7_ : Sl) (i8_ i9_ : Int) (h : H) : Prop :=
 bif (decide (i9_ < (4))) then
 nz (4) (
 ixS s4_ 4 i8_ fun p0 =>
 ixA p0 4 1 (Int.tmod (w64 (i9_ + (2))) (4)) fun p1 =>
 ldI .i64 p1 h fun n2 =>
 ixS s4_ 4 i6_ fun p3 =>
 ixA p3 4 1 i9_ fun p4 =>
 ldI .i64 p4 h fun n5 =>
 bif (n2 == n5) then
 ixS s7_ 1 i9_ fun p6 =>
 st1 p6 (.bool true) h fun h7 =>
 X6 (spec_TrimSet_e6 p1_ p2_ s4_ s5_ i6_ s7_ i8_ (w64 (i9_ + (1)))) h7
 else
 X6 (spec_TrimSet_e6 p1_ p2_ s4_ s5_ i6_ s7_ i8_ (w64 (i9_ + (1)))) h)
 else
 spec_TrimSet_C6 S K X0 X2 X4 p1_ p2_ s4_ s5_ i6_ s7_ i8_ h
theorem spec_TrimSet_link6 (S : SatT) (K : KT) (X0 X2 : XT) (X4 X6 : XT) (p1_ p2_ : Pt) (s4_ s5_ : Sl) (i6_ : Int) (s7_ : Sl) (i8_ i9_ : Int) (h : H) : spec_TrimSet_w6 S K X0 X2 X4 X6 (spec_TrimSet_e6 p1_ p2_ s4_ s5_ i6_ s7_ i8_ i9_) h = spec_TrimSet_b6 S K X0 X2 X4 X6 p1_ p2_ s4_ s5_ i6_ s7_ i8_ i9_ h := by kernel_rfl
theorem spec_TrimSet_rule6 (S : SatT) (K : KT) (X0 X2 X4 : XT) (p1_ p2_ : Pt) (s4_ s5_ : Sl) (i6_ : Int) (s7_ : Sl) (i8_ : Int) (I_ : Int → H → Prop) (m_ : Int → H → Nat)
    (hs : ∀ (X6 : XT) (i9_ : Int) (h : H), I_ i9_ h → (∀ (i9_' : Int) (h' : H), I_ i9_' h' → m_ i9_' h' < m_ i9_ h → X6 (spec_TrimSet_e6 p1_ p2_ s4_ s5_ i6_ s7_ i8_ i9_') h') → spec_TrimSet_b6 S K X0 X2 X4 X6 p1_ p2_ s4_ s5_ i6_ s7_ i8_ i9_ h) (i9_ : Int) {h : H} (h0 : I_ i9_ h) : spec_TrimSet_L6 S K X0 X2 X4 p1_ p2_ s4_ s5_ i6_ s7_ i8_ i9_ h :=
  loop_rule (σ := (Int)) (fun s_ => spec_TrimSet_e6 p1_ p2_ s4_ s5_ i6_ s7_ i8_ (s_)) (fun s_ h => I_ (s_) h) (fun s_ h => m_ (s_) h)
    (fun X s_ h hi hx => (spec_TrimSet_link6 S K X0 X2 X4 X p1_ p2_ s4_ s5_ i6_ s7_ i8_ (s_) h).mpr (hs X (s_) h hi fun i9_' h' hi' hm' => hx (i9_') h' hi' hm')) (i9_) h0
def spec_TrimSet_C3 (S : SatT) (K : KT) (X0 X2 : XT) (p1_ p2_ : Pt) (s4_ s5_ : Sl) (i6_ : Int) (h : H) : Prop :=
 X2 (spec_TrimSet_e2 p1_ p2_ s4_ s5_ (w64 (i6_ + (1)))) h
def spec_TrimSet_C4 (S : SatT) (K : KT) (X0 X2 : XT) (p1_ p2_ : Pt) (s4_ s5_ : Sl) (i6_ : Int) (s7_ : Sl) (h : H) : Prop :=
 ixS s7_ 1 (0) fun p0 =>
 ldB p0 h fun b1 =>
 bif b1 then
 ixS s7_ 1 (1) fun p2 =>
 ldB p2 h fun b3 =>
 bif b3 then
 ixS s7_ 1 (2) fun p4 =>
 ldB p4 h fun b5 =>
 bif b5 then
 ixS s7_ 1 (3) fun p6 =>
 ldB p6 h fun b7 =>
 bif b7 then
 ixS s4_ 4 i6_ fun p8 =>
 ldA p8 4 h fun cs9 =>
 lenA cs9 4 (
 newS 1 4 (spl [.int .i64 (0), .int .i64 (0), .int .i64 (0), .int .i64 (0)] 0 4 cs9) h fun s10 h11 =>
 app s5_ s10 4 h11 fun s12 h13 =>
 spec_TrimSet_C3 S K X0 X2 p1_ p2_ s4_ s12 i6_ h13)
 else
 spec_TrimSet_C3 S K X0 X2 p1_ p2_ s4_ s5_ i6_ h
 else
 spec_TrimSet_C3 S K X0 X2 p1_ p2_ s4_ s5_ i6_ h
 else
 spec_TrimSet_C3 S K X0 X2 p1_ p2_ s4_ s5_ i6_ h
 else
 spec_TrimSet_C3 S K X0 X2 p1_ p2_ s4_ s5_ i6_ h
def spec_TrimSet_b4 (S : SatT) (K : KT) (X0 X2 X4 : XT) (p1_ p2_ : Pt) (s4_ s5_ : Sl) (i6_ : Int) (s7_ : Sl) (i8_ : Int) (h : H) : Prop :=
 bif (decide (i8_ < (s4_.len : Int))) then
 spec_TrimSet_L6 S K X0 X2 X4 p1_ p2_ s4_ s5_ i6_ s7_ i8_ (0) h
 else
 spec_TrimSet_C4 S K X0 X2 p1_ p2_ s4_ s5_ i6_ s7_ h
theorem spec_TrimSet_link4 (S : SatT) (K : KT) (X0 X2 X4 : XT) (p1_ p2_ : Pt) (s4_ s5_ : Sl) (i6_ : Int) (s7_ : Sl) (i8_ : Int) (h : H) : spec_TrimSet_w4 S K X0 X2 X4 (spec_TrimSet_e4 p1_ p2_ s4_ s5_ i6_ s7_ i8_) h = spec_TrimSet_b4 S K X0 X2 X4 p1_ p2_ s4_ s5_ i6_ s7_ i8_ h := by kernel_rfl
theorem spec_TrimSet_rule4 (S : SatT) (K : KT) (X0 X2 : XT) (p1_ p2_ : Pt) (s4_ s5_ : Sl) (i6_ : Int) (s7_ : Sl) (I_ : Int → H → Prop) (m_ : Int → H → Nat)
    (hs : ∀ (X4 : XT) (i8_ : Int) (h : H), I_ i8_ h → (∀ (i8_' : Int) (h' : H), I_ i8_' h' → m_ i8_' h' < m_ i8_ h → X4 (spec_TrimSet_e4 p1_ p2_ s4_ s5_ i6_ s7_ i8_') h') → spec_TrimSet_b4 S K X0 X2 X4 p1_ p2_ s4_ s5_ i6_ s7_ i8_ h) (i8_ : Int) {h : H} (h0 : I_ i8_ h) : spec_TrimSet_L4 S K X0 X2 p1_ p2_ s4_ s5_ i6_ s7_ i8_ h :=
  loop_rule (σ := (Int)) (fun s_ => spec_TrimSet_e4 p1_ p2_ s4_ s5_ i6_ s7_ (s_)) (fun s_ h => I_ (s_) h) (fun s_ h => m_ (s_) h)
    (fun X s_ h hi hx => (spec_TrimSet_link4 S K X0 X2 X p1_ p2_ s4_ s5_ i6_ s7_ (s_) h).mpr (hs X (s_) h hi fun i8_' h' hi' hm' => hx (i8_') h' hi' hm')) (i8_) h0
def spec_TrimSet_C2 (S : SatT) (K : KT) (X0 : XT) (p1_ p2_ : Pt) (s4_ s5_ : Sl) (h : H) : Prop :=
 bif ((s5_.len : Int) == (s4_.len : Int)) then
 isPt p1_ (
 ldI .i64 (Pt.add p1_ 0) h fun n0 =>
 callA S i_spec_l01Made [.int .i64 n0, .sl s5_] h fun cs2 h1 =>
 stN p2_ 2 cs2 h1 fun h3 =>
 ldA p2_ 2 h3 fun cs4 =>
 K (.tuple [.agg cs4, .int .i64 (0)]) h3)
 else
 X0 (spec_TrimSet_e0 p1_ p2_ s5_) h
def spec_TrimSet_b2 (S : SatT) (K : KT) (X0 X2 : XT) (p1_ p2_ : Pt) (s4_ s5_ : Sl) (i6_ : Int) (h : H) : Prop :=
 bif (decide (i6_ < (s4_.len : Int))) then
 newS 4 1 [.bool false, .bool false, .bool false, .bool false] h fun s0 h1 =>
 spec_TrimSet_L4 S K X0 X2 p1_ p2_ s4_ s5_ i6_ s0 (0) h1
 else
 spec_TrimSet_C2 S K X0 p1_ p2_ s4_ s5_ h
theorem spec_TrimSet_link2 (S : SatT) (K : KT) (X0 X2 : XT) (p1_ p2_ : Pt) (s4_ s5_ : Sl) (i6_ : Int) (h : H) : spec_TrimSet_w2 S K X0 X2 (spec_TrimSet_e2 p1_ p2_ s4_ s5_ i6_) h = spec_TrimSet_b2 S K X0 X2 p1_ p2_ s4_ s5_ i6_ h := by kernel_rfl
theorem spec_TrimSet_rule2 (S : SatT) (K : KT) (X0 : XT) (p1_ p2_ : Pt) (s4_ : Sl) (I_ : Sl → Int → H → Prop) (m_ : Sl → Int → H → Nat)
    (hs : ∀ (X2 : XT) (s5_ : Sl) (i6_ : Int) (h : H), I_ s5_ i6_ h → (∀ (s5_' : Sl) (i6_' : Int) (h' : H), I_ s5_' i6_' h' → m_ s5_' i6_' h' < m_ s5_ i6_ h → X2 (spec_TrimSet_e2 p1_ p2_ s4_ s5_' i6_') h') → spec_TrimSet_b2 S K X0 X2 p1_ p2_ s4_ s5_ i6_ h) (s5_ : Sl) (i6_ : Int) {h : H} (h0 : I_ s5_ i6_ h) : spec_TrimSet_L2 S K X0 p1_ p2_ s4_ s5_ i6_ h :=
  loop_rule (σ := (Sl) × (Int)) (fun s_ => spec_TrimSet_e2 p1_ p2_ s4_ (s_.1) (s_.2)) (fun s_ h => I_ (s_.1) (s_.2) h) (fun s_ h => m_ (s_.1) (s_.2) h)
    (fun X s_ h hi hx => (spec_TrimSet_link2 S K X0 X p1_ p2_ s4_ (s_.1) (s_.2) h).mpr (hs X (s_.1) (s_.2) h hi fun s5_' i6_' h' hi' hm' => hx (s5_', i6_') h' hi' hm')) (s5_, i6_) h0
def spec_TrimSet_b0 (S : SatT) (K : KT) (X0 : XT) (p1_ p2_ : Pt) (s4_ : Sl) (h : H) : Prop :=
 newS 0 4 [] h fun s0 h1 =>
 spec_TrimSet_L2 S K X0 p1_ p2_ s4_ s0 (0) h1
theorem spec_TrimSet_link0 (S : SatT) (K : KT) (X0 : XT) (p1_ p2_ : Pt) (s4_ : Sl) (h : H) : spec_TrimSet_w0 S K X0 (spec_TrimSet_e0 p1_ p2_ s4_) h = spec_TrimSet_b0 S K X0 p1_ p2_ s4_ h := by kernel_rfl
theorem spec_TrimSet_rule0 (S : SatT) (K : KT) (p1_ p2_ : Pt) (I_ : Sl → H → Prop) (m_ : Sl → H → Nat)
    (hs : ∀ (X0 : XT) (s4_ : Sl) (h : H), I_ s4_ h → (∀ (s4_' : Sl) (h' : H), I_ s4_' h' → m_ s4_' h' < m_ s4_ h → X0 (spec_TrimSet_e0 p1_ p2_ s4_') h') → spec_TrimSet_b0 S K X0 p1_ p2_ s4_ h) (s4_ : Sl) {h : H} (h0 : I_ s4_ h) : spec_TrimSet_L0 S K p1_ p2_ s4_ h :=
  loop_rule (σ := (Sl)) (fun s_ => spec_TrimSet_e0 p1_ p2_ (s_)) (fun s_ h => I_ (s_) h) (fun s_ h => m_ (s_) h)
    (fun X s_ h hi hx => (spec_TrimSet_link0 S K X p1_ p2_ (s_) h).mpr (hs X (s_) h hi fun s4_' h' hi' hm' => hx (s4_') h' hi' hm')) (s4_) h0
def spec_TrimSet_main (S : SatT) (K : KT) (x0 : List AVal) (h : H) : Prop :=
 newK 2 x0 h fun p0 h1 =>
 newO [.int .i64 (0), .sl Sl.nil] h1 fun p2 h3 =>
 ldA p0 2 h3 fun cs4 =>
 callB S i_spec_l01Is [.agg cs4] h3 fun b6 h5 =>
 bif (!b6) then
 stN p2 2 [.int .i64 (0), .sl Sl.nil] h5 fun h7 =>
 ldA p2 2 h7 fun cs8 =>
 K (.tuple [.agg cs8, .int .i64 (1)]) h7
 else
 newS 0 4 [] h5 fun s9 h10 =>
 isPt p0 (
 ldS (Pt.add p0 1) h10 fun s11 =>
 app s9 s11 4 h10 fun s12 h13 =>
 spec_TrimSet_L0 S K p0 p2 s12 h13)
theorem spec_TrimSet_main_link (S : SatT) (K : KT) (x0 : List AVal) (h : H) : cwp S tab spec_TrimSet_M [] (bodyOf Try.f14) (kFun tab Try.f14.results.toList K) (fr0 Try.f14 [.agg x0]) h = spec_TrimSet_main S K x0 h := by kernel_rfl
theorem spec_TrimSet_call (x0 : List AVal) (h : H) (K : KT) (hm : spec_TrimSet_main (Sat Try.prog) (fun v h' => K v h') x0 h) : callV (Sat Try.prog) i_spec_TrimSet [.agg x0] h K := by
  have := Sat.ex tok mixed spec_TrimSet_M Try.func14 (c := bodyOf Try.f14) (by kernel_rfl) (calls_of Try.func14 (c := bodyOf Try.f14) (by kernel_rfl) (by decide)) ((spec_TrimSet_main_link _ _ x0 h).mpr hm)
  exact this

/-! ### loop.example/g01354/spec.l02Lasting -/
def spec_l02Lasting_M : Nat → List Nat := fun i => bif i == 6 then [1, 3, 5, 6, 7, 8, 9] else bif i == 4 then [1, 3, 5, 6] else bif i == 2 then [1, 3, 5] else bif i == 0 then [1, 3, 4] else []
def spec_l02Lasting_ks2 (S : SatT) (K : KT) : Kont := kSeq (cwp S tab spec_l02Lasting_M [] (sub [1, 1, 1] (bodyOf Try.f25)) (kFun tab (Try.f25).results.toList K)) (kFun tab (Try.f25).results.toList K)
def spec_l02Lasting_e0 (p1_ : Pt) (s3_ : Sl) (i4_ : Int) : Frame := [U, .ptr p1_, U, .sl s3_, .int .i64 i4_, U, U, U, U, U, U, U, U, U, U, U, U, U, U, U, U, U, U, U, U, U, U, U, U, U, U, U, U, U, U, U, U, U, U, U, U, U, U, U, U, U, U, U, U, U, U, U, U, U, U, U, U, U, U, U, U, U, U, U, U, U, U, U, U, U, U, U, U, U, U, U, U, U, U, U, U, U, U, U, U, U, U, U, U, U, U, U, U, U, U]
def spec_l02Lasting_w0 (S : SatT) (K : KT) : (XT) → XT := fun X fr h => cwp S tab spec_l02Lasting_M (spec_l02Lasting_M 0) (sub [1, 1, 0, 1, 0, 0] (bodyOf Try.f25)) (kSeq (fun fr h => X (mask (spec_l02Lasting_M 0) fr) h) (kBlk 0 (spec_l02Lasting_ks2 S K))) fr h
def spec_l02Lasting_L0 (S : SatT) (K : KT) (p1_ : Pt) (s3_ : Sl) (i4_ : Int) (h : H) : Prop := loopK (spec_l02Lasting_w0 S K) (spec_l02Lasting_e0 p1_ s3_ i4_) h
def spec_l02Lasting_ks7 (S : SatT) (K : KT) : Kont := kSeq (cwp S tab spec_l02Lasting_M [] (sub [1, 1, 1, 1] (bodyOf Try.f25)) (kFun tab (Try.f25).results.toList K)) (kFun tab (Try.f25).results.toList K)
def spec_l02Lasting_e2 (p1_ : Pt) (s3_ : Sl) (b5_ : Bool) : Frame := [U, .ptr p1_, U, .sl s3_, U, .bool b5_, U, U, U, U, U, U, U, U, U, U, U, U, U, U, U, U, U, U, U, U, U, U, U, U, U, U, U, U, U, U, U, U, U, U, U, U, U, U, U, U, U, U, U, U, U, U, U, U, U, U, U, U, U, U, U, U, U, U, U, U, U, U, U, U, U, U, U, U, U, U, U, U, U, U, U, U, U, U, U, U, U, U, U, U, U, U, U, U, U]
def spec_l02Lasting_w2 (S : SatT) (K : KT) : (XT) → XT := fun X fr h => cwp S tab spec_l02Lasting_M (spec_l02Lasting_M 2) (sub [1, 1, 1, 0, 1, 0, 0] (bodyOf Try.f25)) (kSeq (fun fr h => X (mask (spec_l02Lasting_M 2) fr) h) (kBlk 2 (spec_l02Lasting_ks7 S K))) fr h
def spec_l02Lasting_L2 (S : SatT) (K : KT) (p1_ : Pt) (s3_ : Sl) (b5_ : Bool) (h : H) : Prop := loopK (spec_l02Lasting_w2 S K) (spec_l02Lasting_e2 p1_ s3_ b5_) h
def spec_l02Lasting_e4 (p1_ : Pt) (s3_ : Sl) (b5_ : Bool) (i6_ : Int) : Frame := [U, .ptr p1_, U, .sl s3_, U, .bool b5_, .int .i64 i6_, U, U, U, U, U, U, U, U, U, U, U, U, U, U, U, U, U, U, U, U, U, U, U, U, U, U, U, U, U, U, U, U, U, U, U, U, U, U, U, U, U, U, U, U, U, U, U, U, U, U, U, U, U, U, U, U, U, U, U, U, U, U, U, U, U, U, U, U, U, U, U, U, U, U, U, U, U, U, U, U, U, U, U, U, U, U, U, U]
def spec_l02Lasting_w4 (S : SatT) (K : KT) (X2 : XT) : (XT) → XT := fun X fr h => cwp S tab spec_l02Lasting_M (spec_l02Lasting_M 4) (sub [1, 1, 1, 0, 1, 0, 0, 1, 0, 1, 1, 0, 0] (bodyOf Try.f25)) (kSeq (fun fr h => X (mask (spec_l02Lasting_M 4) fr) h) (kBlk 4 (kBlk 3 (kSeq (fun fr h => X2 (mask (spec_l02Lasting_M 2) fr) h) (kBlk 2 (spec_l02Lasting_ks7 S K)))))) fr h
def spec_l02Lasting_L4 (S : SatT) (K : KT) (X2 : XT) (p1_ : Pt) (s3_ : Sl) (b5_ : Bool) (i6_ : Int) (h : H) : Prop := loopK (spec_l02Lasting_w4 S K X2) (spec_l02Lasting_e4 p1_ s3_ b5_ i6_) h
def spec_l02Lasting_ks15 (S : SatT) (K : KT) (X2 X4 : XT) : Kont := kSeq (cwp S tab spec_l02Lasting_M (spec_l02Lasting_M 4) (sub [1, 1, 1, 0, 1, 0, 0, 1, 0, 1, 1, 0, 0, 1, 1] (bodyOf Try.f25)) (kSeq (fun fr h => X4 (mask (spec_l02Lasting_M 4) fr) h) (kBlk 4 (kBlk 3 (kSeq (fun fr h => X2 (mask (spec_l02Lasting_M 2) fr) h) (kBlk 2 (spec_l02Lasting_ks7 S K))))))) (kSeq (fun fr h => X4 (mask (spec_l02Lasting_M 4) fr) h) (kBlk 4 (kBlk 3 (kSeq (fun fr h => X2 (mask (spec_l02Lasting_M 2) fr) h) (kBlk 2 (spec_l02Lasting_ks7 S K))))))
def spec_l02Lasting_ks17 (S : SatT) (K : KT) (X2 X4 : XT) : Kont := kSeq (cwp S tab spec_l02Lasting_M (spec_l02Lasting_M 5) (sub [1, 1, 1, 0, 1, 0, 0, 1, 0, 1, 1, 0, 0, 1, 0, 0, 1, 1] (bodyOf Try.f25)) (kBlk 5 (spec_l02Lasting_ks15 S K X2 X4))) (kBlk 5 (spec_l02Lasting_ks15 S K X2 X4))
def spec_l02Lasting_e6 (p1_ : Pt) (s3_ : Sl) (b5_ : Bool) (i6_ : Int) (b7_ b8_ : Bool) (i9_ : Int) : Frame := [U, .ptr p1_, U, .sl s3_, U, .bool b5_, .int .i64 i6_, .bool b7_, .bool b8_, .int .i64 i9_, U, U, U, U, U, U, U, U, U, U, U, U, U, U, U, U, U, U, U, U, U, U, U, U, U, U, U, U, U, U, U, U, U, U, U, U, U, U, U, U, U, U, U, U, U, U, U, U, U, U, U, U, U, U, U, U, U, U, U, U, U, U, U, U, U, U, U, U, U, U, U, U, U, U, U, U, U, U, U, U, U, U, U, U, U]
def spec_l02Lasting_w6 (S : SatT) (K : KT) (X2 X4 : XT) : (XT) → XT := fun X fr h => cwp S tab spec_l02Lasting_M (spec_l02Lasting_M 6) (sub [1, 1, 1, 0, 1, 0, 0, 1, 0, 1, 1, 0, 0, 1, 0, 0, 1, 0, 1, 0, 0] (bodyOf Try.f25)) (kSeq (fun fr h => X (mask (spec_l02Lasting_M 6) fr) h) (kBlk 6 (spec_l02Lasting_ks17 S K X2 X4))) fr h
def spec_l02Lasting_L6 (S : SatT) (K : KT) (X2 X4 : XT) (p1_ : Pt) (s3_ : Sl) (b5_ : Bool) (i6_ : Int) (b7_ b8_ : Bool) (i9_ : Int) (h : H) : Prop := loopK (spec_l02Lasting_w6 S K X2 X4) (spec_l02Lasting_e6 p1_ s3_ b5_ i6_ b7_ b8_ i9_) h
def spec_l02Lasting_C5 (S : SatT) (K : KT) (X2 X4 : XT) (p1_ : Pt) (s3_ : Sl) (b5_ : Bool) (i6_ : Int) (h : H) : Prop :=
 X4 (spec_l02Lasting_e4 p1_ s3_ b5_ (w64 (i6_ + (1)))) h
def spec_l02Lasting_C6 (S : SatT) (K : KT) (X2 X4 : XT) (p1_ : Pt) (s3_ : Sl) (b5_ : Bool) (i6_ : Int) (b7_ b8_ : Bool) (h : H) : Prop :=
 ixS s3_ 1 i6_ fun p0 =>
 ldB p0 h fun b1 =>
 bif b1 then
 bif b7_ then
 bif (!b8_) then
 ixS s3_ 1 i6_ fun p2 =>
 st1 p2 (.bool false) h fun h3 =>
 spec_l02Lasting_C5 S K X2 X4 p1_ s3_ true i6_ h3
 else
 spec_l02Lasting_C5 S K X2 X4 p1_ s3_ b5_ i6_ h
 else
 ixS s3_ 1 i6_ fun p4 =>
 st1 p4 (.bool false) h fun h5 =>
 spec_l02Lasting_C5 S K X2 X4 p1_ s3_ true i6_ h5
 else
 spec_l02Lasting_C5 S K X2 X4 p1_ s3_ b5_ i6_ h
def spec_l02Lasting_b6 (S : SatT) (K : KT) (X2 X4 X6 : XT) (p1_ : Pt) (s3_ : Sl) (b5_ : Bool) (i6_ : Int) (b7_ b8_ : Bool) (i9_ : Int) (h : H) : Prop :=
 bif (decide (i9_ < (s3_.len : Int))) then
 bif b7_ then
 bif b8_ then
 X6 (spec_l02Lasting_e6 p1_ s3_ b5_ i6_ true true (w64 (i9_ + (1)))) h
 else
 ixS s3_ 1 i9_ fun p0 =>
 ldB p0 h fun b1 =>
 bif b1 then
 isPt p1_ (
 ldS (Pt.add p1_ 1) h fun s2 =>
 ixS s2 4 i9_ fun p3 =>
 ixA p3 4 1 (0) fun p4 =>
 ldI .i64 p4 h fun n5 =>
 isPt p1_ (
 ldS (Pt.add p1_ 1) h fun s6 =>
 ixS s6 4 i6_ fun p7 =>
 ixA p7 4 1 (2) fun p8 =>
 ldI .i64 p8 h fun n9 =>
 X6 (spec_l02Lasting_e6 p1_ s3_ b5_ i6_ true (n5 == n9) (w64 (i9_ + (1)))) h))
 else
 X6 (spec_l02Lasting_e6 p1_ s3_ b5_ i6_ true false (w64 (i9_ + (1)))) h
 else
 ixS s3_ 1 i9_ fun p10 =>
 ldB p10 h fun b11 =>
 bif b11 then
 isPt p1_ (
 ldS (Pt.add p1_ 1) h fun s12 =>
 ixS s12 4 i9_ fun p13 =>
 ixA p13 4 1 (2) fun p14 =>
 ldI .i64 p14 h fun n15 =>
 isPt p1_ (
 ldS (Pt.add p1_ 1) h fun s16 =>
 ixS s16 4 i6_ fun p17 =>
 ixA p17 4 1 (0) fun p18 =>
 ldI .i64 p18 h fun n19 =>
 bif b8_ then
 X6 (spec_l02Lasting_e6 p1_ s3_ b5_ i6_ (n15 == n19) true (w64 (i9_ + (1)))) h
 else
 ixS s3_ 1 i9_ fun p20 =>
 ldB p20 h fun b21 =>
 bif b21 then
 isPt p1_ (
 ldS (Pt.add p1_ 1) h fun s22 =>
 ixS s22 4 i9_ fun p23 =>
 ixA p23 4 1 (0) fun p24 =>
 ldI .i64 p24 h fun n25 =>
 isPt p1_ (
 ldS (Pt.add p1_ 1) h fun s26 =>
 ixS s26 4 i6_ fun p27 =>
 ixA p27 4 1 (2) fun p28 =>
 ldI .i64 p28 h fun n29 =>
 X6 (spec_l02Lasting_e6 p1_ s3_ b5_ i6_ (n15 == n19) (n25 == n29) (w64 (i9_ + (1)))) h))
 else
 X6 (spec_l02Lasting_e6 p1_ s3_ b5_ i6_ (n15 == n19) false (w64 (i9_ + (1)))) h))
 else
 bif b8_ then
 X6 (spec_l02Lasting_e6 p1_ s3_ b5_ i6_ false true (w64 (i9_ + (1)))) h
 else
 ixS s3_ 1 i9_ fun p30 =>
 ldB p30 h fun b31 =>
 bif b31 then
 isPt p1_ (
 ldS (Pt.add p1_ 1) h fun s32 =>
 ixS s32 4 i9_ fun p33 =>
 ixA p33 4 1 (0) fun p34 =>
 ldI .i64 p34 h fun n35 =>
 isPt p1_ (
 ldS (Pt.add p1_ 1) h fun s36 =>
 ixS s36 4 i6_ fun p37 =>
 ixA p37 4 1 (2) fun p38 =>
 ldI .i64 p38 h fun n39 =>
 X6 (spec_l02Lasting_e6 p1_ s3_ b5_ i6_ false (n35 == n39) (w64 (i9_ + (1)))) h))
 else
 X6 (spec_l02Lasting_e6 p1_ s3_ b5_ i6_ false false (w64 (i9_ + (1)))) h
 else
 spec_l02Lasting_C6 S K X2 X4 p1_ s3_ b5_ i6_ b7_ b8_ h
theorem spec_l02Lasting_link6 (S : SatT) (K : KT) (X2 X4 X6 : XT) (p1_ : Pt) (s3_ : Sl) (b5_ : Bool) (i6_ : Int) (b7_ b8_ : Bool) (i9_ : Int) (h : H) : spec_l02Lasting_w6 S K X2 X4 X6 (spec_l02Lasting_e6 p1_ s3_ b5_ i6_ b7_ b8_ i9_) h = spec_l02Lasting_b6 S K X2 X4 X6 p1_ s3_ b5_ i6_ b7_ b8_ i9_ h := by kernel_rfl
theorem spec_l02Lasting_rule6 (S : SatT) (K : KT) (X2 X4 : XT) (p1_ : Pt) (s3_ : Sl) (b5_ : Bool) (i6_ : Int) (I_ : Bool → Bool → Int → H → Prop) (m_ : Bool → Bool → Int → H → Nat)
    (hs : ∀ (X6 : XT) (b7_ b8_ : Bool) (i9_ : Int) (h : H), I_ b7_ b8_ i9_ h → (∀ (b7_' b8_' : Bool) (i9_' : Int) (h' : H), I_ b7_' b8_' i9_' h' → m_ b7_' b8_' i9_' h' < m_ b7_ b8_ i9_ h → X6 (spec_l02Lasting_e6 p1_ s3_ b5_ i6_ b7_' b8_' i9_') h') → spec_l02Lasting_b6 S K X2 X4 X6 p1_ s3_ b5_ i6_ b7_ b8_ i9_ h) (b7_ b8_ : Bool) (i9_ : Int) {h : H} (h0 : I_ b7_ b8_ i9_ h) : spec_l02Lasting_L6 S K X2 X4 p1_ s3_ b5_ i6_ b7_ b8_ i9_ h :=
  loop_rule (σ := (Bool) × (Bool) × (Int)) (fun s_ => spec_l02Lasting_e6 p1_ s3_ b5_ i6_ (s_.1) (s_.2.1) (s_.2.2)) (fun s_ h => I_ (s_.1) (s_.2.1) (s_.2.2) h) (fun s_ h => m_ (s_.1) (s_.2.1) (s_.2.2) h)
    (fun X s_ h hi hx => (spec_l02Lasting_link6 S K X2 X4 X p1_ s3_ b5_ i6_ (s_.1) (s_.2.1) (s_.2.2) h).mpr (hs X (s_.1) (s_.2.1) (s_.2.2) h hi fun b7_' b8_' i9_' h' hi' hm' => hx (b7_', b8_', i9_') h' hi' hm')) (b7_, b8_, i9_) h0
def spec_l02Lasting_C4 (S : SatT) (K : KT) (X2 : XT) (p1_ : Pt) (s3_ : Sl) (b5_ : Bool) (h : H) : Prop :=
 X2 (spec_l02Lasting_e2 p1_ s3_ b5_) h
def spec_l02Lasting_b4 (S : SatT) (K : KT) (X2 X4 : XT) (p1_ : Pt) (s3_ : Sl) (b5_ : Bool) (i6_ : Int) (h : H) : Prop :=
 bif (decide (i6_ < (s3_.len : Int))) then
 spec_l02Lasting_L6 S K X2 X4 p1_ s3_ b5_ i6_ false false (0) h
 else
 spec_l02Lasting_C4 S K X2 p1_ s3_ b5_ h
theorem spec_l02Lasting_link4 (S : SatT) (K : KT) (X2 X4 : XT) (p1_ : Pt) (s3_ : Sl) (b5_ : Bool) (i6_ : Int) (h : H) : spec_l02Lasting_w4 S K X2 X4 (spec_l02Lasting_e4 p1_ s3_ b5_ i6_) h = spec_l02Lasting_b4 S K X2 X4 p1_ s3_ b5_ i6_ h := by kernel_rfl
theorem spec_l02Lasting_rule4 (S : SatT) (K : KT) (X2 : XT) (p1_ : Pt) (s3_ : Sl) (I_ : Bool → Int → H → Prop) (m_ : Bool → Int → H → Nat)
    (hs : ∀ (X4 : XT) (b5_ : Bool) (i6_ : Int) (h : H), I_ b5_ i6_ h → (∀ (b5_' : Bool) (i6_' : Int) (h' : H), I_ b5_' i6_' h' → m_ b5_' i6_' h' < m_ b5_ i6_ h → X4 (spec_l02Lasting_e4 p1_ s3_ b5_' i6_') h') → spec_l02Lasting_b4 S K X2 X4 p1_ s3_ b5_ i6_ h) (b5_ : Bool) (i6_ : Int) {h : H} (h0 : I_ b5_ i6_ h) : spec_l02Lasting_L4 S K X2 p1_ s3_ b5_ i6_ h :=
  loop_rule (σ := (Bool) × (Int)) (fun s_ => spec_l02Lasting_e4 p1_ s3_ (s_.1) (s_.2)) (fun s_ h => I_ (s_.1) (s_.2) h) (fun s_ h => m_ (s_.1) (s_.2) h)
    (fun X s_ h hi hx => (spec_l02Lasting_link4 S K X2 X p1_ s3_ (s_.1) (s_.2) h).mpr (hs X (s_.1) (s_.2) h hi fun b5_' i6_' h' hi' hm' => hx (b5_', i6_') h' hi' hm')) (b5_, i6_) h0
def spec_l02Lasting_C2 (S : SatT) (K : KT) (s3_ : Sl) (h : H) : Prop :=
 K (.sl s3_) h
def spec_l02Lasting_b2 (S : SatT) (K : KT) (X2 : XT) (p1_ : Pt) (s3_ : Sl) (b5_ : Bool) (h : H) : Prop :=
 bif b5_ then
 spec_l02Lasting_L4 S K X2 p1_ s3_ false (0) h
 else
 spec_l02Lasting_C2 S K s3_ h
theorem spec_l02Lasting_link2 (S : SatT) (K : KT) (X2 : XT) (p1_ : Pt) (s3_ : Sl) (b5_ : Bool) (h : H) : spec_l02Lasting_w2 S K X2 (spec_l02Lasting_e2 p1_ s3_ b5_) h = spec_l02Lasting_b2 S K X2 p1_ s3_ b5_ h := by kernel_rfl
theorem spec_l02Lasting_rule2 (S : SatT) (K : KT) (p1_ : Pt) (s3_ : Sl) (I_ : Bool → H → Prop) (m_ : Bool → H → Nat)
    (hs : ∀ (X2 : XT) (b5_ : Bool) (h : H), I_ b5_ h → (∀ (b5_' : Bool) (h' : H), I_ b5_' h' → m_ b5_' h' < m_ b5_ h → X2 (spec_l02Lasting_e2 p1_ s3_ b5_') h') → spec_l02Lasting_b2 S K X2 p1_ s3_ b5_ h) (b5_ : Bool) {h : H} (h0 : I_ b5_ h) : spec_l02Lasting_L2 S K p1_ s3_ b5_ h :=
  loop_rule (σ := (Bool)) (fun s_ => spec_l02Lasting_e2 p1_ s3_ (s_)) (fun s_ h => I_ (s_) h) (fun s_ h => m_ (s_) h)
    (fun X s_ h hi hx => (spec_l02Lasting_link2 S K X p1_ s3_ (s_) h).mpr (hs X (s_) h hi fun b5_' h' hi' hm' => hx (b5_') h' hi' hm')) (b5_) h0
def spec_l02Lasting_C0 (S : SatT) (K : KT) (p1_ : Pt) (s3_ : Sl) (h : H) : Prop :=
 spec_l02Lasting_L2 S K p1_ s3_ true h
def spec_l02Lasting_b0 (S : SatT) (K : KT) (X0 : XT) (p1_ : Pt) (s3_ : Sl) (i4_ : Int) (h : H) : Prop :=
 bif (decide (i4_ < (s3_.len : Int))) then
 ixS s3_ 1 i4_ fun p0 =>
 st1 p0 (.bool true) h fun h1 =>
 X0 (spec_l02Lasting_e0 p1_ s3_ (w64 (i4_ + (1)))) h1
 else
 spec_l02Lasting_C0 S K p1_ s3_ h
theorem spec_l02Lasting_link0 (S : SatT) (K : KT) (X0 : XT) (p1_ : Pt) (s3_ : Sl) (i4_ : Int) (h : H) : spec_l02Lasting_w0 S K X0 (spec_l02Lasting_e0 p1_ s3_ i4_) h = spec_l02Lasting_b0 S K X0 p1_ s3_ i4_ h := by kernel_rfl
theorem spec_l02Lasting_rule0 (S : SatT) (K : KT) (p1_ : Pt) (s3_ : Sl) (I_ : Int → H → Prop) (m_ : Int → H → Nat)
    (hs : ∀ (X0 : XT) (i4_ : Int) (h : H), I_ i4_ h → (∀ (i4_' : Int) (h' : H), I_ i4_' h' → m_ i4_' h' < m_ i4_ h → X0 (spec_l02Lasting_e0 p1_ s3_ i4_') h') → spec_l02Lasting_b0 S K X0 p1_ s3_ i4_ h) (i4_ : Int) {h : H} (h0 : I_ i4_ h) : spec_l02Lasting_L0 S K p1_ s3_ i4_ h :=
  loop_rule (σ := (Int)) (fun s_ => spec_l02Lasting_e0 p1_ s3_ (s_)) (fun s_ h => I_ (s_) h) (fun s_ h => m_ (s_) h)
    (fun X s_ h hi hx => (spec_l02Lasting_link0 S K X p1_ s3_ (s_) h).mpr (hs X (s_) h hi fun i4_' h' hi' hm' => hx (i4_') h' hi' hm')) (i4_) h0
def spec_l02Lasting_main (S : SatT) (K : KT) (x0 : List AVal) (h : H) : Prop :=
 newK 2 x0 h fun p0 h1 =>
 isPt p0 (
 ldS (Pt.add p0 1) h1 fun s2 =>
 mkS (s2.len : Int) [.bool false] h1 fun s3 h4 =>
 spec_l02Lasting_L0 S K p0 s3 (0) h4)
theorem spec_l02Lasting_main_link (S : SatT) (K : KT) (x0 : List AVal) (h : H) : cwp S tab spec_l02Lasting_M [] (bodyOf Try.f25) (kFun tab Try.f25.results.toList K) (fr0 Try.f25 [.agg x0]) h = spec_l02Lasting_main S K x0 h := by kernel_rfl
theorem spec_l02Lasting_call (x0 : List AVal) (h : H) (K : Sl → H → Prop) (hm : spec_l02Lasting_main (Sat Try.prog) (fun v h' => ∃ r, v = .sl r ∧ K r h') x0 h) : callS (Sat Try.prog) i_spec_l02Lasting [.agg x0] h K := by
  have := Sat.ex tok mixed spec_l02Lasting_M Try.func25 (c := bodyOf Try.f25) (by kernel_rfl) (calls_of Try.func25 (c := bodyOf Try.f25) (by kernel_rfl) (by decide)) ((spec_l02Lasting_main_link _ _ x0 h).mpr hm)
  obtain ⟨v, h2, h3, r, rfl, h4⟩ := this; exact ⟨r, h2, h3, h4⟩

/-! ### loop.example/g01354/impl.kept -/
def impl_kept_M : Nat → List Nat := fun i => bif i == 6 then [0, 3, 7, 32, 33, 34] else bif i == 4 then [0, 3, 4, 11, 17, 18, 19] else bif i == 2 then [0, 3, 11] else bif i == 0 then [0] else []
def impl_kept_e0 (s0_ : Sl) : Frame := [.sl s0_, U, U, U, U, U, U, U, U, U, U, U, U, U, U, U, U, U, U, U, U, U, U, U, U, U, U, U, U, U, U, U, U, U, U, U, U, U, U, U, U, U, U, U, U, U, U, U, U, U, U, U, U, U, U, U, U, U, U, U, U, U]
def impl_kept_w0 (S : SatT) (K : KT) : (XT) → XT := fun X fr h => cwp S tab impl_kept_M (impl_kept_M 0) (sub [1, 0, 0] (bodyOf Try.f26)) (kSeq (fun fr h => X (mask (impl_kept_M 0) fr) h) (kBlk 0 (kFun tab (Try.f26).results.toList K))) fr h
def impl_kept_L0 (S : SatT) (K : KT) (s0_ : Sl) (h : H) : Prop := loopK (impl_kept_w0 S K) (impl_kept_e0 s0_) h
def impl_kept_ks2 (S : SatT) (K : KT) (X0 : XT) : Kont := kSeq (cwp S tab impl_kept_M (impl_kept_M 1) (sub [1, 0, 0, 0, 1, 1] (bodyOf Try.f26)) (kBlk 1 (kSeq (fun fr h => X0 (mask (impl_kept_M 0) fr) h) (kBlk 0 (kFun tab (Try.f26).results.toList K))))) (kBlk 1 (kSeq (fun fr h => X0 (mask (impl_kept_M 0) fr) h) (kBlk 0 (kFun tab (Try.f26).results.toList K))))
def impl_kept_e2 (s0_ : Sl) (p3_ : Pt) (i11_ : Int) : Frame := [.sl s0_, U, U, .ptr p3_, U, U, U, U, U, U, U, .int .i64 i11_, U, U, U, U, U, U, U, U, U, U, U, U, U, U, U, U, U, U, U, U, U, U, U, U, U, U, U, U, U, U, U, U, U, U, U, U, U, U, U, U, U, U, U, U, U, U, U, U, U, U]
def impl_kept_w2 (S : SatT) (K : KT) (X0 : XT) : (XT) → XT := fun X fr h => cwp S tab impl_kept_M (impl_kept_M 2) (sub [1, 0, 0, 0, 1, 0, 1, 0, 0] (bodyOf Try.f26)) (kSeq (fun fr h => X (mask (impl_kept_M 2) fr) h) (kBlk 2 (impl_kept_ks2 S K X0))) fr h
def impl_kept_L2 (S : SatT) (K : KT) (X0 : XT) (s0_ : Sl) (p3_ : Pt) (i11_ : Int) (h : H) : Prop := loopK (impl_kept_w2 S K X0) (impl_kept_e2 s0_ p3_ i11_) h
def impl_kept_ks6 (S : SatT) (K : KT) (X0 X2 : XT) : Kont := kSeq (cwp S tab impl_kept_M (impl_kept_M 2) (sub [1, 0, 0, 0, 1, 0, 1, 0, 0, 1, 1, 1] (bodyOf Try.f26)) (kSeq (fun fr h => X2 (mask (impl_kept_M 2) fr) h) (kBlk 2 (impl_kept_ks2 S K X0)))) (kSeq (fun fr h => X2 (mask (impl_kept_M 2) fr) h) (kBlk 2 (impl_kept_ks2 S K X0)))
def impl_kept_e4 (s0_ : Sl) (p3_ : Pt) (i4_ i11_ : Int) (s17_ : Sl) (i18_ i19_ : Int) : Frame := [.sl s0_, U, U, .ptr p3_, .int .i64 i4_, U, U, U, U, U, U, .int .i64 i11_, U, U, U, U, U, .sl s17_, .int .i64 i18_, .int .i64 i19_, U, U, U, U, U, U, U, U, U, U, U, U, U, U, U, U, U, U, U, U, U, U, U, U, U, U, U, U, U, U, U, U, U, U, U, U, U, U, U, U, U, U]
def impl_kept_w4 (S : SatT) (K : KT) (X0 X2 : XT) : (XT) → XT := fun X fr h => cwp S tab impl_kept_M (impl_kept_M 4) (sub [1, 0, 0, 0, 1, 0, 1, 0, 0, 1, 1, 0, 0, 1, 1, 1, 0, 0] (bodyOf Try.f26)) (kSeq (fun fr h => X (mask (impl_kept_M 4) fr) h) (kBlk 4 (kBlk 3 (impl_kept_ks6 S K X0 X2)))) fr h
def impl_kept_L4 (S : SatT) (K : KT) (X0 X2 : XT) (s0_ : Sl) (p3_ : Pt) (i4_ i11_ : Int) (s17_ : Sl) (i18_ i19_ : Int) (h : H) : Prop := loopK (impl_kept_w4 S K X0 X2) (impl_kept_e4 s0_ p3_ i4_ i11_ s17_ i18_ i19_) h
def impl_kept_C3 (S : SatT) (K : KT) (X0 X2 : XT) (s0_ : Sl) (p3_ : Pt) (i11_ : Int) (h : H) : Prop :=
 X2 (impl_kept_e2 s0_ p3_ (w64 (i11_ + (1)))) h
def impl_kept_C4 (S : SatT) (K : KT) (X0 X2 : XT) (s0_ : Sl) (p3_ : Pt) (i11_ : Int) (h : H) : Prop :=
 impl_kept_C3 S K X0 X2 s0_ p3_ i11_ h
def impl_kept_b4 (S : SatT) (K : KT) (X0 X2 X4 : XT) (s0_ : Sl) (p3_ : Pt) (i4_ i11_ : Int) (s17_ : Sl) (i18_ i19_ : Int) (h : H) : Prop :=
 bif (decide (i19_ < i18_)) then
 ixS s17_ 4 i19_ fun p0 =>
 ldA p0 4 h fun cs1 =>
 newO [.int .i64 (0), .int .i64 (0), .int .i64 (0), .int .i64 (0)] h fun p2 h3 =>
 stN p2 4 cs1 h3 fun h4 =>
 ixA p3_ 4 1 i4_ fun p5 =>
 ldV p5 h4 fun v6 =>
 ixA p2 4 1 i4_ fun p7 =>
 ldI .i64 p7 h4 fun n8 =>
 mput v6 (.int .i64 n8) (.bool true) h4 fun h9 =>
 X4 (impl_kept_e4 s0_ p3_ i4_ i11_ s17_ i18_ (w64 (i19_ + (1)))) h9
 else
 impl_kept_C4 S K X0 X2 s0_ p3_ i11_ h
theorem impl_kept_link4 (S : SatT) (K : KT) (X0 X2 X4 : XT) (s0_ : Sl) (p3_ : Pt) (i4_ i11_ : Int) (s17_ : Sl) (i18_ i19_ : Int) (h : H) : impl_kept_w4 S K X0 X2 X4 (impl_kept_e4 s0_ p3_ i4_ i11_ s17_ i18_ i19_) h = impl_kept_b4 S K X0 X2 X4 s0_ p3_ i4_ i11_ s17_ i18_ i19_ h := by kernel_rfl
theorem impl_kept_rule4 (S : SatT) (K : KT) (X0 X2 : XT) (s0_ : Sl) (p3_ : Pt) (i4_ i11_ : Int) (s17_ : Sl) (i18_ : Int) (I_ : Int → H → Prop) (m_ : Int → H → Nat)
    (hs : ∀ (X4 : XT) (i19_ : Int) (h : H), I_ i19_ h → (∀ (i19_' : Int) (h' : H), I_ i19_' h' → m_ i19_' h' < m_ i19_ h → X4 (impl_kept_e4 s0_ p3_ i4_ i11_ s17_ i18_ i19_') h') → impl_kept_b4 S K X0 X2 X4 s0_ p3_ i4_ i11_ s17_ i18_ i19_ h) (i19_ : Int) {h : H} (h0 : I_ i19_ h) : impl_kept_L4 S K X0 X2 s0_ p3_ i4_ i11_ s17_ i18_ i19_ h :=
  loop_rule (σ := (Int)) (fun s_ => impl_kept_e4 s0_ p3_ i4_ i11_ s17_ i18_ (s_)) (fun s_ h => I_ (s_) h) (fun s_ h => m_ (s_) h)
    (fun X s_ h hi hx => (impl_kept_link4 S K X0 X2 X s0_ p3_ i4_ i11_ s17_ i18_ (s_) h).mpr (hs X (s_) h hi fun i19_' h' hi' hm' => hx (i19_') h' hi' hm')) (i19_) h0
def impl_kept_ks15 (S : SatT) (K : KT) (X0 : XT) : Kont := kSeq (cwp S tab impl_kept_M (impl_kept_M 1) (sub [1, 0, 0, 0, 1, 1, 1, 1] (bodyOf Try.f26)) (kBlk 1 (kSeq (fun fr h => X0 (mask (impl_kept_M 0) fr) h) (kBlk 0 (kFun tab (Try.f26).results.toList K))))) (kBlk 1 (kSeq (fun fr h => X0 (mask (impl_kept_M 0) fr) h) (kBlk 0 (kFun tab (Try.f26).results.toList K))))
def impl_kept_e6 (s0_ : Sl) (p3_ : Pt) (s7_ s32_ : Sl) (i33_ i34_ : Int) : Frame := [.sl s0_, U, U, .ptr p3_, U, U, U, .sl s7_, U, U, U, U, U, U, U, U, U, U, U, U, U, U, U, U, U, U, U, U, U, U, U, U, .sl s32_, .int .i64 i33_, .int .i64 i34_, U, U, U, U, U, U, U, U, U, U, U, U, U, U, U, U, U, U, U, U, U, U, U, U, U, U, U]
def impl_kept_w6 (S : SatT) (K : KT) (X0 : XT) : (XT) → XT := fun X fr h => cwp S tab impl_kept_M (impl_kept_M 6) (sub [1, 0, 0, 0, 1, 1, 1, 0, 1, 0, 0] (bodyOf Try.f26)) (kSeq (fun fr h => X (mask (impl_kept_M 6) fr) h) (kBlk 6 (impl_kept_ks15 S K X0))) fr h
def impl_kept_L6 (S : SatT) (K : KT) (X0 : XT) (s0_ : Sl) (p3_ : Pt) (s7_ s32_ : Sl) (i33_ i34_ : Int) (h : H) : Prop := loopK (impl_kept_w6 S K X0) (impl_kept_e6 s0_ p3_ s7_ s32_ i33_ i34_) h
def impl_kept_C6 (S : SatT) (K : KT) (X0 : XT) (s0_ s7_ : Sl) (h : H) : Prop :=
 bif ((s7_.len : Int) == (s0_.len : Int)) then
 K (.sl s7_) h
 else
 X0 (impl_kept_e0 s7_) h
def impl_kept_b6 (S : SatT) (K : KT) (X0 X6 : XT) (s0_ : Sl) (p3_ : Pt) (s7_ s32_ : Sl) (i33_ i34_ : Int) (h : H) : Prop :=
 bif (decide (i34_ < i33_)) then
 ixS s32_ 4 i34_ fun p0 =>
 ldA p0 4 h fun cs1 =>
 newO [.int .i64 (0), .int .i64 (0), .int .i64 (0), .int .i64 (0)] h fun p2 h3 =>
 stN p2 4 cs1 h3 fun h4 =>
 ixA p3_ 4 1 (2) fun p5 =>
 ldV p5 h4 fun v6 =>
 ixA p2 4 1 (0) fun p7 =>
 ldI .i64 p7 h4 fun n8 =>
 mgetB v6 (.int .i64 n8) h4 fun b9 =>
 bif b9 then
 ixA p3_ 4 1 (0) fun p10 =>
 ldV p10 h4 fun v11 =>
 ixA p2 4 1 (2) fun p12 =>
 ldI .i64 p12 h4 fun n13 =>
 mgetB v11 (.int .i64 n13) h4 fun b14 =>
 bif b14 then
 ldA p2 4 h4 fun cs15 =>
 lenA cs15 4 (
 newS 1 4 (spl [.int .i64 (0), .int .i64 (0), .int .i64 (0), .int .i64 (0)] 0 4 cs15) h4 fun s16 h17 =>
 app s7_ s16 4 h17 fun s18 h19 =>
 X6 (impl_kept_e6 s0_ p3_ s18 s32_ i33_ (w64 (i34_ + (1)))) h19)
 else
 X6 (impl_kept_e6 s0_ p3_ s7_ s32_ i33_ (w64 (i34_ + (1)))) h4
 else
 X6 (impl_kept_e6 s0_ p3_ s7_ s32_ i33_ (w64 (i34_ + (1)))) h4
 else
 impl_kept_C6 S K X0 s0_ s7_ h
theorem impl_kept_link6 (S : SatT) (K : KT) (X0 X6 : XT) (s0_ : Sl) (p3_ : Pt) (s7_ s32_ : Sl) (i33_ i34_ : Int) (h : H) : impl_kept_w6 S K X0 X6 (impl_kept_e6 s0_ p3_ s7_ s32_ i33_ i34_) h = impl_kept_b6 S K X0 X6 s0_ p3_ s7_ s32_ i33_ i34_ h := by kernel_rfl
theorem impl_kept_rule6 (S : SatT) (K : KT) (X0 : XT) (s0_ : Sl) (p3_ : Pt) (s32_ : Sl) (i33_ : Int) (I_ : Sl → Int → H → Prop) (m_ : Sl → Int → H → Nat)
    (hs : ∀ (X6 : XT) (s7_ : Sl) (i34_ : Int) (h : H), I_ s7_ i34_ h → (∀ (s7_' : Sl) (i34_' : Int) (h' : H), I_ s7_' i34_' h' → m_ s7_' i34_' h' < m_ s7_ i34_ h → X6 (impl_kept_e6 s0_ p3_ s7_' s32_ i33_ i34_') h') → impl_kept_b6 S K X0 X6 s0_ p3_ s7_ s32_ i33_ i34_ h) (s7_ : Sl) (i34_ : Int) {h : H} (h0 : I_ s7_ i34_ h) : impl_kept_L6 S K X0 s0_ p3_ s7_ s32_ i33_ i34_ h :=
  loop_rule (σ := (Sl) × (Int)) (fun s_ => impl_kept_e6 s0_ p3_ (s_.1) s32_ i33_ (s_.2)) (fun s_ h => I_ (s_.1) (s_.2) h) (fun s_ h => m_ (s_.1) (s_.2) h)
    (fun X s_ h hi hx => (impl_kept_link6 S K X0 X s0_ p3_ (s_.1) s32_ i33_ (s_.2) h).mpr (hs X (s_.1) (s_.2) h hi fun s7_' i34_' h' hi' hm' => hx (s7_', i34_') h' hi' hm')) (s7_, i34_) h0
def impl_kept_C2 (S : SatT) (K : KT) (X0 : XT) (s0_ : Sl) (p3_ : Pt) (h : H) : Prop :=
 newS 0 4 [] h fun s0 h1 =>
 impl_kept_L6 S K X0 s0_ p3_ s0 s0_ (s0_.len : Int) (0) h1
def impl_kept_b2 (S : SatT) (K : KT) (X0 X2 : XT) (s0_ : Sl) (p3_ : Pt) (i11_ : Int) (h : H) : Prop :=
 bif (decide (i11_ < (4))) then
 newM h fun v0 h1 =>
 ixA p3_ 4 1 i11_ fun p2 =>
 bif (AVal.isCell v0 && true) then
 st1 p2 v0 h1 fun h3 =>
 impl_kept_L4 S K X0 X2 s0_ p3_ i11_ i11_ s0_ (s0_.len : Int) (0) h3
 else False
 else
 impl_kept_C2 S K X0 s0_ p3_ h
theorem impl_kept_link2 (S : SatT) (K : KT) (X0 X2 : XT) (s0_ : Sl) (p3_ : Pt) (i11_ : Int) (h : H) : impl_kept_w2 S K X0 X2 (impl_kept_e2 s0_ p3_ i11_) h = impl_kept_b2 S K X0 X2 s0_ p3_ i11_ h := by kernel_rfl
theorem impl_kept_rule2 (S : SatT) (K : KT) (X0 : XT) (s0_ : Sl) (p3_ : Pt) (I_ : Int → H → Prop) (m_ : Int → H → Nat)
    (hs : ∀ (X2 : XT) (i11_ : Int) (h : H), I_ i11_ h → (∀ (i11_' : Int) (h' : H), I_ i11_' h' → m_ i11_' h' < m_ i11_ h → X2 (impl_kept_e2 s0_ p3_ i11_') h') → impl_kept_b2 S K X0 X2 s0_ p3_ i11_ h) (i11_ : Int) {h : H} (h0 : I_ i11_ h) : impl_kept_L2 S K X0 s0_ p3_ i11_ h :=
  loop_rule (σ := (Int)) (fun s_ => impl_kept_e2 s0_ p3_ (s_)) (fun s_ h => I_ (s_) h) (fun s_ h => m_ (s_) h)
    (fun X s_ h hi hx => (impl_kept_link2 S K X0 X s0_ p3_ (s_) h).mpr (hs X (s_) h hi fun i11_' h' hi' hm' => hx (i11_') h' hi' hm')) (i11_) h0
def impl_kept_b0 (S : SatT) (K : KT) (X0 : XT) (s0_ : Sl) (h : H) : Prop :=
 newO [.map none, .map none, .map none, .map none] h fun p0 h1 =>
 stN p0 4 [.map none, .map none, .map none, .map none] h1 fun h2 =>
 impl_kept_L2 S K X0 s0_ p0 (0) h2
theorem impl_kept_link0 (S : SatT) (K : KT) (X0 : XT) (s0_ : Sl) (h : H) : impl_kept_w0 S K X0 (impl_kept_e0 s0_) h = impl_kept_b0 S K X0 s0_ h := by kernel_rfl
theorem impl_kept_rule0 (S : SatT) (K : KT) (I_ : Sl → H → Prop) (m_ : Sl → H → Nat)
    (hs : ∀ (X0 : XT) (s0_ : Sl) (h : H), I_ s0_ h → (∀ (s0_' : Sl) (h' : H), I_ s0_' h' → m_ s0_' h' < m_ s0_ h → X0 (impl_kept_e0 s0_') h') → impl_kept_b0 S K X0 s0_ h) (s0_ : Sl) {h : H} (h0 : I_ s0_ h) : impl_kept_L0 S K s0_ h :=
  loop_rule (σ := (Sl)) (fun s_ => impl_kept_e0 (s_)) (fun s_ h => I_ (s_) h) (fun s_ h => m_ (s_) h)
    (fun X s_ h hi hx => (impl_kept_link0 S K X (s_) h).mpr (hs X (s_) h hi fun s0_' h' hi' hm' => hx (s0_') h' hi' hm')) (s0_) h0
def impl_kept_main (S : SatT) (K : KT) (x0 : Sl) (h : H) : Prop :=
 impl_kept_L0 S K x0 h
theorem impl_kept_main_link (S : SatT) (K : KT) (x0 : Sl) (h : H) : cwp S tab impl_kept_M [] (bodyOf Try.f26) (kFun tab Try.f26.results.toList K) (fr0 Try.f26 [.sl x0]) h = impl_kept_main S K x0 h := by kernel_rfl
theorem impl_kept_call (x0 : Sl) (h : H) (K : Sl → H → Prop) (hm : impl_kept_main (Sat Try.prog) (fun v h' => ∃ r, v = .sl r ∧ K r h') x0 h) : callS (Sat Try.prog) i_impl_kept [.sl x0] h K := by
  have := Sat.ex tok mixed impl_kept_M Try.func26 (c := bodyOf Try.f26) (by kernel_rfl) (calls_of Try.func26 (c := bodyOf Try.f26) (by kernel_rfl) (by decide)) ((impl_kept_main_link _ _ x0 h).mpr hm)
  obtain ⟨v, h2, h3, r, rfl, h4⟩ := this; exact ⟨r, h2, h3, h4⟩

/-! ### loop.example/g01354/impl.CountRows -/
def impl_CountRows_M : Nat → List Nat := fun i => bif i == 2 then [7, 20, 21, 22, 26, 27, 28] else bif i == 0 then [7, 20, 21, 22] else []
def impl_CountRows_ks6 (S : SatT) (K : KT) : Kont := kSeq (cwp S tab impl_CountRows_M [] (sub [1, 1, 1, 1] (bodyOf Try.f19)) (kFun tab (Try.f19).results.toList K)) (kFun tab (Try.f19).results.toList K)
def impl_CountRows_e0 (i7_ : Int) (s20_ : Sl) (i21_ i22_ : Int) : Frame := [U, U, U, U, U, U, U, .int .i64 i7_, U, U, U, U, U, U, U, U, U, U, U, U, .sl s20_, .int .i64 i21_, .int .i64 i22_, U, U, U, U, U, U, U, U, U, U, U, U, U, U, U, U, U, U]
def impl_CountRows_w0 (S : SatT) (K : KT) : (XT) → XT := fun X fr h => cwp S tab impl_CountRows_M (impl_CountRows_M 0) (sub [1, 1, 1, 0, 1, 0, 0] (bodyOf Try.f19)) (kSeq (fun fr h => X (mask (impl_CountRows_M 0) fr) h) (kBlk 0 (impl_CountRows_ks6 S K))) fr h
def impl_CountRows_L0 (S : SatT) (K : KT) (i7_ : Int) (s20_ : Sl) (i21_ i22_ : Int) (h : H) : Prop := loopK (impl_CountRows_w0 S K) (impl_CountRows_e0 i7_ s20_ i21_ i22_) h
def impl_CountRows_ks10 (S : SatT) (K : KT) (X0 : XT) : Kont := kSeq (cwp S tab impl_CountRows_M (impl_CountRows_M 0) (sub [1, 1, 1, 0, 1, 0, 0, 1, 1, 1] (bodyOf Try.f19)) (kSeq (fun fr h => X0 (mask (impl_CountRows_M 0) fr) h) (kBlk 0 (impl_CountRows_ks6 S K)))) (kSeq (fun fr h => X0 (mask (impl_CountRows_M 0) fr) h) (kBlk 0 (impl_CountRows_ks6 S K)))
def impl_CountRows_e2 (i7_ : Int) (s20_ : Sl) (i21_ i22_ : Int) (s26_ : Sl) (i27_ i28_ : Int) : Frame := [U, U, U, U, U, U, U, .int .i64 i7_, U, U, U, U, U, U, U, U, U, U, U, U, .sl s20_, .int .i64 i21_, .int .i64 i22_, U, U, U, .sl s26_, .int .i64 i27_, .int .i64 i28_, U, U, U, U, U, U, U, U, U, U, U, U]
def impl_CountRows_w2 (S : SatT) (K : KT) (X0 : XT) : (XT) → XT := fun X fr h => cwp S tab impl_CountRows_M (impl_CountRows_M 2) (sub [1, 1, 1, 0, 1, 0, 0, 1, 1, 0, 0, 1, 1, 0, 0] (bodyOf Try.f19)) (kSeq (fun fr h => X (mask (impl_CountRows_M 2) fr) h) (kBlk 2 (kBlk 1 (impl_CountRows_ks10 S K X0)))) fr h
def impl_CountRows_L2 (S : SatT) (K : KT) (X0 : XT) (i7_ : Int) (s20_ : Sl) (i21_ i22_ : Int) (s26_ : Sl) (i27_ i28_ : Int) (h : H) : Prop := loopK (impl_CountRows_w2 S K X0) (impl_CountRows_e2 i7_ s20_ i21_ i22_ s26_ i27_ i28_) h
def impl_CountRows_C1 (S : SatT) (K : KT) (X0 : XT) (i7_ : Int) (s20_ : Sl) (i21_ i22_ : Int) (h : H) : Prop :=
 X0 (impl_CountRows_e0 i7_ s20_ i21_ (w64 (i22_ + (1)))) h
def impl_CountRows_C2 (S : SatT) (K : KT) (X0 : XT) (i7_ : Int) (s20_ : Sl) (i21_ i22_ : Int) (h : H) : Prop :=
 impl_CountRows_C1 S K X0 i7_ s20_ i21_ i22_ h
def impl_CountRows_b2 (S : SatT) (K : KT) (X0 X2 : XT) (i7_ : Int) (s20_ : Sl) (i21_ i22_ : Int) (s26_ : Sl) (i27_ i28_ : Int) (h : H) : Prop :=
 bif (decide (i28_ < i27_)) then
 ixS s26_ 1 i28_ fun p0 =>
 ldI .i64 p0 h fun n1 =>
 X2 (impl_CountRows_e2 (w64 (i7_ + n1)) s20_ i21_ i22_ s26_ i27_ (w64 (i28_ + (1)))) h
 else
 impl_CountRows_C2 S K X0 i7_ s20_ i21_ i22_ h
theorem impl_CountRows_link2 (S : SatT) (K : KT) (X0 X2 : XT) (i7_ : Int) (s20_ : Sl) (i21_ i22_ : Int) (s26_ : Sl) (i27_ i28_ : Int) (h : H) : impl_CountRows_w2 S K X0 X2 (impl_CountRows_e2 i7_ s20_ i21_ i22_ s26_ i27_ i28_) h = impl_CountRows_b2 S K X0 X2 i7_ s20_ i21_ i22_ s26_ i27_ i28_ h := by kernel_rfl
theorem impl_CountRows_rule2 (S : SatT) (K : KT) (X0 : XT) (s20_ : Sl) (i21_ i22_ : Int) (s26_ : Sl) (i27_ : Int) (I_ : Int → Int → H → Prop) (m_ : Int → Int → H → Nat)
    (hs : ∀ (X2 : XT) (i7_ i28_ : Int) (h : H), I_ i7_ i28_ h → (∀ (i7_' i28_' : Int) (h' : H), I_ i7_' i28_' h' → m_ i7_' i28_' h' < m_ i7_ i28_ h → X2 (impl_CountRows_e2 i7_' s20_ i21_ i22_ s26_ i27_ i28_') h') → impl_CountRows_b2 S K X0 X2 i7_ s20_ i21_ i22_ s26_ i27_ i28_ h) (i7_ i28_ : Int) {h : H} (h0 : I_ i7_ i28_ h) : impl_CountRows_L2 S K X0 i7_ s20_ i21_ i22_ s26_ i27_ i28_ h :=
  loop_rule (σ := (Int) × (Int)) (fun s_ => impl_CountRows_e2 (s_.1) s20_ i21_ i22_ s26_ i27_ (s_.2)) (fun s_ h => I_ (s_.1) (s_.2) h) (fun s_ h => m_ (s_.1) (s_.2) h)
    (fun X s_ h hi hx => (impl_CountRows_link2 S K X0 X (s_.1) s20_ i21_ i22_ s26_ i27_ (s_.2) h).mpr (hs X (s_.1) (s_.2) h hi fun i7_' i28_' h' hi' hm' => hx (i7_', i28_') h' hi' hm')) (i7_, i28_) h0
def impl_CountRows_C0 (S : SatT) (K : KT) (i7_ : Int) (h : H) : Prop :=
 callV S i_impl_counted [.int .i64 i7_] h fun v1 h0 =>
 viaT v1 fun vs2 =>
 exI .i64 vs2 0 fun n3 =>
 viaT v1 fun vs4 =>
 exI .i64 vs4 1 fun n5 =>
 K (.tuple [.int .i64 n3, .int .i64 n5]) h0
def impl_CountRows_b0 (S : SatT) (K : KT) (X0 : XT) (i7_ : Int) (s20_ : Sl) (i21_ i22_ : Int) (h : H) : Prop :=
 bif (decide (i22_ < i21_)) then
 ixS s20_ 1 i22_ fun p0 =>
 ldS p0 h fun s1 =>
 impl_CountRows_L2 S K X0 i7_ s20_ i21_ i22_ s1 (s1.len : Int) (0) h
 else
 impl_CountRows_C0 S K i7_ h
theorem impl_CountRows_link0 (S : SatT) (K : KT) (X0 : XT) (i7_ : Int) (s20_ : Sl) (i21_ i22_ : Int) (h : H) : impl_CountRows_w0 S K X0 (impl_CountRows_e0 i7_ s20_ i21_ i22_) h = impl_CountRows_b0 S K X0 i7_ s20_ i21_ i22_ h := by kernel_rfl
theorem impl_CountRows_rule0 (S : SatT) (K : KT) (s20_ : Sl) (i21_ : Int) (I_ : Int → Int → H → Prop) (m_ : Int → Int → H → Nat)
    (hs : ∀ (X0 : XT) (i7_ i22_ : Int) (h : H), I_ i7_ i22_ h → (∀ (i7_' i22_' : Int) (h' : H), I_ i7_' i22_' h' → m_ i7_' i22_' h' < m_ i7_ i22_ h → X0 (impl_CountRows_e0 i7_' s20_ i21_ i22_') h') → impl_CountRows_b0 S K X0 i7_ s20_ i21_ i22_ h) (i7_ i22_ : Int) {h : H} (h0 : I_ i7_ i22_ h) : impl_CountRows_L0 S K i7_ s20_ i21_ i22_ h :=
  loop_rule (σ := (Int) × (Int)) (fun s_ => impl_CountRows_e0 (s_.1) s20_ i21_ (s_.2)) (fun s_ h => I_ (s_.1) (s_.2) h) (fun s_ h => m_ (s_.1) (s_.2) h)
    (fun X s_ h hi hx => (impl_CountRows_link0 S K X (s_.1) s20_ i21_ (s_.2) h).mpr (hs X (s_.1) (s_.2) h hi fun i7_' i22_' h' hi' hm' => hx (i7_', i22_') h' hi' hm')) (i7_, i22_) h0
def impl_CountRows_main (S : SatT) (K : KT) (x0 : List AVal) (x1 : Int) (h : H) : Prop :=
 newK 2 x0 h fun p0 h1 =>
 newO [.int .i64 x1] h1 fun p2 h3 =>
 ldA p0 2 h3 fun cs4 =>
 callI S .i64 i_impl_setCode [.agg cs4, .func 41 [.ptr p2]] h3 fun n6 h5 =>
 bif (n6 != (0)) then
 K (.tuple [.int .i64 (0), .int .i64 n6]) h5
 else
 ldA p0 2 h5 fun cs7 =>
 ldI .i64 p2 h5 fun n8 =>
 callS S i_impl_Set_ways [.agg cs7, .int .i64 n8] h5 fun s10 h9 =>
 impl_CountRows_L0 S K (0) s10 (s10.len : Int) (0) h9
theorem impl_CountRows_main_link (S : SatT) (K : KT) (x0 : List AVal) (x1 : Int) (h : H) : cwp S tab impl_CountRows_M [] (bodyOf Try.f19) (kFun tab Try.f19.results.toList K) (fr0 Try.f19 [.agg x0, .int .i64 x1]) h = impl_CountRows_main S K x0 x1 h := by kernel_rfl
theorem impl_CountRows_call (x0 : List AVal) (x1 : Int) (h : H) (K : KT) (hm : impl_CountRows_main (Sat Try.prog) (fun v h' => K v h') x0 x1 h) : callV (Sat Try.prog) i_impl_CountRows [.agg x0, .int .i64 x1] h K := by
  have := Sat.ex tok mixed impl_CountRows_M Try.func19 (c := bodyOf Try.f19) (by kernel_rfl) (calls_of Try.func19 (c := bodyOf Try.f19) (by kernel_rfl) (by decide)) ((impl_CountRows_main_link _ _ x0 x1 h).mpr hm)
  exact this

/-! ### loop.example/g01354/impl.LastingTiles -/
def impl_LastingTiles_M : Nat → List Nat := fun i => bif i == 0 then [4, 5, 6, 18, 19, 20] else []
def impl_LastingTiles_ks5 (S : SatT) (K : KT) : Kont := kSeq (cwp S tab impl_LastingTiles_M [] (sub [1, 1, 1, 1] (bodyOf Try.f6)) (kFun tab (Try.f6).results.toList K)) (kFun tab (Try.f6).results.toList K)
def impl_LastingTiles_e0 (s4_ s5_ : Sl) (s6_ s18_ : Sl) (i19_ i20_ : Int) : Frame := [U, U, U, U, .sl s4_, .sl s5_, .sl s6_, U, U, U, U, U, U, U, U, U, U, U, .sl s18_, .int .i64 i19_, .int .i64 i20_, U, U, U, U, U, U, U, U, U, U, U, U, U, U, U, U, U, U, U, U, U, U]
def impl_LastingTiles_w0 (S : SatT) (K : KT) : (XT) → XT := fun X fr h => cwp S tab impl_LastingTiles_M (impl_LastingTiles_M 0) (sub [1, 1, 1, 0, 1, 0, 0] (bodyOf Try.f6)) (kSeq (fun fr h => X (mask (impl_LastingTiles_M 0) fr) h) (kBlk 0 (impl_LastingTiles_ks5 S K))) fr h
def impl_LastingTiles_L0 (S : SatT) (K : KT) (s4_ s5_ : Sl) (s6_ s18_ : Sl) (i19_ i20_ : Int) (h : H) : Prop := loopK (impl_LastingTiles_w0 S K) (impl_LastingTiles_e0 s4_ s5_ s6_ s18_ i19_ i20_) h
def impl_LastingTiles_C0 (S : SatT) (K : KT) (s4_ : Sl) (h : H) : Prop :=
 K (.tuple [.sl s4_, .int .i64 (0)]) h
def impl_LastingTiles_b0 (S : SatT) (K : KT) (X0 : XT) (s4_ s5_ : Sl) (s6_ s18_ : Sl) (i19_ i20_ : Int) (h : H) : Prop :=
 bif (decide (i20_ < i19_)) then
 ixS s18_ 4 i20_ fun p0 =>
 ldA p0 4 h fun cs1 =>
 newO [.int .i64 (0), .int .i64 (0), .int .i64 (0), .int .i64 (0)] h fun p2 h3 =>
 stN p2 4 cs1 h3 fun h4 =>
 ixA p2 4 1 (0) fun p5 =>
 ldI .i64 p5 h4 fun n6 =>
 ixS s5_ 1 n6 fun p7 =>
 ldB p7 h4 fun b8 =>
 bif b8 then
 ixA p2 4 1 (2) fun p9 =>
 ldI .i64 p9 h4 fun n10 =>
 ixS s6_ 1 n10 fun p11 =>
 ldB p11 h4 fun b12 =>
 bif b12 then
 newS 1 1 [.int .i64 i20_] h4 fun s13 h14 =>
 app s4_ s13 1 h14 fun s15 h16 =>
 X0 (impl_LastingTiles_e0 s15 s5_ s6_ s18_ i19_ (w64 (i20_ + (1)))) h16
 else
 X0 (impl_LastingTiles_e0 s4_ s5_ s6_ s18_ i19_ (w64 (i20_ + (1)))) h4
 else
 X0 (impl_LastingTiles_e0 s4_ s5_ s6_ s18_ i19_ (w64 (i20_ + (1)))) h4
 else
 impl_LastingTiles_C0 S K s4_ h
theorem impl_LastingTiles_link0 (S : SatT) (K : KT) (X0 : XT) (s4_ s5_ : Sl) (s6_ s18_ : Sl) (i19_ i20_ : Int) (h : H) : impl_LastingTiles_w0 S K X0 (impl_LastingTiles_e0 s4_ s5_ s6_ s18_ i19_ i20_) h = impl_LastingTiles_b0 S K X0 s4_ s5_ s6_ s18_ i19_ i20_ h := by kernel_rfl
theorem impl_LastingTiles_rule0 (S : SatT) (K : KT) (s5_ s6_ s18_ : Sl) (i19_ : Int) (I_ : Sl → Int → H → Prop) (m_ : Sl → Int → H → Nat)
    (hs : ∀ (X0 : XT) (s4_ : Sl) (i20_ : Int) (h : H), I_ s4_ i20_ h → (∀ (s4_' : Sl) (i20_' : Int) (h' : H), I_ s4_' i20_' h' → m_ s4_' i20_' h' < m_ s4_ i20_ h → X0 (impl_LastingTiles_e0 s4_' s5_ s6_ s18_ i19_ i20_') h') → impl_LastingTiles_b0 S K X0 s4_ s5_ s6_ s18_ i19_ i20_ h) (s4_ : Sl) (i20_ : Int) {h : H} (h0 : I_ s4_ i20_ h) : impl_LastingTiles_L0 S K s4_ s5_ s6_ s18_ i19_ i20_ h :=
  loop_rule (σ := (Sl) × (Int)) (fun s_ => impl_LastingTiles_e0 (s_.1) s5_ s6_ s18_ i19_ (s_.2)) (fun s_ h => I_ (s_.1) (s_.2) h) (fun s_ h => m_ (s_.1) (s_.2) h)
    (fun X s_ h hi hx => (impl_LastingTiles_link0 S K X (s_.1) s5_ s6_ s18_ i19_ (s_.2) h).mpr (hs X (s_.1) (s_.2) h hi fun s4_' i20_' h' hi' hm' => hx (s4_', i20_') h' hi' hm')) (s4_, i20_) h0
def impl_LastingTiles_main (S : SatT) (K : KT) (x0 : List AVal) (h : H) : Prop :=
 newK 2 x0 h fun p0 h1 =>
 ldA p0 2 h1 fun cs2 =>
 callB S i_impl_IsSet [.agg cs2] h1 fun b4 h3 =>
 bif (!b4) then
 K (.tuple [.sl Sl.nil, .int .i64 (1)]) h3
 else
 slotK 8 h3 fun h5 =>
 ldA p0 2 h5 fun cs6 =>
 callS S i_impl_Set_endless [.agg cs6, .int .i64 (2), .int .i64 (0)] h5 fun s8 h7 =>
 ldA p0 2 h7 fun cs9 =>
(range h5 p0.o p0.n p0.off 2 = range h7 p0.o p0.n p0.off 2) ∧ (
 callS S i_impl_Set_endless [.agg cs9, .int .i64 (0), .int .i64 (2)] h7 fun s11 h10 =>
 newSat 0 1 [] h10 (h3.length + 0) fun s12 h13 =>
(range h10 p0.o p0.n p0.off 2 = range h7 p0.o p0.n p0.off 2) ∧ (
(range h10 p0.o p0.n p0.off 2 = range h5 p0.o p0.n p0.off 2) ∧ (
(range h13 p0.o p0.n p0.off 2 = range h7 p0.o p0.n p0.off 2) ∧ (
(range h13 p0.o p0.n p0.off 2 = range h5 p0.o p0.n p0.off 2) ∧ (
 isPt p0 (
 ldS (Pt.add p0 1) h13 fun s14 =>
 impl_LastingTiles_L0 S K s12 s8 s11 s14 (s14.len : Int) (0) h13))))))
theorem impl_LastingTiles_main_link (S : SatT) (K : KT) (x0 : List AVal) (h : H) : cwp S tab impl_LastingTiles_M [] (bodyOf Try.f6) (kFun tab Try.f6.results.toList K) (fr0 Try.f6 [.agg x0]) h = impl_LastingTiles_main S K x0 h := by kernel_rfl
theorem impl_LastingTiles_call (x0 : List AVal) (h : H) (K : KT) (hm : impl_LastingTiles_main (Sat Try.prog) (fun v h' => K v h') x0 h) : callV (Sat Try.prog) i_impl_LastingTiles [.agg x0] h K := by
  have := Sat.ex tok mixed impl_LastingTiles_M Try.func6 (c := bodyOf Try.f6) (by kernel_rfl) (calls_of Try.func6 (c := bodyOf Try.f6) (by kernel_rfl) (by decide)) ((impl_LastingTiles_main_link _ _ x0 h).mpr hm)
  exact this

/-! ### slices.Compare[[]int64,int64] -/
def slices_Compare_s_int64_int64__M : Nat → List Nat := fun i => bif i == 0 then [0, 1, 9, 10, 11] else []
def slices_Compare_s_int64_int64__ks1 (S : SatT) (K : KT) : Kont := kSeq (cwp S tab slices_Compare_s_int64_int64__M [] (sub [1, 1] (bodyOf Try.f60)) (kFun tab (Try.f60).results.toList K)) (kFun tab (Try.f60).results.toList K)
def slices_Compare_s_int64_int64__e0 (s0_ s1_ s9_ : Sl) (i10_ i11_ : Int) : Frame := [.sl s0_, .sl s1_, U, U, U, U, U, U, U, .sl s9_, .int .i64 i10_, .int .i64 i11_, U, U, U, U, U, U, U, U, U, U, U, U, U, U, U, U, U, U, U, U, U, U, U, U]
def slices_Compare_s_int64_int64__w0 (S : SatT) (K : KT) : (XT) → XT := fun X fr h => cwp S tab slices_Compare_s_int64_int64__M (slices_Compare_s_int64_int64__M 0) (sub [1, 0, 1, 0, 0] (bodyOf Try.f60)) (kSeq (fun fr h => X (mask (slices_Compare_s_int64_int64__M 0) fr) h) (kBlk 0 (slices_Compare_s_int64_int64__ks1 S K))) fr h
def slices_Compare_s_int64_int64__L0 (S : SatT) (K : KT) (s0_ s1_ s9_ : Sl) (i10_ i11_ : Int) (h : H) : Prop := loopK (slices_Compare_s_int64_int64__w0 S K) (slices_Compare_s_int64_int64__e0 s0_ s1_ s9_ i10_ i11_) h
def slices_Compare_s_int64_int64__C0 (S : SatT) (K : KT) (s0_ s1_ : Sl) (h : H) : Prop :=
 bif (decide ((s0_.len : Int) < (s1_.len : Int))) then
 K (.int .i64 (-1)) h
 else
 K (.int .i64 (0)) h
def slices_Compare_s_int64_int64__b0 (S : SatT) (K : KT) (X0 : XT) (s0_ s1_ s9_ : Sl) (i10_ i11_ : Int) (h : H) : Prop :=
 bif (decide (i11_ < i10_)) then
 ixS s9_ 1 i11_ fun p0 =>
 ldI .i64 p0 h fun n1 =>
 bif (decide (i11_ ≥ (s1_.len : Int))) then
 K (.int .i64 (1)) h
 else
 ixS s1_ 1 i11_ fun p2 =>
 ldI .i64 p2 h fun n3 =>
 callI S .i64 i_cmp_Compare_int64_ [.int .i64 n1, .int .i64 n3] h fun n5 h4 =>
 bif (n5 != (0)) then
 K (.int .i64 n5) h4
 else
 X0 (slices_Compare_s_int64_int64__e0 s0_ s1_ s9_ i10_ (w64 (i11_ + (1)))) h4
 else
 slices_Compare_s_int64_int64__C0 S K s0_ s1_ h
theorem slices_Compare_s_int64_int64__link0 (S : SatT) (K : KT) (X0 : XT) (s0_ s1_ s9_ : Sl) (i10_ i11_ : Int) (h : H) : slices_Compare_s_int64_int64__w0 S K X0 (slices_Compare_s_int64_int64__e0 s0_ s1_ s9_ i10_ i11_) h = slices_Compare_s_int64_int64__b0 S K X0 s0_ s1_ s9_ i10_ i11_ h := by kernel_rfl
theorem slices_Compare_s_int64_int64__rule0 (S : SatT) (K : KT) (s0_ s1_ s9_ : Sl) (i10_ : Int) (I_ : Int → H → Prop) (m_ : Int → H → Nat)
    (hs : ∀ (X0 : XT) (i11_ : Int) (h : H), I_ i11_ h → (∀ (i11_' : Int) (h' : H), I_ i11_' h' → m_ i11_' h' < m_ i11_ h → X0 (slices_Compare_s_int64_int64__e0 s0_ s1_ s9_ i10_ i11_') h') → slices_Compare_s_int64_int64__b0 S K X0 s0_ s1_ s9_ i10_ i11_ h) (i11_ : Int) {h : H} (h0 : I_ i11_ h) : slices_Compare_s_int64_int64__L0 S K s0_ s1_ s9_ i10_ i11_ h :=
  loop_rule (σ := (Int)) (fun s_ => slices_Compare_s_int64_int64__e0 s0_ s1_ s9_ i10_ (s_)) (fun s_ h => I_ (s_) h) (fun s_ h => m_ (s_) h)
    (fun X s_ h hi hx => (slices_Compare_s_int64_int64__link0 S K X s0_ s1_ s9_ i10_ (s_) h).mpr (hs X (s_) h hi fun i11_' h' hi' hm' => hx (i11_') h' hi' hm')) (i11_) h0
def slices_Compare_s_int64_int64__main (S : SatT) (K : KT) (x0 x1 : Sl) (h : H) : Prop :=
 slices_Compare_s_int64_int64__L0 S K x0 x1 x0 (x0.len : Int) (0) h
theorem slices_Compare_s_int64_int64__main_link (S : SatT) (K : KT) (x0 x1 : Sl) (h : H) : cwp S tab slices_Compare_s_int64_int64__M [] (bodyOf Try.f60) (kFun tab Try.f60.results.toList K) (fr0 Try.f60 [.sl x0, .sl x1]) h = slices_Compare_s_int64_int64__main S K x0 x1 h := by kernel_rfl
theorem slices_Compare_s_int64_int64__call (x0 x1 : Sl) (h : H) (K : Int → H → Prop) (hm : slices_Compare_s_int64_int64__main (Sat Try.prog) (fun v h' => ∃ r, v = .int .i64 r ∧ K r h') x0 x1 h) : callI (Sat Try.prog) .i64 i_slices_Compare_s_int64_int64_ [.sl x0, .sl x1] h K := by
  have := Sat.ex tok mixed slices_Compare_s_int64_int64__M Try.func60 (c := bodyOf Try.f60) (by kernel_rfl) (calls_of Try.func60 (c := bodyOf Try.f60) (by kernel_rfl) (by decide)) ((slices_Compare_s_int64_int64__main_link _ _ x0 x1 h).mpr hm)
  obtain ⟨v, h2, h3, r, rfl, h4⟩ := this; exact ⟨r, h2, h3, h4⟩

/-! ### (loop.example/g01354/impl.Set).with -/
def impl_Set_with_M : Nat → List Nat := fun i => bif i == 0 then [1, 2, 7, 12, 13, 14] else []
def impl_Set_with_ks2 (S : SatT) (K : KT) : Kont := kSeq (cwp S tab impl_Set_with_M [] (sub [1, 1, 1] (bodyOf Try.f31)) (kFun tab (Try.f31).results.toList K)) (kFun tab (Try.f31).results.toList K)
def impl_Set_with_e0 (i1_ i2_ : Int) (s7_ s12_ : Sl) (i13_ i14_ : Int) : Frame := [U, .int .i64 i1_, .int .i64 i2_, U, U, U, U, .sl s7_, U, U, U, U, .sl s12_, .int .i64 i13_, .int .i64 i14_, U, U, U, U, U, U, U, U, U, U, U, U, U, U, U]
def impl_Set_with_w0 (S : SatT) (K : KT) : (XT) → XT := fun X fr h => cwp S tab impl_Set_with_M (impl_Set_with_M 0) (sub [1, 1, 0, 1, 0, 0] (bodyOf Try.f31)) (kSeq (fun fr h => X (mask (impl_Set_with_M 0) fr) h) (kBlk 0 (impl_Set_with_ks2 S K))) fr h
def impl_Set_with_L0 (S : SatT) (K : KT) (i1_ i2_ : Int) (s7_ s12_ : Sl) (i13_ i14_ : Int) (h : H) : Prop := loopK (impl_Set_with_w0 S K) (impl_Set_with_e0 i1_ i2_ s7_ s12_ i13_ i14_) h
def impl_Set_with_C0 (S : SatT) (K : KT) (s7_ : Sl) (h : H) : Prop :=
 K (.sl s7_) h
def impl_Set_with_b0 (S : SatT) (K : KT) (X0 : XT) (i1_ i2_ : Int) (s7_ s12_ : Sl) (i13_ i14_ : Int) (h : H) : Prop :=
 bif (decide (i14_ < i13_)) then
 ixS s12_ 4 i14_ fun p0 =>
 ldA p0 4 h fun cs1 =>
 newO [.int .i64 (0), .int .i64 (0), .int .i64 (0), .int .i64 (0)] h fun p2 h3 =>
 stN p2 4 cs1 h3 fun h4 =>
 ixA p2 4 1 i1_ fun p5 =>
 ldI .i64 p5 h4 fun n6 =>
 bif (n6 == i2_) then
 newS 1 1 [.int .i64 i14_] h4 fun s7 h8 =>
 app s7_ s7 1 h8 fun s9 h10 =>
 X0 (impl_Set_with_e0 i1_ i2_ s9 s12_ i13_ (w64 (i14_ + (1)))) h10
 else
 X0 (impl_Set_with_e0 i1_ i2_ s7_ s12_ i13_ (w64 (i14_ + (1)))) h4
 else
 impl_Set_with_C0 S K s7_ h
theorem impl_Set_with_link0 (S : SatT) (K : KT) (X0 : XT) (i1_ i2_ : Int) (s7_ s12_ : Sl) (i13_ i14_ : Int) (h : H) : impl_Set_with_w0 S K X0 (impl_Set_with_e0 i1_ i2_ s7_ s12_ i13_ i14_) h = impl_Set_with_b0 S K X0 i1_ i2_ s7_ s12_ i13_ i14_ h := by kernel_rfl
theorem impl_Set_with_rule0 (S : SatT) (K : KT) (i1_ i2_ : Int) (s12_ : Sl) (i13_ : Int) (I_ : Sl → Int → H → Prop) (m_ : Sl → Int → H → Nat)
    (hs : ∀ (X0 : XT) (s7_ : Sl) (i14_ : Int) (h : H), I_ s7_ i14_ h → (∀ (s7_' : Sl) (i14_' : Int) (h' : H), I_ s7_' i14_' h' → m_ s7_' i14_' h' < m_ s7_ i14_ h → X0 (impl_Set_with_e0 i1_ i2_ s7_' s12_ i13_ i14_') h') → impl_Set_with_b0 S K X0 i1_ i2_ s7_ s12_ i13_ i14_ h) (s7_ : Sl) (i14_ : Int) {h : H} (h0 : I_ s7_ i14_ h) : impl_Set_with_L0 S K i1_ i2_ s7_ s12_ i13_ i14_ h :=
  loop_rule (σ := (Sl) × (Int)) (fun s_ => impl_Set_with_e0 i1_ i2_ (s_.1) s12_ i13_ (s_.2)) (fun s_ h => I_ (s_.1) (s_.2) h) (fun s_ h => m_ (s_.1) (s_.2) h)
    (fun X s_ h hi hx => (impl_Set_with_link0 S K X i1_ i2_ (s_.1) s12_ i13_ (s_.2) h).mpr (hs X (s_.1) (s_.2) h hi fun s7_' i14_' h' hi' hm' => hx (s7_', i14_') h' hi' hm')) (s7_, i14_) h0
def impl_Set_with_main (S : SatT) (K : KT) (x0 : List AVal) (x1 x2 : Int) (h : H) : Prop :=
 newK 2 x0 h fun p0 h1 =>
 newS 0 1 [] h1 fun s2 h3 =>
 isPt p0 (
 ldS (Pt.add p0 1) h3 fun s4 =>
 impl_Set_with_L0 S K x1 x2 s2 s4 (s4.len : Int) (0) h3)
theorem impl_Set_with_main_link (S : SatT) (K : KT) (x0 : List AVal) (x1 x2 : Int) (h : H) : cwp S tab impl_Set_with_M [] (bodyOf Try.f31) (kFun tab Try.f31.results.toList K) (fr0 Try.f31 [.agg x0, .int .i64 x1, .int .i64 x2]) h = impl_Set_with_main S K x0 x1 x2 h := by kernel_rfl
theorem impl_Set_with_call (x0 : List AVal) (x1 x2 : Int) (h : H) (K : Sl → H → Prop) (hm : impl_Set_with_main (Sat Try.prog) (fun v h' => ∃ r, v = .sl r ∧ K r h') x0 x1 x2 h) : callS (Sat Try.prog) i_impl_Set_with [.agg x0, .int .i64 x1, .int .i64 x2] h K := by
  have := Sat.ex tok mixed impl_Set_with_M Try.func31 (c := bodyOf Try.f31) (by kernel_rfl) (calls_of Try.func31 (c := bodyOf Try.f31) (by kernel_rfl) (by decide)) ((impl_Set_with_main_link _ _ x0 x1 x2 h).mpr hm)
  obtain ⟨v, h2, h3, r, rfl, h4⟩ := this; exact ⟨r, h2, h3, h4⟩

/-! ### slices.IndexFunc[[]int64,int64] -/
def slices_IndexFunc_s_int64_int64__M : Nat → List Nat := fun i => bif i == 0 then [0, 1, 7, 8] else []
def slices_IndexFunc_s_int64_int64__ks1 (S : SatT) (K : KT) : Kont := kSeq (cwp S tab slices_IndexFunc_s_int64_int64__M [] (sub [1, 1] (bodyOf Try.f67)) (kFun tab (Try.f67).results.toList K)) (kFun tab (Try.f67).results.toList K)
def slices_IndexFunc_s_int64_int64__e0 (s0_ : Sl) (f1_ : AVal) (i7_ i8_ : Int) : Frame := [.sl s0_, f1_, U, U, U, U, U, .int .i64 i7_, .int .i64 i8_, U, U, U, U, U, U, U, U, U, U]
def slices_IndexFunc_s_int64_int64__w0 (S : SatT) (K : KT) : (XT) → XT := fun X fr h => cwp S tab slices_IndexFunc_s_int64_int64__M (slices_IndexFunc_s_int64_int64__M 0) (sub [1, 0, 1, 0, 0] (bodyOf Try.f67)) (kSeq (fun fr h => X (mask (slices_IndexFunc_s_int64_int64__M 0) fr) h) (kBlk 0 (slices_IndexFunc_s_int64_int64__ks1 S K))) fr h
def slices_IndexFunc_s_int64_int64__L0 (S : SatT) (K : KT) (s0_ : Sl) (f1_ : AVal) (i7_ i8_ : Int) (h : H) : Prop := loopK (slices_IndexFunc_s_int64_int64__w0 S K) (slices_IndexFunc_s_int64_int64__e0 s0_ f1_ i7_ i8_) h
def slices_IndexFunc_s_int64_int64__C0 (S : SatT) (K : KT) (h : H) : Prop :=
 K (.int .i64 (-1)) h
def slices_IndexFunc_s_int64_int64__b0 (S : SatT) (K : KT) (X0 : XT) (s0_ : Sl) (f1_ : AVal) (i7_ i8_ : Int) (h : H) : Prop :=
 bif (decide (i8_ < i7_)) then
 ixS s0_ 1 i8_ fun p0 =>
 ldI .i64 p0 h fun n1 =>
 viaF f1_ [.int .i64 n1] fun g2 ys3 =>
 callB S g2 ys3 h fun b5 h4 =>
 bif b5 then
 K (.int .i64 i8_) h4
 else
 X0 (slices_IndexFunc_s_int64_int64__e0 s0_ f1_ i7_ (w64 (i8_ + (1)))) h4
 else
 slices_IndexFunc_s_int64_int64__C0 S K h
theorem slices_IndexFunc_s_int64_int64__link0 (S : SatT) (K : KT) (X0 : XT) (s0_ : Sl) (f1_ : AVal) (i7_ i8_ : Int) (h : H) : slices_IndexFunc_s_int64_int64__w0 S K X0 (slices_IndexFunc_s_int64_int64__e0 s0_ f1_ i7_ i8_) h = slices_IndexFunc_s_int64_int64__b0 S K X0 s0_ f1_ i7_ i8_ h := by kernel_rfl
theorem slices_IndexFunc_s_int64_int64__rule0 (S : SatT) (K : KT) (s0_ : Sl) (f1_ : AVal) (i7_ : Int) (I_ : Int → H → Prop) (m_ : Int → H → Nat)
    (hs : ∀ (X0 : XT) (i8_ : Int) (h : H), I_ i8_ h → (∀ (i8_' : Int) (h' : H), I_ i8_' h' → m_ i8_' h' < m_ i8_ h → X0 (slices_IndexFunc_s_int64_int64__e0 s0_ f1_ i7_ i8_') h') → slices_IndexFunc_s_int64_int64__b0 S K X0 s0_ f1_ i7_ i8_ h) (i8_ : Int) {h : H} (h0 : I_ i8_ h) : slices_IndexFunc_s_int64_int64__L0 S K s0_ f1_ i7_ i8_ h :=
  loop_rule (σ := (Int)) (fun s_ => slices_IndexFunc_s_int64_int64__e0 s0_ f1_ i7_ (s_)) (fun s_ h => I_ (s_) h) (fun s_ h => m_ (s_) h)
    (fun X s_ h hi hx => (slices_IndexFunc_s_int64_int64__link0 S K X s0_ f1_ i7_ (s_) h).mpr (hs X (s_) h hi fun i8_' h' hi' hm' => hx (i8_') h' hi' hm')) (i8_) h0
def slices_IndexFunc_s_int64_int64__main (S : SatT) (K : KT) (x0 : Sl) (x1 : AVal) (h : H) : Prop :=
 slices_IndexFunc_s_int64_int64__L0 S K x0 x1 (x0.len : Int) (0) h
theorem slices_IndexFunc_s_int64_int64__main_link (S : SatT) (K : KT) (x0 : Sl) (x1 : AVal) (h : H) : cwp S tab slices_IndexFunc_s_int64_int64__M [] (bodyOf Try.f67) (kFun tab Try.f67.results.toList K) (fr0 Try.f67 [.sl x0, x1]) h = slices_IndexFunc_s_int64_int64__main S K x0 x1 h := by kernel_rfl
theorem slices_IndexFunc_s_int64_int64__call (x0 : Sl) (x1 : AVal) (h : H) (K : Int → H → Prop) (hm : slices_IndexFunc_s_int64_int64__main (Sat Try.prog) (fun v h' => ∃ r, v = .int .i64 r ∧ K r h') x0 x1 h) : callI (Sat Try.prog) .i64 i_slices_IndexFunc_s_int64_int64_ [.sl x0, x1] h K := by
  have := Sat.ex tok mixed slices_IndexFunc_s_int64_int64__M Try.func67 (c := bodyOf Try.f67) (by kernel_rfl) (calls_of Try.func67 (c := bodyOf Try.f67) (by kernel_rfl) (by decide)) ((slices_IndexFunc_s_int64_int64__main_link _ _ x0 x1 h).mpr hm)
  obtain ⟨v, h2, h3, r, rfl, h4⟩ := this; exact ⟨r, h2, h3, h4⟩

/-! ### loop.example/g01354/spec.l01Number -/
def spec_l01Number_M : Nat → List Nat := fun i => bif i == 0 then [0, 3, 4] else []
def spec_l01Number_ks7 (S : SatT) (K : KT) : Kont := kSeq (cwp S tab spec_l01Number_M [] (sub [1, 1, 1, 1] (bodyOf Try.f81)) (kFun tab (Try.f81).results.toList K)) (kFun tab (Try.f81).results.toList K)
def spec_l01Number_e0 (f0_ : AVal) (i3_ i4_ : Int) : Frame := [f0_, U, U, .int .i64 i3_, .int .i64 i4_, U, U, U, U, U, U, U, U, U, U, U, U, U, U, U, U, U, U, U, U, U, U, U, U, U, U, U, U, U, U, U, U, U, U, U, U, U, U, U, U, U, U, U]
def spec_l01Number_w0 (S : SatT) (K : KT) : (XT) → XT := fun X fr h => cwp S tab spec_l01Number_M (spec_l01Number_M 0) (sub [1, 1, 1, 0, 1, 0, 0] (bodyOf Try.f81)) (kSeq (fun fr h => X (mask (spec_l01Number_M 0) fr) h) (kBlk 0 (spec_l01Number_ks7 S K))) fr h
def spec_l01Number_L0 (S : SatT) (K : KT) (f0_ : AVal) (i3_ i4_ : Int) (h : H) : Prop := loopK (spec_l01Number_w0 S K) (spec_l01Number_e0 f0_ i3_ i4_) h
def spec_l01Number_C0 (S : SatT) (K : KT) (i3_ : Int) (h : H) : Prop :=
 K (.int .i64 i3_) h
def spec_l01Number_b0 (S : SatT) (K : KT) (X0 : XT) (f0_ : AVal) (i3_ i4_ : Int) (h : H) : Prop :=
 viaStr f0_ fun t0 =>
 bif (decide (i4_ < (t0.size : Int))) then
 viaStr f0_ fun t1 =>
 ixStr t1 i4_ fun n2 =>
 bif (decide (n2 < (48))) then
 K (.int .i64 (-1)) h
 else
 viaStr f0_ fun t3 =>
 ixStr t3 i4_ fun n4 =>
 bif (decide (n4 > (57))) then
 K (.int .i64 (-1)) h
 else
 viaStr f0_ fun t5 =>
 ixStr t5 i4_ fun n6 =>
 X0 (spec_l01Number_e0 f0_ (w64 ((w64 (i3_ * (10))) + (w64 ((IntKind.wrap .u8 (n6 - (48))))))) (w64 (i4_ + (1)))) h
 else
 spec_l01Number_C0 S K i3_ h
theorem spec_l01Number_link0 (S : SatT) (K : KT) (X0 : XT) (f0_ : AVal) (i3_ i4_ : Int) (h : H) : spec_l01Number_w0 S K X0 (spec_l01Number_e0 f0_ i3_ i4_) h = spec_l01Number_b0 S K X0 f0_ i3_ i4_ h := by kernel_rfl
theorem spec_l01Number_rule0 (S : SatT) (K : KT) (f0_ : AVal) (I_ : Int → Int → H → Prop) (m_ : Int → Int → H → Nat)
    (hs : ∀ (X0 : XT) (i3_ i4_ : Int) (h : H), I_ i3_ i4_ h → (∀ (i3_' i4_' : Int) (h' : H), I_ i3_' i4_' h' → m_ i3_' i4_' h' < m_ i3_ i4_ h → X0 (spec_l01Number_e0 f0_ i3_' i4_') h') → spec_l01Number_b0 S K X0 f0_ i3_ i4_ h) (i3_ i4_ : Int) {h : H} (h0 : I_ i3_ i4_ h) : spec_l01Number_L0 S K f0_ i3_ i4_ h :=
  loop_rule (σ := (Int) × (Int)) (fun s_ => spec_l01Number_e0 f0_ (s_.1) (s_.2)) (fun s_ h => I_ (s_.1) (s_.2) h) (fun s_ h => m_ (s_.1) (s_.2) h)
    (fun X s_ h hi hx => (spec_l01Number_link0 S K X f0_ (s_.1) (s_.2) h).mpr (hs X (s_.1) (s_.2) h hi fun i3_' i4_' h' hi' hm' => hx (i3_', i4_') h' hi' hm')) (i3_, i4_) h0
def spec_l01Number_main (S : SatT) (K : KT) (x0 : AVal) (h : H) : Prop :=
 viaStr x0 fun t0 =>
 bif ((t0.size : Int) == (0)) then
 K (.int .i64 (-1)) h
 else
 viaStr x0 fun t1 =>
 bif (decide ((t1.size : Int) > (9))) then
 K (.int .i64 (-1)) h
 else
 viaStr x0 fun t2 =>
 bif (decide ((t2.size : Int) > (1))) then
 viaStr x0 fun t3 =>
 ixStr t3 (0) fun n4 =>
 bif (n4 == (48)) then
 K (.int .i64 (-1)) h
 else
 spec_l01Number_L0 S K x0 (0) (0) h
 else
 spec_l01Number_L0 S K x0 (0) (0) h
theorem spec_l01Number_main_link (S : SatT) (K : KT) (x0 : AVal) (h : H) : cwp S tab spec_l01Number_M [] (bodyOf Try.f81) (kFun tab Try.f81.results.toList K) (fr0 Try.f81 [x0]) h = spec_l01Number_main S K x0 h := by kernel_rfl
theorem spec_l01Number_call (x0 : AVal) (h : H) (K : Int → H → Prop) (hm : spec_l01Number_main (Sat Try.prog) (fun v h' => ∃ r, v = .int .i64 r ∧ K r h') x0 h) : callI (Sat Try.prog) .i64 i_spec_l01Number [x0] h K := by
  have := Sat.ex tok mixed spec_l01Number_M Try.func81 (c := bodyOf Try.f81) (by kernel_rfl) (calls_of Try.func81 (c := bodyOf Try.f81) (by kernel_rfl) (by decide)) ((spec_l01Number_main_link _ _ x0 h).mpr hm)
  obtain ⟨v, h2, h3, r, rfl, h4⟩ := this; exact ⟨r, h2, h3, h4⟩

/-! ### loop.example/g01354/impl.TrimSet -/
def impl_TrimSet_M : Nat → List Nat := fun i => bif i == 0 then [2, 4] else []
def impl_TrimSet_e0 (p2_ p4_ : Pt) : Frame := [U, U, .ptr p2_, U, .ptr p4_, U, U, U, U, U, U, U, U, U, U, U, U, U, U, U, U, U, U, U, U, U, U, U, U, U]
def impl_TrimSet_w0 (S : SatT) (K : KT) : (XT) → XT := fun X fr h => cwp S tab impl_TrimSet_M (impl_TrimSet_M 0) (sub [1, 1, 1, 0, 0] (bodyOf Try.f13)) (kSeq (fun fr h => X (mask (impl_TrimSet_M 0) fr) h) (kBlk 0 (kFun tab (Try.f13).results.toList K))) fr h
def impl_TrimSet_L0 (S : SatT) (K : KT) (p2_ p4_ : Pt) (h : H) : Prop := loopK (impl_TrimSet_w0 S K) (impl_TrimSet_e0 p2_ p4_) h
def impl_TrimSet_b0 (S : SatT) (K : KT) (X0 : XT) (p2_ p4_ : Pt) (h : H) : Prop :=
 isPt p4_ (
 ldS (Pt.add p4_ 1) h fun s0 =>
 callI S .i64 i_slices_IndexFunc_s_impl_Tile_impl_Tile_ [.sl s0, .func 30 [.ptr p4_]] h fun n2 h1 =>
 bif (decide (n2 < (0))) then
 ldA p4_ 2 h1 fun cs3 =>
 stN p2_ 2 cs3 h1 fun h4 =>
 ldA p2_ 2 h4 fun cs5 =>
 K (.tuple [.agg cs5, .int .i64 (0)]) h4
 else
 isPt p4_ (
 ldS (Pt.add p4_ 1) h1 fun s6 =>
 callS S i_slices_Delete_s_impl_Tile_impl_Tile_ [.sl s6, .int .i64 n2, .int .i64 (w64 (n2 + (1)))] h1 fun s8 h7 =>
 isPt p4_ (
 st1 (Pt.add p4_ 1) (.sl s8) h7 fun h9 =>
 X0 (impl_TrimSet_e0 p2_ p4_) h9)))
theorem impl_TrimSet_link0 (S : SatT) (K : KT) (X0 : XT) (p2_ p4_ : Pt) (h : H) : impl_TrimSet_w0 S K X0 (impl_TrimSet_e0 p2_ p4_) h = impl_TrimSet_b0 S K X0 p2_ p4_ h := by kernel_rfl
theorem impl_TrimSet_rule0 (S : SatT) (K : KT) (p2_ p4_ : Pt) (I_ : H → Prop) (m_ : H → Nat)
    (hs : ∀ (X0 : XT) (h : H), I_ h → (∀ (h' : H), I_ h' → m_ h' < m_ h → X0 (impl_TrimSet_e0 p2_ p4_) h') → impl_TrimSet_b0 S K X0 p2_ p4_ h) {h : H} (h0 : I_ h) : impl_TrimSet_L0 S K p2_ p4_ h :=
  loop_rule (σ := Unit) (fun s_ => impl_TrimSet_e0 p2_ p4_) (fun s_ h => I_ h) (fun s_ h => m_ h)
    (fun X s_ h hi hx => (impl_TrimSet_link0 S K X p2_ p4_ h).mpr (hs X h hi fun h' hi' hm' => hx () h' hi' hm')) () h0
def impl_TrimSet_main (S : SatT) (K : KT) (x0 : List AVal) (h : H) : Prop :=
 newK 2 x0 h fun p0 h1 =>
 newO [.int .i64 (0), .sl Sl.nil] h1 fun p2 h3 =>
 ldA p0 2 h3 fun cs4 =>
 callB S i_impl_IsSet [.agg cs4] h3 fun b6 h5 =>
 bif (!b6) then
 stN p2 2 [.int .i64 (0), .sl Sl.nil] h5 fun h7 =>
 ldA p2 2 h7 fun cs8 =>
 K (.tuple [.agg cs8, .int .i64 (1)]) h7
 else
 slotK 8 h5 fun h9 =>
 isPt p0 (
 ldI .i64 (Pt.add p0 0) h9 fun n10 =>
 isPt p0 (
 ldS (Pt.add p0 1) h9 fun s11 =>
 callS S i_slices_Clone_s_impl_Tile_impl_Tile_ [.sl s11] h9 fun s13 h12 =>
(cell h12 (Pt.add p0 0) = cell h9 (Pt.add p0 0)) ∧ (
 newOat [.int .i64 (0), .sl Sl.nil] h12 (h5.length + 6) fun p14 h15 =>
(cell h12 (Pt.add p0 1) = cell h9 (Pt.add p0 1)) ∧ (
(cell h15 (Pt.add p0 1) = cell h9 (Pt.add p0 1)) ∧ (
(cell h15 (Pt.add p0 0) = cell h9 (Pt.add p0 0)) ∧ (
 stN p14 2 [.int .i64 n10, .sl s13] h15 fun h16 =>
 impl_TrimSet_L0 S K p2 p14 h16))))))
theorem impl_TrimSet_main_link (S : SatT) (K : KT) (x0 : List AVal) (h : H) : cwp S tab impl_TrimSet_M [] (bodyOf Try.f13) (kFun tab Try.f13.results.toList K) (fr0 Try.f13 [.agg x0]) h = impl_TrimSet_main S K x0 h := by kernel_rfl
theorem impl_TrimSet_call (x0 : List AVal) (h : H) (K : KT) (hm : impl_TrimSet_main (Sat Try.prog) (fun v h' => K v h') x0 h) : callV (Sat Try.prog) i_impl_TrimSet [.agg x0] h K := by
  have := Sat.ex tok mixed impl_TrimSet_M Try.func13 (c := bodyOf Try.f13) (by kernel_rfl) (calls_of Try.func13 (c := bodyOf Try.f13) (by kernel_rfl) (by decide)) ((impl_TrimSet_main_link _ _ x0 h).mpr hm)
  exact this

/-! ### loop.example/g01354/spec.l01From -/
def spec_l01From_M : Nat → List Nat := fun i => bif i == 0 then [0, 3, 4] else []
def spec_l01From_ks2 (S : SatT) (K : KT) : Kont := kSeq (cwp S tab spec_l01From_M [] (sub [1, 1, 1] (bodyOf Try.f21)) (kFun tab (Try.f21).results.toList K)) (kFun tab (Try.f21).results.toList K)
def spec_l01From_e0 (s0_ : Sl) (p3_ : Pt) (i4_ : Int) : Frame := [.sl s0_, U, U, .ptr p3_, .int .i64 i4_, U, U, U, U, U, U, U, U, U, U, U, U, U, U, U, U, U, U, U, U, U, U, U, U, U, U, U, U, U, U, U, U, U]
def spec_l01From_w0 (S : SatT) (K : KT) : (XT) → XT := fun X fr h => cwp S tab spec_l01From_M (spec_l01From_M 0) (sub [1, 1, 0, 1, 0, 0] (bodyOf Try.f21)) (kSeq (fun fr h => X (mask (spec_l01From_M 0) fr) h) (kBlk 0 (spec_l01From_ks2 S K))) fr h
def spec_l01From_L0 (S : SatT) (K : KT) (s0_ : Sl) (p3_ : Pt) (i4_ : Int) (h : H) : Prop := loopK (spec_l01From_w0 S K) (spec_l01From_e0 s0_ p3_ i4_) h
def spec_l01From_C0 (S : SatT) (K : KT) (p3_ : Pt) (h : H) : Prop :=
 K (.ptr p3_) h
def spec_l01From_b0 (S : SatT) (K : KT) (X0 : XT) (s0_ : Sl) (p3_ : Pt) (i4_ : Int) (h : H) : Prop :=
 bif (decide (i4_ < (s0_.len : Int))) then
 bif (decide (i4_ < (4096))) then
 nilC (.ptr p3_) (
 isPt p3_ (
 ldI .u64 (Pt.add p3_ 2) h fun n0 =>
 ixS s0_ 1 i4_ fun p1 =>
 ldI .u8 p1 h fun n2 =>
 nilC (.ptr p3_) (
 isPt p3_ (
 st1 (Pt.add p3_ 2) (.int .u64 (IntKind.wrap .u64 ((IntKind.wrap .u64 ((IntKind.wrap .u64 (n0 * (1099511628211))) + (IntKind.wrap .u64 (n2)))) + (191)))) h fun h3 =>
 X0 (spec_l01From_e0 s0_ p3_ (w64 (i4_ + (1)))) h3))))
 else
 spec_l01From_C0 S K p3_ h
 else
 spec_l01From_C0 S K p3_ h
theorem spec_l01From_link0 (S : SatT) (K : KT) (X0 : XT) (s0_ : Sl) (p3_ : Pt) (i4_ : Int) (h : H) : spec_l01From_w0 S K X0 (spec_l01From_e0 s0_ p3_ i4_) h = spec_l01From_b0 S K X0 s0_ p3_ i4_ h := by kernel_rfl
theorem spec_l01From_rule0 (S : SatT) (K : KT) (s0_ : Sl) (p3_ : Pt) (I_ : Int → H → Prop) (m_ : Int → H → Nat)
    (hs : ∀ (X0 : XT) (i4_ : Int) (h : H), I_ i4_ h → (∀ (i4_' : Int) (h' : H), I_ i4_' h' → m_ i4_' h' < m_ i4_ h → X0 (spec_l01From_e0 s0_ p3_ i4_') h') → spec_l01From_b0 S K X0 s0_ p3_ i4_ h) (i4_ : Int) {h : H} (h0 : I_ i4_ h) : spec_l01From_L0 S K s0_ p3_ i4_ h :=
  loop_rule (σ := (Int)) (fun s_ => spec_l01From_e0 s0_ p3_ (s_)) (fun s_ h => I_ (s_) h) (fun s_ h => m_ (s_) h)
    (fun X s_ h hi hx => (spec_l01From_link0 S K X s0_ p3_ (s_) h).mpr (hs X (s_) h hi fun i4_' h' hi' hm' => hx (i4_') h' hi' hm')) (i4_) h0
def spec_l01From_main (S : SatT) (K : KT) (x0 : Sl) (h : H) : Prop :=
 newK 3 [.sl x0, .int .i64 (0), .int .u64 (IntKind.wrap .u64 ((13541) + (IntKind.wrap .u64 ((x0.len : Int)))))] h fun p0 h1 =>
 spec_l01From_L0 S K x0 p0 (0) h1
theorem spec_l01From_main_link (S : SatT) (K : KT) (x0 : Sl) (h : H) : cwp S tab spec_l01From_M [] (bodyOf Try.f21) (kFun tab Try.f21.results.toList K) (fr0 Try.f21 [.sl x0]) h = spec_l01From_main S K x0 h := by kernel_rfl
theorem spec_l01From_call (x0 : Sl) (h : H) (K : Pt → H → Prop) (hm : spec_l01From_main (Sat Try.prog) (fun v h' => ∃ r, v = .ptr r ∧ K r h') x0 h) : callP (Sat Try.prog) i_spec_l01From [.sl x0] h K := by
  have := Sat.ex tok mixed spec_l01From_M Try.func21 (c := bodyOf Try.f21) (by kernel_rfl) (calls_of Try.func21 (c := bodyOf Try.f21) (by kernel_rfl) (by decide)) ((spec_l01From_main_link _ _ x0 h).mpr hm)
  obtain ⟨v, h2, h3, r, rfl, h4⟩ := this; exact ⟨r, h2, h3, h4⟩

/-! ### loop.example/g01354/impl.limited -/
def impl_limited_M : Nat → List Nat := fun i => []
def impl_limited_main (S : SatT) (K : KT) (x0 : Int) (x1 : Sl) (h : H) : Prop :=
 newO [.int .i64 (0), .sl Sl.nil] h fun p0 h1 =>
 callV S i_impl_setOf [.int .i64 x0, .sl x1] h1 fun v3 h2 =>
 viaT v3 fun vs4 =>
 exA vs4 0 fun cs5 =>
 viaT v3 fun vs6 =>
 exB vs6 1 fun b7 =>
 newO [.int .i64 (0), .sl Sl.nil] h2 fun p8 h9 =>
 stN p8 2 cs5 h9 fun h10 =>
 bif (!b7) then
 stN p0 2 [.int .i64 (0), .sl Sl.nil] h10 fun h11 =>
 ldA p0 2 h11 fun cs12 =>
 K (.tuple [.agg cs12, .int .i64 (3)]) h11
 else
 ldA p8 2 h10 fun cs13 =>
 stN p0 2 cs13 h10 fun h14 =>
 ldA p0 2 h14 fun cs15 =>
 K (.tuple [.agg cs15, .int .i64 (0)]) h14
theorem impl_limited_main_link (S : SatT) (K : KT) (x0 : Int) (x1 : Sl) (h : H) : cwp S tab impl_limited_M [] (bodyOf Try.f52) (kFun tab Try.f52.results.toList K) (fr0 Try.f52 [.int .i64 x0, .sl x1]) h = impl_limited_main S K x0 x1 h := by kernel_rfl
theorem impl_limited_call (x0 : Int) (x1 : Sl) (h : H) (K : KT) (hm : impl_limited_main (Sat Try.prog) (fun v h' => K v h') x0 x1 h) : callV (Sat Try.prog) i_impl_limited [.int .i64 x0, .sl x1] h K := by
  have := Sat.ex tok mixed impl_limited_M Try.func52 (c := bodyOf Try.f52) (by kernel_rfl) (calls_of Try.func52 (c := bodyOf Try.f52) (by kernel_rfl) (by decide)) ((impl_limited_main_link _ _ x0 x1 h).mpr hm)
  exact this

/-! ### loop.example/g01354/spec.l01Names -/
def spec_l01Names_M : Nat → List Nat := fun i => []
def spec_l01Names_main (S : SatT) (K : KT) (h : H) : Prop :=
 newS 8 1 [.str (⟨#[112, 108, 97, 105, 110]⟩ : ByteArray), .str (⟨#[99, 104, 101, 115, 115]⟩ : ByteArray), .str (⟨#[119, 105, 114, 101, 115]⟩ : ByteArray), .str (⟨#[98, 101, 110, 100, 115]⟩ : ByteArray), .str (⟨#[115, 117, 109, 115]⟩ : ByteArray), .str (⟨#[99, 97, 114, 114, 121]⟩ : ByteArray), .str (⟨#[119, 97, 108, 108]⟩ : ByteArray), .str (⟨#[119, 104, 101, 101, 108]⟩ : ByteArray)] h fun s0 h1 =>
 K (.sl s0) h1
theorem spec_l01Names_main_link (S : SatT) (K : KT) (h : H) : cwp S tab spec_l01Names_M [] (bodyOf Try.f63) (kFun tab Try.f63.results.toList K) (fr0 Try.f63 []) h = spec_l01Names_main S K h := by kernel_rfl
theorem spec_l01Names_call (h : H) (K : Sl → H → Prop) (hm : spec_l01Names_main (Sat Try.prog) (fun v h' => ∃ r, v = .sl r ∧ K r h') h) : callS (Sat Try.prog) i_spec_l01Names [] h K := by
  have := Sat.ex tok mixed spec_l01Names_M Try.func63 (c := bodyOf Try.f63) (by kernel_rfl) (calls_of Try.func63 (c := bodyOf Try.f63) (by kernel_rfl) (by decide)) ((spec_l01Names_main_link _ _ h).mpr hm)
  obtain ⟨v, h2, h3, r, rfl, h4⟩ := this; exact ⟨r, h2, h3, h4⟩

/-! ### loop.example/g01354/impl.TurnedSet -/
def impl_TurnedSet_M : Nat → List Nat := fun i => []
def impl_TurnedSet_main (S : SatT) (K : KT) (x0 : List AVal) (h : H) : Prop :=
 newK 2 x0 h fun p0 h1 =>
 newO [.int .i64 (0), .sl Sl.nil] h1 fun p2 h3 =>
 ldA p0 2 h3 fun cs4 =>
 callV S i_impl_changed [.agg cs4, .func 40 []] h3 fun v6 h5 =>
 viaT v6 fun vs7 =>
 exA vs7 0 fun cs8 =>
 viaT v6 fun vs9 =>
 exI .i64 vs9 1 fun n10 =>
 stN p2 2 cs8 h5 fun h11 =>
 ldA p2 2 h11 fun cs12 =>
 K (.tuple [.agg cs12, .int .i64 n10]) h11
theorem impl_TurnedSet_main_link (S : SatT) (K : KT) (x0 : List AVal) (h : H) : cwp S tab impl_TurnedSet_M [] (bodyOf Try.f18) (kFun tab Try.f18.results.toList K) (fr0 Try.f18 [.agg x0]) h = impl_TurnedSet_main S K x0 h := by kernel_rfl
theorem impl_TurnedSet_call (x0 : List AVal) (h : H) (K : KT) (hm : impl_TurnedSet_main (Sat Try.prog) (fun v h' => K v h') x0 h) : callV (Sat Try.prog) i_impl_TurnedSet [.agg x0] h K := by
  have := Sat.ex tok mixed impl_TurnedSet_M Try.func18 (c := bodyOf Try.f18) (by kernel_rfl) (calls_of Try.func18 (c := bodyOf Try.f18) (by kernel_rfl) (by decide)) ((impl_TurnedSet_main_link _ _ x0 h).mpr hm)
  exact this

/-! ### loop.example/g01354/spec.DrawTrimSet -/
def spec_DrawTrimSet_M : Nat → List Nat := fun i => []
def spec_DrawTrimSet_main (S : SatT) (K : KT) (x0 : Sl) (h : H) : Prop :=
 newO [.int .i64 (0), .sl Sl.nil] h fun p0 h1 =>
 callP S i_spec_l01From [.sl x0] h1 fun p3 h2 =>
 callA S i_spec_l01Spoil [.ptr p3] h2 fun cs5 h4 =>
 stN p0 2 cs5 h4 fun h6 =>
 ldA p0 2 h6 fun cs7 =>
 K (.agg cs7) h6
theorem spec_DrawTrimSet_main_link (S : SatT) (K : KT) (x0 : Sl) (h : H) : cwp S tab spec_DrawTrimSet_M [] (bodyOf Try.f12) (kFun tab Try.f12.results.toList K) (fr0 Try.f12 [.sl x0]) h = spec_DrawTrimSet_main S K x0 h := by kernel_rfl
theorem spec_DrawTrimSet_call (x0 : Sl) (h : H) (K : List AVal → H → Prop) (hm : spec_DrawTrimSet_main (Sat Try.prog) (fun v h' => ∃ r, v = .agg r ∧ K r h') x0 h) : callA (Sat Try.prog) i_spec_DrawTrimSet [.sl x0] h K := by
  have := Sat.ex tok mixed spec_DrawTrimSet_M Try.func12 (c := bodyOf Try.f12) (by kernel_rfl) (calls_of Try.func12 (c := bodyOf Try.f12) (by kernel_rfl) (by decide)) ((spec_DrawTrimSet_main_link _ _ x0 h).mpr hm)
  obtain ⟨v, h2, h3, r, rfl, h4⟩ := this; exact ⟨r, h2, h3, h4⟩

end Go.Proofs.Ytlcgclmobfdbcaa.Cl
