/- Typed forms of functions of the program, and their links. Printed by program. No claim is stated here. -/
import Derived.Test.YtekfmmcolgjdmaaGTab
set_option linter.unusedVariables false
namespace Go.Proofs.Ytekfmmcolgjdmaa.Cl
open Go
/-! ### (loop.example/g01354/impl.Tile).class -/
def impl_Tile_class_M : Nat → List Nat := fun i => []
def impl_Tile_class_main (S : SatT) (K : AVal → H → Prop) (x0 : List AVal) (h : H) : Prop :=
 newK 4 x0 h fun p0 h1 =>
 newO [.int .i64 (0), .int .i64 (0), .int .i64 (0), .int .i64 (0)] h1 fun p2 h3 =>
 ldA p0 4 h3 fun cs4 =>
 callS S i_impl_Tile_turns [.agg cs4] h3 fun s6 h5 =>
 callA S i_slices_MinFunc_s_impl_Tile_impl_Tile_ [.sl s6, .func 79 []] h5 fun cs8 h7 =>
 stN p2 4 cs8 h7 fun h9 =>
 ldA p2 4 h9 fun cs10 =>
 K (.agg cs10) h9
theorem impl_Tile_class_main_link (S : SatT) (K : AVal → H → Prop) (x0 : List AVal) (h : H) : cwp S tab impl_Tile_class_M [] (bodyOf Try.f53) (kFun tab Try.f53.results.toList K) (fr0 Try.f53 [.agg x0]) h = impl_Tile_class_main S K x0 h := by kernel_rfl
theorem impl_Tile_class_call (x0 : List AVal) (h : H) (K : List AVal → H → Prop) (hm : impl_Tile_class_main (Sat Try.prog) (fun v h' => ∃ r, v = .agg r ∧ K r h') x0 h) : callA (Sat Try.prog) i_impl_Tile_class [.agg x0] h K := by
  have := Sat.ex tok mixed impl_Tile_class_M Try.func53 (c := bodyOf Try.f53) (by kernel_rfl) (calls_of Try.func53 (c := bodyOf Try.f53) (by kernel_rfl) (by decide)) ((impl_Tile_class_main_link _ _ x0 h).mpr hm)
  obtain ⟨v, h2, h3, r, rfl, h4⟩ := this; exact ⟨r, h2, h3, h4⟩

/-! ### slices.MinFunc[[]loop.example/g01354/impl.Tile,loop.example/g01354/impl.Tile] -/
def slices_MinFunc_s_impl_Tile_impl_Tile__M : Nat → List Nat := fun i => bif i == 0 then [0, 1, 4, 5, 6] else []
def slices_MinFunc_s_impl_Tile_impl_Tile__ks4 (S : SatT) (K : AVal → H → Prop) : Kont := kSeq (cwp S tab slices_MinFunc_s_impl_Tile_impl_Tile__M [] (sub [1, 1, 1, 1] (bodyOf Try.f78)) (kFun tab (Try.f78).results.toList K)) (kFun tab (Try.f78).results.toList K)
def slices_MinFunc_s_impl_Tile_impl_Tile__e0 (s0_ : Sl) (f1_ : AVal) (p4_ : Pt) (p5_ : Pt) (i6_ : Int) : Frame := [.sl s0_, f1_, .undef, .undef, .ptr p4_, .ptr p5_, .int .i64 i6_, .undef, .undef, .undef, .undef, .undef, .undef, .undef, .undef, .undef, .undef, .undef, .undef, .undef, .undef, .undef, .undef, .undef, .undef, .undef, .undef, .undef, .undef, .undef, .undef, .undef, .undef]
def slices_MinFunc_s_impl_Tile_impl_Tile__w0 (S : SatT) (K : AVal → H → Prop) : (Frame → H → Prop) → Frame → H → Prop := fun X fr h => cwp S tab slices_MinFunc_s_impl_Tile_impl_Tile__M (slices_MinFunc_s_impl_Tile_impl_Tile__M 0) (sub [1, 1, 1, 0, 1, 0, 0] (bodyOf Try.f78)) (kSeq (fun fr h => X (mask (slices_MinFunc_s_impl_Tile_impl_Tile__M 0) fr) h) (kBlk 0 (slices_MinFunc_s_impl_Tile_impl_Tile__ks4 S K))) fr h
def slices_MinFunc_s_impl_Tile_impl_Tile__L0 (S : SatT) (K : AVal → H → Prop) (s0_ : Sl) (f1_ : AVal) (p4_ : Pt) (p5_ : Pt) (i6_ : Int) (h : H) : Prop := loopK (slices_MinFunc_s_impl_Tile_impl_Tile__w0 S K) (slices_MinFunc_s_impl_Tile_impl_Tile__e0 s0_ f1_ p4_ p5_ i6_) h
def slices_MinFunc_s_impl_Tile_impl_Tile__C0 (S : SatT) (K : AVal → H → Prop) (p4_ : Pt) (p5_ : Pt) (h : H) : Prop :=
 ldA p5_ 4 h fun cs0 =>
 stN p4_ 4 cs0 h fun h1 =>
 ldA p4_ 4 h1 fun cs2 =>
 K (.agg cs2) h1
def slices_MinFunc_s_impl_Tile_impl_Tile__b0 (S : SatT) (K : AVal → H → Prop) (X0 : Frame → H → Prop) (s0_ : Sl) (f1_ : AVal) (p4_ : Pt) (p5_ : Pt) (i6_ : Int) (h : H) : Prop :=
 bif (decide (i6_ < (s0_.len : Int))) then
 ixS s0_ 4 i6_ fun p0 =>
 ldA p0 4 h fun cs1 =>
 ldA p5_ 4 h fun cs2 =>
 viaF f1_ [.agg cs1, .agg cs2] fun g3 ys4 =>
 callI S .i64 g3 ys4 h fun n6 h5 =>
 bif (decide (n6 < (0))) then
 ixS s0_ 4 i6_ fun p7 =>
 ldA p7 4 h5 fun cs8 =>
 stN p5_ 4 cs8 h5 fun h9 =>
 X0 (slices_MinFunc_s_impl_Tile_impl_Tile__e0 s0_ f1_ p4_ p5_ (w64 (i6_ + (1)))) h9
 else
 X0 (slices_MinFunc_s_impl_Tile_impl_Tile__e0 s0_ f1_ p4_ p5_ (w64 (i6_ + (1)))) h5
 else
 slices_MinFunc_s_impl_Tile_impl_Tile__C0 S K p4_ p5_ h
theorem slices_MinFunc_s_impl_Tile_impl_Tile__link0 (S : SatT) (K : AVal → H → Prop) (X0 : Frame → H → Prop) (s0_ : Sl) (f1_ : AVal) (p4_ : Pt) (p5_ : Pt) (i6_ : Int) (h : H) : slices_MinFunc_s_impl_Tile_impl_Tile__w0 S K X0 (slices_MinFunc_s_impl_Tile_impl_Tile__e0 s0_ f1_ p4_ p5_ i6_) h = slices_MinFunc_s_impl_Tile_impl_Tile__b0 S K X0 s0_ f1_ p4_ p5_ i6_ h := by kernel_rfl
theorem slices_MinFunc_s_impl_Tile_impl_Tile__rule0 (S : SatT) (K : AVal → H → Prop) (s0_ : Sl) (f1_ : AVal) (p4_ : Pt) (p5_ : Pt) (I_ : Int → H → Prop) (m_ : Int → H → Nat)
    (hs : ∀ (X0 : Frame → H → Prop) (i6_ : Int) (h : H), I_ i6_ h → (∀ (i6_' : Int) (h' : H), I_ i6_' h' → m_ i6_' h' < m_ i6_ h → X0 (slices_MinFunc_s_impl_Tile_impl_Tile__e0 s0_ f1_ p4_ p5_ i6_') h') → slices_MinFunc_s_impl_Tile_impl_Tile__b0 S K X0 s0_ f1_ p4_ p5_ i6_ h) (i6_ : Int) {h : H} (h0 : I_ i6_ h) : slices_MinFunc_s_impl_Tile_impl_Tile__L0 S K s0_ f1_ p4_ p5_ i6_ h :=
  loop_rule (σ := (Int)) (fun s_ => slices_MinFunc_s_impl_Tile_impl_Tile__e0 s0_ f1_ p4_ p5_ (s_)) (fun s_ h => I_ (s_) h) (fun s_ h => m_ (s_) h)
    (fun X s_ h hi hx => (slices_MinFunc_s_impl_Tile_impl_Tile__link0 S K X s0_ f1_ p4_ p5_ (s_) h).mpr (hs X (s_) h hi fun i6_' h' hi' hm' => hx (i6_') h' hi' hm')) (i6_) h0
theorem slices_MinFunc_s_impl_Tile_impl_Tile__unroll0 (S : SatT) (K : AVal → H → Prop) (s0_ : Sl) (f1_ : AVal) (p4_ : Pt) (p5_ : Pt) (i6_ : Int) (h : H) (hb : slices_MinFunc_s_impl_Tile_impl_Tile__b0 S K (fun fr h => loopK (slices_MinFunc_s_impl_Tile_impl_Tile__w0 S K) fr h) s0_ f1_ p4_ p5_ i6_ h) : slices_MinFunc_s_impl_Tile_impl_Tile__L0 S K s0_ f1_ p4_ p5_ i6_ h := loop_unroll ((slices_MinFunc_s_impl_Tile_impl_Tile__link0 S K _ s0_ f1_ p4_ p5_ i6_ h).mpr hb)
def slices_MinFunc_s_impl_Tile_impl_Tile__main (S : SatT) (K : AVal → H → Prop) (x0 : Sl) (x1 : AVal) (h : H) : Prop :=
 newO [.int .i64 (0), .int .i64 (0), .int .i64 (0), .int .i64 (0)] h fun p0 h1 =>
 bif (decide ((x0.len : Int) < (1))) then
 False
 else
 ixS x0 4 (0) fun p2 =>
 ldA p2 4 h1 fun cs3 =>
 newO [.int .i64 (0), .int .i64 (0), .int .i64 (0), .int .i64 (0)] h1 fun p4 h5 =>
 stN p4 4 cs3 h5 fun h6 =>
 slices_MinFunc_s_impl_Tile_impl_Tile__L0 S K x0 x1 p0 p4 (1) h6
theorem slices_MinFunc_s_impl_Tile_impl_Tile__main_link (S : SatT) (K : AVal → H → Prop) (x0 : Sl) (x1 : AVal) (h : H) : cwp S tab slices_MinFunc_s_impl_Tile_impl_Tile__M [] (bodyOf Try.f78) (kFun tab Try.f78.results.toList K) (fr0 Try.f78 [.sl x0, x1]) h = slices_MinFunc_s_impl_Tile_impl_Tile__main S K x0 x1 h := by kernel_rfl
theorem slices_MinFunc_s_impl_Tile_impl_Tile__call (x0 : Sl) (x1 : AVal) (h : H) (K : List AVal → H → Prop) (hm : slices_MinFunc_s_impl_Tile_impl_Tile__main (Sat Try.prog) (fun v h' => ∃ r, v = .agg r ∧ K r h') x0 x1 h) : callA (Sat Try.prog) i_slices_MinFunc_s_impl_Tile_impl_Tile_ [.sl x0, x1] h K := by
  have := Sat.ex tok mixed slices_MinFunc_s_impl_Tile_impl_Tile__M Try.func78 (c := bodyOf Try.f78) (by kernel_rfl) (calls_of Try.func78 (c := bodyOf Try.f78) (by kernel_rfl) (by decide)) ((slices_MinFunc_s_impl_Tile_impl_Tile__main_link _ _ x0 x1 h).mpr hm)
  obtain ⟨v, h2, h3, r, rfl, h4⟩ := this; exact ⟨r, h2, h3, h4⟩

/-! ### loop.example/g01354/impl.compare -/
def impl_compare_M : Nat → List Nat := fun i => []
def impl_compare_main (S : SatT) (K : AVal → H → Prop) (x0 : List AVal) (x1 : List AVal) (h : H) : Prop :=
 newK 4 x0 h fun p0 h1 =>
 newK 4 x1 h1 fun p2 h3 =>
 cutA p0 4 1 (0) ((4 : Nat) : Int) fun s4 =>
 cutA p2 4 1 (0) ((4 : Nat) : Int) fun s5 =>
 callI S .i64 i_slices_Compare_s_int64_int64_ [.sl s4, .sl s5] h3 fun n7 h6 =>
 K (.int .i64 n7) h6
theorem impl_compare_main_link (S : SatT) (K : AVal → H → Prop) (x0 : List AVal) (x1 : List AVal) (h : H) : cwp S tab impl_compare_M [] (bodyOf Try.f79) (kFun tab Try.f79.results.toList K) (fr0 Try.f79 [.agg x0, .agg x1]) h = impl_compare_main S K x0 x1 h := by kernel_rfl
theorem impl_compare_call (x0 : List AVal) (x1 : List AVal) (h : H) (K : Int → H → Prop) (hm : impl_compare_main (Sat Try.prog) (fun v h' => ∃ r, v = .int .i64 r ∧ K r h') x0 x1 h) : callI (Sat Try.prog) .i64 i_impl_compare [.agg x0, .agg x1] h K := by
  have := Sat.ex tok mixed impl_compare_M Try.func79 (c := bodyOf Try.f79) (by kernel_rfl) (calls_of Try.func79 (c := bodyOf Try.f79) (by kernel_rfl) (by decide)) ((impl_compare_main_link _ _ x0 x1 h).mpr hm)
  obtain ⟨v, h2, h3, r, rfl, h4⟩ := this; exact ⟨r, h2, h3, h4⟩

/-! ### slices.Compare[[]int64,int64] -/
def slices_Compare_s_int64_int64__M : Nat → List Nat := fun i => bif i == 0 then [0, 1, 9, 10, 11] else []
def slices_Compare_s_int64_int64__ks1 (S : SatT) (K : AVal → H → Prop) : Kont := kSeq (cwp S tab slices_Compare_s_int64_int64__M [] (sub [1, 1] (bodyOf Try.f92)) (kFun tab (Try.f92).results.toList K)) (kFun tab (Try.f92).results.toList K)
def slices_Compare_s_int64_int64__e0 (s0_ : Sl) (s1_ : Sl) (s9_ : Sl) (i10_ : Int) (i11_ : Int) : Frame := [.sl s0_, .sl s1_, .undef, .undef, .undef, .undef, .undef, .undef, .undef, .sl s9_, .int .i64 i10_, .int .i64 i11_, .undef, .undef, .undef, .undef, .undef, .undef, .undef, .undef, .undef, .undef, .undef, .undef, .undef, .undef, .undef, .undef, .undef, .undef, .undef, .undef, .undef, .undef, .undef, .undef]
def slices_Compare_s_int64_int64__w0 (S : SatT) (K : AVal → H → Prop) : (Frame → H → Prop) → Frame → H → Prop := fun X fr h => cwp S tab slices_Compare_s_int64_int64__M (slices_Compare_s_int64_int64__M 0) (sub [1, 0, 1, 0, 0] (bodyOf Try.f92)) (kSeq (fun fr h => X (mask (slices_Compare_s_int64_int64__M 0) fr) h) (kBlk 0 (slices_Compare_s_int64_int64__ks1 S K))) fr h
def slices_Compare_s_int64_int64__L0 (S : SatT) (K : AVal → H → Prop) (s0_ : Sl) (s1_ : Sl) (s9_ : Sl) (i10_ : Int) (i11_ : Int) (h : H) : Prop := loopK (slices_Compare_s_int64_int64__w0 S K) (slices_Compare_s_int64_int64__e0 s0_ s1_ s9_ i10_ i11_) h
def slices_Compare_s_int64_int64__C0 (S : SatT) (K : AVal → H → Prop) (s0_ : Sl) (s1_ : Sl) (h : H) : Prop :=
 bif (decide ((s0_.len : Int) < (s1_.len : Int))) then
 K (.int .i64 (-1)) h
 else
 K (.int .i64 (0)) h
def slices_Compare_s_int64_int64__b0 (S : SatT) (K : AVal → H → Prop) (X0 : Frame → H → Prop) (s0_ : Sl) (s1_ : Sl) (s9_ : Sl) (i10_ : Int) (i11_ : Int) (h : H) : Prop :=
 bif (decide (i11_ < i10_)) then
 ixS s9_ 1 i11_ fun p0 =>
 ldI .i64 p0 h fun n1 =>
 bif (decide (i11_ ≥ (s1_.len : Int))) then
 K (.int .i64 (1)) h
 else
 ixS s1_ 1 i11_ fun p2 =>
 ldI .i64 p2 h fun n3 =>
 callI S .i64 i_cmp_Compare_int64_ [.int .i64 n1, .int .i64 n3] h fun n5 h4 =>
 bif (n5 != (0)) then
 K (.int .i64 n5) h4
 else
 X0 (slices_Compare_s_int64_int64__e0 s0_ s1_ s9_ i10_ (w64 (i11_ + (1)))) h4
 else
 slices_Compare_s_int64_int64__C0 S K s0_ s1_ h
theorem slices_Compare_s_int64_int64__link0 (S : SatT) (K : AVal → H → Prop) (X0 : Frame → H → Prop) (s0_ : Sl) (s1_ : Sl) (s9_ : Sl) (i10_ : Int) (i11_ : Int) (h : H) : slices_Compare_s_int64_int64__w0 S K X0 (slices_Compare_s_int64_int64__e0 s0_ s1_ s9_ i10_ i11_) h = slices_Compare_s_int64_int64__b0 S K X0 s0_ s1_ s9_ i10_ i11_ h := by kernel_rfl
theorem slices_Compare_s_int64_int64__rule0 (S : SatT) (K : AVal → H → Prop) (s0_ : Sl) (s1_ : Sl) (s9_ : Sl) (i10_ : Int) (I_ : Int → H → Prop) (m_ : Int → H → Nat)
    (hs : ∀ (X0 : Frame → H → Prop) (i11_ : Int) (h : H), I_ i11_ h → (∀ (i11_' : Int) (h' : H), I_ i11_' h' → m_ i11_' h' < m_ i11_ h → X0 (slices_Compare_s_int64_int64__e0 s0_ s1_ s9_ i10_ i11_') h') → slices_Compare_s_int64_int64__b0 S K X0 s0_ s1_ s9_ i10_ i11_ h) (i11_ : Int) {h : H} (h0 : I_ i11_ h) : slices_Compare_s_int64_int64__L0 S K s0_ s1_ s9_ i10_ i11_ h :=
  loop_rule (σ := (Int)) (fun s_ => slices_Compare_s_int64_int64__e0 s0_ s1_ s9_ i10_ (s_)) (fun s_ h => I_ (s_) h) (fun s_ h => m_ (s_) h)
    (fun X s_ h hi hx => (slices_Compare_s_int64_int64__link0 S K X s0_ s1_ s9_ i10_ (s_) h).mpr (hs X (s_) h hi fun i11_' h' hi' hm' => hx (i11_') h' hi' hm')) (i11_) h0
theorem slices_Compare_s_int64_int64__unroll0 (S : SatT) (K : AVal → H → Prop) (s0_ : Sl) (s1_ : Sl) (s9_ : Sl) (i10_ : Int) (i11_ : Int) (h : H) (hb : slices_Compare_s_int64_int64__b0 S K (fun fr h => loopK (slices_Compare_s_int64_int64__w0 S K) fr h) s0_ s1_ s9_ i10_ i11_ h) : slices_Compare_s_int64_int64__L0 S K s0_ s1_ s9_ i10_ i11_ h := loop_unroll ((slices_Compare_s_int64_int64__link0 S K _ s0_ s1_ s9_ i10_ i11_ h).mpr hb)
def slices_Compare_s_int64_int64__main (S : SatT) (K : AVal → H → Prop) (x0 : Sl) (x1 : Sl) (h : H) : Prop :=
 slices_Compare_s_int64_int64__L0 S K x0 x1 x0 (x0.len : Int) (0) h
theorem slices_Compare_s_int64_int64__main_link (S : SatT) (K : AVal → H → Prop) (x0 : Sl) (x1 : Sl) (h : H) : cwp S tab slices_Compare_s_int64_int64__M [] (bodyOf Try.f92) (kFun tab Try.f92.results.toList K) (fr0 Try.f92 [.sl x0, .sl x1]) h = slices_Compare_s_int64_int64__main S K x0 x1 h := by kernel_rfl
theorem slices_Compare_s_int64_int64__call (x0 : Sl) (x1 : Sl) (h : H) (K : Int → H → Prop) (hm : slices_Compare_s_int64_int64__main (Sat Try.prog) (fun v h' => ∃ r, v = .int .i64 r ∧ K r h') x0 x1 h) : callI (Sat Try.prog) .i64 i_slices_Compare_s_int64_int64_ [.sl x0, .sl x1] h K := by
  have := Sat.ex tok mixed slices_Compare_s_int64_int64__M Try.func92 (c := bodyOf Try.f92) (by kernel_rfl) (calls_of Try.func92 (c := bodyOf Try.f92) (by kernel_rfl) (by decide)) ((slices_Compare_s_int64_int64__main_link _ _ x0 x1 h).mpr hm)
  obtain ⟨v, h2, h3, r, rfl, h4⟩ := this; exact ⟨r, h2, h3, h4⟩

/-! ### cmp.Compare[int64] -/
def cmp_Compare_int64__M : Nat → List Nat := fun i => []
def cmp_Compare_int64__main (S : SatT) (K : AVal → H → Prop) (x0 : Int) (x1 : Int) (h : H) : Prop :=
 callB S i_cmp_isNaN_int64_ [.int .i64 x0] h fun b1 h0 =>
 callB S i_cmp_isNaN_int64_ [.int .i64 x1] h0 fun b3 h2 =>
 bif b1 then
 bif b3 then
 K (.int .i64 (0)) h2
 else
 K (.int .i64 (-1)) h2
 else
 bif b3 then
 K (.int .i64 (1)) h2
 else
 bif (decide (x0 < x1)) then
 K (.int .i64 (-1)) h2
 else
 bif (decide (x0 > x1)) then
 K (.int .i64 (1)) h2
 else
 K (.int .i64 (0)) h2
theorem cmp_Compare_int64__main_link (S : SatT) (K : AVal → H → Prop) (x0 : Int) (x1 : Int) (h : H) : cwp S tab cmp_Compare_int64__M [] (bodyOf Try.f95) (kFun tab Try.f95.results.toList K) (fr0 Try.f95 [.int .i64 x0, .int .i64 x1]) h = cmp_Compare_int64__main S K x0 x1 h := by kernel_rfl
theorem cmp_Compare_int64__call (x0 : Int) (x1 : Int) (h : H) (K : Int → H → Prop) (hm : cmp_Compare_int64__main (Sat Try.prog) (fun v h' => ∃ r, v = .int .i64 r ∧ K r h') x0 x1 h) : callI (Sat Try.prog) .i64 i_cmp_Compare_int64_ [.int .i64 x0, .int .i64 x1] h K := by
  have := Sat.ex tok mixed cmp_Compare_int64__M Try.func95 (c := bodyOf Try.f95) (by kernel_rfl) (calls_of Try.func95 (c := bodyOf Try.f95) (by kernel_rfl) (by decide)) ((cmp_Compare_int64__main_link _ _ x0 x1 h).mpr hm)
  obtain ⟨v, h2, h3, r, rfl, h4⟩ := this; exact ⟨r, h2, h3, h4⟩

/-! ### cmp.isNaN[int64] -/
def cmp_isNaN_int64__M : Nat → List Nat := fun i => []
def cmp_isNaN_int64__main (S : SatT) (K : AVal → H → Prop) (x0 : Int) (h : H) : Prop :=
 K (.bool (x0 != x0)) h
theorem cmp_isNaN_int64__main_link (S : SatT) (K : AVal → H → Prop) (x0 : Int) (h : H) : cwp S tab cmp_isNaN_int64__M [] (bodyOf Try.f96) (kFun tab Try.f96.results.toList K) (fr0 Try.f96 [.int .i64 x0]) h = cmp_isNaN_int64__main S K x0 h := by kernel_rfl
theorem cmp_isNaN_int64__call (x0 : Int) (h : H) (K : Bool → H → Prop) (hm : cmp_isNaN_int64__main (Sat Try.prog) (fun v h' => ∃ r, v = .bool r ∧ K r h') x0 h) : callB (Sat Try.prog) i_cmp_isNaN_int64_ [.int .i64 x0] h K := by
  have := Sat.ex tok mixed cmp_isNaN_int64__M Try.func96 (c := bodyOf Try.f96) (by kernel_rfl) (calls_of Try.func96 (c := bodyOf Try.f96) (by kernel_rfl) (by decide)) ((cmp_isNaN_int64__main_link _ _ x0 h).mpr hm)
  obtain ⟨v, h2, h3, r, rfl, h4⟩ := this; exact ⟨r, h2, h3, h4⟩

/-! ### loop.example/g01354/spec.l07Class -/
def spec_l07Class_M : Nat → List Nat := fun i => bif i == 0 then [1, 2, 3, 4] else []
def spec_l07Class_ks2 (S : SatT) (K : AVal → H → Prop) : Kont := kSeq (cwp S tab spec_l07Class_M [] (sub [1, 1, 1] (bodyOf Try.f51)) (kFun tab (Try.f51).results.toList K)) (kFun tab (Try.f51).results.toList K)
def spec_l07Class_e0 (p1_ : Pt) (p2_ : Pt) (p3_ : Pt) (i4_ : Int) : Frame := [.undef, .ptr p1_, .ptr p2_, .ptr p3_, .int .i64 i4_, .undef, .undef, .undef, .undef, .undef, .undef, .undef, .undef, .undef, .undef, .undef, .undef, .undef, .undef]
def spec_l07Class_w0 (S : SatT) (K : AVal → H → Prop) : (Frame → H → Prop) → Frame → H → Prop := fun X fr h => cwp S tab spec_l07Class_M (spec_l07Class_M 0) (sub [1, 1, 0, 1, 0, 0] (bodyOf Try.f51)) (kSeq (fun fr h => X (mask (spec_l07Class_M 0) fr) h) (kBlk 0 (spec_l07Class_ks2 S K))) fr h
def spec_l07Class_L0 (S : SatT) (K : AVal → H → Prop) (p1_ : Pt) (p2_ : Pt) (p3_ : Pt) (i4_ : Int) (h : H) : Prop := loopK (spec_l07Class_w0 S K) (spec_l07Class_e0 p1_ p2_ p3_ i4_) h
def spec_l07Class_C0 (S : SatT) (K : AVal → H → Prop) (p2_ : Pt) (p3_ : Pt) (h : H) : Prop :=
 ldA p3_ 4 h fun cs0 =>
 stN p2_ 4 cs0 h fun h1 =>
 ldA p2_ 4 h1 fun cs2 =>
 K (.agg cs2) h1
def spec_l07Class_b0 (S : SatT) (K : AVal → H → Prop) (X0 : Frame → H → Prop) (p1_ : Pt) (p2_ : Pt) (p3_ : Pt) (i4_ : Int) (h : H) : Prop :=
 bif (decide (i4_ < (4))) then
 ldA p1_ 4 h fun cs0 =>
 callA S i_spec_l07Turn [.agg cs0, .int .i64 i4_] h fun cs2 h1 =>
 newO [.int .i64 (0), .int .i64 (0), .int .i64 (0), .int .i64 (0)] h1 fun p3 h4 =>
 stN p3 4 cs2 h4 fun h5 =>
 ldA p3 4 h5 fun cs6 =>
 ldA p3_ 4 h5 fun cs7 =>
 callB S i_spec_l01Before [.agg cs6, .agg cs7] h5 fun b9 h8 =>
 bif b9 then
 ldA p3 4 h8 fun cs10 =>
 stN p3_ 4 cs10 h8 fun h11 =>
 X0 (spec_l07Class_e0 p1_ p2_ p3_ (w64 (i4_ + (1)))) h11
 else
 X0 (spec_l07Class_e0 p1_ p2_ p3_ (w64 (i4_ + (1)))) h8
 else
 spec_l07Class_C0 S K p2_ p3_ h
theorem spec_l07Class_link0 (S : SatT) (K : AVal → H → Prop) (X0 : Frame → H → Prop) (p1_ : Pt) (p2_ : Pt) (p3_ : Pt) (i4_ : Int) (h : H) : spec_l07Class_w0 S K X0 (spec_l07Class_e0 p1_ p2_ p3_ i4_) h = spec_l07Class_b0 S K X0 p1_ p2_ p3_ i4_ h := by kernel_rfl
theorem spec_l07Class_rule0 (S : SatT) (K : AVal → H → Prop) (p1_ : Pt) (p2_ : Pt) (p3_ : Pt) (I_ : Int → H → Prop) (m_ : Int → H → Nat)
    (hs : ∀ (X0 : Frame → H → Prop) (i4_ : Int) (h : H), I_ i4_ h → (∀ (i4_' : Int) (h' : H), I_ i4_' h' → m_ i4_' h' < m_ i4_ h → X0 (spec_l07Class_e0 p1_ p2_ p3_ i4_') h') → spec_l07Class_b0 S K X0 p1_ p2_ p3_ i4_ h) (i4_ : Int) {h : H} (h0 : I_ i4_ h) : spec_l07Class_L0 S K p1_ p2_ p3_ i4_ h :=
  loop_rule (σ := (Int)) (fun s_ => spec_l07Class_e0 p1_ p2_ p3_ (s_)) (fun s_ h => I_ (s_) h) (fun s_ h => m_ (s_) h)
    (fun X s_ h hi hx => (spec_l07Class_link0 S K X p1_ p2_ p3_ (s_) h).mpr (hs X (s_) h hi fun i4_' h' hi' hm' => hx (i4_') h' hi' hm')) (i4_) h0
theorem spec_l07Class_unroll0 (S : SatT) (K : AVal → H → Prop) (p1_ : Pt) (p2_ : Pt) (p3_ : Pt) (i4_ : Int) (h : H) (hb : spec_l07Class_b0 S K (fun fr h => loopK (spec_l07Class_w0 S K) fr h) p1_ p2_ p3_ i4_ h) : spec_l07Class_L0 S K p1_ p2_ p3_ i4_ h := loop_unroll ((spec_l07Class_link0 S K _ p1_ p2_ p3_ i4_ h).mpr hb)
def spec_l07Class_main (S : SatT) (K : AVal → H → Prop) (x0 : List AVal) (h : H) : Prop :=
 newK 4 x0 h fun p0 h1 =>
 newO [.int .i64 (0), .int .i64 (0), .int .i64 (0), .int .i64 (0)] h1 fun p2 h3 =>
 ldA p0 4 h3 fun cs4 =>
 newO [.int .i64 (0), .int .i64 (0), .int .i64 (0), .int .i64 (0)] h3 fun p5 h6 =>
 stN p5 4 cs4 h6 fun h7 =>
 spec_l07Class_L0 S K p0 p2 p5 (1) h7
theorem spec_l07Class_main_link (S : SatT) (K : AVal → H → Prop) (x0 : List AVal) (h : H) : cwp S tab spec_l07Class_M [] (bodyOf Try.f51) (kFun tab Try.f51.results.toList K) (fr0 Try.f51 [.agg x0]) h = spec_l07Class_main S K x0 h := by kernel_rfl
theorem spec_l07Class_call (x0 : List AVal) (h : H) (K : List AVal → H → Prop) (hm : spec_l07Class_main (Sat Try.prog) (fun v h' => ∃ r, v = .agg r ∧ K r h') x0 h) : callA (Sat Try.prog) i_spec_l07Class [.agg x0] h K := by
  have := Sat.ex tok mixed spec_l07Class_M Try.func51 (c := bodyOf Try.f51) (by kernel_rfl) (calls_of Try.func51 (c := bodyOf Try.f51) (by kernel_rfl) (by decide)) ((spec_l07Class_main_link _ _ x0 h).mpr hm)
  obtain ⟨v, h2, h3, r, rfl, h4⟩ := this; exact ⟨r, h2, h3, h4⟩

/-! ### loop.example/g01354/spec.l01Before -/
def spec_l01Before_M : Nat → List Nat := fun i => bif i == 0 then [2, 3, 5] else []
def spec_l01Before_ks1 (S : SatT) (K : AVal → H → Prop) : Kont := kSeq (cwp S tab spec_l01Before_M [] (sub [1, 1] (bodyOf Try.f77)) (kFun tab (Try.f77).results.toList K)) (kFun tab (Try.f77).results.toList K)
def spec_l01Before_e0 (p2_ : Pt) (p3_ : Pt) (i5_ : Int) : Frame := [.undef, .undef, .ptr p2_, .ptr p3_, .undef, .int .i64 i5_, .undef, .undef, .undef, .undef, .undef, .undef, .undef, .undef, .undef, .undef, .undef, .undef, .undef, .undef, .undef, .undef, .undef, .undef]
def spec_l01Before_w0 (S : SatT) (K : AVal → H → Prop) : (Frame → H → Prop) → Frame → H → Prop := fun X fr h => cwp S tab spec_l01Before_M (spec_l01Before_M 0) (sub [1, 0, 1, 0, 0] (bodyOf Try.f77)) (kSeq (fun fr h => X (mask (spec_l01Before_M 0) fr) h) (kBlk 0 (spec_l01Before_ks1 S K))) fr h
def spec_l01Before_L0 (S : SatT) (K : AVal → H → Prop) (p2_ : Pt) (p3_ : Pt) (i5_ : Int) (h : H) : Prop := loopK (spec_l01Before_w0 S K) (spec_l01Before_e0 p2_ p3_ i5_) h
def spec_l01Before_C0 (S : SatT) (K : AVal → H → Prop) (h : H) : Prop :=
 K (.bool false) h
def spec_l01Before_b0 (S : SatT) (K : AVal → H → Prop) (X0 : Frame → H → Prop) (p2_ : Pt) (p3_ : Pt) (i5_ : Int) (h : H) : Prop :=
 bif (decide (i5_ < (4))) then
 ixA p2_ 4 1 i5_ fun p0 =>
 ldI .i64 p0 h fun n1 =>
 ixA p3_ 4 1 i5_ fun p2 =>
 ldI .i64 p2 h fun n3 =>
 bif (n1 != n3) then
 ixA p2_ 4 1 i5_ fun p4 =>
 ldI .i64 p4 h fun n5 =>
 ixA p3_ 4 1 i5_ fun p6 =>
 ldI .i64 p6 h fun n7 =>
 K (.bool (decide (n5 < n7))) h
 else
 X0 (spec_l01Before_e0 p2_ p3_ (w64 (i5_ + (1)))) h
 else
 spec_l01Before_C0 S K h
theorem spec_l01Before_link0 (S : SatT) (K : AVal → H → Prop) (X0 : Frame → H → Prop) (p2_ : Pt) (p3_ : Pt) (i5_ : Int) (h : H) : spec_l01Before_w0 S K X0 (spec_l01Before_e0 p2_ p3_ i5_) h = spec_l01Before_b0 S K X0 p2_ p3_ i5_ h := by kernel_rfl
theorem spec_l01Before_rule0 (S : SatT) (K : AVal → H → Prop) (p2_ : Pt) (p3_ : Pt) (I_ : Int → H → Prop) (m_ : Int → H → Nat)
    (hs : ∀ (X0 : Frame → H → Prop) (i5_ : Int) (h : H), I_ i5_ h → (∀ (i5_' : Int) (h' : H), I_ i5_' h' → m_ i5_' h' < m_ i5_ h → X0 (spec_l01Before_e0 p2_ p3_ i5_') h') → spec_l01Before_b0 S K X0 p2_ p3_ i5_ h) (i5_ : Int) {h : H} (h0 : I_ i5_ h) : spec_l01Before_L0 S K p2_ p3_ i5_ h :=
  loop_rule (σ := (Int)) (fun s_ => spec_l01Before_e0 p2_ p3_ (s_)) (fun s_ h => I_ (s_) h) (fun s_ h => m_ (s_) h)
    (fun X s_ h hi hx => (spec_l01Before_link0 S K X p2_ p3_ (s_) h).mpr (hs X (s_) h hi fun i5_' h' hi' hm' => hx (i5_') h' hi' hm')) (i5_) h0
theorem spec_l01Before_unroll0 (S : SatT) (K : AVal → H → Prop) (p2_ : Pt) (p3_ : Pt) (i5_ : Int) (h : H) (hb : spec_l01Before_b0 S K (fun fr h => loopK (spec_l01Before_w0 S K) fr h) p2_ p3_ i5_ h) : spec_l01Before_L0 S K p2_ p3_ i5_ h := loop_unroll ((spec_l01Before_link0 S K _ p2_ p3_ i5_ h).mpr hb)
def spec_l01Before_main (S : SatT) (K : AVal → H → Prop) (x0 : List AVal) (x1 : List AVal) (h : H) : Prop :=
 newK 4 x0 h fun p0 h1 =>
 newK 4 x1 h1 fun p2 h3 =>
 spec_l01Before_L0 S K p0 p2 (0) h3
theorem spec_l01Before_main_link (S : SatT) (K : AVal → H → Prop) (x0 : List AVal) (x1 : List AVal) (h : H) : cwp S tab spec_l01Before_M [] (bodyOf Try.f77) (kFun tab Try.f77.results.toList K) (fr0 Try.f77 [.agg x0, .agg x1]) h = spec_l01Before_main S K x0 x1 h := by kernel_rfl
theorem spec_l01Before_call (x0 : List AVal) (x1 : List AVal) (h : H) (K : Bool → H → Prop) (hm : spec_l01Before_main (Sat Try.prog) (fun v h' => ∃ r, v = .bool r ∧ K r h') x0 x1 h) : callB (Sat Try.prog) i_spec_l01Before [.agg x0, .agg x1] h K := by
  have := Sat.ex tok mixed spec_l01Before_M Try.func77 (c := bodyOf Try.f77) (by kernel_rfl) (calls_of Try.func77 (c := bodyOf Try.f77) (by kernel_rfl) (by decide)) ((spec_l01Before_main_link _ _ x0 x1 h).mpr hm)
  obtain ⟨v, h2, h3, r, rfl, h4⟩ := this; exact ⟨r, h2, h3, h4⟩

/-! ### loop.example/g01354/spec.ClassOf -/
def spec_ClassOf_M : Nat → List Nat := fun i => []
def spec_ClassOf_main (S : SatT) (K : AVal → H → Prop) (x0 : List AVal) (h : H) : Prop :=
 newK 4 x0 h fun p0 h1 =>
 newO [.int .i64 (0), .int .i64 (0), .int .i64 (0), .int .i64 (0)] h1 fun p2 h3 =>
 ldA p0 4 h3 fun cs4 =>
 lenA cs4 4 (
 newS 1 4 (spl [.int .i64 (0), .int .i64 (0), .int .i64 (0), .int .i64 (0)] 0 4 cs4) h3 fun s5 h6 =>
 callI S .i64 i_spec_l07Tiles [.sl s5] h6 fun n8 h7 =>
 bif (n8 != (0)) then
 stN p2 4 [.int .i64 (0), .int .i64 (0), .int .i64 (0), .int .i64 (0)] h7 fun h9 =>
 ldA p2 4 h9 fun cs10 =>
 K (.tuple [.agg cs10, .int .i64 n8]) h9
 else
 ldA p0 4 h7 fun cs11 =>
 callA S i_spec_l07Class [.agg cs11] h7 fun cs13 h12 =>
 stN p2 4 cs13 h12 fun h14 =>
 ldA p2 4 h14 fun cs15 =>
 K (.tuple [.agg cs15, .int .i64 (0)]) h14)
theorem spec_ClassOf_main_link (S : SatT) (K : AVal → H → Prop) (x0 : List AVal) (h : H) : cwp S tab spec_ClassOf_M [] (bodyOf Try.f29) (kFun tab Try.f29.results.toList K) (fr0 Try.f29 [.agg x0]) h = spec_ClassOf_main S K x0 h := by kernel_rfl
theorem spec_ClassOf_call (x0 : List AVal) (h : H) (K : AVal → H → Prop) (hm : spec_ClassOf_main (Sat Try.prog) (fun v h' => K v h') x0 h) : callV (Sat Try.prog) i_spec_ClassOf [.agg x0] h K := by
  have := Sat.ex tok mixed spec_ClassOf_M Try.func29 (c := bodyOf Try.f29) (by kernel_rfl) (calls_of Try.func29 (c := bodyOf Try.f29) (by kernel_rfl) (by decide)) ((spec_ClassOf_main_link _ _ x0 h).mpr hm)
  exact this

/-! ### loop.example/g01354/impl.ClassOf -/
def impl_ClassOf_M : Nat → List Nat := fun i => []
def impl_ClassOf_main (S : SatT) (K : AVal → H → Prop) (x0 : List AVal) (h : H) : Prop :=
 newK 4 x0 h fun p0 h1 =>
 newO [.int .i64 (0), .int .i64 (0), .int .i64 (0), .int .i64 (0)] h1 fun p2 h3 =>
 ldA p0 4 h3 fun cs4 =>
 lenA cs4 4 (
 newS 1 4 (spl [.int .i64 (0), .int .i64 (0), .int .i64 (0), .int .i64 (0)] 0 4 cs4) h3 fun s5 h6 =>
 callB S i_impl_areTiles [.sl s5] h6 fun b8 h7 =>
 bif (!b8) then
 stN p2 4 [.int .i64 (0), .int .i64 (0), .int .i64 (0), .int .i64 (0)] h7 fun h9 =>
 ldA p2 4 h9 fun cs10 =>
 K (.tuple [.agg cs10, .int .i64 (2)]) h9
 else
 ldA p0 4 h7 fun cs11 =>
 callA S i_impl_Tile_class [.agg cs11] h7 fun cs13 h12 =>
 stN p2 4 cs13 h12 fun h14 =>
 ldA p2 4 h14 fun cs15 =>
 K (.tuple [.agg cs15, .int .i64 (0)]) h14)
theorem impl_ClassOf_main_link (S : SatT) (K : AVal → H → Prop) (x0 : List AVal) (h : H) : cwp S tab impl_ClassOf_M [] (bodyOf Try.f30) (kFun tab Try.f30.results.toList K) (fr0 Try.f30 [.agg x0]) h = impl_ClassOf_main S K x0 h := by kernel_rfl
theorem impl_ClassOf_call (x0 : List AVal) (h : H) (K : AVal → H → Prop) (hm : impl_ClassOf_main (Sat Try.prog) (fun v h' => K v h') x0 h) : callV (Sat Try.prog) i_impl_ClassOf [.agg x0] h K := by
  have := Sat.ex tok mixed impl_ClassOf_M Try.func30 (c := bodyOf Try.f30) (by kernel_rfl) (calls_of Try.func30 (c := bodyOf Try.f30) (by kernel_rfl) (by decide)) ((impl_ClassOf_main_link _ _ x0 h).mpr hm)
  exact this

/-! ### loop.example/g01354/spec.AreAlike -/
def spec_AreAlike_M : Nat → List Nat := fun i => []
def spec_AreAlike_main (S : SatT) (K : AVal → H → Prop) (x0 : List AVal) (x1 : List AVal) (h : H) : Prop :=
 newK 4 x0 h fun p0 h1 =>
 newK 4 x1 h1 fun p2 h3 =>
 ldA p0 4 h3 fun cs4 =>
 ldA p2 4 h3 fun cs5 =>
 lenA cs4 4 (
 lenA cs5 4 (
 newS 2 4 (spl (spl [.int .i64 (0), .int .i64 (0), .int .i64 (0), .int .i64 (0), .int .i64 (0), .int .i64 (0), .int .i64 (0), .int .i64 (0)] 0 4 cs4) 4 4 cs5) h3 fun s6 h7 =>
 callI S .i64 i_spec_l07Tiles [.sl s6] h7 fun n9 h8 =>
 bif (n9 != (0)) then
 K (.tuple [.bool false, .bool false, .int .i64 n9]) h8
 else
 ldA p0 4 h8 fun cs10 =>
 callA S i_spec_l07Class [.agg cs10] h8 fun cs12 h11 =>
 ldA p2 4 h11 fun cs13 =>
(range h8 p2.o p2.n p2.off 4 = range h11 p2.o p2.n p2.off 4) ∧ (
 callA S i_spec_l07Class [.agg cs13] h11 fun cs15 h14 =>
 eqA .i64 4 cs12 cs15 fun b16 =>
 ldA p0 4 h14 fun cs17 =>
(range h11 p0.o p0.n p0.off 4 = range h14 p0.o p0.n p0.off 4) ∧ (
(range h8 p0.o p0.n p0.off 4 = range h14 p0.o p0.n p0.off 4) ∧ (
 callA S i_spec_l07Class [.agg cs17] h14 fun cs19 h18 =>
 ixA p2 4 1 (2) fun p20 =>
 ldI .i64 p20 h18 fun n21 =>
(cell h14 p20 = cell h18 p20) ∧ (
(cell h11 p20 = cell h18 p20) ∧ (
(cell h8 p20 = cell h18 p20) ∧ (
 ixA p2 4 1 (1) fun p22 =>
 ldI .i64 p22 h18 fun n23 =>
(cell h14 p22 = cell h18 p22) ∧ (
(cell h11 p22 = cell h18 p22) ∧ (
(cell h8 p22 = cell h18 p22) ∧ (
 ixA p2 4 1 (0) fun p24 =>
 ldI .i64 p24 h18 fun n25 =>
(cell h14 p24 = cell h18 p24) ∧ (
(cell h11 p24 = cell h18 p24) ∧ (
(cell h8 p24 = cell h18 p24) ∧ (
 ixA p2 4 1 (3) fun p26 =>
 ldI .i64 p26 h18 fun n27 =>
(cell h14 p26 = cell h18 p26) ∧ (
(cell h11 p26 = cell h18 p26) ∧ (
(cell h8 p26 = cell h18 p26) ∧ (
 callA S i_spec_l07Class [.agg [.int .i64 n21, .int .i64 n23, .int .i64 n25, .int .i64 n27]] h18 fun cs29 h28 =>
 eqA .i64 4 cs19 cs29 fun b30 =>
 K (.tuple [.bool b16, .bool b30, .int .i64 (0)]) h28)))))))))))))))))
theorem spec_AreAlike_main_link (S : SatT) (K : AVal → H → Prop) (x0 : List AVal) (x1 : List AVal) (h : H) : cwp S tab spec_AreAlike_M [] (bodyOf Try.f27) (kFun tab Try.f27.results.toList K) (fr0 Try.f27 [.agg x0, .agg x1]) h = spec_AreAlike_main S K x0 x1 h := by kernel_rfl
theorem spec_AreAlike_call (x0 : List AVal) (x1 : List AVal) (h : H) (K : AVal → H → Prop) (hm : spec_AreAlike_main (Sat Try.prog) (fun v h' => K v h') x0 x1 h) : callV (Sat Try.prog) i_spec_AreAlike [.agg x0, .agg x1] h K := by
  have := Sat.ex tok mixed spec_AreAlike_M Try.func27 (c := bodyOf Try.f27) (by kernel_rfl) (calls_of Try.func27 (c := bodyOf Try.f27) (by kernel_rfl) (by decide)) ((spec_AreAlike_main_link _ _ x0 x1 h).mpr hm)
  exact this

/-! ### loop.example/g01354/impl.AreAlike -/
def impl_AreAlike_M : Nat → List Nat := fun i => []
def impl_AreAlike_main (S : SatT) (K : AVal → H → Prop) (x0 : List AVal) (x1 : List AVal) (h : H) : Prop :=
 newK 4 x0 h fun p0 h1 =>
 newK 4 x1 h1 fun p2 h3 =>
 ldA p0 4 h3 fun cs4 =>
 ldA p2 4 h3 fun cs5 =>
 lenA cs4 4 (
 lenA cs5 4 (
 newS 2 4 (spl (spl [.int .i64 (0), .int .i64 (0), .int .i64 (0), .int .i64 (0), .int .i64 (0), .int .i64 (0), .int .i64 (0), .int .i64 (0)] 0 4 cs4) 4 4 cs5) h3 fun s6 h7 =>
 callB S i_impl_areTiles [.sl s6] h7 fun b9 h8 =>
 bif (!b9) then
 K (.tuple [.bool false, .bool false, .int .i64 (2)]) h8
 else
 ldA p2 4 h8 fun cs10 =>
 callA S i_impl_Tile_sides [.agg cs10, .int .i64 (2), .int .i64 (1), .int .i64 (0), .int .i64 (3)] h8 fun cs12 h11 =>
 newO [.int .i64 (0), .int .i64 (0), .int .i64 (0), .int .i64 (0)] h11 fun p13 h14 =>
 stN p13 4 cs12 h14 fun h15 =>
 ldA p0 4 h15 fun cs16 =>
 callA S i_impl_Tile_class [.agg cs16] h15 fun cs18 h17 =>
 ldA p2 4 h17 fun cs19 =>
(range h15 p2.o p2.n p2.off 4 = range h17 p2.o p2.n p2.off 4) ∧ (
 callA S i_impl_Tile_class [.agg cs19] h17 fun cs21 h20 =>
 eqA .i64 4 cs18 cs21 fun b22 =>
 ldA p0 4 h20 fun cs23 =>
(range h17 p0.o p0.n p0.off 4 = range h20 p0.o p0.n p0.off 4) ∧ (
(range h15 p0.o p0.n p0.off 4 = range h20 p0.o p0.n p0.off 4) ∧ (
 callA S i_impl_Tile_class [.agg cs23] h20 fun cs25 h24 =>
 ldA p13 4 h24 fun cs26 =>
(range h20 p13.o p13.n p13.off 4 = range h24 p13.o p13.n p13.off 4) ∧ (
(range h17 p13.o p13.n p13.off 4 = range h24 p13.o p13.n p13.off 4) ∧ (
(range h15 p13.o p13.n p13.off 4 = range h24 p13.o p13.n p13.off 4) ∧ (
 callA S i_impl_Tile_class [.agg cs26] h24 fun cs28 h27 =>
 eqA .i64 4 cs25 cs28 fun b29 =>
 K (.tuple [.bool b22, .bool b29, .int .i64 (0)]) h27))))))))
theorem impl_AreAlike_main_link (S : SatT) (K : AVal → H → Prop) (x0 : List AVal) (x1 : List AVal) (h : H) : cwp S tab impl_AreAlike_M [] (bodyOf Try.f28) (kFun tab Try.f28.results.toList K) (fr0 Try.f28 [.agg x0, .agg x1]) h = impl_AreAlike_main S K x0 x1 h := by kernel_rfl
theorem impl_AreAlike_call (x0 : List AVal) (x1 : List AVal) (h : H) (K : AVal → H → Prop) (hm : impl_AreAlike_main (Sat Try.prog) (fun v h' => K v h') x0 x1 h) : callV (Sat Try.prog) i_impl_AreAlike [.agg x0, .agg x1] h K := by
  have := Sat.ex tok mixed impl_AreAlike_M Try.func28 (c := bodyOf Try.f28) (by kernel_rfl) (calls_of Try.func28 (c := bodyOf Try.f28) (by kernel_rfl) (by decide)) ((impl_AreAlike_main_link _ _ x0 x1 h).mpr hm)
  exact this

/-! ### loop.example/g01354/spec.ClassesOf -/
def spec_ClassesOf_M : Nat → List Nat := fun i => bif i == 0 then [0, 4, 5] else []
def spec_ClassesOf_ks5 (S : SatT) (K : AVal → H → Prop) : Kont := kSeq (cwp S tab spec_ClassesOf_M [] (sub [1, 1, 1, 1] (bodyOf Try.f32)) (kFun tab (Try.f32).results.toList K)) (kFun tab (Try.f32).results.toList K)
def spec_ClassesOf_e0 (i0_ : Int) (s4_ : Sl) (i5_ : Int) : Frame := [.int .i64 i0_, .undef, .undef, .undef, .sl s4_, .int .i64 i5_, .undef, .undef, .undef, .undef, .undef, .undef, .undef, .undef, .undef, .undef, .undef, .undef, .undef, .undef, .undef, .undef, .undef, .undef, .undef, .undef, .undef, .undef, .undef, .undef, .undef, .undef, .undef, .undef, .undef, .undef, .undef, .undef, .undef, .undef, .undef, .undef, .undef, .undef, .undef, .undef, .undef, .undef, .undef, .undef, .undef, .undef, .undef, .undef]
def spec_ClassesOf_w0 (S : SatT) (K : AVal → H → Prop) : (Frame → H → Prop) → Frame → H → Prop := fun X fr h => cwp S tab spec_ClassesOf_M (spec_ClassesOf_M 0) (sub [1, 1, 1, 0, 1, 0, 0] (bodyOf Try.f32)) (kSeq (fun fr h => X (mask (spec_ClassesOf_M 0) fr) h) (kBlk 0 (spec_ClassesOf_ks5 S K))) fr h
def spec_ClassesOf_L0 (S : SatT) (K : AVal → H → Prop) (i0_ : Int) (s4_ : Sl) (i5_ : Int) (h : H) : Prop := loopK (spec_ClassesOf_w0 S K) (spec_ClassesOf_e0 i0_ s4_ i5_) h
def spec_ClassesOf_C0 (S : SatT) (K : AVal → H → Prop) (s4_ : Sl) (h : H) : Prop :=
 K (.tuple [.sl s4_, .int .i64 (0)]) h
def spec_ClassesOf_b0 (S : SatT) (K : AVal → H → Prop) (X0 : Frame → H → Prop) (i0_ : Int) (s4_ : Sl) (i5_ : Int) (h : H) : Prop :=
 bif (decide (i5_ < (w64 ((w64 ((w64 (i0_ * i0_)) * i0_)) * i0_)))) then
 nz (w64 ((w64 (i0_ * i0_)) * i0_)) (
 nz (w64 (i0_ * i0_)) (
 nz i0_ (
 nz i0_ (
 nz i0_ (
 nz i0_ (
 newO [.int .i64 (0), .int .i64 (0), .int .i64 (0), .int .i64 (0)] h fun p0 h1 =>
 stN p0 4 [.int .i64 (w64 (Int.tdiv i5_ (w64 ((w64 (i0_ * i0_)) * i0_)))), .int .i64 (Int.tmod (w64 (Int.tdiv i5_ (w64 (i0_ * i0_)))) i0_), .int .i64 (Int.tmod (w64 (Int.tdiv i5_ i0_)) i0_), .int .i64 (Int.tmod i5_ i0_)] h1 fun h2 =>
 ldA p0 4 h2 fun cs3 =>
 callA S i_spec_l07Class [.agg cs3] h2 fun cs5 h4 =>
 ldA p0 4 h4 fun cs6 =>
(range h2 p0.o p0.n p0.off 4 = range h4 p0.o p0.n p0.off 4) ∧ (
 eqA .i64 4 cs5 cs6 fun b7 =>
 bif b7 then
 ldA p0 4 h4 fun cs8 =>
 lenA cs8 4 (
 newS 1 4 (spl [.int .i64 (0), .int .i64 (0), .int .i64 (0), .int .i64 (0)] 0 4 cs8) h4 fun s9 h10 =>
 app s4_ s9 4 h10 fun s11 h12 =>
 X0 (spec_ClassesOf_e0 i0_ s11 (w64 (i5_ + (1)))) h12)
 else
 X0 (spec_ClassesOf_e0 i0_ s4_ (w64 (i5_ + (1)))) h4)))))))
 else
 spec_ClassesOf_C0 S K s4_ h
theorem spec_ClassesOf_link0 (S : SatT) (K : AVal → H → Prop) (X0 : Frame → H → Prop) (i0_ : Int) (s4_ : Sl) (i5_ : Int) (h : H) : spec_ClassesOf_w0 S K X0 (spec_ClassesOf_e0 i0_ s4_ i5_) h = spec_ClassesOf_b0 S K X0 i0_ s4_ i5_ h := by kernel_rfl
theorem spec_ClassesOf_rule0 (S : SatT) (K : AVal → H → Prop) (i0_ : Int) (I_ : Sl → Int → H → Prop) (m_ : Sl → Int → H → Nat)
    (hs : ∀ (X0 : Frame → H → Prop) (s4_ : Sl) (i5_ : Int) (h : H), I_ s4_ i5_ h → (∀ (s4_' : Sl) (i5_' : Int) (h' : H), I_ s4_' i5_' h' → m_ s4_' i5_' h' < m_ s4_ i5_ h → X0 (spec_ClassesOf_e0 i0_ s4_' i5_') h') → spec_ClassesOf_b0 S K X0 i0_ s4_ i5_ h) (s4_ : Sl) (i5_ : Int) {h : H} (h0 : I_ s4_ i5_ h) : spec_ClassesOf_L0 S K i0_ s4_ i5_ h :=
  loop_rule (σ := (Sl) × (Int)) (fun s_ => spec_ClassesOf_e0 i0_ (s_.1) (s_.2)) (fun s_ h => I_ (s_.1) (s_.2) h) (fun s_ h => m_ (s_.1) (s_.2) h)
    (fun X s_ h hi hx => (spec_ClassesOf_link0 S K X i0_ (s_.1) (s_.2) h).mpr (hs X (s_.1) (s_.2) h hi fun s4_' i5_' h' hi' hm' => hx (s4_', i5_') h' hi' hm')) (s4_, i5_) h0
theorem spec_ClassesOf_unroll0 (S : SatT) (K : AVal → H → Prop) (i0_ : Int) (s4_ : Sl) (i5_ : Int) (h : H) (hb : spec_ClassesOf_b0 S K (fun fr h => loopK (spec_ClassesOf_w0 S K) fr h) i0_ s4_ i5_ h) : spec_ClassesOf_L0 S K i0_ s4_ i5_ h := loop_unroll ((spec_ClassesOf_link0 S K _ i0_ s4_ i5_ h).mpr hb)
def spec_ClassesOf_main (S : SatT) (K : AVal → H → Prop) (x0 : Int) (h : H) : Prop :=
 callB S i_spec_l01In [.int .i64 x0, .int .i64 (1), .int .i64 (4)] h fun b1 h0 =>
 bif (!b1) then
 K (.tuple [.sl Sl.nil, .int .i64 (2)]) h0
 else
 newS 0 4 [] h0 fun s2 h3 =>
 spec_ClassesOf_L0 S K x0 s2 (0) h3
theorem spec_ClassesOf_main_link (S : SatT) (K : AVal → H → Prop) (x0 : Int) (h : H) : cwp S tab spec_ClassesOf_M [] (bodyOf Try.f32) (kFun tab Try.f32.results.toList K) (fr0 Try.f32 [.int .i64 x0]) h = spec_ClassesOf_main S K x0 h := by kernel_rfl
theorem spec_ClassesOf_call (x0 : Int) (h : H) (K : AVal → H → Prop) (hm : spec_ClassesOf_main (Sat Try.prog) (fun v h' => K v h') x0 h) : callV (Sat Try.prog) i_spec_ClassesOf [.int .i64 x0] h K := by
  have := Sat.ex tok mixed spec_ClassesOf_M Try.func32 (c := bodyOf Try.f32) (by kernel_rfl) (calls_of Try.func32 (c := bodyOf Try.f32) (by kernel_rfl) (by decide)) ((spec_ClassesOf_main_link _ _ x0 h).mpr hm)
  exact this

/-! ### loop.example/g01354/impl.ClassesOf -/
def impl_ClassesOf_M : Nat → List Nat := fun i => bif i == 0 then [0, 4, 17, 18] else []
def impl_ClassesOf_ks5 (S : SatT) (K : AVal → H → Prop) : Kont := kSeq (cwp S tab impl_ClassesOf_M [] (sub [1, 1, 1, 1] (bodyOf Try.f33)) (kFun tab (Try.f33).results.toList K)) (kFun tab (Try.f33).results.toList K)
def impl_ClassesOf_e0 (i0_ : Int) (s4_ : Sl) (i17_ : Int) (i18_ : Int) : Frame := [.int .i64 i0_, .undef, .undef, .undef, .sl s4_, .undef, .undef, .undef, .undef, .undef, .undef, .undef, .undef, .undef, .undef, .undef, .undef, .int .i64 i17_, .int .i64 i18_, .undef, .undef, .undef, .undef, .undef, .undef, .undef, .undef, .undef, .undef, .undef, .undef, .undef, .undef, .undef, .undef, .undef, .undef, .undef, .undef, .undef, .undef, .undef, .undef, .undef, .undef, .undef, .undef, .undef, .undef, .undef, .undef, .undef, .undef, .undef]
def impl_ClassesOf_w0 (S : SatT) (K : AVal → H → Prop) : (Frame → H → Prop) → Frame → H → Prop := fun X fr h => cwp S tab impl_ClassesOf_M (impl_ClassesOf_M 0) (sub [1, 1, 1, 0, 1, 0, 0] (bodyOf Try.f33)) (kSeq (fun fr h => X (mask (impl_ClassesOf_M 0) fr) h) (kBlk 0 (impl_ClassesOf_ks5 S K))) fr h
def impl_ClassesOf_L0 (S : SatT) (K : AVal → H → Prop) (i0_ : Int) (s4_ : Sl) (i17_ : Int) (i18_ : Int) (h : H) : Prop := loopK (impl_ClassesOf_w0 S K) (impl_ClassesOf_e0 i0_ s4_ i17_ i18_) h
def impl_ClassesOf_C0 (S : SatT) (K : AVal → H → Prop) (s4_ : Sl) (h : H) : Prop :=
 K (.tuple [.sl s4_, .int .i64 (0)]) h
def impl_ClassesOf_b0 (S : SatT) (K : AVal → H → Prop) (X0 : Frame → H → Prop) (i0_ : Int) (s4_ : Sl) (i17_ : Int) (i18_ : Int) (h : H) : Prop :=
 bif (decide (i18_ < i17_)) then
 nz i0_ (
 nz i0_ (
 nz i0_ (
 nz i0_ (
 nz i0_ (
 nz i0_ (
 nz i0_ (
 nz i0_ (
 nz i0_ (
 newO [.int .i64 (0), .int .i64 (0), .int .i64 (0), .int .i64 (0)] h fun p0 h1 =>
 stN p0 4 [.int .i64 (w64 (Int.tdiv (w64 (Int.tdiv (w64 (Int.tdiv i18_ i0_)) i0_)) i0_)), .int .i64 (Int.tmod (w64 (Int.tdiv (w64 (Int.tdiv i18_ i0_)) i0_)) i0_), .int .i64 (Int.tmod (w64 (Int.tdiv i18_ i0_)) i0_), .int .i64 (Int.tmod i18_ i0_)] h1 fun h2 =>
 ldA p0 4 h2 fun cs3 =>
 ldA p0 4 h2 fun cs4 =>
 callA S i_impl_Tile_class [.agg cs4] h2 fun cs6 h5 =>
(range h5 p0.o p0.n p0.off 4 = range h2 p0.o p0.n p0.off 4) ∧ (
 eqA .i64 4 cs3 cs6 fun b7 =>
 bif b7 then
 ldA p0 4 h5 fun cs8 =>
 lenA cs8 4 (
 newS 1 4 (spl [.int .i64 (0), .int .i64 (0), .int .i64 (0), .int .i64 (0)] 0 4 cs8) h5 fun s9 h10 =>
 app s4_ s9 4 h10 fun s11 h12 =>
 X0 (impl_ClassesOf_e0 i0_ s11 i17_ (w64 (i18_ + (1)))) h12)
 else
 X0 (impl_ClassesOf_e0 i0_ s4_ i17_ (w64 (i18_ + (1)))) h5))))))))))
 else
 impl_ClassesOf_C0 S K s4_ h
theorem impl_ClassesOf_link0 (S : SatT) (K : AVal → H → Prop) (X0 : Frame → H → Prop) (i0_ : Int) (s4_ : Sl) (i17_ : Int) (i18_ : Int) (h : H) : impl_ClassesOf_w0 S K X0 (impl_ClassesOf_e0 i0_ s4_ i17_ i18_) h = impl_ClassesOf_b0 S K X0 i0_ s4_ i17_ i18_ h := by kernel_rfl
theorem impl_ClassesOf_rule0 (S : SatT) (K : AVal → H → Prop) (i0_ : Int) (i17_ : Int) (I_ : Sl → Int → H → Prop) (m_ : Sl → Int → H → Nat)
    (hs : ∀ (X0 : Frame → H → Prop) (s4_ : Sl) (i18_ : Int) (h : H), I_ s4_ i18_ h → (∀ (s4_' : Sl) (i18_' : Int) (h' : H), I_ s4_' i18_' h' → m_ s4_' i18_' h' < m_ s4_ i18_ h → X0 (impl_ClassesOf_e0 i0_ s4_' i17_ i18_') h') → impl_ClassesOf_b0 S K X0 i0_ s4_ i17_ i18_ h) (s4_ : Sl) (i18_ : Int) {h : H} (h0 : I_ s4_ i18_ h) : impl_ClassesOf_L0 S K i0_ s4_ i17_ i18_ h :=
  loop_rule (σ := (Sl) × (Int)) (fun s_ => impl_ClassesOf_e0 i0_ (s_.1) i17_ (s_.2)) (fun s_ h => I_ (s_.1) (s_.2) h) (fun s_ h => m_ (s_.1) (s_.2) h)
    (fun X s_ h hi hx => (impl_ClassesOf_link0 S K X i0_ (s_.1) i17_ (s_.2) h).mpr (hs X (s_.1) (s_.2) h hi fun s4_' i18_' h' hi' hm' => hx (s4_', i18_') h' hi' hm')) (s4_, i18_) h0
theorem impl_ClassesOf_unroll0 (S : SatT) (K : AVal → H → Prop) (i0_ : Int) (s4_ : Sl) (i17_ : Int) (i18_ : Int) (h : H) (hb : impl_ClassesOf_b0 S K (fun fr h => loopK (impl_ClassesOf_w0 S K) fr h) i0_ s4_ i17_ i18_ h) : impl_ClassesOf_L0 S K i0_ s4_ i17_ i18_ h := loop_unroll ((impl_ClassesOf_link0 S K _ i0_ s4_ i17_ i18_ h).mpr hb)
def impl_ClassesOf_main (S : SatT) (K : AVal → H → Prop) (x0 : Int) (h : H) : Prop :=
 callB S i_impl_within [.int .i64 x0, .int .i64 (1), .int .i64 (4)] h fun b1 h0 =>
 bif (!b1) then
 K (.tuple [.sl Sl.nil, .int .i64 (2)]) h0
 else
 newS 0 4 [] h0 fun s2 h3 =>
 impl_ClassesOf_L0 S K x0 s2 (w64 ((w64 ((w64 (x0 * x0)) * x0)) * x0)) (0) h3
theorem impl_ClassesOf_main_link (S : SatT) (K : AVal → H → Prop) (x0 : Int) (h : H) : cwp S tab impl_ClassesOf_M [] (bodyOf Try.f33) (kFun tab Try.f33.results.toList K) (fr0 Try.f33 [.int .i64 x0]) h = impl_ClassesOf_main S K x0 h := by kernel_rfl
theorem impl_ClassesOf_call (x0 : Int) (h : H) (K : AVal → H → Prop) (hm : impl_ClassesOf_main (Sat Try.prog) (fun v h' => K v h') x0 h) : callV (Sat Try.prog) i_impl_ClassesOf [.int .i64 x0] h K := by
  have := Sat.ex tok mixed impl_ClassesOf_M Try.func33 (c := bodyOf Try.f33) (by kernel_rfl) (calls_of Try.func33 (c := bodyOf Try.f33) (by kernel_rfl) (by decide)) ((impl_ClassesOf_main_link _ _ x0 h).mpr hm)
  exact this

/-! ### loop.example/g01354/laws.FnExactClassOf -/
def laws_FnExactClassOf_M : Nat → List Nat := fun i => []
def laws_FnExactClassOf_main (S : SatT) (K : AVal → H → Prop) (x0 : List AVal) (h : H) : Prop :=
 newK 4 x0 h fun p0 h1 =>
 ldA p0 4 h1 fun cs2 =>
 callA S i_laws_toTile [.agg cs2] h1 fun cs4 h3 =>
 callV S i_spec_ClassOf [.agg cs4] h3 fun v6 h5 =>
 viaT v6 fun vs7 =>
 exA vs7 0 fun cs8 =>
 viaT v6 fun vs9 =>
 exI .i64 vs9 1 fun n10 =>
 newO [.int .i64 (0), .int .i64 (0), .int .i64 (0), .int .i64 (0)] h5 fun p11 h12 =>
 stN p11 4 cs8 h12 fun h13 =>
 ldA p0 4 h13 fun cs14 =>
 callA S i_laws_toTile [.agg cs14] h13 fun cs16 h15 =>
 callV S i_impl_ClassOf [.agg cs16] h15 fun v18 h17 =>
 viaT v18 fun vs19 =>
 exA vs19 0 fun cs20 =>
 viaT v18 fun vs21 =>
 exI .i64 vs21 1 fun n22 =>
 newO [.int .i64 (0), .int .i64 (0), .int .i64 (0), .int .i64 (0)] h17 fun p23 h24 =>
 stN p23 4 cs20 h24 fun h25 =>
 ldA p23 4 h25 fun cs26 =>
 ldA p11 4 h25 fun cs27 =>
 callB S i_laws_eqTile [.agg cs26, .agg cs27] h25 fun b29 h28 =>
 bif (!b29) then
 K (.bool false) h28
 else
 bif (n22 != n10) then
 K (.bool false) h28
 else
 K (.bool true) h28
theorem laws_FnExactClassOf_main_link (S : SatT) (K : AVal → H → Prop) (x0 : List AVal) (h : H) : cwp S tab laws_FnExactClassOf_M [] (bodyOf Try.f7) (kFun tab Try.f7.results.toList K) (fr0 Try.f7 [.agg x0]) h = laws_FnExactClassOf_main S K x0 h := by kernel_rfl
theorem laws_FnExactClassOf_call (x0 : List AVal) (h : H) (K : Bool → H → Prop) (hm : laws_FnExactClassOf_main (Sat Try.prog) (fun v h' => ∃ r, v = .bool r ∧ K r h') x0 h) : callB (Sat Try.prog) i_laws_FnExactClassOf [.agg x0] h K := by
  have := Sat.ex tok mixed laws_FnExactClassOf_M Try.func7 (c := bodyOf Try.f7) (by kernel_rfl) (calls_of Try.func7 (c := bodyOf Try.f7) (by kernel_rfl) (by decide)) ((laws_FnExactClassOf_main_link _ _ x0 h).mpr hm)
  obtain ⟨v, h2, h3, r, rfl, h4⟩ := this; exact ⟨r, h2, h3, h4⟩

/-! ### loop.example/g01354/laws.FnExactAreAlike -/
def laws_FnExactAreAlike_M : Nat → List Nat := fun i => []
def laws_FnExactAreAlike_main (S : SatT) (K : AVal → H → Prop) (x0 : List AVal) (x1 : List AVal) (h : H) : Prop :=
 newK 4 x0 h fun p0 h1 =>
 newK 4 x1 h1 fun p2 h3 =>
 ldA p0 4 h3 fun cs4 =>
 callA S i_laws_toTile [.agg cs4] h3 fun cs6 h5 =>
 ldA p2 4 h5 fun cs7 =>
(range h3 p2.o p2.n p2.off 4 = range h5 p2.o p2.n p2.off 4) ∧ (
 callA S i_laws_toTile [.agg cs7] h5 fun cs9 h8 =>
 callV S i_spec_AreAlike [.agg cs6, .agg cs9] h8 fun v11 h10 =>
 viaT v11 fun vs12 =>
 exB vs12 0 fun b13 =>
 viaT v11 fun vs14 =>
 exB vs14 1 fun b15 =>
 viaT v11 fun vs16 =>
 exI .i64 vs16 2 fun n17 =>
 ldA p0 4 h10 fun cs18 =>
 callA S i_laws_toTile [.agg cs18] h10 fun cs20 h19 =>
 ldA p2 4 h19 fun cs21 =>
(range h10 p2.o p2.n p2.off 4 = range h19 p2.o p2.n p2.off 4) ∧ (
 callA S i_laws_toTile [.agg cs21] h19 fun cs23 h22 =>
 callV S i_impl_AreAlike [.agg cs20, .agg cs23] h22 fun v25 h24 =>
 viaT v25 fun vs26 =>
 exB vs26 0 fun b27 =>
 viaT v25 fun vs28 =>
 exB vs28 1 fun b29 =>
 viaT v25 fun vs30 =>
 exI .i64 vs30 2 fun n31 =>
 bif (b27 != b13) then
 K (.bool false) h24
 else
 bif (b29 != b15) then
 K (.bool false) h24
 else
 bif (n31 != n17) then
 K (.bool false) h24
 else
 K (.bool true) h24))
theorem laws_FnExactAreAlike_main_link (S : SatT) (K : AVal → H → Prop) (x0 : List AVal) (x1 : List AVal) (h : H) : cwp S tab laws_FnExactAreAlike_M [] (bodyOf Try.f6) (kFun tab Try.f6.results.toList K) (fr0 Try.f6 [.agg x0, .agg x1]) h = laws_FnExactAreAlike_main S K x0 x1 h := by kernel_rfl
theorem laws_FnExactAreAlike_call (x0 : List AVal) (x1 : List AVal) (h : H) (K : Bool → H → Prop) (hm : laws_FnExactAreAlike_main (Sat Try.prog) (fun v h' => ∃ r, v = .bool r ∧ K r h') x0 x1 h) : callB (Sat Try.prog) i_laws_FnExactAreAlike [.agg x0, .agg x1] h K := by
  have := Sat.ex tok mixed laws_FnExactAreAlike_M Try.func6 (c := bodyOf Try.f6) (by kernel_rfl) (calls_of Try.func6 (c := bodyOf Try.f6) (by kernel_rfl) (by decide)) ((laws_FnExactAreAlike_main_link _ _ x0 x1 h).mpr hm)
  obtain ⟨v, h2, h3, r, rfl, h4⟩ := this; exact ⟨r, h2, h3, h4⟩

/-! ### loop.example/g01354/laws.FnExactClassesOf -/
def laws_FnExactClassesOf_M : Nat → List Nat := fun i => []
def laws_FnExactClassesOf_main (S : SatT) (K : AVal → H → Prop) (x0 : Int) (h : H) : Prop :=
 callV S i_spec_ClassesOf [.int .i64 x0] h fun v1 h0 =>
 viaT v1 fun vs2 =>
 exS vs2 0 fun s3 =>
 viaT v1 fun vs4 =>
 exI .i64 vs4 1 fun n5 =>
 callV S i_impl_ClassesOf [.int .i64 x0] h0 fun v7 h6 =>
 viaT v7 fun vs8 =>
 exS vs8 0 fun s9 =>
 viaT v7 fun vs10 =>
 exI .i64 vs10 1 fun n11 =>
 callB S i_laws_eqTileS [.sl s9, .sl s3] h6 fun b13 h12 =>
 bif (!b13) then
 K (.bool false) h12
 else
 bif (n11 != n5) then
 K (.bool false) h12
 else
 callI S .i64 i_laws_markTileS [.sl s9, .int .i64 (1)] h12 fun n15 h14 =>
 callI S .i64 i_laws_heldTileS [.sl s9, .int .i64 (1)] h14 fun n17 h16 =>
 bif (decide (n17 < (0))) then
 K (.bool false) h16
 else
 bif (n17 != n15) then
 K (.bool false) h16
 else
 callV S i_impl_ClassesOf [.int .i64 x0] h16 fun v19 h18 =>
 viaT v19 fun vs20 =>
 exS vs20 0 fun s21 =>
 viaT v19 fun vs22 =>
 exI .i64 vs22 1 fun n23 =>
 callB S i_laws_eqTileS [.sl s21, .sl s3] h18 fun b25 h24 =>
 bif (!b25) then
 K (.bool false) h24
 else
 bif (n23 != n5) then
 K (.bool false) h24
 else
 callI S .i64 i_laws_heldTileS [.sl s9, .int .i64 (1)] h24 fun n27 h26 =>
 bif (decide (n27 < (0))) then
 K (.bool false) h26
 else
 bif (n27 != n15) then
 K (.bool false) h26
 else
 K (.bool true) h26
theorem laws_FnExactClassesOf_main_link (S : SatT) (K : AVal → H → Prop) (x0 : Int) (h : H) : cwp S tab laws_FnExactClassesOf_M [] (bodyOf Try.f8) (kFun tab Try.f8.results.toList K) (fr0 Try.f8 [.int .i64 x0]) h = laws_FnExactClassesOf_main S K x0 h := by kernel_rfl
theorem laws_FnExactClassesOf_call (x0 : Int) (h : H) (K : Bool → H → Prop) (hm : laws_FnExactClassesOf_main (Sat Try.prog) (fun v h' => ∃ r, v = .bool r ∧ K r h') x0 h) : callB (Sat Try.prog) i_laws_FnExactClassesOf [.int .i64 x0] h K := by
  have := Sat.ex tok mixed laws_FnExactClassesOf_M Try.func8 (c := bodyOf Try.f8) (by kernel_rfl) (calls_of Try.func8 (c := bodyOf Try.f8) (by kernel_rfl) (by decide)) ((laws_FnExactClassesOf_main_link _ _ x0 h).mpr hm)
  obtain ⟨v, h2, h3, r, rfl, h4⟩ := this; exact ⟨r, h2, h3, h4⟩

end Go.Proofs.Ytekfmmcolgjdmaa.Cl
