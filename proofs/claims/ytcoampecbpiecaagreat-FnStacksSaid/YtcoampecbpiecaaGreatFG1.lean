/- Typed forms of functions, and their links. No claim is stated here. -/
import Derived.Test.YtcoampecbpiecaaGreatFT
/- Typed forms of functions of the program, and their links. Printed by program. No claim is stated here. -/
set_option linter.unusedVariables false
namespace Go.Proofs.YtcoampecbpiecaaGreat.Cl
open Go
/-! ### slices.Index[[]loop.example/g01354/impl.Tile,loop.example/g01354/impl.Tile] -/
def slices_Index_s_impl_Tile_impl_Tile__M : Nat → List Nat := fun i => bif i == 0 then [0, 3, 7, 8] else []
def slices_Index_s_impl_Tile_impl_Tile__ks1 (S : SatT) (K : AVal → H → Prop) : Kont := kSeq (cwp S tab slices_Index_s_impl_Tile_impl_Tile__M [] (sub [1, 1] (bodyOf Tryz.f45)) (kFun tab (Tryz.f45).results.toList K)) (kFun tab (Tryz.f45).results.toList K)
def slices_Index_s_impl_Tile_impl_Tile__e0 (s0_ : Sl) (p3_ : Pt) (i7_ : Int) (i8_ : Int) : Frame := [.sl s0_, U, U, .ptr p3_, U, U, U, .int .i64 i7_, .int .i64 i8_, U, U, U, U, U, U, U, U, U, U]
def slices_Index_s_impl_Tile_impl_Tile__w0 (S : SatT) (K : AVal → H → Prop) : (Frame → H → Prop) → Frame → H → Prop := fun X fr h => cwp S tab slices_Index_s_impl_Tile_impl_Tile__M (slices_Index_s_impl_Tile_impl_Tile__M 0) (sub [1, 0, 1, 0, 0] (bodyOf Tryz.f45)) (kSeq (fun fr h => X (mask (slices_Index_s_impl_Tile_impl_Tile__M 0) fr) h) (kBlk 0 (slices_Index_s_impl_Tile_impl_Tile__ks1 S K))) fr h
def slices_Index_s_impl_Tile_impl_Tile__L0 (S : SatT) (K : AVal → H → Prop) (s0_ : Sl) (p3_ : Pt) (i7_ : Int) (i8_ : Int) (h : H) : Prop := loopK (slices_Index_s_impl_Tile_impl_Tile__w0 S K) (slices_Index_s_impl_Tile_impl_Tile__e0 s0_ p3_ i7_ i8_) h
def slices_Index_s_impl_Tile_impl_Tile__C0 (S : SatT) (K : AVal → H → Prop) (h : H) : Prop :=
 K (.int .i64 (-1)) h
def slices_Index_s_impl_Tile_impl_Tile__b0 (S : SatT) (K : AVal → H → Prop) (X0 : Frame → H → Prop) (s0_ : Sl) (p3_ : Pt) (i7_ : Int) (i8_ : Int) (h : H) : Prop :=
 bif (decide (i8_ < i7_)) then
 ldA p3_ 4 h fun cs0 =>
 ixS s0_ 4 i8_ fun p1 =>
 ldA p1 4 h fun cs2 =>
 eqA .i64 4 cs0 cs2 fun b3 =>
 bif b3 then
 K (.int .i64 i8_) h
 else
 X0 (slices_Index_s_impl_Tile_impl_Tile__e0 s0_ p3_ i7_ (w64 (i8_ + (1)))) h
 else
 slices_Index_s_impl_Tile_impl_Tile__C0 S K h
theorem slices_Index_s_impl_Tile_impl_Tile__link0 (S : SatT) (K : AVal → H → Prop) (X0 : Frame → H → Prop) (s0_ : Sl) (p3_ : Pt) (i7_ : Int) (i8_ : Int) (h : H) : slices_Index_s_impl_Tile_impl_Tile__w0 S K X0 (slices_Index_s_impl_Tile_impl_Tile__e0 s0_ p3_ i7_ i8_) h = slices_Index_s_impl_Tile_impl_Tile__b0 S K X0 s0_ p3_ i7_ i8_ h := by kernel_rfl
theorem slices_Index_s_impl_Tile_impl_Tile__rule0 (S : SatT) (K : AVal → H → Prop) (s0_ : Sl) (p3_ : Pt) (i7_ : Int) (I_ : Int → H → Prop) (m_ : Int → H → Nat)
    (hs : ∀ (X0 : Frame → H → Prop) (i8_ : Int) (h : H), I_ i8_ h → (∀ (i8_' : Int) (h' : H), I_ i8_' h' → m_ i8_' h' < m_ i8_ h → X0 (slices_Index_s_impl_Tile_impl_Tile__e0 s0_ p3_ i7_ i8_') h') → slices_Index_s_impl_Tile_impl_Tile__b0 S K X0 s0_ p3_ i7_ i8_ h) (i8_ : Int) {h : H} (h0 : I_ i8_ h) : slices_Index_s_impl_Tile_impl_Tile__L0 S K s0_ p3_ i7_ i8_ h :=
  loop_rule (σ := (Int)) (fun s_ => slices_Index_s_impl_Tile_impl_Tile__e0 s0_ p3_ i7_ (s_)) (fun s_ h => I_ (s_) h) (fun s_ h => m_ (s_) h)
    (fun X s_ h hi hx => (slices_Index_s_impl_Tile_impl_Tile__link0 S K X s0_ p3_ i7_ (s_) h).mpr (hs X (s_) h hi fun i8_' h' hi' hm' => hx (i8_') h' hi' hm')) (i8_) h0
def slices_Index_s_impl_Tile_impl_Tile__main (S : SatT) (K : AVal → H → Prop) (x0 : Sl) (x1 : List AVal) (h : H) : Prop :=
 newK 4 x1 h fun p0 h1 =>
 slices_Index_s_impl_Tile_impl_Tile__L0 S K x0 p0 (x0.len : Int) (0) h1
theorem slices_Index_s_impl_Tile_impl_Tile__main_link (S : SatT) (K : AVal → H → Prop) (x0 : Sl) (x1 : List AVal) (h : H) : cwp S tab slices_Index_s_impl_Tile_impl_Tile__M [] (bodyOf Tryz.f45) (kFun tab Tryz.f45.results.toList K) (fr0 Tryz.f45 [.sl x0, .agg x1]) h = slices_Index_s_impl_Tile_impl_Tile__main S K x0 x1 h := by kernel_rfl
theorem slices_Index_s_impl_Tile_impl_Tile__call (x0 : Sl) (x1 : List AVal) (h : H) (K : Int → H → Prop) (hm : slices_Index_s_impl_Tile_impl_Tile__main (Sat Tryz.prog) (fun v h' => ∃ r, v = .int .i64 r ∧ K r h') x0 x1 h) : callI (Sat Tryz.prog) .i64 i_slices_Index_s_impl_Tile_impl_Tile_ [.sl x0, .agg x1] h K := by
  have := Sat.ex tok mixed slices_Index_s_impl_Tile_impl_Tile__M Tryz.func45 (c := bodyOf Tryz.f45) (by kernel_rfl) (calls_of Tryz.func45 (c := bodyOf Tryz.f45) (by kernel_rfl) (by decide)) ((slices_Index_s_impl_Tile_impl_Tile__main_link _ _ x0 x1 h).mpr hm)
  obtain ⟨v, h2, h3, r, rfl, h4⟩ := this; exact ⟨r, h2, h3, h4⟩

/-! ### (loop.example/g01354/impl.Set).word -/
def impl_Set_word_M : Nat → List Nat := fun i => bif i == 0 then [2, 3, 7, 11, 12, 13] else []
def impl_Set_word_ks2 (S : SatT) (K : AVal → H → Prop) : Kont := kSeq (cwp S tab impl_Set_word_M [] (sub [1, 1, 1] (bodyOf Tryz.f57)) (kFun tab (Tryz.f57).results.toList K)) (kFun tab (Tryz.f57).results.toList K)
def impl_Set_word_e0 (i2_ : Int) (p3_ : Pt) (s7_ : Sl) (s11_ : Sl) (i12_ : Int) (i13_ : Int) : Frame := [U, U, .int .i64 i2_, .ptr p3_, U, U, U, .sl s7_, U, U, U, .sl s11_, .int .i64 i12_, .int .i64 i13_, U, U, U, U, U, U, U, U, U, U, U, U, U, U, U]
def impl_Set_word_w0 (S : SatT) (K : AVal → H → Prop) : (Frame → H → Prop) → Frame → H → Prop := fun X fr h => cwp S tab impl_Set_word_M (impl_Set_word_M 0) (sub [1, 1, 0, 1, 0, 0] (bodyOf Tryz.f57)) (kSeq (fun fr h => X (mask (impl_Set_word_M 0) fr) h) (kBlk 0 (impl_Set_word_ks2 S K))) fr h
def impl_Set_word_L0 (S : SatT) (K : AVal → H → Prop) (i2_ : Int) (p3_ : Pt) (s7_ : Sl) (s11_ : Sl) (i12_ : Int) (i13_ : Int) (h : H) : Prop := loopK (impl_Set_word_w0 S K) (impl_Set_word_e0 i2_ p3_ s7_ s11_ i12_ i13_) h
def impl_Set_word_C0 (S : SatT) (K : AVal → H → Prop) (s7_ : Sl) (h : H) : Prop :=
 K (.sl s7_) h
def impl_Set_word_b0 (S : SatT) (K : AVal → H → Prop) (X0 : Frame → H → Prop) (i2_ : Int) (p3_ : Pt) (s7_ : Sl) (s11_ : Sl) (i12_ : Int) (i13_ : Int) (h : H) : Prop :=
 bif (decide (i13_ < i12_)) then
 ixS s11_ 1 i13_ fun p0 =>
 ldI .i64 p0 h fun n1 =>
 isPt p3_ (
 ldS (Pt.add p3_ 1) h fun s2 =>
 ixS s2 4 n1 fun p3 =>
 ixA p3 4 1 i2_ fun p4 =>
 ldI .i64 p4 h fun n5 =>
 newS 1 1 [.int .i64 n5] h fun s6 h7 =>
 app s7_ s6 1 h7 fun s8 h9 =>
 X0 (impl_Set_word_e0 i2_ p3_ s8 s11_ i12_ (w64 (i13_ + (1)))) h9)
 else
 impl_Set_word_C0 S K s7_ h
theorem impl_Set_word_link0 (S : SatT) (K : AVal → H → Prop) (X0 : Frame → H → Prop) (i2_ : Int) (p3_ : Pt) (s7_ : Sl) (s11_ : Sl) (i12_ : Int) (i13_ : Int) (h : H) : impl_Set_word_w0 S K X0 (impl_Set_word_e0 i2_ p3_ s7_ s11_ i12_ i13_) h = impl_Set_word_b0 S K X0 i2_ p3_ s7_ s11_ i12_ i13_ h := by kernel_rfl
theorem impl_Set_word_rule0 (S : SatT) (K : AVal → H → Prop) (i2_ : Int) (p3_ : Pt) (s11_ : Sl) (i12_ : Int) (I_ : Sl → Int → H → Prop) (m_ : Sl → Int → H → Nat)
    (hs : ∀ (X0 : Frame → H → Prop) (s7_ : Sl) (i13_ : Int) (h : H), I_ s7_ i13_ h → (∀ (s7_' : Sl) (i13_' : Int) (h' : H), I_ s7_' i13_' h' → m_ s7_' i13_' h' < m_ s7_ i13_ h → X0 (impl_Set_word_e0 i2_ p3_ s7_' s11_ i12_ i13_') h') → impl_Set_word_b0 S K X0 i2_ p3_ s7_ s11_ i12_ i13_ h) (s7_ : Sl) (i13_ : Int) {h : H} (h0 : I_ s7_ i13_ h) : impl_Set_word_L0 S K i2_ p3_ s7_ s11_ i12_ i13_ h :=
  loop_rule (σ := (Sl) × (Int)) (fun s_ => impl_Set_word_e0 i2_ p3_ (s_.1) s11_ i12_ (s_.2)) (fun s_ h => I_ (s_.1) (s_.2) h) (fun s_ h => m_ (s_.1) (s_.2) h)
    (fun X s_ h hi hx => (impl_Set_word_link0 S K X i2_ p3_ (s_.1) s11_ i12_ (s_.2) h).mpr (hs X (s_.1) (s_.2) h hi fun s7_' i13_' h' hi' hm' => hx (s7_', i13_') h' hi' hm')) (s7_, i13_) h0
def impl_Set_word_main (S : SatT) (K : AVal → H → Prop) (x0 : List AVal) (x1 : Sl) (x2 : Int) (h : H) : Prop :=
 newK 2 x0 h fun p0 h1 =>
 newS 0 1 [] h1 fun s2 h3 =>
 impl_Set_word_L0 S K x2 p0 s2 x1 (x1.len : Int) (0) h3
theorem impl_Set_word_main_link (S : SatT) (K : AVal → H → Prop) (x0 : List AVal) (x1 : Sl) (x2 : Int) (h : H) : cwp S tab impl_Set_word_M [] (bodyOf Tryz.f57) (kFun tab Tryz.f57.results.toList K) (fr0 Tryz.f57 [.agg x0, .sl x1, .int .i64 x2]) h = impl_Set_word_main S K x0 x1 x2 h := by kernel_rfl
theorem impl_Set_word_call (x0 : List AVal) (x1 : Sl) (x2 : Int) (h : H) (K : Sl → H → Prop) (hm : impl_Set_word_main (Sat Tryz.prog) (fun v h' => ∃ r, v = .sl r ∧ K r h') x0 x1 x2 h) : callS (Sat Tryz.prog) i_impl_Set_word [.agg x0, .sl x1, .int .i64 x2] h K := by
  have := Sat.ex tok mixed impl_Set_word_M Tryz.func57 (c := bodyOf Tryz.f57) (by kernel_rfl) (calls_of Tryz.func57 (c := bodyOf Tryz.f57) (by kernel_rfl) (by decide)) ((impl_Set_word_main_link _ _ x0 x1 x2 h).mpr hm)
  obtain ⟨v, h2, h3, r, rfl, h4⟩ := this; exact ⟨r, h2, h3, h4⟩

/-! ### loop.example/g01354/spec.l01DrawOrder -/
def spec_l01DrawOrder_M : Nat → List Nat := fun i => bif i == 0 then [0, 1, 5, 6] else []
def spec_l01DrawOrder_ks2 (S : SatT) (K : AVal → H → Prop) : Kont := kSeq (cwp S tab spec_l01DrawOrder_M [] (sub [1, 1, 1] (bodyOf Tryz.f131)) (kFun tab (Tryz.f131).results.toList K)) (kFun tab (Tryz.f131).results.toList K)
def spec_l01DrawOrder_e0 (p0_ : Pt) (i1_ : Int) (s5_ : Sl) (i6_ : Int) : Frame := [.ptr p0_, .int .i64 i1_, U, U, U, .sl s5_, .int .i64 i6_, U, U, U, U, U, U, U, U, U, U, U, U, U, U, U, U, U, U, U, U, U, U, U]
def spec_l01DrawOrder_w0 (S : SatT) (K : AVal → H → Prop) : (Frame → H → Prop) → Frame → H → Prop := fun X fr h => cwp S tab spec_l01DrawOrder_M (spec_l01DrawOrder_M 0) (sub [1, 1, 0, 1, 0, 0] (bodyOf Tryz.f131)) (kSeq (fun fr h => X (mask (spec_l01DrawOrder_M 0) fr) h) (kBlk 0 (spec_l01DrawOrder_ks2 S K))) fr h
def spec_l01DrawOrder_L0 (S : SatT) (K : AVal → H → Prop) (p0_ : Pt) (i1_ : Int) (s5_ : Sl) (i6_ : Int) (h : H) : Prop := loopK (spec_l01DrawOrder_w0 S K) (spec_l01DrawOrder_e0 p0_ i1_ s5_ i6_) h
def spec_l01DrawOrder_C0 (S : SatT) (K : AVal → H → Prop) (s5_ : Sl) (h : H) : Prop :=
 K (.sl s5_) h
def spec_l01DrawOrder_b0 (S : SatT) (K : AVal → H → Prop) (X0 : Frame → H → Prop) (p0_ : Pt) (i1_ : Int) (s5_ : Sl) (i6_ : Int) (h : H) : Prop :=
 bif (decide (i6_ < i1_)) then
 callI S .i64 i_spec_l01Next [.ptr p0_, .int .i64 (w64 (i6_ + (1)))] h fun n1 h0 =>
 slotK 12 h0 fun h2 =>
 cut s5_ 1 (0) n1 h2 fun s3 =>
 callS S i_spec_l01Own [.sl s3] h2 fun s5 h4 =>
 cut s5_ 1 n1 (s5_.len : Int) h4 fun s6 =>
 okS h2 s5_ ∧ (
 newSat 1 1 [.int .i64 i6_] h4 (h0.length + 5) fun s7 h8 =>
 okS h4 s5_ ∧ (
 okS h8 s5_ ∧ (
 okS h8 s5_ ∧ (
 app s5 s7 1 h8 fun s9 h10 =>
 okS h10 s5_ ∧ (
 app s9 s6 1 h10 fun s11 h12 =>
 X0 (spec_l01DrawOrder_e0 p0_ i1_ s11 (w64 (i6_ + (1)))) h12)))))
 else
 spec_l01DrawOrder_C0 S K s5_ h
theorem spec_l01DrawOrder_link0 (S : SatT) (K : AVal → H → Prop) (X0 : Frame → H → Prop) (p0_ : Pt) (i1_ : Int) (s5_ : Sl) (i6_ : Int) (h : H) : spec_l01DrawOrder_w0 S K X0 (spec_l01DrawOrder_e0 p0_ i1_ s5_ i6_) h = spec_l01DrawOrder_b0 S K X0 p0_ i1_ s5_ i6_ h := by kernel_rfl
theorem spec_l01DrawOrder_rule0 (S : SatT) (K : AVal → H → Prop) (p0_ : Pt) (i1_ : Int) (I_ : Sl → Int → H → Prop) (m_ : Sl → Int → H → Nat)
    (hs : ∀ (X0 : Frame → H → Prop) (s5_ : Sl) (i6_ : Int) (h : H), I_ s5_ i6_ h → (∀ (s5_' : Sl) (i6_' : Int) (h' : H), I_ s5_' i6_' h' → m_ s5_' i6_' h' < m_ s5_ i6_ h → X0 (spec_l01DrawOrder_e0 p0_ i1_ s5_' i6_') h') → spec_l01DrawOrder_b0 S K X0 p0_ i1_ s5_ i6_ h) (s5_ : Sl) (i6_ : Int) {h : H} (h0 : I_ s5_ i6_ h) : spec_l01DrawOrder_L0 S K p0_ i1_ s5_ i6_ h :=
  loop_rule (σ := (Sl) × (Int)) (fun s_ => spec_l01DrawOrder_e0 p0_ i1_ (s_.1) (s_.2)) (fun s_ h => I_ (s_.1) (s_.2) h) (fun s_ h => m_ (s_.1) (s_.2) h)
    (fun X s_ h hi hx => (spec_l01DrawOrder_link0 S K X p0_ i1_ (s_.1) (s_.2) h).mpr (hs X (s_.1) (s_.2) h hi fun s5_' i6_' h' hi' hm' => hx (s5_', i6_') h' hi' hm')) (s5_, i6_) h0
def spec_l01DrawOrder_main (S : SatT) (K : AVal → H → Prop) (x0 : Pt) (x1 : Int) (h : H) : Prop :=
 newS 0 1 [] h fun s0 h1 =>
 spec_l01DrawOrder_L0 S K x0 x1 s0 (0) h1
theorem spec_l01DrawOrder_main_link (S : SatT) (K : AVal → H → Prop) (x0 : Pt) (x1 : Int) (h : H) : cwp S tab spec_l01DrawOrder_M [] (bodyOf Tryz.f131) (kFun tab Tryz.f131.results.toList K) (fr0 Tryz.f131 [.ptr x0, .int .i64 x1]) h = spec_l01DrawOrder_main S K x0 x1 h := by kernel_rfl
theorem spec_l01DrawOrder_call (x0 : Pt) (x1 : Int) (h : H) (K : Sl → H → Prop) (hm : spec_l01DrawOrder_main (Sat Tryz.prog) (fun v h' => ∃ r, v = .sl r ∧ K r h') x0 x1 h) : callS (Sat Tryz.prog) i_spec_l01DrawOrder [.ptr x0, .int .i64 x1] h K := by
  have := Sat.ex tok mixed spec_l01DrawOrder_M Tryz.func131 (c := bodyOf Tryz.f131) (by kernel_rfl) (calls_of Tryz.func131 (c := bodyOf Tryz.f131) (by kernel_rfl) (by decide)) ((spec_l01DrawOrder_main_link _ _ x0 x1 h).mpr hm)
  obtain ⟨v, h2, h3, r, rfl, h4⟩ := this; exact ⟨r, h2, h3, h4⟩

/-! ### loop.example/g01354/laws.set9 -/
def laws_set9_M : Nat → List Nat := fun i => bif i == 0 then [2, 3, 5] else []
def laws_set9_ks5 (S : SatT) (K : AVal → H → Prop) : Kont := kSeq (cwp S tab laws_set9_M [] (sub [1, 1, 1] (bodyOf Tryz.f13)) (kFun tab (Tryz.f13).results.toList K)) (kFun tab (Tryz.f13).results.toList K)
def laws_set9_e0 (p2_ : Pt) (p3_ : Pt) (i5_ : Int) : Frame := [U, U, .ptr p2_, .ptr p3_, U, .int .i64 i5_, U, U, U, U, U, U, U, U, U, U, U, U, U, U, U, U, U, U, U, U, U, U, U, U, U, U, U, U, U, U, U, U]
def laws_set9_w0 (S : SatT) (K : AVal → H → Prop) : (Frame → H → Prop) → Frame → H → Prop := fun X fr h => cwp S tab laws_set9_M (laws_set9_M 0) (sub [1, 1, 0, 1, 0, 0] (bodyOf Tryz.f13)) (kSeq (fun fr h => X (mask (laws_set9_M 0) fr) h) (kBlk 0 (laws_set9_ks5 S K))) fr h
def laws_set9_L0 (S : SatT) (K : AVal → H → Prop) (p2_ : Pt) (p3_ : Pt) (i5_ : Int) (h : H) : Prop := loopK (laws_set9_w0 S K) (laws_set9_e0 p2_ p3_ i5_) h
def laws_set9_C0 (S : SatT) (K : AVal → H → Prop) (h : H) : Prop :=
 K (.bool true) h
def laws_set9_b0 (S : SatT) (K : AVal → H → Prop) (X0 : Frame → H → Prop) (p2_ : Pt) (p3_ : Pt) (i5_ : Int) (h : H) : Prop :=
 isPt p2_ (
 ldS (Pt.add p2_ 1) h fun s0 =>
 bif (decide (i5_ < (s0.len : Int))) then
 isPt p2_ (
 ldS (Pt.add p2_ 1) h fun s1 =>
 ixS s1 4 i5_ fun p2 =>
 ldA p2 4 h fun cs3 =>
 isPt p3_ (
 ldS (Pt.add p3_ 1) h fun s4 =>
 ixS s4 4 i5_ fun p5 =>
 ldA p5 4 h fun cs6 =>
 eqA .i64 4 cs3 cs6 fun b7 =>
 bif (!b7) then
 K (.bool false) h
 else
 X0 (laws_set9_e0 p2_ p3_ (w64 (i5_ + (1)))) h))
 else
 laws_set9_C0 S K h)
theorem laws_set9_link0 (S : SatT) (K : AVal → H → Prop) (X0 : Frame → H → Prop) (p2_ : Pt) (p3_ : Pt) (i5_ : Int) (h : H) : laws_set9_w0 S K X0 (laws_set9_e0 p2_ p3_ i5_) h = laws_set9_b0 S K X0 p2_ p3_ i5_ h := by kernel_rfl
theorem laws_set9_rule0 (S : SatT) (K : AVal → H → Prop) (p2_ : Pt) (p3_ : Pt) (I_ : Int → H → Prop) (m_ : Int → H → Nat)
    (hs : ∀ (X0 : Frame → H → Prop) (i5_ : Int) (h : H), I_ i5_ h → (∀ (i5_' : Int) (h' : H), I_ i5_' h' → m_ i5_' h' < m_ i5_ h → X0 (laws_set9_e0 p2_ p3_ i5_') h') → laws_set9_b0 S K X0 p2_ p3_ i5_ h) (i5_ : Int) {h : H} (h0 : I_ i5_ h) : laws_set9_L0 S K p2_ p3_ i5_ h :=
  loop_rule (σ := (Int)) (fun s_ => laws_set9_e0 p2_ p3_ (s_)) (fun s_ h => I_ (s_) h) (fun s_ h => m_ (s_) h)
    (fun X s_ h hi hx => (laws_set9_link0 S K X p2_ p3_ (s_) h).mpr (hs X (s_) h hi fun i5_' h' hi' hm' => hx (i5_') h' hi' hm')) (i5_) h0
def laws_set9_main (S : SatT) (K : AVal → H → Prop) (x0 : List AVal) (x1 : List AVal) (h : H) : Prop :=
 newK 2 x0 h fun p0 h1 =>
 newK 2 x1 h1 fun p2 h3 =>
 isPt p0 (
 ldI .i64 (Pt.add p0 0) h3 fun n4 =>
 isPt p2 (
 ldI .i64 (Pt.add p2 0) h3 fun n5 =>
 bif (n4 != n5) then
 K (.bool false) h3
 else
 isPt p0 (
 ldS (Pt.add p0 1) h3 fun s6 =>
 isPt p2 (
 ldS (Pt.add p2 1) h3 fun s7 =>
 bif ((s6.len : Int) != (s7.len : Int)) then
 K (.bool false) h3
 else
 laws_set9_L0 S K p0 p2 (0) h3))))
theorem laws_set9_main_link (S : SatT) (K : AVal → H → Prop) (x0 : List AVal) (x1 : List AVal) (h : H) : cwp S tab laws_set9_M [] (bodyOf Tryz.f13) (kFun tab Tryz.f13.results.toList K) (fr0 Tryz.f13 [.agg x0, .agg x1]) h = laws_set9_main S K x0 x1 h := by kernel_rfl
theorem laws_set9_call (x0 : List AVal) (x1 : List AVal) (h : H) (K : Bool → H → Prop) (hm : laws_set9_main (Sat Tryz.prog) (fun v h' => ∃ r, v = .bool r ∧ K r h') x0 x1 h) : callB (Sat Tryz.prog) i_laws_set9 [.agg x0, .agg x1] h K := by
  have := Sat.ex tok mixed laws_set9_M Tryz.func13 (c := bodyOf Tryz.f13) (by kernel_rfl) (calls_of Tryz.func13 (c := bodyOf Tryz.f13) (by kernel_rfl) (by decide)) ((laws_set9_main_link _ _ x0 x1 h).mpr hm)
  obtain ⟨v, h2, h3, r, rfl, h4⟩ := this; exact ⟨r, h2, h3, h4⟩

/-! ### loop.example/g01354/spec.l01From -/
def spec_l01From_M : Nat → List Nat := fun i => bif i == 0 then [0, 3, 4] else []
def spec_l01From_ks2 (S : SatT) (K : AVal → H → Prop) : Kont := kSeq (cwp S tab spec_l01From_M [] (sub [1, 1, 1] (bodyOf Tryz.f37)) (kFun tab (Tryz.f37).results.toList K)) (kFun tab (Tryz.f37).results.toList K)
def spec_l01From_e0 (s0_ : Sl) (p3_ : Pt) (i4_ : Int) : Frame := [.sl s0_, U, U, .ptr p3_, .int .i64 i4_, U, U, U, U, U, U, U, U, U, U, U, U, U, U, U, U, U, U, U, U, U, U, U, U, U, U, U, U, U, U, U, U, U]
def spec_l01From_w0 (S : SatT) (K : AVal → H → Prop) : (Frame → H → Prop) → Frame → H → Prop := fun X fr h => cwp S tab spec_l01From_M (spec_l01From_M 0) (sub [1, 1, 0, 1, 0, 0] (bodyOf Tryz.f37)) (kSeq (fun fr h => X (mask (spec_l01From_M 0) fr) h) (kBlk 0 (spec_l01From_ks2 S K))) fr h
def spec_l01From_L0 (S : SatT) (K : AVal → H → Prop) (s0_ : Sl) (p3_ : Pt) (i4_ : Int) (h : H) : Prop := loopK (spec_l01From_w0 S K) (spec_l01From_e0 s0_ p3_ i4_) h
def spec_l01From_C0 (S : SatT) (K : AVal → H → Prop) (p3_ : Pt) (h : H) : Prop :=
 K (.ptr p3_) h
def spec_l01From_b0 (S : SatT) (K : AVal → H → Prop) (X0 : Frame → H → Prop) (s0_ : Sl) (p3_ : Pt) (i4_ : Int) (h : H) : Prop :=
 bif (decide (i4_ < (s0_.len : Int))) then
 bif (decide (i4_ < (4096))) then
 nilC (.ptr p3_) (
 isPt p3_ (
 ldI .u64 (Pt.add p3_ 2) h fun n0 =>
 ixS s0_ 1 i4_ fun p1 =>
 ldI .u8 p1 h fun n2 =>
 nilC (.ptr p3_) (
 isPt p3_ (
 st1 (Pt.add p3_ 2) (.int .u64 (IntKind.wrap .u64 ((IntKind.wrap .u64 ((IntKind.wrap .u64 (n0 * (1099511628211))) + (IntKind.wrap .u64 (n2)))) + (191)))) h fun h3 =>
 X0 (spec_l01From_e0 s0_ p3_ (w64 (i4_ + (1)))) h3))))
 else
 spec_l01From_C0 S K p3_ h
 else
 spec_l01From_C0 S K p3_ h
theorem spec_l01From_link0 (S : SatT) (K : AVal → H → Prop) (X0 : Frame → H → Prop) (s0_ : Sl) (p3_ : Pt) (i4_ : Int) (h : H) : spec_l01From_w0 S K X0 (spec_l01From_e0 s0_ p3_ i4_) h = spec_l01From_b0 S K X0 s0_ p3_ i4_ h := by kernel_rfl
theorem spec_l01From_rule0 (S : SatT) (K : AVal → H → Prop) (s0_ : Sl) (p3_ : Pt) (I_ : Int → H → Prop) (m_ : Int → H → Nat)
    (hs : ∀ (X0 : Frame → H → Prop) (i4_ : Int) (h : H), I_ i4_ h → (∀ (i4_' : Int) (h' : H), I_ i4_' h' → m_ i4_' h' < m_ i4_ h → X0 (spec_l01From_e0 s0_ p3_ i4_') h') → spec_l01From_b0 S K X0 s0_ p3_ i4_ h) (i4_ : Int) {h : H} (h0 : I_ i4_ h) : spec_l01From_L0 S K s0_ p3_ i4_ h :=
  loop_rule (σ := (Int)) (fun s_ => spec_l01From_e0 s0_ p3_ (s_)) (fun s_ h => I_ (s_) h) (fun s_ h => m_ (s_) h)
    (fun X s_ h hi hx => (spec_l01From_link0 S K X s0_ p3_ (s_) h).mpr (hs X (s_) h hi fun i4_' h' hi' hm' => hx (i4_') h' hi' hm')) (i4_) h0
def spec_l01From_main (S : SatT) (K : AVal → H → Prop) (x0 : Sl) (h : H) : Prop :=
 newK 3 [.sl x0, .int .i64 (0), .int .u64 (IntKind.wrap .u64 ((13541) + (IntKind.wrap .u64 ((x0.len : Int)))))] h fun p0 h1 =>
 spec_l01From_L0 S K x0 p0 (0) h1
theorem spec_l01From_main_link (S : SatT) (K : AVal → H → Prop) (x0 : Sl) (h : H) : cwp S tab spec_l01From_M [] (bodyOf Tryz.f37) (kFun tab Tryz.f37.results.toList K) (fr0 Tryz.f37 [.sl x0]) h = spec_l01From_main S K x0 h := by kernel_rfl
theorem spec_l01From_call (x0 : Sl) (h : H) (K : Pt → H → Prop) (hm : spec_l01From_main (Sat Tryz.prog) (fun v h' => ∃ r, v = .ptr r ∧ K r h') x0 h) : callP (Sat Tryz.prog) i_spec_l01From [.sl x0] h K := by
  have := Sat.ex tok mixed spec_l01From_M Tryz.func37 (c := bodyOf Tryz.f37) (by kernel_rfl) (calls_of Tryz.func37 (c := bodyOf Tryz.f37) (by kernel_rfl) (by decide)) ((spec_l01From_main_link _ _ x0 h).mpr hm)
  obtain ⟨v, h2, h3, r, rfl, h4⟩ := this; exact ⟨r, h2, h3, h4⟩

/-! ### loop.example/g01354/spec.DrawSplitRow -/
def spec_DrawSplitRow_M : Nat → List Nat := fun i => []
def spec_DrawSplitRow_main (S : SatT) (K : AVal → H → Prop) (x0 : Sl) (h : H) : Prop :=
 newO [.int .i64 (0), .sl Sl.nil] h fun p0 h1 =>
 newO [.int .i64 (0), .sl Sl.nil] h1 fun p2 h3 =>
 callP S i_spec_l01From [.sl x0] h3 fun p5 h4 =>
 callV S i_spec_l04Two [.sl x0] h4 fun v7 h6 =>
 viaT v7 fun vs8 =>
 exA vs8 0 fun cs9 =>
 viaT v7 fun vs10 =>
 exA vs10 1 fun cs11 =>
 newO [.int .i64 (0), .sl Sl.nil] h6 fun p12 h13 =>
 newO [.int .i64 (0), .sl Sl.nil] h13 fun p14 h15 =>
 stN p12 2 cs9 h15 fun h16 =>
 stN p14 2 cs11 h16 fun h17 =>
 ldA p12 2 h17 fun cs18 =>
 ldA p14 2 h17 fun cs19 =>
 callV S i_spec_StackSets [.agg cs18, .agg cs19] h17 fun v21 h20 =>
 viaT v21 fun vs22 =>
 exA vs22 0 fun cs23 =>
 viaT v21 fun vs24 =>
 exI .i64 vs24 1 fun n25 =>
 newO [.int .i64 (0), .sl Sl.nil] h20 fun p26 h27 =>
 stN p26 2 cs23 h27 fun h28 =>
 bif (n25 != (0)) then
 slotK 6 h28 fun h29 =>
 ldA p12 2 h29 fun cs30 =>
 ldA p14 2 h29 fun cs31 =>
 stN p0 2 cs30 h29 fun h32 =>
(range h32 p14.o p14.n p14.off 2 = range h29 p14.o p14.n p14.off 2) ∧ (
 stN p2 2 cs31 h32 fun h33 =>
 newSat 1 1 [.int .i64 (0)] h33 (h28.length + 2) fun s34 h35 =>
(range h33 p14.o p14.n p14.off 2 = range h29 p14.o p14.n p14.off 2) ∧ (
(range h33 p12.o p12.n p12.off 2 = range h29 p12.o p12.n p12.off 2) ∧ (
(range h35 p14.o p14.n p14.off 2 = range h29 p14.o p14.n p14.off 2) ∧ (
(range h35 p12.o p12.n p12.off 2 = range h29 p12.o p12.n p12.off 2) ∧ (
 ldA p0 2 h35 fun cs36 =>
 ldA p2 2 h35 fun cs37 =>
 K (.tuple [.agg cs36, .agg cs37, .sl s34]) h35)))))
 else
 ldA p12 2 h28 fun cs38 =>
 ldA p14 2 h28 fun cs39 =>
 ldA p26 2 h28 fun cs40 =>
 callS S i_spec_l02DrawRow [.ptr p5, .agg cs40] h28 fun s42 h41 =>
(range h41 p14.o p14.n p14.off 2 = range h28 p14.o p14.n p14.off 2) ∧ (
(range h41 p12.o p12.n p12.off 2 = range h28 p12.o p12.n p12.off 2) ∧ (
 stN p0 2 cs38 h41 fun h43 =>
(range h43 p14.o p14.n p14.off 2 = range h28 p14.o p14.n p14.off 2) ∧ (
 stN p2 2 cs39 h43 fun h44 =>
 ldA p0 2 h44 fun cs45 =>
 ldA p2 2 h44 fun cs46 =>
 K (.tuple [.agg cs45, .agg cs46, .sl s42]) h44)))
theorem spec_DrawSplitRow_main_link (S : SatT) (K : AVal → H → Prop) (x0 : Sl) (h : H) : cwp S tab spec_DrawSplitRow_M [] (bodyOf Tryz.f6) (kFun tab Tryz.f6.results.toList K) (fr0 Tryz.f6 [.sl x0]) h = spec_DrawSplitRow_main S K x0 h := by kernel_rfl
theorem spec_DrawSplitRow_call (x0 : Sl) (h : H) (K : AVal → H → Prop) (hm : spec_DrawSplitRow_main (Sat Tryz.prog) (fun v h' => K v h') x0 h) : callV (Sat Tryz.prog) i_spec_DrawSplitRow [.sl x0] h K := by
  have := Sat.ex tok mixed spec_DrawSplitRow_M Tryz.func6 (c := bodyOf Tryz.f6) (by kernel_rfl) (calls_of Tryz.func6 (c := bodyOf Tryz.f6) (by kernel_rfl) (by decide)) ((spec_DrawSplitRow_main_link _ _ x0 h).mpr hm)
  exact this

/-! ### loop.example/g01354/spec.l01Names -/
def spec_l01Names_M : Nat → List Nat := fun i => []
def spec_l01Names_main (S : SatT) (K : AVal → H → Prop) (h : H) : Prop :=
 newS 8 1 [.str (⟨#[112, 108, 97, 105, 110]⟩ : ByteArray), .str (⟨#[99, 104, 101, 115, 115]⟩ : ByteArray), .str (⟨#[119, 105, 114, 101, 115]⟩ : ByteArray), .str (⟨#[98, 101, 110, 100, 115]⟩ : ByteArray), .str (⟨#[115, 117, 109, 115]⟩ : ByteArray), .str (⟨#[99, 97, 114, 114, 121]⟩ : ByteArray), .str (⟨#[119, 97, 108, 108]⟩ : ByteArray), .str (⟨#[119, 104, 101, 101, 108]⟩ : ByteArray)] h fun s0 h1 =>
 K (.sl s0) h1
theorem spec_l01Names_main_link (S : SatT) (K : AVal → H → Prop) (h : H) : cwp S tab spec_l01Names_M [] (bodyOf Tryz.f128) (kFun tab Tryz.f128.results.toList K) (fr0 Tryz.f128 []) h = spec_l01Names_main S K h := by kernel_rfl
theorem spec_l01Names_call (h : H) (K : Sl → H → Prop) (hm : spec_l01Names_main (Sat Tryz.prog) (fun v h' => ∃ r, v = .sl r ∧ K r h') h) : callS (Sat Tryz.prog) i_spec_l01Names [] h K := by
  have := Sat.ex tok mixed spec_l01Names_M Tryz.func128 (c := bodyOf Tryz.f128) (by kernel_rfl) (calls_of Tryz.func128 (c := bodyOf Tryz.f128) (by kernel_rfl) (by decide)) ((spec_l01Names_main_link _ _ h).mpr hm)
  obtain ⟨v, h2, h3, r, rfl, h4⟩ := this; exact ⟨r, h2, h3, h4⟩

/-! ### loop.example/g01354/impl.pairs$1 -/
def impl_pairs_1_M : Nat → List Nat := fun i => []
def impl_pairs_1_main (S : SatT) (K : AVal → H → Prop) (x0 : List AVal) (x1 : List AVal) (h : H) : Prop :=
 newK 2 x0 h fun p0 h1 =>
 newK 2 x1 h1 fun p2 h3 =>
 cutA p0 2 1 (0) ((2 : Nat) : Int) fun s4 =>
 cutA p2 2 1 (0) ((2 : Nat) : Int) fun s5 =>
 callI S .i64 i_slices_Compare_s_int64_int64_ [.sl s4, .sl s5] h3 fun n7 h6 =>
 K (.int .i64 n7) h6
theorem impl_pairs_1_main_link (S : SatT) (K : AVal → H → Prop) (x0 : List AVal) (x1 : List AVal) (h : H) : cwp S tab impl_pairs_1_M [] (bodyOf Tryz.f103) (kFun tab Tryz.f103.results.toList K) (fr0 Tryz.f103 [.agg x0, .agg x1]) h = impl_pairs_1_main S K x0 x1 h := by kernel_rfl
theorem impl_pairs_1_call (x0 : List AVal) (x1 : List AVal) (h : H) (K : Int → H → Prop) (hm : impl_pairs_1_main (Sat Tryz.prog) (fun v h' => ∃ r, v = .int .i64 r ∧ K r h') x0 x1 h) : callI (Sat Tryz.prog) .i64 i_impl_pairs_1 [.agg x0, .agg x1] h K := by
  have := Sat.ex tok mixed impl_pairs_1_M Tryz.func103 (c := bodyOf Tryz.f103) (by kernel_rfl) (calls_of Tryz.func103 (c := bodyOf Tryz.f103) (by kernel_rfl) (by decide)) ((impl_pairs_1_main_link _ _ x0 x1 h).mpr hm)
  obtain ⟨v, h2, h3, r, rfl, h4⟩ := this; exact ⟨r, h2, h3, h4⟩

/-! ### loop.example/g01354/impl.isTile -/
def impl_isTile_M : Nat → List Nat := fun i => []
def impl_isTile_main (S : SatT) (K : AVal → H → Prop) (x0 : List AVal) (x1 : Int) (h : H) : Prop :=
 newK 4 x0 h fun p0 h1 =>
 newO [.int .i64 x1] h1 fun p2 h3 =>
 cutA p0 4 1 (0) ((4 : Nat) : Int) fun s4 =>
 callB S i_slices_ContainsFunc_s_int64_int64_ [.sl s4, .func 106 [.ptr p2]] h3 fun b6 h5 =>
 K (.bool (!b6)) h5
theorem impl_isTile_main_link (S : SatT) (K : AVal → H → Prop) (x0 : List AVal) (x1 : Int) (h : H) : cwp S tab impl_isTile_M [] (bodyOf Tryz.f52) (kFun tab Tryz.f52.results.toList K) (fr0 Tryz.f52 [.agg x0, .int .i64 x1]) h = impl_isTile_main S K x0 x1 h := by kernel_rfl
theorem impl_isTile_call (x0 : List AVal) (x1 : Int) (h : H) (K : Bool → H → Prop) (hm : impl_isTile_main (Sat Tryz.prog) (fun v h' => ∃ r, v = .bool r ∧ K r h') x0 x1 h) : callB (Sat Tryz.prog) i_impl_isTile [.agg x0, .int .i64 x1] h K := by
  have := Sat.ex tok mixed impl_isTile_M Tryz.func52 (c := bodyOf Tryz.f52) (by kernel_rfl) (calls_of Tryz.func52 (c := bodyOf Tryz.f52) (by kernel_rfl) (by decide)) ((impl_isTile_main_link _ _ x0 x1 h).mpr hm)
  obtain ⟨v, h2, h3, r, rfl, h4⟩ := this; exact ⟨r, h2, h3, h4⟩

/-! ### loop.example/g01354/impl.WordsOfRow$1 -/
def impl_WordsOfRow_1_M : Nat → List Nat := fun i => []
def impl_WordsOfRow_1_main (S : SatT) (K : AVal → H → Prop) (x0 : Pt) (x1 : Pt) (h : H) : Prop :=
 ldA x0 2 h fun cs0 =>
 ldS x1 h fun s1 =>
 callB S i_impl_Set_isRow [.agg cs0, .sl s1] h fun b3 h2 =>
 K (.bool b3) h2
theorem impl_WordsOfRow_1_main_link (S : SatT) (K : AVal → H → Prop) (x0 : Pt) (x1 : Pt) (h : H) : cwp S tab impl_WordsOfRow_1_M [] (bodyOf Tryz.f56) (kFun tab Tryz.f56.results.toList K) (fr0 Tryz.f56 [.ptr x0, .ptr x1]) h = impl_WordsOfRow_1_main S K x0 x1 h := by kernel_rfl
theorem impl_WordsOfRow_1_call (x0 : Pt) (x1 : Pt) (h : H) (K : Bool → H → Prop) (hm : impl_WordsOfRow_1_main (Sat Tryz.prog) (fun v h' => ∃ r, v = .bool r ∧ K r h') x0 x1 h) : callB (Sat Tryz.prog) i_impl_WordsOfRow_1 [.ptr x0, .ptr x1] h K := by
  have := Sat.ex tok mixed impl_WordsOfRow_1_M Tryz.func56 (c := bodyOf Tryz.f56) (by kernel_rfl) (calls_of Tryz.func56 (c := bodyOf Tryz.f56) (by kernel_rfl) (by decide)) ((impl_WordsOfRow_1_main_link _ _ x0 x1 h).mpr hm)
  obtain ⟨v, h2, h3, r, rfl, h4⟩ := this; exact ⟨r, h2, h3, h4⟩

/-! ### loop.example/g01354/spec.l01Pick -/
def spec_l01Pick_M : Nat → List Nat := fun i => []
def spec_l01Pick_main (S : SatT) (K : AVal → H → Prop) (x0 : Pt) (x1 : Sl) (h : H) : Prop :=
 callI S .i64 i_spec_l01Next [.ptr x0, .int .i64 (x1.len : Int)] h fun n1 h0 =>
 ixS x1 1 n1 fun p2 =>
 ldI .i64 p2 h0 fun n3 =>
 K (.int .i64 n3) h0
theorem spec_l01Pick_main_link (S : SatT) (K : AVal → H → Prop) (x0 : Pt) (x1 : Sl) (h : H) : cwp S tab spec_l01Pick_M [] (bodyOf Tryz.f90) (kFun tab Tryz.f90.results.toList K) (fr0 Tryz.f90 [.ptr x0, .sl x1]) h = spec_l01Pick_main S K x0 x1 h := by kernel_rfl
theorem spec_l01Pick_call (x0 : Pt) (x1 : Sl) (h : H) (K : Int → H → Prop) (hm : spec_l01Pick_main (Sat Tryz.prog) (fun v h' => ∃ r, v = .int .i64 r ∧ K r h') x0 x1 h) : callI (Sat Tryz.prog) .i64 i_spec_l01Pick [.ptr x0, .sl x1] h K := by
  have := Sat.ex tok mixed spec_l01Pick_M Tryz.func90 (c := bodyOf Tryz.f90) (by kernel_rfl) (calls_of Tryz.func90 (c := bodyOf Tryz.f90) (by kernel_rfl) (by decide)) ((spec_l01Pick_main_link _ _ x0 x1 h).mpr hm)
  obtain ⟨v, h2, h3, r, rfl, h4⟩ := this; exact ⟨r, h2, h3, h4⟩

/-! ### loop.example/g01354/spec.l01Own -/
def spec_l01Own_M : Nat → List Nat := fun i => []
def spec_l01Own_main (S : SatT) (K : AVal → H → Prop) (x0 : Sl) (h : H) : Prop :=
 newS 0 1 [] h fun s0 h1 =>
 app s0 x0 1 h1 fun s2 h3 =>
 K (.sl s2) h3
theorem spec_l01Own_main_link (S : SatT) (K : AVal → H → Prop) (x0 : Sl) (h : H) : cwp S tab spec_l01Own_M [] (bodyOf Tryz.f140) (kFun tab Tryz.f140.results.toList K) (fr0 Tryz.f140 [.sl x0]) h = spec_l01Own_main S K x0 h := by kernel_rfl
theorem spec_l01Own_call (x0 : Sl) (h : H) (K : Sl → H → Prop) (hm : spec_l01Own_main (Sat Tryz.prog) (fun v h' => ∃ r, v = .sl r ∧ K r h') x0 h) : callS (Sat Tryz.prog) i_spec_l01Own [.sl x0] h K := by
  have := Sat.ex tok mixed spec_l01Own_M Tryz.func140 (c := bodyOf Tryz.f140) (by kernel_rfl) (calls_of Tryz.func140 (c := bodyOf Tryz.f140) (by kernel_rfl) (by decide)) ((spec_l01Own_main_link _ _ x0 h).mpr hm)
  obtain ⟨v, h2, h3, r, rfl, h4⟩ := this; exact ⟨r, h2, h3, h4⟩

end Go.Proofs.YtcoampecbpiecaaGreat.Cl
