/- Typed forms of functions, and their links. No claim is stated here. -/
import Derived.Test.YtgeakkmpohjohaaFT
/- Typed forms of functions of the program, and their links. Printed by program. No claim is stated here. -/
set_option linter.unusedVariables false
namespace Go.Proofs.Ytgeakkmpohjohaa.Cl
open Go
/-! ### loop.example/g01354/laws.toInt64S -/
def laws_toInt64S_M : Nat → List Nat := fun i => bif i == 0 then [0, 3, 4] else []
def laws_toInt64S_ks2 (S : SatT) (K : AVal → H → Prop) : Kont := kSeq (cwp S tab laws_toInt64S_M [] (sub [1, 1, 1] (bodyOf Try.f27)) (kFun tab (Try.f27).results.toList K)) (kFun tab (Try.f27).results.toList K)
def laws_toInt64S_e0 (s0_ : Sl) (s3_ : Sl) (i4_ : Int) : Frame := [.sl s0_, U, U, .sl s3_, .int .i64 i4_, U, U, U, U, U, U, U, U, U, U, U, U, U, U, U, U, U]
def laws_toInt64S_w0 (S : SatT) (K : AVal → H → Prop) : (Frame → H → Prop) → Frame → H → Prop := fun X fr h => cwp S tab laws_toInt64S_M (laws_toInt64S_M 0) (sub [1, 1, 0, 1, 0, 0] (bodyOf Try.f27)) (kSeq (fun fr h => X (mask (laws_toInt64S_M 0) fr) h) (kBlk 0 (laws_toInt64S_ks2 S K))) fr h
def laws_toInt64S_L0 (S : SatT) (K : AVal → H → Prop) (s0_ : Sl) (s3_ : Sl) (i4_ : Int) (h : H) : Prop := loopK (laws_toInt64S_w0 S K) (laws_toInt64S_e0 s0_ s3_ i4_) h
def laws_toInt64S_C0 (S : SatT) (K : AVal → H → Prop) (s3_ : Sl) (h : H) : Prop :=
 K (.sl s3_) h
def laws_toInt64S_b0 (S : SatT) (K : AVal → H → Prop) (X0 : Frame → H → Prop) (s0_ : Sl) (s3_ : Sl) (i4_ : Int) (h : H) : Prop :=
 bif (decide (i4_ < (s0_.len : Int))) then
 ixS s0_ 1 i4_ fun p0 =>
 ldI .i64 p0 h fun n1 =>
 ixS s3_ 1 i4_ fun p2 =>
 st1 p2 (.int .i64 n1) h fun h3 =>
 X0 (laws_toInt64S_e0 s0_ s3_ (w64 (i4_ + (1)))) h3
 else
 laws_toInt64S_C0 S K s3_ h
theorem laws_toInt64S_link0 (S : SatT) (K : AVal → H → Prop) (X0 : Frame → H → Prop) (s0_ : Sl) (s3_ : Sl) (i4_ : Int) (h : H) : laws_toInt64S_w0 S K X0 (laws_toInt64S_e0 s0_ s3_ i4_) h = laws_toInt64S_b0 S K X0 s0_ s3_ i4_ h := by kernel_rfl
theorem laws_toInt64S_rule0 (S : SatT) (K : AVal → H → Prop) (s0_ : Sl) (s3_ : Sl) (I_ : Int → H → Prop) (m_ : Int → H → Nat)
    (hs : ∀ (X0 : Frame → H → Prop) (i4_ : Int) (h : H), I_ i4_ h → (∀ (i4_' : Int) (h' : H), I_ i4_' h' → m_ i4_' h' < m_ i4_ h → X0 (laws_toInt64S_e0 s0_ s3_ i4_') h') → laws_toInt64S_b0 S K X0 s0_ s3_ i4_ h) (i4_ : Int) {h : H} (h0 : I_ i4_ h) : laws_toInt64S_L0 S K s0_ s3_ i4_ h :=
  loop_rule (σ := (Int)) (fun s_ => laws_toInt64S_e0 s0_ s3_ (s_)) (fun s_ h => I_ (s_) h) (fun s_ h => m_ (s_) h)
    (fun X s_ h hi hx => (laws_toInt64S_link0 S K X s0_ s3_ (s_) h).mpr (hs X (s_) h hi fun i4_' h' hi' hm' => hx (i4_') h' hi' hm')) (i4_) h0
theorem laws_toInt64S_unroll0 (S : SatT) (K : AVal → H → Prop) (s0_ : Sl) (s3_ : Sl) (i4_ : Int) (h : H) (hb : laws_toInt64S_b0 S K (fun fr h => loopK (laws_toInt64S_w0 S K) fr h) s0_ s3_ i4_ h) : laws_toInt64S_L0 S K s0_ s3_ i4_ h := loop_unroll ((laws_toInt64S_link0 S K _ s0_ s3_ i4_ h).mpr hb)
def laws_toInt64S_main (S : SatT) (K : AVal → H → Prop) (x0 : Sl) (h : H) : Prop :=
 mkS (x0.len : Int) [.int .i64 (0)] h fun s0 h1 =>
 laws_toInt64S_L0 S K x0 s0 (0) h1
theorem laws_toInt64S_main_link (S : SatT) (K : AVal → H → Prop) (x0 : Sl) (h : H) : cwp S tab laws_toInt64S_M [] (bodyOf Try.f27) (kFun tab Try.f27.results.toList K) (fr0 Try.f27 [.sl x0]) h = laws_toInt64S_main S K x0 h := by kernel_rfl
theorem laws_toInt64S_call (x0 : Sl) (h : H) (K : Sl → H → Prop) (hm : laws_toInt64S_main (Sat Try.prog) (fun v h' => ∃ r, v = .sl r ∧ K r h') x0 h) : callS (Sat Try.prog) i_laws_toInt64S [.sl x0] h K := by
  have := Sat.ex tok mixed laws_toInt64S_M Try.func27 (c := bodyOf Try.f27) (by kernel_rfl) (calls_of Try.func27 (c := bodyOf Try.f27) (by kernel_rfl) (by decide)) ((laws_toInt64S_main_link _ _ x0 h).mpr hm)
  obtain ⟨v, h2, h3, r, rfl, h4⟩ := this; exact ⟨r, h2, h3, h4⟩

/-! ### (*loop.example/g01354/impl.filler).fits$1 -/
def impl_filler_fits_1_M : Nat → List Nat := fun i => []
def impl_filler_fits_1_main (S : SatT) (K : AVal → H → Prop) (x0 : Int) (x1 : Int) (x2 : Pt) (x3 : Pt) (h : H) : Prop :=
 ldP x2 h fun p0 =>
 nilC (.ptr p0) (
 isPt p0 (
 ldS (Pt.add p0 3) h fun s1 =>
 ixS s1 1 x0 fun p2 =>
 ldS p2 h fun s3 =>
 bif ((s3.len : Int) == (0)) then
 K (.bool true) h
 else
 ldP x2 h fun p4 =>
 nilC (.ptr p4) (
 isPt p4 (
 ldS (Pt.add p4 3) h fun s5 =>
 ixS s5 1 x0 fun p6 =>
 ldS p6 h fun s7 =>
 ixS s7 1 x1 fun p8 =>
 ldI .i64 p8 h fun n9 =>
 ixA x3 4 1 x0 fun p10 =>
 ldI .i64 p10 h fun n11 =>
 K (.bool (n9 == n11)) h))))
theorem impl_filler_fits_1_main_link (S : SatT) (K : AVal → H → Prop) (x0 : Int) (x1 : Int) (x2 : Pt) (x3 : Pt) (h : H) : cwp S tab impl_filler_fits_1_M [] (bodyOf Try.f58) (kFun tab Try.f58.results.toList K) (fr0 Try.f58 [.int .i64 x0, .int .i64 x1, .ptr x2, .ptr x3]) h = impl_filler_fits_1_main S K x0 x1 x2 x3 h := by kernel_rfl
theorem impl_filler_fits_1_call (x0 : Int) (x1 : Int) (x2 : Pt) (x3 : Pt) (h : H) (K : Bool → H → Prop) (hm : impl_filler_fits_1_main (Sat Try.prog) (fun v h' => ∃ r, v = .bool r ∧ K r h') x0 x1 x2 x3 h) : callB (Sat Try.prog) i_impl_filler_fits_1 [.int .i64 x0, .int .i64 x1, .ptr x2, .ptr x3] h K := by
  have := Sat.ex tok mixed impl_filler_fits_1_M Try.func58 (c := bodyOf Try.f58) (by kernel_rfl) (calls_of Try.func58 (c := bodyOf Try.f58) (by kernel_rfl) (by decide)) ((impl_filler_fits_1_main_link _ _ x0 x1 x2 x3 h).mpr hm)
  obtain ⟨v, h2, h3, r, rfl, h4⟩ := this; exact ⟨r, h2, h3, h4⟩

/-! ### (*loop.example/g01354/impl.filler).fits$2 -/
def impl_filler_fits_2_M : Nat → List Nat := fun i => []
def impl_filler_fits_2_main (S : SatT) (K : AVal → H → Prop) (x0 : Int) (x1 : Pt) (x2 : Pt) (x3 : Pt) (h : H) : Prop :=
 ldI .i64 x1 h fun n0 =>
 ldP x2 h fun p1 =>
 nilC (.ptr p1) (
 isPt p1 (
 ldS (Pt.add p1 4) h fun s2 =>
 ixS s2 1 x0 fun p3 =>
 ldI .i64 p3 h fun n4 =>
 nz n4 (
 ldI .i64 x3 h fun n5 =>
 nz n5 (
 K (.int .i64 (Int.tmod (w64 (Int.tdiv n0 n4)) n5)) h))))
theorem impl_filler_fits_2_main_link (S : SatT) (K : AVal → H → Prop) (x0 : Int) (x1 : Pt) (x2 : Pt) (x3 : Pt) (h : H) : cwp S tab impl_filler_fits_2_M [] (bodyOf Try.f59) (kFun tab Try.f59.results.toList K) (fr0 Try.f59 [.int .i64 x0, .ptr x1, .ptr x2, .ptr x3]) h = impl_filler_fits_2_main S K x0 x1 x2 x3 h := by kernel_rfl
theorem impl_filler_fits_2_call (x0 : Int) (x1 : Pt) (x2 : Pt) (x3 : Pt) (h : H) (K : Int → H → Prop) (hm : impl_filler_fits_2_main (Sat Try.prog) (fun v h' => ∃ r, v = .int .i64 r ∧ K r h') x0 x1 x2 x3 h) : callI (Sat Try.prog) .i64 i_impl_filler_fits_2 [.int .i64 x0, .ptr x1, .ptr x2, .ptr x3] h K := by
  have := Sat.ex tok mixed impl_filler_fits_2_M Try.func59 (c := bodyOf Try.f59) (by kernel_rfl) (calls_of Try.func59 (c := bodyOf Try.f59) (by kernel_rfl) (by decide)) ((impl_filler_fits_2_main_link _ _ x0 x1 x2 x3 h).mpr hm)
  obtain ⟨v, h2, h3, r, rfl, h4⟩ := this; exact ⟨r, h2, h3, h4⟩

/-! ### loop.example/g01354/impl.planCode$1 -/
def impl_planCode_1_M : Nat → List Nat := fun i => []
def impl_planCode_1_main (S : SatT) (K : AVal → H → Prop) (x0 : Pt) (x1 : Pt) (x2 : Pt) (h : H) : Prop :=
 ldA x0 2 h fun cs0 =>
 ldS x1 h fun s1 =>
 callB S i_impl_Set_isPlan [.agg cs0, .sl s1] h fun b3 h2 =>
 bif b3 then
 ldA x0 2 h2 fun cs4 =>
 ldS x1 h2 fun s5 =>
 ldS x2 h2 fun s6 =>
 callB S i_impl_Set_areBorders [.agg cs4, .sl s5, .sl s6] h2 fun b8 h7 =>
 K (.bool b8) h7
 else
 K (.bool false) h2
theorem impl_planCode_1_main_link (S : SatT) (K : AVal → H → Prop) (x0 : Pt) (x1 : Pt) (x2 : Pt) (h : H) : cwp S tab impl_planCode_1_M [] (bodyOf Try.f42) (kFun tab Try.f42.results.toList K) (fr0 Try.f42 [.ptr x0, .ptr x1, .ptr x2]) h = impl_planCode_1_main S K x0 x1 x2 h := by kernel_rfl
theorem impl_planCode_1_call (x0 : Pt) (x1 : Pt) (x2 : Pt) (h : H) (K : Bool → H → Prop) (hm : impl_planCode_1_main (Sat Try.prog) (fun v h' => ∃ r, v = .bool r ∧ K r h') x0 x1 x2 h) : callB (Sat Try.prog) i_impl_planCode_1 [.ptr x0, .ptr x1, .ptr x2] h K := by
  have := Sat.ex tok mixed impl_planCode_1_M Try.func42 (c := bodyOf Try.f42) (by kernel_rfl) (calls_of Try.func42 (c := bodyOf Try.f42) (by kernel_rfl) (by decide)) ((impl_planCode_1_main_link _ _ x0 x1 x2 h).mpr hm)
  obtain ⟨v, h2, h3, r, rfl, h4⟩ := this; exact ⟨r, h2, h3, h4⟩

/-! ### loop.example/g01354/impl.compare -/
def impl_compare_M : Nat → List Nat := fun i => []
def impl_compare_main (S : SatT) (K : AVal → H → Prop) (x0 : List AVal) (x1 : List AVal) (h : H) : Prop :=
 newK 4 x0 h fun p0 h1 =>
 newK 4 x1 h1 fun p2 h3 =>
 cutA p0 4 1 (0) ((4 : Nat) : Int) fun s4 =>
 cutA p2 4 1 (0) ((4 : Nat) : Int) fun s5 =>
 callI S .i64 i_slices_Compare_s_int64_int64_ [.sl s4, .sl s5] h3 fun n7 h6 =>
 K (.int .i64 n7) h6
theorem impl_compare_main_link (S : SatT) (K : AVal → H → Prop) (x0 : List AVal) (x1 : List AVal) (h : H) : cwp S tab impl_compare_M [] (bodyOf Try.f61) (kFun tab Try.f61.results.toList K) (fr0 Try.f61 [.agg x0, .agg x1]) h = impl_compare_main S K x0 x1 h := by kernel_rfl
theorem impl_compare_call (x0 : List AVal) (x1 : List AVal) (h : H) (K : Int → H → Prop) (hm : impl_compare_main (Sat Try.prog) (fun v h' => ∃ r, v = .int .i64 r ∧ K r h') x0 x1 h) : callI (Sat Try.prog) .i64 i_impl_compare [.agg x0, .agg x1] h K := by
  have := Sat.ex tok mixed impl_compare_M Try.func61 (c := bodyOf Try.f61) (by kernel_rfl) (calls_of Try.func61 (c := bodyOf Try.f61) (by kernel_rfl) (by decide)) ((impl_compare_main_link _ _ x0 x1 h).mpr hm)
  obtain ⟨v, h2, h3, r, rfl, h4⟩ := this; exact ⟨r, h2, h3, h4⟩

/-! ### loop.example/g01354/impl.isTile -/
def impl_isTile_M : Nat → List Nat := fun i => []
def impl_isTile_main (S : SatT) (K : AVal → H → Prop) (x0 : List AVal) (x1 : Int) (h : H) : Prop :=
 newK 4 x0 h fun p0 h1 =>
 newO [.int .i64 x1] h1 fun p2 h3 =>
 cutA p0 4 1 (0) ((4 : Nat) : Int) fun s4 =>
 callB S i_slices_ContainsFunc_s_int64_int64_ [.sl s4, .func 64 [.ptr p2]] h3 fun b6 h5 =>
 K (.bool (!b6)) h5
theorem impl_isTile_main_link (S : SatT) (K : AVal → H → Prop) (x0 : List AVal) (x1 : Int) (h : H) : cwp S tab impl_isTile_M [] (bodyOf Try.f60) (kFun tab Try.f60.results.toList K) (fr0 Try.f60 [.agg x0, .int .i64 x1]) h = impl_isTile_main S K x0 x1 h := by kernel_rfl
theorem impl_isTile_call (x0 : List AVal) (x1 : Int) (h : H) (K : Bool → H → Prop) (hm : impl_isTile_main (Sat Try.prog) (fun v h' => ∃ r, v = .bool r ∧ K r h') x0 x1 h) : callB (Sat Try.prog) i_impl_isTile [.agg x0, .int .i64 x1] h K := by
  have := Sat.ex tok mixed impl_isTile_M Try.func60 (c := bodyOf Try.f60) (by kernel_rfl) (calls_of Try.func60 (c := bodyOf Try.f60) (by kernel_rfl) (by decide)) ((impl_isTile_main_link _ _ x0 x1 h).mpr hm)
  obtain ⟨v, h2, h3, r, rfl, h4⟩ := this; exact ⟨r, h2, h3, h4⟩

/-! ### loop.example/g01354/laws.markSet -/
def laws_markSet_M : Nat → List Nat := fun i => []
def laws_markSet_main (S : SatT) (K : AVal → H → Prop) (x0 : List AVal) (x1 : Int) (h : H) : Prop :=
 newK 2 x0 h fun p0 h1 =>
 isPt p0 (
 ldS (Pt.add p0 1) h1 fun s2 =>
 callI S .i64 i_laws_markTileS [.sl s2, .int .i64 x1] h1 fun n4 h3 =>
 K (.int .i64 n4) h3)
theorem laws_markSet_main_link (S : SatT) (K : AVal → H → Prop) (x0 : List AVal) (x1 : Int) (h : H) : cwp S tab laws_markSet_M [] (bodyOf Try.f14) (kFun tab Try.f14.results.toList K) (fr0 Try.f14 [.agg x0, .int .i64 x1]) h = laws_markSet_main S K x0 x1 h := by kernel_rfl
theorem laws_markSet_call (x0 : List AVal) (x1 : Int) (h : H) (K : Int → H → Prop) (hm : laws_markSet_main (Sat Try.prog) (fun v h' => ∃ r, v = .int .i64 r ∧ K r h') x0 x1 h) : callI (Sat Try.prog) .i64 i_laws_markSet [.agg x0, .int .i64 x1] h K := by
  have := Sat.ex tok mixed laws_markSet_M Try.func14 (c := bodyOf Try.f14) (by kernel_rfl) (calls_of Try.func14 (c := bodyOf Try.f14) (by kernel_rfl) (by decide)) ((laws_markSet_main_link _ _ x0 x1 h).mpr hm)
  obtain ⟨v, h2, h3, r, rfl, h4⟩ := this; exact ⟨r, h2, h3, h4⟩

/-! ### loop.example/g01354/laws.szInt64S -/
def laws_szInt64S_M : Nat → List Nat := fun i => []
def laws_szInt64S_main (S : SatT) (K : AVal → H → Prop) (x0 : Sl) (x1 : Int) (h : H) : Prop :=
 bif (decide ((w64 (x1 - (x0.len : Int))) < (0))) then
 K (.int .i64 (-1)) h
 else
 K (.int .i64 (w64 (x1 - (x0.len : Int)))) h
theorem laws_szInt64S_main_link (S : SatT) (K : AVal → H → Prop) (x0 : Sl) (x1 : Int) (h : H) : cwp S tab laws_szInt64S_M [] (bodyOf Try.f22) (kFun tab Try.f22.results.toList K) (fr0 Try.f22 [.sl x0, .int .i64 x1]) h = laws_szInt64S_main S K x0 x1 h := by kernel_rfl
theorem laws_szInt64S_call (x0 : Sl) (x1 : Int) (h : H) (K : Int → H → Prop) (hm : laws_szInt64S_main (Sat Try.prog) (fun v h' => ∃ r, v = .int .i64 r ∧ K r h') x0 x1 h) : callI (Sat Try.prog) .i64 i_laws_szInt64S [.sl x0, .int .i64 x1] h K := by
  have := Sat.ex tok mixed laws_szInt64S_M Try.func22 (c := bodyOf Try.f22) (by kernel_rfl) (calls_of Try.func22 (c := bodyOf Try.f22) (by kernel_rfl) (by decide)) ((laws_szInt64S_main_link _ _ x0 x1 h).mpr hm)
  obtain ⟨v, h2, h3, r, rfl, h4⟩ := this; exact ⟨r, h2, h3, h4⟩

end Go.Proofs.Ytgeakkmpohjohaa.Cl
