/- Typed forms of functions of the program, and their links. Printed by program. No claim is stated here. -/
import Derived.Test.YtfmjjpophipfbaaGTab
set_option linter.unusedVariables false
namespace Go.Proofs.Ytfmjjpophipfbaa.Cl
open Go
/-! ### (loop.example/g01354/impl.Set).tori$1 -/
def impl_Set_tori_1_M : Nat → List Nat := fun i => bif i == 2 then [0, 1, 2, 3, 5, 6, 11, 12, 48, 49, 50] else bif i == 0 then [1, 3, 4, 9, 20, 21] else []
def impl_Set_tori_1_ks1 (S : SatT) (K : AVal → H → Prop) : Kont := kSeq (cwp S tab impl_Set_tori_1_M [] (sub [1, 1] (bodyOf Try.f115)) (kFun tab (Try.f115).results.toList K)) (kFun tab (Try.f115).results.toList K)
def impl_Set_tori_1_ks4 (S : SatT) (K : AVal → H → Prop) : Kont := kSeq (cwp S tab impl_Set_tori_1_M [] (sub [1, 0, 1, 0, 1, 1] (bodyOf Try.f115)) (impl_Set_tori_1_ks1 S K)) (impl_Set_tori_1_ks1 S K)
def impl_Set_tori_1_e0 (p1_ : Pt) (p3_ : Pt) (p4_ : Pt) (s9_ : Sl) (i20_ : Int) (i21_ : Int) : Frame := [U, .ptr p1_, U, .ptr p3_, .ptr p4_, U, U, U, U, .sl s9_, U, U, U, U, U, U, U, U, U, U, .int .i64 i20_, .int .i64 i21_, U, U, U, U, U, U, U, U, U, U, U, U, U, U, U, U, U, U, U, U, U, U, U, U, U, U, U, U, U, U, U, U, U, U, U, U, U, U, U, U, U, U, U, U, U, U, U, U, U, U, U, U, U, U, U, U, U, U, U, U, U, U, U, U, U, U, U, U, U, U, U, U, U, U, U, U, U, U, U, U, U, U, U, U, U, U, U, U, U, U, U, U, U, U, U, U, U, U, U, U, U, U, U, U, U, U, U, U, U, U, U, U, U, U, U, U, U, U, U, U]
def impl_Set_tori_1_w0 (S : SatT) (K : AVal → H → Prop) : (Frame → H → Prop) → Frame → H → Prop := fun X fr h => cwp S tab impl_Set_tori_1_M (impl_Set_tori_1_M 0) (sub [1, 0, 1, 0, 1, 0, 1, 0, 0] (bodyOf Try.f115)) (kSeq (fun fr h => X (mask (impl_Set_tori_1_M 0) fr) h) (kBlk 0 (impl_Set_tori_1_ks4 S K))) fr h
def impl_Set_tori_1_L0 (S : SatT) (K : AVal → H → Prop) (p1_ : Pt) (p3_ : Pt) (p4_ : Pt) (s9_ : Sl) (i20_ : Int) (i21_ : Int) (h : H) : Prop := loopK (impl_Set_tori_1_w0 S K) (impl_Set_tori_1_e0 p1_ p3_ p4_ s9_ i20_ i21_) h
def impl_Set_tori_1_C0 (S : SatT) (K : AVal → H → Prop) (p4_ : Pt) (s9_ : Sl) (h : H) : Prop :=
 ldV p4_ h fun v0 =>
 viaF v0 [.sl s9_] fun g1 ys2 =>
 callB S g1 ys2 h fun b4 h3 =>
 K (.bool b4) h3
def impl_Set_tori_1_b0 (S : SatT) (K : AVal → H → Prop) (X0 : Frame → H → Prop) (p1_ : Pt) (p3_ : Pt) (p4_ : Pt) (s9_ : Sl) (i20_ : Int) (i21_ : Int) (h : H) : Prop :=
 bif (decide (i21_ < i20_)) then
 ldS p1_ h fun s0 =>
 ldI .i64 p3_ h fun n1 =>
 ldI .i64 p3_ h fun n2 =>
 cut s0 1 (w64 (i21_ * n1)) (w64 ((w64 (i21_ + (1))) * n2)) h fun s3 =>
 callS S i_slices_Clone_s_int64_int64_ [.sl s3] h fun s5 h4 =>
 newS 1 1 [.sl s5] h4 fun s6 h7 =>
 app s9_ s6 1 h7 fun s8 h9 =>
 X0 (impl_Set_tori_1_e0 p1_ p3_ p4_ s8 i20_ (w64 (i21_ + (1)))) h9
 else
 impl_Set_tori_1_C0 S K p4_ s9_ h
theorem impl_Set_tori_1_link0 (S : SatT) (K : AVal → H → Prop) (X0 : Frame → H → Prop) (p1_ : Pt) (p3_ : Pt) (p4_ : Pt) (s9_ : Sl) (i20_ : Int) (i21_ : Int) (h : H) : impl_Set_tori_1_w0 S K X0 (impl_Set_tori_1_e0 p1_ p3_ p4_ s9_ i20_ i21_) h = impl_Set_tori_1_b0 S K X0 p1_ p3_ p4_ s9_ i20_ i21_ h := by kernel_rfl
theorem impl_Set_tori_1_rule0 (S : SatT) (K : AVal → H → Prop) (p1_ : Pt) (p3_ : Pt) (p4_ : Pt) (i20_ : Int) (I_ : Sl → Int → H → Prop) (m_ : Sl → Int → H → Nat)
    (hs : ∀ (X0 : Frame → H → Prop) (s9_ : Sl) (i21_ : Int) (h : H), I_ s9_ i21_ h → (∀ (s9_' : Sl) (i21_' : Int) (h' : H), I_ s9_' i21_' h' → m_ s9_' i21_' h' < m_ s9_ i21_ h → X0 (impl_Set_tori_1_e0 p1_ p3_ p4_ s9_' i20_ i21_') h') → impl_Set_tori_1_b0 S K X0 p1_ p3_ p4_ s9_ i20_ i21_ h) (s9_ : Sl) (i21_ : Int) {h : H} (h0 : I_ s9_ i21_ h) : impl_Set_tori_1_L0 S K p1_ p3_ p4_ s9_ i20_ i21_ h :=
  loop_rule (σ := (Sl) × (Int)) (fun s_ => impl_Set_tori_1_e0 p1_ p3_ p4_ (s_.1) i20_ (s_.2)) (fun s_ h => I_ (s_.1) (s_.2) h) (fun s_ h => m_ (s_.1) (s_.2) h)
    (fun X s_ h hi hx => (impl_Set_tori_1_link0 S K X p1_ p3_ p4_ (s_.1) i20_ (s_.2) h).mpr (hs X (s_.1) (s_.2) h hi fun s9_' i21_' h' hi' hm' => hx (s9_', i21_') h' hi' hm')) (s9_, i21_) h0
theorem impl_Set_tori_1_unroll0 (S : SatT) (K : AVal → H → Prop) (p1_ : Pt) (p3_ : Pt) (p4_ : Pt) (s9_ : Sl) (i20_ : Int) (i21_ : Int) (h : H) (hb : impl_Set_tori_1_b0 S K (fun fr h => loopK (impl_Set_tori_1_w0 S K) fr h) p1_ p3_ p4_ s9_ i20_ i21_ h) : impl_Set_tori_1_L0 S K p1_ p3_ p4_ s9_ i20_ i21_ h := loop_unroll ((impl_Set_tori_1_link0 S K _ p1_ p3_ p4_ s9_ i20_ i21_ h).mpr hb)
def impl_Set_tori_1_ks12 (S : SatT) (K : AVal → H → Prop) : Kont := kSeq (cwp S tab impl_Set_tori_1_M [] (sub [1, 1, 1, 1] (bodyOf Try.f115)) (kFun tab (Try.f115).results.toList K)) (kFun tab (Try.f115).results.toList K)
def impl_Set_tori_1_e2 (i0_ : Int) (p1_ : Pt) (p2_ : Pt) (p3_ : Pt) (p5_ : Pt) (p6_ : Pt) (i11_ : Int) (i12_ : Int) (s48_ : Sl) (i49_ : Int) (i50_ : Int) : Frame := [.int .i64 i0_, .ptr p1_, .ptr p2_, .ptr p3_, U, .ptr p5_, .ptr p6_, U, U, U, U, .int .i64 i11_, .int .i64 i12_, U, U, U, U, U, U, U, U, U, U, U, U, U, U, U, U, U, U, U, U, U, U, U, U, U, U, U, U, U, U, U, U, U, U, U, .sl s48_, .int .i64 i49_, .int .i64 i50_, U, U, U, U, U, U, U, U, U, U, U, U, U, U, U, U, U, U, U, U, U, U, U, U, U, U, U, U, U, U, U, U, U, U, U, U, U, U, U, U, U, U, U, U, U, U, U, U, U, U, U, U, U, U, U, U, U, U, U, U, U, U, U, U, U, U, U, U, U, U, U, U, U, U, U, U, U, U, U, U, U, U, U, U, U, U, U, U, U, U, U]
def impl_Set_tori_1_w2 (S : SatT) (K : AVal → H → Prop) : (Frame → H → Prop) → Frame → H → Prop := fun X fr h => cwp S tab impl_Set_tori_1_M (impl_Set_tori_1_M 2) (sub [1, 1, 1, 0, 1, 0, 0] (bodyOf Try.f115)) (kSeq (fun fr h => X (mask (impl_Set_tori_1_M 2) fr) h) (kBlk 2 (impl_Set_tori_1_ks12 S K))) fr h
def impl_Set_tori_1_L2 (S : SatT) (K : AVal → H → Prop) (i0_ : Int) (p1_ : Pt) (p2_ : Pt) (p3_ : Pt) (p5_ : Pt) (p6_ : Pt) (i11_ : Int) (i12_ : Int) (s48_ : Sl) (i49_ : Int) (i50_ : Int) (h : H) : Prop := loopK (impl_Set_tori_1_w2 S K) (impl_Set_tori_1_e2 i0_ p1_ p2_ p3_ p5_ p6_ i11_ i12_ s48_ i49_ i50_) h
def impl_Set_tori_1_C2 (S : SatT) (K : AVal → H → Prop) (h : H) : Prop :=
 K (.bool true) h
def impl_Set_tori_1_b2 (S : SatT) (K : AVal → H → Prop) (X2 : Frame → H → Prop) (i0_ : Int) (p1_ : Pt) (p2_ : Pt) (p3_ : Pt) (p5_ : Pt) (p6_ : Pt) (i11_ : Int) (i12_ : Int) (s48_ : Sl) (i49_ : Int) (i50_ : Int) (h : H) : Prop :=
 bif (decide (i50_ < i49_)) then
 ixS s48_ 4 i50_ fun p0 =>
 ldA p0 4 h fun cs1 =>
 newO [.int .i64 (0), .int .i64 (0), .int .i64 (0), .int .i64 (0)] h fun p2 h3 =>
 stN p2 4 cs1 h3 fun h4 =>
 ldS p1_ h4 fun s5 =>
 ixS s5 1 i0_ fun p6 =>
 st1 p6 (.int .i64 i50_) h4 fun h7 =>
 bif (decide (i12_ > (0))) then
 isPt p5_ (
 ldS (Pt.add p5_ 1) h7 fun s8 =>
 ldS p1_ h7 fun s9 =>
 ixS s9 1 (w64 (i0_ - (1))) fun p10 =>
 ldI .i64 p10 h7 fun n11 =>
 ixS s8 4 n11 fun p12 =>
 ixA p12 4 1 (2) fun p13 =>
 ldI .i64 p13 h7 fun n14 =>
 ixA p2 4 1 (0) fun p15 =>
 ldI .i64 p15 h7 fun n16 =>
 bif (n14 != n16) then
 X2 (impl_Set_tori_1_e2 i0_ p1_ p2_ p3_ p5_ p6_ i11_ i12_ s48_ i49_ (w64 (i50_ + (1)))) h7
 else
 ldI .i64 p3_ h7 fun n17 =>
 bif (i12_ == (w64 (n17 - (1)))) then
 isPt p5_ (
 ldS (Pt.add p5_ 1) h7 fun s18 =>
 ldS p1_ h7 fun s19 =>
 ldI .i64 p3_ h7 fun n20 =>
 ixS s19 1 (w64 (i11_ * n20)) fun p21 =>
 ldI .i64 p21 h7 fun n22 =>
 ixS s18 4 n22 fun p23 =>
 ixA p23 4 1 (0) fun p24 =>
 ldI .i64 p24 h7 fun n25 =>
 ixA p2 4 1 (2) fun p26 =>
 ldI .i64 p26 h7 fun n27 =>
 bif (n25 != n27) then
 X2 (impl_Set_tori_1_e2 i0_ p1_ p2_ p3_ p5_ p6_ i11_ i12_ s48_ i49_ (w64 (i50_ + (1)))) h7
 else
 bif (decide (i11_ > (0))) then
 isPt p5_ (
 ldS (Pt.add p5_ 1) h7 fun s28 =>
 ldS p1_ h7 fun s29 =>
 ldI .i64 p3_ h7 fun n30 =>
 ixS s29 1 (w64 (i0_ - n30)) fun p31 =>
 ldI .i64 p31 h7 fun n32 =>
 ixS s28 4 n32 fun p33 =>
 ixA p33 4 1 (3) fun p34 =>
 ldI .i64 p34 h7 fun n35 =>
 ixA p2 4 1 (1) fun p36 =>
 ldI .i64 p36 h7 fun n37 =>
 bif (n35 != n37) then
 X2 (impl_Set_tori_1_e2 i0_ p1_ p2_ p3_ p5_ p6_ i11_ i12_ s48_ i49_ (w64 (i50_ + (1)))) h7
 else
 ldI .i64 p2_ h7 fun n38 =>
 bif (i11_ == (w64 (n38 - (1)))) then
 isPt p5_ (
 ldS (Pt.add p5_ 1) h7 fun s39 =>
 ldS p1_ h7 fun s40 =>
 ixS s40 1 i12_ fun p41 =>
 ldI .i64 p41 h7 fun n42 =>
 ixS s39 4 n42 fun p43 =>
 ixA p43 4 1 (1) fun p44 =>
 ldI .i64 p44 h7 fun n45 =>
 ixA p2 4 1 (3) fun p46 =>
 ldI .i64 p46 h7 fun n47 =>
 bif (n45 != n47) then
 X2 (impl_Set_tori_1_e2 i0_ p1_ p2_ p3_ p5_ p6_ i11_ i12_ s48_ i49_ (w64 (i50_ + (1)))) h7
 else
 ldV p6_ h7 fun v48 =>
 viaF v48 [.int .i64 (w64 (i0_ + (1)))] fun g49 ys50 =>
 callB S g49 ys50 h7 fun b52 h51 =>
 bif (!b52) then
 K (.bool false) h51
 else
 X2 (impl_Set_tori_1_e2 i0_ p1_ p2_ p3_ p5_ p6_ i11_ i12_ s48_ i49_ (w64 (i50_ + (1)))) h51)
 else
 ldV p6_ h7 fun v53 =>
 viaF v53 [.int .i64 (w64 (i0_ + (1)))] fun g54 ys55 =>
 callB S g54 ys55 h7 fun b57 h56 =>
 bif (!b57) then
 K (.bool false) h56
 else
 X2 (impl_Set_tori_1_e2 i0_ p1_ p2_ p3_ p5_ p6_ i11_ i12_ s48_ i49_ (w64 (i50_ + (1)))) h56)
 else
 ldI .i64 p2_ h7 fun n58 =>
 bif (i11_ == (w64 (n58 - (1)))) then
 isPt p5_ (
 ldS (Pt.add p5_ 1) h7 fun s59 =>
 ldS p1_ h7 fun s60 =>
 ixS s60 1 i12_ fun p61 =>
 ldI .i64 p61 h7 fun n62 =>
 ixS s59 4 n62 fun p63 =>
 ixA p63 4 1 (1) fun p64 =>
 ldI .i64 p64 h7 fun n65 =>
 ixA p2 4 1 (3) fun p66 =>
 ldI .i64 p66 h7 fun n67 =>
 bif (n65 != n67) then
 X2 (impl_Set_tori_1_e2 i0_ p1_ p2_ p3_ p5_ p6_ i11_ i12_ s48_ i49_ (w64 (i50_ + (1)))) h7
 else
 ldV p6_ h7 fun v68 =>
 viaF v68 [.int .i64 (w64 (i0_ + (1)))] fun g69 ys70 =>
 callB S g69 ys70 h7 fun b72 h71 =>
 bif (!b72) then
 K (.bool false) h71
 else
 X2 (impl_Set_tori_1_e2 i0_ p1_ p2_ p3_ p5_ p6_ i11_ i12_ s48_ i49_ (w64 (i50_ + (1)))) h71)
 else
 ldV p6_ h7 fun v73 =>
 viaF v73 [.int .i64 (w64 (i0_ + (1)))] fun g74 ys75 =>
 callB S g74 ys75 h7 fun b77 h76 =>
 bif (!b77) then
 K (.bool false) h76
 else
 X2 (impl_Set_tori_1_e2 i0_ p1_ p2_ p3_ p5_ p6_ i11_ i12_ s48_ i49_ (w64 (i50_ + (1)))) h76)
 else
 bif (decide (i11_ > (0))) then
 isPt p5_ (
 ldS (Pt.add p5_ 1) h7 fun s78 =>
 ldS p1_ h7 fun s79 =>
 ldI .i64 p3_ h7 fun n80 =>
 ixS s79 1 (w64 (i0_ - n80)) fun p81 =>
 ldI .i64 p81 h7 fun n82 =>
 ixS s78 4 n82 fun p83 =>
 ixA p83 4 1 (3) fun p84 =>
 ldI .i64 p84 h7 fun n85 =>
 ixA p2 4 1 (1) fun p86 =>
 ldI .i64 p86 h7 fun n87 =>
 bif (n85 != n87) then
 X2 (impl_Set_tori_1_e2 i0_ p1_ p2_ p3_ p5_ p6_ i11_ i12_ s48_ i49_ (w64 (i50_ + (1)))) h7
 else
 ldI .i64 p2_ h7 fun n88 =>
 bif (i11_ == (w64 (n88 - (1)))) then
 isPt p5_ (
 ldS (Pt.add p5_ 1) h7 fun s89 =>
 ldS p1_ h7 fun s90 =>
 ixS s90 1 i12_ fun p91 =>
 ldI .i64 p91 h7 fun n92 =>
 ixS s89 4 n92 fun p93 =>
 ixA p93 4 1 (1) fun p94 =>
 ldI .i64 p94 h7 fun n95 =>
 ixA p2 4 1 (3) fun p96 =>
 ldI .i64 p96 h7 fun n97 =>
 bif (n95 != n97) then
 X2 (impl_Set_tori_1_e2 i0_ p1_ p2_ p3_ p5_ p6_ i11_ i12_ s48_ i49_ (w64 (i50_ + (1)))) h7
 else
 ldV p6_ h7 fun v98 =>
 viaF v98 [.int .i64 (w64 (i0_ + (1)))] fun g99 ys100 =>
 callB S g99 ys100 h7 fun b102 h101 =>
 bif (!b102) then
 K (.bool false) h101
 else
 X2 (impl_Set_tori_1_e2 i0_ p1_ p2_ p3_ p5_ p6_ i11_ i12_ s48_ i49_ (w64 (i50_ + (1)))) h101)
 else
 ldV p6_ h7 fun v103 =>
 viaF v103 [.int .i64 (w64 (i0_ + (1)))] fun g104 ys105 =>
 callB S g104 ys105 h7 fun b107 h106 =>
 bif (!b107) then
 K (.bool false) h106
 else
 X2 (impl_Set_tori_1_e2 i0_ p1_ p2_ p3_ p5_ p6_ i11_ i12_ s48_ i49_ (w64 (i50_ + (1)))) h106)
 else
 ldI .i64 p2_ h7 fun n108 =>
 bif (i11_ == (w64 (n108 - (1)))) then
 isPt p5_ (
 ldS (Pt.add p5_ 1) h7 fun s109 =>
 ldS p1_ h7 fun s110 =>
 ixS s110 1 i12_ fun p111 =>
 ldI .i64 p111 h7 fun n112 =>
 ixS s109 4 n112 fun p113 =>
 ixA p113 4 1 (1) fun p114 =>
 ldI .i64 p114 h7 fun n115 =>
 ixA p2 4 1 (3) fun p116 =>
 ldI .i64 p116 h7 fun n117 =>
 bif (n115 != n117) then
 X2 (impl_Set_tori_1_e2 i0_ p1_ p2_ p3_ p5_ p6_ i11_ i12_ s48_ i49_ (w64 (i50_ + (1)))) h7
 else
 ldV p6_ h7 fun v118 =>
 viaF v118 [.int .i64 (w64 (i0_ + (1)))] fun g119 ys120 =>
 callB S g119 ys120 h7 fun b122 h121 =>
 bif (!b122) then
 K (.bool false) h121
 else
 X2 (impl_Set_tori_1_e2 i0_ p1_ p2_ p3_ p5_ p6_ i11_ i12_ s48_ i49_ (w64 (i50_ + (1)))) h121)
 else
 ldV p6_ h7 fun v123 =>
 viaF v123 [.int .i64 (w64 (i0_ + (1)))] fun g124 ys125 =>
 callB S g124 ys125 h7 fun b127 h126 =>
 bif (!b127) then
 K (.bool false) h126
 else
 X2 (impl_Set_tori_1_e2 i0_ p1_ p2_ p3_ p5_ p6_ i11_ i12_ s48_ i49_ (w64 (i50_ + (1)))) h126)
 else
 ldI .i64 p3_ h7 fun n128 =>
 bif (i12_ == (w64 (n128 - (1)))) then
 isPt p5_ (
 ldS (Pt.add p5_ 1) h7 fun s129 =>
 ldS p1_ h7 fun s130 =>
 ldI .i64 p3_ h7 fun n131 =>
 ixS s130 1 (w64 (i11_ * n131)) fun p132 =>
 ldI .i64 p132 h7 fun n133 =>
 ixS s129 4 n133 fun p134 =>
 ixA p134 4 1 (0) fun p135 =>
 ldI .i64 p135 h7 fun n136 =>
 ixA p2 4 1 (2) fun p137 =>
 ldI .i64 p137 h7 fun n138 =>
 bif (n136 != n138) then
 X2 (impl_Set_tori_1_e2 i0_ p1_ p2_ p3_ p5_ p6_ i11_ i12_ s48_ i49_ (w64 (i50_ + (1)))) h7
 else
 bif (decide (i11_ > (0))) then
 isPt p5_ (
 ldS (Pt.add p5_ 1) h7 fun s139 =>
 ldS p1_ h7 fun s140 =>
 ldI .i64 p3_ h7 fun n141 =>
 ixS s140 1 (w64 (i0_ - n141)) fun p142 =>
 ldI .i64 p142 h7 fun n143 =>
 ixS s139 4 n143 fun p144 =>
 ixA p144 4 1 (3) fun p145 =>
 ldI .i64 p145 h7 fun n146 =>
 ixA p2 4 1 (1) fun p147 =>
 ldI .i64 p147 h7 fun n148 =>
 bif (n146 != n148) then
 X2 (impl_Set_tori_1_e2 i0_ p1_ p2_ p3_ p5_ p6_ i11_ i12_ s48_ i49_ (w64 (i50_ + (1)))) h7
 else
 ldI .i64 p2_ h7 fun n149 =>
 bif (i11_ == (w64 (n149 - (1)))) then
 isPt p5_ (
 ldS (Pt.add p5_ 1) h7 fun s150 =>
 ldS p1_ h7 fun s151 =>
 ixS s151 1 i12_ fun p152 =>
 ldI .i64 p152 h7 fun n153 =>
 ixS s150 4 n153 fun p154 =>
 ixA p154 4 1 (1) fun p155 =>
 ldI .i64 p155 h7 fun n156 =>
 ixA p2 4 1 (3) fun p157 =>
 ldI .i64 p157 h7 fun n158 =>
 bif (n156 != n158) then
 X2 (impl_Set_tori_1_e2 i0_ p1_ p2_ p3_ p5_ p6_ i11_ i12_ s48_ i49_ (w64 (i50_ + (1)))) h7
 else
 ldV p6_ h7 fun v159 =>
 viaF v159 [.int .i64 (w64 (i0_ + (1)))] fun g160 ys161 =>
 callB S g160 ys161 h7 fun b163 h162 =>
 bif (!b163) then
 K (.bool false) h162
 else
 X2 (impl_Set_tori_1_e2 i0_ p1_ p2_ p3_ p5_ p6_ i11_ i12_ s48_ i49_ (w64 (i50_ + (1)))) h162)
 else
 ldV p6_ h7 fun v164 =>
 viaF v164 [.int .i64 (w64 (i0_ + (1)))] fun g165 ys166 =>
 callB S g165 ys166 h7 fun b168 h167 =>
 bif (!b168) then
 K (.bool false) h167
 else
 X2 (impl_Set_tori_1_e2 i0_ p1_ p2_ p3_ p5_ p6_ i11_ i12_ s48_ i49_ (w64 (i50_ + (1)))) h167)
 else
 ldI .i64 p2_ h7 fun n169 =>
 bif (i11_ == (w64 (n169 - (1)))) then
 isPt p5_ (
 ldS (Pt.add p5_ 1) h7 fun s170 =>
 ldS p1_ h7 fun s171 =>
 ixS s171 1 i12_ fun p172 =>
 ldI .i64 p172 h7 fun n173 =>
 ixS s170 4 n173 fun p174 =>
 ixA p174 4 1 (1) fun p175 =>
 ldI .i64 p175 h7 fun n176 =>
 ixA p2 4 1 (3) fun p177 =>
 ldI .i64 p177 h7 fun n178 =>
 bif (n176 != n178) then
 X2 (impl_Set_tori_1_e2 i0_ p1_ p2_ p3_ p5_ p6_ i11_ i12_ s48_ i49_ (w64 (i50_ + (1)))) h7
 else
 ldV p6_ h7 fun v179 =>
 viaF v179 [.int .i64 (w64 (i0_ + (1)))] fun g180 ys181 =>
 callB S g180 ys181 h7 fun b183 h182 =>
 bif (!b183) then
 K (.bool false) h182
 else
 X2 (impl_Set_tori_1_e2 i0_ p1_ p2_ p3_ p5_ p6_ i11_ i12_ s48_ i49_ (w64 (i50_ + (1)))) h182)
 else
 ldV p6_ h7 fun v184 =>
 viaF v184 [.int .i64 (w64 (i0_ + (1)))] fun g185 ys186 =>
 callB S g185 ys186 h7 fun b188 h187 =>
 bif (!b188) then
 K (.bool false) h187
 else
 X2 (impl_Set_tori_1_e2 i0_ p1_ p2_ p3_ p5_ p6_ i11_ i12_ s48_ i49_ (w64 (i50_ + (1)))) h187)
 else
 bif (decide (i11_ > (0))) then
 isPt p5_ (
 ldS (Pt.add p5_ 1) h7 fun s189 =>
 ldS p1_ h7 fun s190 =>
 ldI .i64 p3_ h7 fun n191 =>
 ixS s190 1 (w64 (i0_ - n191)) fun p192 =>
 ldI .i64 p192 h7 fun n193 =>
 ixS s189 4 n193 fun p194 =>
 ixA p194 4 1 (3) fun p195 =>
 ldI .i64 p195 h7 fun n196 =>
 ixA p2 4 1 (1) fun p197 =>
 ldI .i64 p197 h7 fun n198 =>
 bif (n196 != n198) then
 X2 (impl_Set_tori_1_e2 i0_ p1_ p2_ p3_ p5_ p6_ i11_ i12_ s48_ i49_ (w64 (i50_ + (1)))) h7
 else
 ldI .i64 p2_ h7 fun n199 =>
 bif (i11_ == (w64 (n199 - (1)))) then
 isPt p5_ (
 ldS (Pt.add p5_ 1) h7 fun s200 =>
 ldS p1_ h7 fun s201 =>
 ixS s201 1 i12_ fun p202 =>
 ldI .i64 p202 h7 fun n203 =>
 ixS s200 4 n203 fun p204 =>
 ixA p204 4 1 (1) fun p205 =>
 ldI .i64 p205 h7 fun n206 =>
 ixA p2 4 1 (3) fun p207 =>
 ldI .i64 p207 h7 fun n208 =>
 bif (n206 != n208) then
 X2 (impl_Set_tori_1_e2 i0_ p1_ p2_ p3_ p5_ p6_ i11_ i12_ s48_ i49_ (w64 (i50_ + (1)))) h7
 else
 ldV p6_ h7 fun v209 =>
 viaF v209 [.int .i64 (w64 (i0_ + (1)))] fun g210 ys211 =>
 callB S g210 ys211 h7 fun b213 h212 =>
 bif (!b213) then
 K (.bool false) h212
 else
 X2 (impl_Set_tori_1_e2 i0_ p1_ p2_ p3_ p5_ p6_ i11_ i12_ s48_ i49_ (w64 (i50_ + (1)))) h212)
 else
 ldV p6_ h7 fun v214 =>
 viaF v214 [.int .i64 (w64 (i0_ + (1)))] fun g215 ys216 =>
 callB S g215 ys216 h7 fun b218 h217 =>
 bif (!b218) then
 K (.bool false) h217
 else
 X2 (impl_Set_tori_1_e2 i0_ p1_ p2_ p3_ p5_ p6_ i11_ i12_ s48_ i49_ (w64 (i50_ + (1)))) h217)
 else
 ldI .i64 p2_ h7 fun n219 =>
 bif (i11_ == (w64 (n219 - (1)))) then
 isPt p5_ (
 ldS (Pt.add p5_ 1) h7 fun s220 =>
 ldS p1_ h7 fun s221 =>
 ixS s221 1 i12_ fun p222 =>
 ldI .i64 p222 h7 fun n223 =>
 ixS s220 4 n223 fun p224 =>
 ixA p224 4 1 (1) fun p225 =>
 ldI .i64 p225 h7 fun n226 =>
 ixA p2 4 1 (3) fun p227 =>
 ldI .i64 p227 h7 fun n228 =>
 bif (n226 != n228) then
 X2 (impl_Set_tori_1_e2 i0_ p1_ p2_ p3_ p5_ p6_ i11_ i12_ s48_ i49_ (w64 (i50_ + (1)))) h7
 else
 ldV p6_ h7 fun v229 =>
 viaF v229 [.int .i64 (w64 (i0_ + (1)))] fun g230 ys231 =>
 callB S g230 ys231 h7 fun b233 h232 =>
 bif (!b233) then
 K (.bool false) h232
 else
 X2 (impl_Set_tori_1_e2 i0_ p1_ p2_ p3_ p5_ p6_ i11_ i12_ s48_ i49_ (w64 (i50_ + (1)))) h232)
 else
 ldV p6_ h7 fun v234 =>
 viaF v234 [.int .i64 (w64 (i0_ + (1)))] fun g235 ys236 =>
 callB S g235 ys236 h7 fun b238 h237 =>
 bif (!b238) then
 K (.bool false) h237
 else
 X2 (impl_Set_tori_1_e2 i0_ p1_ p2_ p3_ p5_ p6_ i11_ i12_ s48_ i49_ (w64 (i50_ + (1)))) h237
 else
 impl_Set_tori_1_C2 S K h
theorem impl_Set_tori_1_link2 (S : SatT) (K : AVal → H → Prop) (X2 : Frame → H → Prop) (i0_ : Int) (p1_ : Pt) (p2_ : Pt) (p3_ : Pt) (p5_ : Pt) (p6_ : Pt) (i11_ : Int) (i12_ : Int) (s48_ : Sl) (i49_ : Int) (i50_ : Int) (h : H) : impl_Set_tori_1_w2 S K X2 (impl_Set_tori_1_e2 i0_ p1_ p2_ p3_ p5_ p6_ i11_ i12_ s48_ i49_ i50_) h = impl_Set_tori_1_b2 S K X2 i0_ p1_ p2_ p3_ p5_ p6_ i11_ i12_ s48_ i49_ i50_ h := by kernel_rfl
theorem impl_Set_tori_1_rule2 (S : SatT) (K : AVal → H → Prop) (i0_ : Int) (p1_ : Pt) (p2_ : Pt) (p3_ : Pt) (p5_ : Pt) (p6_ : Pt) (i11_ : Int) (i12_ : Int) (s48_ : Sl) (i49_ : Int) (I_ : Int → H → Prop) (m_ : Int → H → Nat)
    (hs : ∀ (X2 : Frame → H → Prop) (i50_ : Int) (h : H), I_ i50_ h → (∀ (i50_' : Int) (h' : H), I_ i50_' h' → m_ i50_' h' < m_ i50_ h → X2 (impl_Set_tori_1_e2 i0_ p1_ p2_ p3_ p5_ p6_ i11_ i12_ s48_ i49_ i50_') h') → impl_Set_tori_1_b2 S K X2 i0_ p1_ p2_ p3_ p5_ p6_ i11_ i12_ s48_ i49_ i50_ h) (i50_ : Int) {h : H} (h0 : I_ i50_ h) : impl_Set_tori_1_L2 S K i0_ p1_ p2_ p3_ p5_ p6_ i11_ i12_ s48_ i49_ i50_ h :=
  loop_rule (σ := (Int)) (fun s_ => impl_Set_tori_1_e2 i0_ p1_ p2_ p3_ p5_ p6_ i11_ i12_ s48_ i49_ (s_)) (fun s_ h => I_ (s_) h) (fun s_ h => m_ (s_) h)
    (fun X s_ h hi hx => (impl_Set_tori_1_link2 S K X i0_ p1_ p2_ p3_ p5_ p6_ i11_ i12_ s48_ i49_ (s_) h).mpr (hs X (s_) h hi fun i50_' h' hi' hm' => hx (i50_') h' hi' hm')) (i50_) h0
theorem impl_Set_tori_1_unroll2 (S : SatT) (K : AVal → H → Prop) (i0_ : Int) (p1_ : Pt) (p2_ : Pt) (p3_ : Pt) (p5_ : Pt) (p6_ : Pt) (i11_ : Int) (i12_ : Int) (s48_ : Sl) (i49_ : Int) (i50_ : Int) (h : H) (hb : impl_Set_tori_1_b2 S K (fun fr h => loopK (impl_Set_tori_1_w2 S K) fr h) i0_ p1_ p2_ p3_ p5_ p6_ i11_ i12_ s48_ i49_ i50_ h) : impl_Set_tori_1_L2 S K i0_ p1_ p2_ p3_ p5_ p6_ i11_ i12_ s48_ i49_ i50_ h := loop_unroll ((impl_Set_tori_1_link2 S K _ i0_ p1_ p2_ p3_ p5_ p6_ i11_ i12_ s48_ i49_ i50_ h).mpr hb)
def impl_Set_tori_1_main (S : SatT) (K : AVal → H → Prop) (x0 : Int) (x1 : Pt) (x2 : Pt) (x3 : Pt) (x4 : Pt) (x5 : Pt) (x6 : Pt) (h : H) : Prop :=
 ldS x1 h fun s0 =>
 bif (x0 == (s0.len : Int)) then
 newS 0 1 [] h fun s1 h2 =>
 ldI .i64 x2 h2 fun n3 =>
 impl_Set_tori_1_L0 S K x1 x3 x4 s1 n3 (0) h2
 else
 ldI .i64 x3 h fun n4 =>
 nz n4 (
 ldI .i64 x3 h fun n5 =>
 nz n5 (
 isPt x5 (
 ldS (Pt.add x5 1) h fun s6 =>
 impl_Set_tori_1_L2 S K x0 x1 x2 x3 x5 x6 (w64 (Int.tdiv x0 n4)) (Int.tmod x0 n5) s6 (s6.len : Int) (0) h)))
theorem impl_Set_tori_1_main_link (S : SatT) (K : AVal → H → Prop) (x0 : Int) (x1 : Pt) (x2 : Pt) (x3 : Pt) (x4 : Pt) (x5 : Pt) (x6 : Pt) (h : H) : cwp S tab impl_Set_tori_1_M [] (bodyOf Try.f115) (kFun tab Try.f115.results.toList K) (fr0 Try.f115 [.int .i64 x0, .ptr x1, .ptr x2, .ptr x3, .ptr x4, .ptr x5, .ptr x6]) h = impl_Set_tori_1_main S K x0 x1 x2 x3 x4 x5 x6 h := by kernel_rfl
theorem impl_Set_tori_1_call (x0 : Int) (x1 : Pt) (x2 : Pt) (x3 : Pt) (x4 : Pt) (x5 : Pt) (x6 : Pt) (h : H) (K : Bool → H → Prop) (hm : impl_Set_tori_1_main (Sat Try.prog) (fun v h' => ∃ r, v = .bool r ∧ K r h') x0 x1 x2 x3 x4 x5 x6 h) : callB (Sat Try.prog) i_impl_Set_tori_1 [.int .i64 x0, .ptr x1, .ptr x2, .ptr x3, .ptr x4, .ptr x5, .ptr x6] h K := by
  have := Sat.ex tok mixed impl_Set_tori_1_M Try.func115 (c := bodyOf Try.f115) (by kernel_rfl) (calls_of Try.func115 (c := bodyOf Try.f115) (by kernel_rfl) (by decide)) ((impl_Set_tori_1_main_link _ _ x0 x1 x2 x3 x4 x5 x6 h).mpr hm)
  obtain ⟨v, h2, h3, r, rfl, h4⟩ := this; exact ⟨r, h2, h3, h4⟩

/-! ### (loop.example/g01354/impl.Set).areNumbers -/
def impl_Set_areNumbers_M : Nat → List Nat := fun i => bif i == 2 then [1, 2, 9, 10, 11, 15, 16, 17] else bif i == 0 then [1, 2, 9, 10, 11] else []
def impl_Set_areNumbers_ks1 (S : SatT) (K : AVal → H → Prop) : Kont := kSeq (cwp S tab impl_Set_areNumbers_M [] (sub [1, 1] (bodyOf Try.f70)) (kFun tab (Try.f70).results.toList K)) (kFun tab (Try.f70).results.toList K)
def impl_Set_areNumbers_e0 (s1_ : Sl) (p2_ : Pt) (s9_ : Sl) (i10_ : Int) (i11_ : Int) : Frame := [U, .sl s1_, .ptr p2_, U, U, U, U, U, U, .sl s9_, .int .i64 i10_, .int .i64 i11_, U, U, U, U, U, U, U, U, U, U, U, U, U, U, U, U, U]
def impl_Set_areNumbers_w0 (S : SatT) (K : AVal → H → Prop) : (Frame → H → Prop) → Frame → H → Prop := fun X fr h => cwp S tab impl_Set_areNumbers_M (impl_Set_areNumbers_M 0) (sub [1, 0, 1, 0, 0] (bodyOf Try.f70)) (kSeq (fun fr h => X (mask (impl_Set_areNumbers_M 0) fr) h) (kBlk 0 (impl_Set_areNumbers_ks1 S K))) fr h
def impl_Set_areNumbers_L0 (S : SatT) (K : AVal → H → Prop) (s1_ : Sl) (p2_ : Pt) (s9_ : Sl) (i10_ : Int) (i11_ : Int) (h : H) : Prop := loopK (impl_Set_areNumbers_w0 S K) (impl_Set_areNumbers_e0 s1_ p2_ s9_ i10_ i11_) h
def impl_Set_areNumbers_ks5 (S : SatT) (K : AVal → H → Prop) (X0 : Frame → H → Prop) : Kont := kSeq (cwp S tab impl_Set_areNumbers_M (impl_Set_areNumbers_M 0) (sub [1, 0, 1, 0, 0, 1, 1, 1] (bodyOf Try.f70)) (kSeq (fun fr h => X0 (mask (impl_Set_areNumbers_M 0) fr) h) (kBlk 0 (impl_Set_areNumbers_ks1 S K)))) (kSeq (fun fr h => X0 (mask (impl_Set_areNumbers_M 0) fr) h) (kBlk 0 (impl_Set_areNumbers_ks1 S K)))
def impl_Set_areNumbers_e2 (s1_ : Sl) (p2_ : Pt) (s9_ : Sl) (i10_ : Int) (i11_ : Int) (s15_ : Sl) (i16_ : Int) (i17_ : Int) : Frame := [U, .sl s1_, .ptr p2_, U, U, U, U, U, U, .sl s9_, .int .i64 i10_, .int .i64 i11_, U, U, U, .sl s15_, .int .i64 i16_, .int .i64 i17_, U, U, U, U, U, U, U, U, U, U, U]
def impl_Set_areNumbers_w2 (S : SatT) (K : AVal → H → Prop) (X0 : Frame → H → Prop) : (Frame → H → Prop) → Frame → H → Prop := fun X fr h => cwp S tab impl_Set_areNumbers_M (impl_Set_areNumbers_M 2) (sub [1, 0, 1, 0, 0, 1, 1, 0, 0, 1, 1, 0, 0] (bodyOf Try.f70)) (kSeq (fun fr h => X (mask (impl_Set_areNumbers_M 2) fr) h) (kBlk 2 (kBlk 1 (impl_Set_areNumbers_ks5 S K X0)))) fr h
def impl_Set_areNumbers_L2 (S : SatT) (K : AVal → H → Prop) (X0 : Frame → H → Prop) (s1_ : Sl) (p2_ : Pt) (s9_ : Sl) (i10_ : Int) (i11_ : Int) (s15_ : Sl) (i16_ : Int) (i17_ : Int) (h : H) : Prop := loopK (impl_Set_areNumbers_w2 S K X0) (impl_Set_areNumbers_e2 s1_ p2_ s9_ i10_ i11_ s15_ i16_ i17_) h
def impl_Set_areNumbers_C1 (S : SatT) (K : AVal → H → Prop) (X0 : Frame → H → Prop) (s1_ : Sl) (p2_ : Pt) (s9_ : Sl) (i10_ : Int) (i11_ : Int) (h : H) : Prop :=
 X0 (impl_Set_areNumbers_e0 s1_ p2_ s9_ i10_ (w64 (i11_ + (1)))) h
def impl_Set_areNumbers_C2 (S : SatT) (K : AVal → H → Prop) (X0 : Frame → H → Prop) (s1_ : Sl) (p2_ : Pt) (s9_ : Sl) (i10_ : Int) (i11_ : Int) (h : H) : Prop :=
 impl_Set_areNumbers_C1 S K X0 s1_ p2_ s9_ i10_ i11_ h
def impl_Set_areNumbers_b2 (S : SatT) (K : AVal → H → Prop) (X0 : Frame → H → Prop) (X2 : Frame → H → Prop) (s1_ : Sl) (p2_ : Pt) (s9_ : Sl) (i10_ : Int) (i11_ : Int) (s15_ : Sl) (i16_ : Int) (i17_ : Int) (h : H) : Prop :=
 bif (decide (i17_ < i16_)) then
 ixS s15_ 1 i17_ fun p0 =>
 ldI .i64 p0 h fun n1 =>
 ldA p2_ 2 h fun cs2 =>
 callB S i_impl_Set_isNumber [.agg cs2, .int .i64 n1] h fun b4 h3 =>
 bif (!b4) then
 K (.bool false) h3
 else
 X2 (impl_Set_areNumbers_e2 s1_ p2_ s9_ i10_ i11_ s15_ i16_ (w64 (i17_ + (1)))) h3
 else
 impl_Set_areNumbers_C2 S K X0 s1_ p2_ s9_ i10_ i11_ h
theorem impl_Set_areNumbers_link2 (S : SatT) (K : AVal → H → Prop) (X0 : Frame → H → Prop) (X2 : Frame → H → Prop) (s1_ : Sl) (p2_ : Pt) (s9_ : Sl) (i10_ : Int) (i11_ : Int) (s15_ : Sl) (i16_ : Int) (i17_ : Int) (h : H) : impl_Set_areNumbers_w2 S K X0 X2 (impl_Set_areNumbers_e2 s1_ p2_ s9_ i10_ i11_ s15_ i16_ i17_) h = impl_Set_areNumbers_b2 S K X0 X2 s1_ p2_ s9_ i10_ i11_ s15_ i16_ i17_ h := by kernel_rfl
theorem impl_Set_areNumbers_rule2 (S : SatT) (K : AVal → H → Prop) (X0 : Frame → H → Prop) (s1_ : Sl) (p2_ : Pt) (s9_ : Sl) (i10_ : Int) (i11_ : Int) (s15_ : Sl) (i16_ : Int) (I_ : Int → H → Prop) (m_ : Int → H → Nat)
    (hs : ∀ (X2 : Frame → H → Prop) (i17_ : Int) (h : H), I_ i17_ h → (∀ (i17_' : Int) (h' : H), I_ i17_' h' → m_ i17_' h' < m_ i17_ h → X2 (impl_Set_areNumbers_e2 s1_ p2_ s9_ i10_ i11_ s15_ i16_ i17_') h') → impl_Set_areNumbers_b2 S K X0 X2 s1_ p2_ s9_ i10_ i11_ s15_ i16_ i17_ h) (i17_ : Int) {h : H} (h0 : I_ i17_ h) : impl_Set_areNumbers_L2 S K X0 s1_ p2_ s9_ i10_ i11_ s15_ i16_ i17_ h :=
  loop_rule (σ := (Int)) (fun s_ => impl_Set_areNumbers_e2 s1_ p2_ s9_ i10_ i11_ s15_ i16_ (s_)) (fun s_ h => I_ (s_) h) (fun s_ h => m_ (s_) h)
    (fun X s_ h hi hx => (impl_Set_areNumbers_link2 S K X0 X s1_ p2_ s9_ i10_ i11_ s15_ i16_ (s_) h).mpr (hs X (s_) h hi fun i17_' h' hi' hm' => hx (i17_') h' hi' hm')) (i17_) h0
theorem impl_Set_areNumbers_unroll2 (S : SatT) (K : AVal → H → Prop) (X0 : Frame → H → Prop) (s1_ : Sl) (p2_ : Pt) (s9_ : Sl) (i10_ : Int) (i11_ : Int) (s15_ : Sl) (i16_ : Int) (i17_ : Int) (h : H) (hb : impl_Set_areNumbers_b2 S K X0 (fun fr h => loopK (impl_Set_areNumbers_w2 S K X0) fr h) s1_ p2_ s9_ i10_ i11_ s15_ i16_ i17_ h) : impl_Set_areNumbers_L2 S K X0 s1_ p2_ s9_ i10_ i11_ s15_ i16_ i17_ h := loop_unroll ((impl_Set_areNumbers_link2 S K X0 _ s1_ p2_ s9_ i10_ i11_ s15_ i16_ i17_ h).mpr hb)
def impl_Set_areNumbers_C0 (S : SatT) (K : AVal → H → Prop) (s1_ : Sl) (h : H) : Prop :=
 callB S i_impl_isTable [.sl s1_, .int .i64 (8)] h fun b1 h0 =>
 K (.bool b1) h0
def impl_Set_areNumbers_b0 (S : SatT) (K : AVal → H → Prop) (X0 : Frame → H → Prop) (s1_ : Sl) (p2_ : Pt) (s9_ : Sl) (i10_ : Int) (i11_ : Int) (h : H) : Prop :=
 bif (decide (i11_ < i10_)) then
 ixS s9_ 1 i11_ fun p0 =>
 ldS p0 h fun s1 =>
 impl_Set_areNumbers_L2 S K X0 s1_ p2_ s9_ i10_ i11_ s1 (s1.len : Int) (0) h
 else
 impl_Set_areNumbers_C0 S K s1_ h
theorem impl_Set_areNumbers_link0 (S : SatT) (K : AVal → H → Prop) (X0 : Frame → H → Prop) (s1_ : Sl) (p2_ : Pt) (s9_ : Sl) (i10_ : Int) (i11_ : Int) (h : H) : impl_Set_areNumbers_w0 S K X0 (impl_Set_areNumbers_e0 s1_ p2_ s9_ i10_ i11_) h = impl_Set_areNumbers_b0 S K X0 s1_ p2_ s9_ i10_ i11_ h := by kernel_rfl
theorem impl_Set_areNumbers_rule0 (S : SatT) (K : AVal → H → Prop) (s1_ : Sl) (p2_ : Pt) (s9_ : Sl) (i10_ : Int) (I_ : Int → H → Prop) (m_ : Int → H → Nat)
    (hs : ∀ (X0 : Frame → H → Prop) (i11_ : Int) (h : H), I_ i11_ h → (∀ (i11_' : Int) (h' : H), I_ i11_' h' → m_ i11_' h' < m_ i11_ h → X0 (impl_Set_areNumbers_e0 s1_ p2_ s9_ i10_ i11_') h') → impl_Set_areNumbers_b0 S K X0 s1_ p2_ s9_ i10_ i11_ h) (i11_ : Int) {h : H} (h0 : I_ i11_ h) : impl_Set_areNumbers_L0 S K s1_ p2_ s9_ i10_ i11_ h :=
  loop_rule (σ := (Int)) (fun s_ => impl_Set_areNumbers_e0 s1_ p2_ s9_ i10_ (s_)) (fun s_ h => I_ (s_) h) (fun s_ h => m_ (s_) h)
    (fun X s_ h hi hx => (impl_Set_areNumbers_link0 S K X s1_ p2_ s9_ i10_ (s_) h).mpr (hs X (s_) h hi fun i11_' h' hi' hm' => hx (i11_') h' hi' hm')) (i11_) h0
theorem impl_Set_areNumbers_unroll0 (S : SatT) (K : AVal → H → Prop) (s1_ : Sl) (p2_ : Pt) (s9_ : Sl) (i10_ : Int) (i11_ : Int) (h : H) (hb : impl_Set_areNumbers_b0 S K (fun fr h => loopK (impl_Set_areNumbers_w0 S K) fr h) s1_ p2_ s9_ i10_ i11_ h) : impl_Set_areNumbers_L0 S K s1_ p2_ s9_ i10_ i11_ h := loop_unroll ((impl_Set_areNumbers_link0 S K _ s1_ p2_ s9_ i10_ i11_ h).mpr hb)
def impl_Set_areNumbers_main (S : SatT) (K : AVal → H → Prop) (x0 : List AVal) (x1 : Sl) (h : H) : Prop :=
 newK 2 x0 h fun p0 h1 =>
 impl_Set_areNumbers_L0 S K x1 p0 x1 (x1.len : Int) (0) h1
theorem impl_Set_areNumbers_main_link (S : SatT) (K : AVal → H → Prop) (x0 : List AVal) (x1 : Sl) (h : H) : cwp S tab impl_Set_areNumbers_M [] (bodyOf Try.f70) (kFun tab Try.f70.results.toList K) (fr0 Try.f70 [.agg x0, .sl x1]) h = impl_Set_areNumbers_main S K x0 x1 h := by kernel_rfl
theorem impl_Set_areNumbers_call (x0 : List AVal) (x1 : Sl) (h : H) (K : Bool → H → Prop) (hm : impl_Set_areNumbers_main (Sat Try.prog) (fun v h' => ∃ r, v = .bool r ∧ K r h') x0 x1 h) : callB (Sat Try.prog) i_impl_Set_areNumbers [.agg x0, .sl x1] h K := by
  have := Sat.ex tok mixed impl_Set_areNumbers_M Try.func70 (c := bodyOf Try.f70) (by kernel_rfl) (calls_of Try.func70 (c := bodyOf Try.f70) (by kernel_rfl) (by decide)) ((impl_Set_areNumbers_main_link _ _ x0 x1 h).mpr hm)
  obtain ⟨v, h2, h3, r, rfl, h4⟩ := this; exact ⟨r, h2, h3, h4⟩

/-! ### loop.example/g01354/spec.l05Kept -/
def spec_l05Kept_M : Nat → List Nat := fun i => bif i == 2 then [0, 3, 4, 5] else bif i == 0 then [0, 3, 4] else []
def spec_l05Kept_ks2 (S : SatT) (K : AVal → H → Prop) : Kont := kSeq (cwp S tab spec_l05Kept_M [] (sub [1, 1, 1] (bodyOf Try.f97)) (kFun tab (Try.f97).results.toList K)) (kFun tab (Try.f97).results.toList K)
def spec_l05Kept_e0 (s0_ : Sl) (s3_ : Sl) (i4_ : Int) : Frame := [.sl s0_, U, U, .sl s3_, .int .i64 i4_, U, U, U, U, U, U, U, U, U, U, U, U, U, U, U, U, U, U, U, U, U, U, U, U, U, U, U, U, U, U, U, U, U, U, U, U, U, U]
def spec_l05Kept_w0 (S : SatT) (K : AVal → H → Prop) : (Frame → H → Prop) → Frame → H → Prop := fun X fr h => cwp S tab spec_l05Kept_M (spec_l05Kept_M 0) (sub [1, 1, 0, 1, 0, 0] (bodyOf Try.f97)) (kSeq (fun fr h => X (mask (spec_l05Kept_M 0) fr) h) (kBlk 0 (spec_l05Kept_ks2 S K))) fr h
def spec_l05Kept_L0 (S : SatT) (K : AVal → H → Prop) (s0_ : Sl) (s3_ : Sl) (i4_ : Int) (h : H) : Prop := loopK (spec_l05Kept_w0 S K) (spec_l05Kept_e0 s0_ s3_ i4_) h
def spec_l05Kept_ks6 (S : SatT) (K : AVal → H → Prop) (X0 : Frame → H → Prop) : Kont := kSeq (cwp S tab spec_l05Kept_M (spec_l05Kept_M 0) (sub [1, 1, 0, 1, 0, 0, 1, 1] (bodyOf Try.f97)) (kSeq (fun fr h => X0 (mask (spec_l05Kept_M 0) fr) h) (kBlk 0 (spec_l05Kept_ks2 S K)))) (kSeq (fun fr h => X0 (mask (spec_l05Kept_M 0) fr) h) (kBlk 0 (spec_l05Kept_ks2 S K)))
def spec_l05Kept_e2 (s0_ : Sl) (s3_ : Sl) (i4_ : Int) (i5_ : Int) : Frame := [.sl s0_, U, U, .sl s3_, .int .i64 i4_, .int .i64 i5_, U, U, U, U, U, U, U, U, U, U, U, U, U, U, U, U, U, U, U, U, U, U, U, U, U, U, U, U, U, U, U, U, U, U, U, U, U]
def spec_l05Kept_w2 (S : SatT) (K : AVal → H → Prop) (X0 : Frame → H → Prop) : (Frame → H → Prop) → Frame → H → Prop := fun X fr h => cwp S tab spec_l05Kept_M (spec_l05Kept_M 2) (sub [1, 1, 0, 1, 0, 0, 1, 0, 0, 1, 0, 0] (bodyOf Try.f97)) (kSeq (fun fr h => X (mask (spec_l05Kept_M 2) fr) h) (kBlk 2 (kBlk 1 (spec_l05Kept_ks6 S K X0)))) fr h
def spec_l05Kept_L2 (S : SatT) (K : AVal → H → Prop) (X0 : Frame → H → Prop) (s0_ : Sl) (s3_ : Sl) (i4_ : Int) (i5_ : Int) (h : H) : Prop := loopK (spec_l05Kept_w2 S K X0) (spec_l05Kept_e2 s0_ s3_ i4_ i5_) h
def spec_l05Kept_C1 (S : SatT) (K : AVal → H → Prop) (X0 : Frame → H → Prop) (s0_ : Sl) (s3_ : Sl) (i4_ : Int) (h : H) : Prop :=
 X0 (spec_l05Kept_e0 s0_ s3_ (w64 (i4_ + (1)))) h
def spec_l05Kept_C2 (S : SatT) (K : AVal → H → Prop) (X0 : Frame → H → Prop) (s0_ : Sl) (s3_ : Sl) (i4_ : Int) (h : H) : Prop :=
 spec_l05Kept_C1 S K X0 s0_ s3_ i4_ h
def spec_l05Kept_b2 (S : SatT) (K : AVal → H → Prop) (X0 : Frame → H → Prop) (X2 : Frame → H → Prop) (s0_ : Sl) (s3_ : Sl) (i4_ : Int) (i5_ : Int) (h : H) : Prop :=
 ixS s0_ 1 (0) fun p0 =>
 ldS p0 h fun s1 =>
 bif (decide (i5_ < (s1.len : Int))) then
 callS S i_spec_l05Shift [.sl s0_, .int .i64 i4_, .int .i64 i5_] h fun s3 h2 =>
 callB S i_spec_l05Less [.sl s3, .sl s0_] h2 fun b5 h4 =>
 bif (!b5) then
 callB S i_spec_l05Less [.sl s0_, .sl s3] h4 fun b7 h6 =>
 bif (!b7) then
 newS 2 1 [.int .i64 i4_, .int .i64 i5_] h6 fun s8 h9 =>
 newS 1 1 [.sl s8] h9 fun s10 h11 =>
 app s3_ s10 1 h11 fun s12 h13 =>
 X2 (spec_l05Kept_e2 s0_ s12 i4_ (w64 (i5_ + (1)))) h13
 else
 X2 (spec_l05Kept_e2 s0_ s3_ i4_ (w64 (i5_ + (1)))) h6
 else
 X2 (spec_l05Kept_e2 s0_ s3_ i4_ (w64 (i5_ + (1)))) h4
 else
 spec_l05Kept_C2 S K X0 s0_ s3_ i4_ h
theorem spec_l05Kept_link2 (S : SatT) (K : AVal → H → Prop) (X0 : Frame → H → Prop) (X2 : Frame → H → Prop) (s0_ : Sl) (s3_ : Sl) (i4_ : Int) (i5_ : Int) (h : H) : spec_l05Kept_w2 S K X0 X2 (spec_l05Kept_e2 s0_ s3_ i4_ i5_) h = spec_l05Kept_b2 S K X0 X2 s0_ s3_ i4_ i5_ h := by kernel_rfl
theorem spec_l05Kept_rule2 (S : SatT) (K : AVal → H → Prop) (X0 : Frame → H → Prop) (s0_ : Sl) (i4_ : Int) (I_ : Sl → Int → H → Prop) (m_ : Sl → Int → H → Nat)
    (hs : ∀ (X2 : Frame → H → Prop) (s3_ : Sl) (i5_ : Int) (h : H), I_ s3_ i5_ h → (∀ (s3_' : Sl) (i5_' : Int) (h' : H), I_ s3_' i5_' h' → m_ s3_' i5_' h' < m_ s3_ i5_ h → X2 (spec_l05Kept_e2 s0_ s3_' i4_ i5_') h') → spec_l05Kept_b2 S K X0 X2 s0_ s3_ i4_ i5_ h) (s3_ : Sl) (i5_ : Int) {h : H} (h0 : I_ s3_ i5_ h) : spec_l05Kept_L2 S K X0 s0_ s3_ i4_ i5_ h :=
  loop_rule (σ := (Sl) × (Int)) (fun s_ => spec_l05Kept_e2 s0_ (s_.1) i4_ (s_.2)) (fun s_ h => I_ (s_.1) (s_.2) h) (fun s_ h => m_ (s_.1) (s_.2) h)
    (fun X s_ h hi hx => (spec_l05Kept_link2 S K X0 X s0_ (s_.1) i4_ (s_.2) h).mpr (hs X (s_.1) (s_.2) h hi fun s3_' i5_' h' hi' hm' => hx (s3_', i5_') h' hi' hm')) (s3_, i5_) h0
theorem spec_l05Kept_unroll2 (S : SatT) (K : AVal → H → Prop) (X0 : Frame → H → Prop) (s0_ : Sl) (s3_ : Sl) (i4_ : Int) (i5_ : Int) (h : H) (hb : spec_l05Kept_b2 S K X0 (fun fr h => loopK (spec_l05Kept_w2 S K X0) fr h) s0_ s3_ i4_ i5_ h) : spec_l05Kept_L2 S K X0 s0_ s3_ i4_ i5_ h := loop_unroll ((spec_l05Kept_link2 S K X0 _ s0_ s3_ i4_ i5_ h).mpr hb)
def spec_l05Kept_C0 (S : SatT) (K : AVal → H → Prop) (s3_ : Sl) (h : H) : Prop :=
 K (.sl s3_) h
def spec_l05Kept_b0 (S : SatT) (K : AVal → H → Prop) (X0 : Frame → H → Prop) (s0_ : Sl) (s3_ : Sl) (i4_ : Int) (h : H) : Prop :=
 bif (decide (i4_ < (s0_.len : Int))) then
 spec_l05Kept_L2 S K X0 s0_ s3_ i4_ (0) h
 else
 spec_l05Kept_C0 S K s3_ h
theorem spec_l05Kept_link0 (S : SatT) (K : AVal → H → Prop) (X0 : Frame → H → Prop) (s0_ : Sl) (s3_ : Sl) (i4_ : Int) (h : H) : spec_l05Kept_w0 S K X0 (spec_l05Kept_e0 s0_ s3_ i4_) h = spec_l05Kept_b0 S K X0 s0_ s3_ i4_ h := by kernel_rfl
theorem spec_l05Kept_rule0 (S : SatT) (K : AVal → H → Prop) (s0_ : Sl) (I_ : Sl → Int → H → Prop) (m_ : Sl → Int → H → Nat)
    (hs : ∀ (X0 : Frame → H → Prop) (s3_ : Sl) (i4_ : Int) (h : H), I_ s3_ i4_ h → (∀ (s3_' : Sl) (i4_' : Int) (h' : H), I_ s3_' i4_' h' → m_ s3_' i4_' h' < m_ s3_ i4_ h → X0 (spec_l05Kept_e0 s0_ s3_' i4_') h') → spec_l05Kept_b0 S K X0 s0_ s3_ i4_ h) (s3_ : Sl) (i4_ : Int) {h : H} (h0 : I_ s3_ i4_ h) : spec_l05Kept_L0 S K s0_ s3_ i4_ h :=
  loop_rule (σ := (Sl) × (Int)) (fun s_ => spec_l05Kept_e0 s0_ (s_.1) (s_.2)) (fun s_ h => I_ (s_.1) (s_.2) h) (fun s_ h => m_ (s_.1) (s_.2) h)
    (fun X s_ h hi hx => (spec_l05Kept_link0 S K X s0_ (s_.1) (s_.2) h).mpr (hs X (s_.1) (s_.2) h hi fun s3_' i4_' h' hi' hm' => hx (s3_', i4_') h' hi' hm')) (s3_, i4_) h0
theorem spec_l05Kept_unroll0 (S : SatT) (K : AVal → H → Prop) (s0_ : Sl) (s3_ : Sl) (i4_ : Int) (h : H) (hb : spec_l05Kept_b0 S K (fun fr h => loopK (spec_l05Kept_w0 S K) fr h) s0_ s3_ i4_ h) : spec_l05Kept_L0 S K s0_ s3_ i4_ h := loop_unroll ((spec_l05Kept_link0 S K _ s0_ s3_ i4_ h).mpr hb)
def spec_l05Kept_main (S : SatT) (K : AVal → H → Prop) (x0 : Sl) (h : H) : Prop :=
 newS 0 1 [] h fun s0 h1 =>
 spec_l05Kept_L0 S K x0 s0 (0) h1
theorem spec_l05Kept_main_link (S : SatT) (K : AVal → H → Prop) (x0 : Sl) (h : H) : cwp S tab spec_l05Kept_M [] (bodyOf Try.f97) (kFun tab Try.f97.results.toList K) (fr0 Try.f97 [.sl x0]) h = spec_l05Kept_main S K x0 h := by kernel_rfl
theorem spec_l05Kept_call (x0 : Sl) (h : H) (K : Sl → H → Prop) (hm : spec_l05Kept_main (Sat Try.prog) (fun v h' => ∃ r, v = .sl r ∧ K r h') x0 h) : callS (Sat Try.prog) i_spec_l05Kept [.sl x0] h K := by
  have := Sat.ex tok mixed spec_l05Kept_M Try.func97 (c := bodyOf Try.f97) (by kernel_rfl) (calls_of Try.func97 (c := bodyOf Try.f97) (by kernel_rfl) (by decide)) ((spec_l05Kept_main_link _ _ x0 h).mpr hm)
  obtain ⟨v, h2, h3, r, rfl, h4⟩ := this; exact ⟨r, h2, h3, h4⟩

/-! ### loop.example/g01354/spec.LeastTorus -/
def spec_LeastTorus_M : Nat → List Nat := fun i => bif i == 2 then [1, 4, 5] else bif i == 0 then [1, 4] else []
def spec_LeastTorus_ks4 (S : SatT) (K : AVal → H → Prop) : Kont := kSeq (cwp S tab spec_LeastTorus_M [] (sub [1, 1, 1] (bodyOf Try.f34)) (kFun tab (Try.f34).results.toList K)) (kFun tab (Try.f34).results.toList K)
def spec_LeastTorus_e0 (p1_ : Pt) (i4_ : Int) : Frame := [U, .ptr p1_, U, U, .int .i64 i4_, U, U, U, U, U, U, U, U, U, U, U, U, U, U, U, U, U, U, U, U, U, U, U, U, U, U, U, U, U, U, U, U, U, U, U]
def spec_LeastTorus_w0 (S : SatT) (K : AVal → H → Prop) : (Frame → H → Prop) → Frame → H → Prop := fun X fr h => cwp S tab spec_LeastTorus_M (spec_LeastTorus_M 0) (sub [1, 1, 0, 1, 0, 0] (bodyOf Try.f34)) (kSeq (fun fr h => X (mask (spec_LeastTorus_M 0) fr) h) (kBlk 0 (spec_LeastTorus_ks4 S K))) fr h
def spec_LeastTorus_L0 (S : SatT) (K : AVal → H → Prop) (p1_ : Pt) (i4_ : Int) (h : H) : Prop := loopK (spec_LeastTorus_w0 S K) (spec_LeastTorus_e0 p1_ i4_) h
def spec_LeastTorus_ks8 (S : SatT) (K : AVal → H → Prop) (X0 : Frame → H → Prop) : Kont := kSeq (cwp S tab spec_LeastTorus_M (spec_LeastTorus_M 0) (sub [1, 1, 0, 1, 0, 0, 1, 1] (bodyOf Try.f34)) (kSeq (fun fr h => X0 (mask (spec_LeastTorus_M 0) fr) h) (kBlk 0 (spec_LeastTorus_ks4 S K)))) (kSeq (fun fr h => X0 (mask (spec_LeastTorus_M 0) fr) h) (kBlk 0 (spec_LeastTorus_ks4 S K)))
def spec_LeastTorus_e2 (p1_ : Pt) (i4_ : Int) (i5_ : Int) : Frame := [U, .ptr p1_, U, U, .int .i64 i4_, .int .i64 i5_, U, U, U, U, U, U, U, U, U, U, U, U, U, U, U, U, U, U, U, U, U, U, U, U, U, U, U, U, U, U, U, U, U, U]
def spec_LeastTorus_w2 (S : SatT) (K : AVal → H → Prop) (X0 : Frame → H → Prop) : (Frame → H → Prop) → Frame → H → Prop := fun X fr h => cwp S tab spec_LeastTorus_M (spec_LeastTorus_M 2) (sub [1, 1, 0, 1, 0, 0, 1, 0, 0, 1, 0, 0] (bodyOf Try.f34)) (kSeq (fun fr h => X (mask (spec_LeastTorus_M 2) fr) h) (kBlk 2 (kBlk 1 (spec_LeastTorus_ks8 S K X0)))) fr h
def spec_LeastTorus_L2 (S : SatT) (K : AVal → H → Prop) (X0 : Frame → H → Prop) (p1_ : Pt) (i4_ : Int) (i5_ : Int) (h : H) : Prop := loopK (spec_LeastTorus_w2 S K X0) (spec_LeastTorus_e2 p1_ i4_ i5_) h
def spec_LeastTorus_C1 (S : SatT) (K : AVal → H → Prop) (X0 : Frame → H → Prop) (p1_ : Pt) (i4_ : Int) (h : H) : Prop :=
 X0 (spec_LeastTorus_e0 p1_ (w64 (i4_ + (1)))) h
def spec_LeastTorus_C2 (S : SatT) (K : AVal → H → Prop) (X0 : Frame → H → Prop) (p1_ : Pt) (i4_ : Int) (h : H) : Prop :=
 spec_LeastTorus_C1 S K X0 p1_ i4_ h
def spec_LeastTorus_b2 (S : SatT) (K : AVal → H → Prop) (X0 : Frame → H → Prop) (X2 : Frame → H → Prop) (p1_ : Pt) (i4_ : Int) (i5_ : Int) (h : H) : Prop :=
 bif (decide (i5_ ≤ (3))) then
 nz i5_ (
 bif ((Int.tmod i4_ i5_) != (0)) then
 X2 (spec_LeastTorus_e2 p1_ i4_ (w64 (i5_ + (1)))) h
 else
 nz i5_ (
 bif (decide ((w64 (Int.tdiv i4_ i5_)) > (3))) then
 X2 (spec_LeastTorus_e2 p1_ i4_ (w64 (i5_ + (1)))) h
 else
 ldA p1_ 2 h fun cs0 =>
 nz i5_ (
 callV S i_spec_l05First [.agg cs0, .int .i64 i5_, .int .i64 (w64 (Int.tdiv i4_ i5_))] h fun v2 h1 =>
 viaT v2 fun vs3 =>
 exS vs3 0 fun s4 =>
 viaT v2 fun vs5 =>
 exB vs5 1 fun b6 =>
 bif b6 then
 K (.tuple [.sl s4, .int .i64 (0)]) h1
 else
 X2 (spec_LeastTorus_e2 p1_ i4_ (w64 (i5_ + (1)))) h1)))
 else
 spec_LeastTorus_C2 S K X0 p1_ i4_ h
theorem spec_LeastTorus_link2 (S : SatT) (K : AVal → H → Prop) (X0 : Frame → H → Prop) (X2 : Frame → H → Prop) (p1_ : Pt) (i4_ : Int) (i5_ : Int) (h : H) : spec_LeastTorus_w2 S K X0 X2 (spec_LeastTorus_e2 p1_ i4_ i5_) h = spec_LeastTorus_b2 S K X0 X2 p1_ i4_ i5_ h := by kernel_rfl
theorem spec_LeastTorus_rule2 (S : SatT) (K : AVal → H → Prop) (X0 : Frame → H → Prop) (p1_ : Pt) (i4_ : Int) (I_ : Int → H → Prop) (m_ : Int → H → Nat)
    (hs : ∀ (X2 : Frame → H → Prop) (i5_ : Int) (h : H), I_ i5_ h → (∀ (i5_' : Int) (h' : H), I_ i5_' h' → m_ i5_' h' < m_ i5_ h → X2 (spec_LeastTorus_e2 p1_ i4_ i5_') h') → spec_LeastTorus_b2 S K X0 X2 p1_ i4_ i5_ h) (i5_ : Int) {h : H} (h0 : I_ i5_ h) : spec_LeastTorus_L2 S K X0 p1_ i4_ i5_ h :=
  loop_rule (σ := (Int)) (fun s_ => spec_LeastTorus_e2 p1_ i4_ (s_)) (fun s_ h => I_ (s_) h) (fun s_ h => m_ (s_) h)
    (fun X s_ h hi hx => (spec_LeastTorus_link2 S K X0 X p1_ i4_ (s_) h).mpr (hs X (s_) h hi fun i5_' h' hi' hm' => hx (i5_') h' hi' hm')) (i5_) h0
theorem spec_LeastTorus_unroll2 (S : SatT) (K : AVal → H → Prop) (X0 : Frame → H → Prop) (p1_ : Pt) (i4_ : Int) (i5_ : Int) (h : H) (hb : spec_LeastTorus_b2 S K X0 (fun fr h => loopK (spec_LeastTorus_w2 S K X0) fr h) p1_ i4_ i5_ h) : spec_LeastTorus_L2 S K X0 p1_ i4_ i5_ h := loop_unroll ((spec_LeastTorus_link2 S K X0 _ p1_ i4_ i5_ h).mpr hb)
def spec_LeastTorus_C0 (S : SatT) (K : AVal → H → Prop) (h : H) : Prop :=
 K (.tuple [.sl Sl.nil, .int .i64 (4)]) h
def spec_LeastTorus_b0 (S : SatT) (K : AVal → H → Prop) (X0 : Frame → H → Prop) (p1_ : Pt) (i4_ : Int) (h : H) : Prop :=
 bif (decide (i4_ ≤ (9))) then
 spec_LeastTorus_L2 S K X0 p1_ i4_ (1) h
 else
 spec_LeastTorus_C0 S K h
theorem spec_LeastTorus_link0 (S : SatT) (K : AVal → H → Prop) (X0 : Frame → H → Prop) (p1_ : Pt) (i4_ : Int) (h : H) : spec_LeastTorus_w0 S K X0 (spec_LeastTorus_e0 p1_ i4_) h = spec_LeastTorus_b0 S K X0 p1_ i4_ h := by kernel_rfl
theorem spec_LeastTorus_rule0 (S : SatT) (K : AVal → H → Prop) (p1_ : Pt) (I_ : Int → H → Prop) (m_ : Int → H → Nat)
    (hs : ∀ (X0 : Frame → H → Prop) (i4_ : Int) (h : H), I_ i4_ h → (∀ (i4_' : Int) (h' : H), I_ i4_' h' → m_ i4_' h' < m_ i4_ h → X0 (spec_LeastTorus_e0 p1_ i4_') h') → spec_LeastTorus_b0 S K X0 p1_ i4_ h) (i4_ : Int) {h : H} (h0 : I_ i4_ h) : spec_LeastTorus_L0 S K p1_ i4_ h :=
  loop_rule (σ := (Int)) (fun s_ => spec_LeastTorus_e0 p1_ (s_)) (fun s_ h => I_ (s_) h) (fun s_ h => m_ (s_) h)
    (fun X s_ h hi hx => (spec_LeastTorus_link0 S K X p1_ (s_) h).mpr (hs X (s_) h hi fun i4_' h' hi' hm' => hx (i4_') h' hi' hm')) (i4_) h0
theorem spec_LeastTorus_unroll0 (S : SatT) (K : AVal → H → Prop) (p1_ : Pt) (i4_ : Int) (h : H) (hb : spec_LeastTorus_b0 S K (fun fr h => loopK (spec_LeastTorus_w0 S K) fr h) p1_ i4_ h) : spec_LeastTorus_L0 S K p1_ i4_ h := loop_unroll ((spec_LeastTorus_link0 S K _ p1_ i4_ h).mpr hb)
def spec_LeastTorus_main (S : SatT) (K : AVal → H → Prop) (x0 : List AVal) (h : H) : Prop :=
 newK 2 x0 h fun p0 h1 =>
 ldA p0 2 h1 fun cs2 =>
 callB S i_spec_l01Is [.agg cs2] h1 fun b4 h3 =>
 bif (!b4) then
 K (.tuple [.sl Sl.nil, .int .i64 (1)]) h3
 else
 spec_LeastTorus_L0 S K p0 (1) h3
theorem spec_LeastTorus_main_link (S : SatT) (K : AVal → H → Prop) (x0 : List AVal) (h : H) : cwp S tab spec_LeastTorus_M [] (bodyOf Try.f34) (kFun tab Try.f34.results.toList K) (fr0 Try.f34 [.agg x0]) h = spec_LeastTorus_main S K x0 h := by kernel_rfl
theorem spec_LeastTorus_call (x0 : List AVal) (h : H) (K : AVal → H → Prop) (hm : spec_LeastTorus_main (Sat Try.prog) (fun v h' => K v h') x0 h) : callV (Sat Try.prog) i_spec_LeastTorus [.agg x0] h K := by
  have := Sat.ex tok mixed spec_LeastTorus_M Try.func34 (c := bodyOf Try.f34) (by kernel_rfl) (calls_of Try.func34 (c := bodyOf Try.f34) (by kernel_rfl) (by decide)) ((spec_LeastTorus_main_link _ _ x0 h).mpr hm)
  exact this

/-! ### loop.example/g01354/impl.shifts -/
def impl_shifts_M : Nat → List Nat := fun i => bif i == 2 then [0, 1, 4, 7, 8, 14, 15] else bif i == 0 then [0, 1, 7, 8] else []
def impl_shifts_e0 (s0_ : Sl) (f1_ : AVal) (i7_ : Int) (i8_ : Int) : Frame := [.sl s0_, f1_, U, U, U, U, U, .int .i64 i7_, .int .i64 i8_, U, U, U, U, U, U, U, U, U, U, U, U, U, U, U, U, U, U, U]
def impl_shifts_w0 (S : SatT) (K : AVal → H → Prop) : (Frame → H → Prop) → Frame → H → Prop := fun X fr h => cwp S tab impl_shifts_M (impl_shifts_M 0) (sub [1, 0, 0] (bodyOf Try.f120)) (kSeq (fun fr h => X (mask (impl_shifts_M 0) fr) h) (kBlk 0 (kFun tab (Try.f120).results.toList K))) fr h
def impl_shifts_L0 (S : SatT) (K : AVal → H → Prop) (s0_ : Sl) (f1_ : AVal) (i7_ : Int) (i8_ : Int) (h : H) : Prop := loopK (impl_shifts_w0 S K) (impl_shifts_e0 s0_ f1_ i7_ i8_) h
def impl_shifts_ks3 (S : SatT) (K : AVal → H → Prop) (X0 : Frame → H → Prop) : Kont := kSeq (cwp S tab impl_shifts_M (impl_shifts_M 0) (sub [1, 0, 0, 1, 1, 1] (bodyOf Try.f120)) (kSeq (fun fr h => X0 (mask (impl_shifts_M 0) fr) h) (kBlk 0 (kFun tab (Try.f120).results.toList K)))) (kSeq (fun fr h => X0 (mask (impl_shifts_M 0) fr) h) (kBlk 0 (kFun tab (Try.f120).results.toList K)))
def impl_shifts_e2 (s0_ : Sl) (f1_ : AVal) (i4_ : Int) (i7_ : Int) (i8_ : Int) (i14_ : Int) (i15_ : Int) : Frame := [.sl s0_, f1_, U, U, .int .i64 i4_, U, U, .int .i64 i7_, .int .i64 i8_, U, U, U, U, U, .int .i64 i14_, .int .i64 i15_, U, U, U, U, U, U, U, U, U, U, U, U]
def impl_shifts_w2 (S : SatT) (K : AVal → H → Prop) (X0 : Frame → H → Prop) : (Frame → H → Prop) → Frame → H → Prop := fun X fr h => cwp S tab impl_shifts_M (impl_shifts_M 2) (sub [1, 0, 0, 1, 1, 0, 0, 1, 1, 0, 0] (bodyOf Try.f120)) (kSeq (fun fr h => X (mask (impl_shifts_M 2) fr) h) (kBlk 2 (kBlk 1 (impl_shifts_ks3 S K X0)))) fr h
def impl_shifts_L2 (S : SatT) (K : AVal → H → Prop) (X0 : Frame → H → Prop) (s0_ : Sl) (f1_ : AVal) (i4_ : Int) (i7_ : Int) (i8_ : Int) (i14_ : Int) (i15_ : Int) (h : H) : Prop := loopK (impl_shifts_w2 S K X0) (impl_shifts_e2 s0_ f1_ i4_ i7_ i8_ i14_ i15_) h
def impl_shifts_C1 (S : SatT) (K : AVal → H → Prop) (X0 : Frame → H → Prop) (s0_ : Sl) (f1_ : AVal) (i7_ : Int) (i8_ : Int) (h : H) : Prop :=
 X0 (impl_shifts_e0 s0_ f1_ i7_ (w64 (i8_ + (1)))) h
def impl_shifts_C2 (S : SatT) (K : AVal → H → Prop) (X0 : Frame → H → Prop) (s0_ : Sl) (f1_ : AVal) (i7_ : Int) (i8_ : Int) (h : H) : Prop :=
 impl_shifts_C1 S K X0 s0_ f1_ i7_ i8_ h
def impl_shifts_b2 (S : SatT) (K : AVal → H → Prop) (X0 : Frame → H → Prop) (X2 : Frame → H → Prop) (s0_ : Sl) (f1_ : AVal) (i4_ : Int) (i7_ : Int) (i8_ : Int) (i14_ : Int) (i15_ : Int) (h : H) : Prop :=
 bif (decide (i15_ < i14_)) then
 callS S i_impl_shifted [.sl s0_, .int .i64 i4_, .int .i64 i15_] h fun s1 h0 =>
 viaF f1_ [.int .i64 i4_, .int .i64 i15_, .sl s1] fun g2 ys3 =>
 callV S g2 ys3 h0 fun v5 h4 =>
 X2 (impl_shifts_e2 s0_ f1_ i4_ i7_ i8_ i14_ (w64 (i15_ + (1)))) h4
 else
 impl_shifts_C2 S K X0 s0_ f1_ i7_ i8_ h
theorem impl_shifts_link2 (S : SatT) (K : AVal → H → Prop) (X0 : Frame → H → Prop) (X2 : Frame → H → Prop) (s0_ : Sl) (f1_ : AVal) (i4_ : Int) (i7_ : Int) (i8_ : Int) (i14_ : Int) (i15_ : Int) (h : H) : impl_shifts_w2 S K X0 X2 (impl_shifts_e2 s0_ f1_ i4_ i7_ i8_ i14_ i15_) h = impl_shifts_b2 S K X0 X2 s0_ f1_ i4_ i7_ i8_ i14_ i15_ h := by kernel_rfl
theorem impl_shifts_rule2 (S : SatT) (K : AVal → H → Prop) (X0 : Frame → H → Prop) (s0_ : Sl) (f1_ : AVal) (i4_ : Int) (i7_ : Int) (i8_ : Int) (i14_ : Int) (I_ : Int → H → Prop) (m_ : Int → H → Nat)
    (hs : ∀ (X2 : Frame → H → Prop) (i15_ : Int) (h : H), I_ i15_ h → (∀ (i15_' : Int) (h' : H), I_ i15_' h' → m_ i15_' h' < m_ i15_ h → X2 (impl_shifts_e2 s0_ f1_ i4_ i7_ i8_ i14_ i15_') h') → impl_shifts_b2 S K X0 X2 s0_ f1_ i4_ i7_ i8_ i14_ i15_ h) (i15_ : Int) {h : H} (h0 : I_ i15_ h) : impl_shifts_L2 S K X0 s0_ f1_ i4_ i7_ i8_ i14_ i15_ h :=
  loop_rule (σ := (Int)) (fun s_ => impl_shifts_e2 s0_ f1_ i4_ i7_ i8_ i14_ (s_)) (fun s_ h => I_ (s_) h) (fun s_ h => m_ (s_) h)
    (fun X s_ h hi hx => (impl_shifts_link2 S K X0 X s0_ f1_ i4_ i7_ i8_ i14_ (s_) h).mpr (hs X (s_) h hi fun i15_' h' hi' hm' => hx (i15_') h' hi' hm')) (i15_) h0
theorem impl_shifts_unroll2 (S : SatT) (K : AVal → H → Prop) (X0 : Frame → H → Prop) (s0_ : Sl) (f1_ : AVal) (i4_ : Int) (i7_ : Int) (i8_ : Int) (i14_ : Int) (i15_ : Int) (h : H) (hb : impl_shifts_b2 S K X0 (fun fr h => loopK (impl_shifts_w2 S K X0) fr h) s0_ f1_ i4_ i7_ i8_ i14_ i15_ h) : impl_shifts_L2 S K X0 s0_ f1_ i4_ i7_ i8_ i14_ i15_ h := loop_unroll ((impl_shifts_link2 S K X0 _ s0_ f1_ i4_ i7_ i8_ i14_ i15_ h).mpr hb)
def impl_shifts_b0 (S : SatT) (K : AVal → H → Prop) (X0 : Frame → H → Prop) (s0_ : Sl) (f1_ : AVal) (i7_ : Int) (i8_ : Int) (h : H) : Prop :=
 bif (decide (i8_ < i7_)) then
 ixS s0_ 1 (0) fun p0 =>
 ldS p0 h fun s1 =>
 impl_shifts_L2 S K X0 s0_ f1_ i8_ i7_ i8_ (s1.len : Int) (0) h
 else
 K (.tuple []) h
theorem impl_shifts_link0 (S : SatT) (K : AVal → H → Prop) (X0 : Frame → H → Prop) (s0_ : Sl) (f1_ : AVal) (i7_ : Int) (i8_ : Int) (h : H) : impl_shifts_w0 S K X0 (impl_shifts_e0 s0_ f1_ i7_ i8_) h = impl_shifts_b0 S K X0 s0_ f1_ i7_ i8_ h := by kernel_rfl
theorem impl_shifts_rule0 (S : SatT) (K : AVal → H → Prop) (s0_ : Sl) (f1_ : AVal) (i7_ : Int) (I_ : Int → H → Prop) (m_ : Int → H → Nat)
    (hs : ∀ (X0 : Frame → H → Prop) (i8_ : Int) (h : H), I_ i8_ h → (∀ (i8_' : Int) (h' : H), I_ i8_' h' → m_ i8_' h' < m_ i8_ h → X0 (impl_shifts_e0 s0_ f1_ i7_ i8_') h') → impl_shifts_b0 S K X0 s0_ f1_ i7_ i8_ h) (i8_ : Int) {h : H} (h0 : I_ i8_ h) : impl_shifts_L0 S K s0_ f1_ i7_ i8_ h :=
  loop_rule (σ := (Int)) (fun s_ => impl_shifts_e0 s0_ f1_ i7_ (s_)) (fun s_ h => I_ (s_) h) (fun s_ h => m_ (s_) h)
    (fun X s_ h hi hx => (impl_shifts_link0 S K X s0_ f1_ i7_ (s_) h).mpr (hs X (s_) h hi fun i8_' h' hi' hm' => hx (i8_') h' hi' hm')) (i8_) h0
theorem impl_shifts_unroll0 (S : SatT) (K : AVal → H → Prop) (s0_ : Sl) (f1_ : AVal) (i7_ : Int) (i8_ : Int) (h : H) (hb : impl_shifts_b0 S K (fun fr h => loopK (impl_shifts_w0 S K) fr h) s0_ f1_ i7_ i8_ h) : impl_shifts_L0 S K s0_ f1_ i7_ i8_ h := loop_unroll ((impl_shifts_link0 S K _ s0_ f1_ i7_ i8_ h).mpr hb)
def impl_shifts_main (S : SatT) (K : AVal → H → Prop) (x0 : Sl) (x1 : AVal) (h : H) : Prop :=
 impl_shifts_L0 S K x0 x1 (x0.len : Int) (0) h
theorem impl_shifts_main_link (S : SatT) (K : AVal → H → Prop) (x0 : Sl) (x1 : AVal) (h : H) : cwp S tab impl_shifts_M [] (bodyOf Try.f120) (kFun tab Try.f120.results.toList K) (fr0 Try.f120 [.sl x0, x1]) h = impl_shifts_main S K x0 x1 h := by kernel_rfl
theorem impl_shifts_call (x0 : Sl) (x1 : AVal) (h : H) (K : AVal → H → Prop) (hm : impl_shifts_main (Sat Try.prog) (fun v h' => K v h') x0 x1 h) : callV (Sat Try.prog) i_impl_shifts [.sl x0, x1] h K := by
  have := Sat.ex tok mixed impl_shifts_M Try.func120 (c := bodyOf Try.f120) (by kernel_rfl) (calls_of Try.func120 (c := bodyOf Try.f120) (by kernel_rfl) (by decide)) ((impl_shifts_main_link _ _ x0 x1 h).mpr hm)
  exact this

/-! ### slices.Compare[[]int64,int64] -/
def slices_Compare_s_int64_int64__M : Nat → List Nat := fun i => bif i == 0 then [0, 1, 9, 10, 11] else []
def slices_Compare_s_int64_int64__ks1 (S : SatT) (K : AVal → H → Prop) : Kont := kSeq (cwp S tab slices_Compare_s_int64_int64__M [] (sub [1, 1] (bodyOf Try.f119)) (kFun tab (Try.f119).results.toList K)) (kFun tab (Try.f119).results.toList K)
def slices_Compare_s_int64_int64__e0 (s0_ : Sl) (s1_ : Sl) (s9_ : Sl) (i10_ : Int) (i11_ : Int) : Frame := [.sl s0_, .sl s1_, U, U, U, U, U, U, U, .sl s9_, .int .i64 i10_, .int .i64 i11_, U, U, U, U, U, U, U, U, U, U, U, U, U, U, U, U, U, U, U, U, U, U, U, U]
def slices_Compare_s_int64_int64__w0 (S : SatT) (K : AVal → H → Prop) : (Frame → H → Prop) → Frame → H → Prop := fun X fr h => cwp S tab slices_Compare_s_int64_int64__M (slices_Compare_s_int64_int64__M 0) (sub [1, 0, 1, 0, 0] (bodyOf Try.f119)) (kSeq (fun fr h => X (mask (slices_Compare_s_int64_int64__M 0) fr) h) (kBlk 0 (slices_Compare_s_int64_int64__ks1 S K))) fr h
def slices_Compare_s_int64_int64__L0 (S : SatT) (K : AVal → H → Prop) (s0_ : Sl) (s1_ : Sl) (s9_ : Sl) (i10_ : Int) (i11_ : Int) (h : H) : Prop := loopK (slices_Compare_s_int64_int64__w0 S K) (slices_Compare_s_int64_int64__e0 s0_ s1_ s9_ i10_ i11_) h
def slices_Compare_s_int64_int64__C0 (S : SatT) (K : AVal → H → Prop) (s0_ : Sl) (s1_ : Sl) (h : H) : Prop :=
 bif (decide ((s0_.len : Int) < (s1_.len : Int))) then
 K (.int .i64 (-1)) h
 else
 K (.int .i64 (0)) h
def slices_Compare_s_int64_int64__b0 (S : SatT) (K : AVal → H → Prop) (X0 : Frame → H → Prop) (s0_ : Sl) (s1_ : Sl) (s9_ : Sl) (i10_ : Int) (i11_ : Int) (h : H) : Prop :=
 bif (decide (i11_ < i10_)) then
 ixS s9_ 1 i11_ fun p0 =>
 ldI .i64 p0 h fun n1 =>
 bif (decide (i11_ ≥ (s1_.len : Int))) then
 K (.int .i64 (1)) h
 else
 ixS s1_ 1 i11_ fun p2 =>
 ldI .i64 p2 h fun n3 =>
 callI S .i64 i_cmp_Compare_int64_ [.int .i64 n1, .int .i64 n3] h fun n5 h4 =>
 bif (n5 != (0)) then
 K (.int .i64 n5) h4
 else
 X0 (slices_Compare_s_int64_int64__e0 s0_ s1_ s9_ i10_ (w64 (i11_ + (1)))) h4
 else
 slices_Compare_s_int64_int64__C0 S K s0_ s1_ h
theorem slices_Compare_s_int64_int64__link0 (S : SatT) (K : AVal → H → Prop) (X0 : Frame → H → Prop) (s0_ : Sl) (s1_ : Sl) (s9_ : Sl) (i10_ : Int) (i11_ : Int) (h : H) : slices_Compare_s_int64_int64__w0 S K X0 (slices_Compare_s_int64_int64__e0 s0_ s1_ s9_ i10_ i11_) h = slices_Compare_s_int64_int64__b0 S K X0 s0_ s1_ s9_ i10_ i11_ h := by kernel_rfl
theorem slices_Compare_s_int64_int64__rule0 (S : SatT) (K : AVal → H → Prop) (s0_ : Sl) (s1_ : Sl) (s9_ : Sl) (i10_ : Int) (I_ : Int → H → Prop) (m_ : Int → H → Nat)
    (hs : ∀ (X0 : Frame → H → Prop) (i11_ : Int) (h : H), I_ i11_ h → (∀ (i11_' : Int) (h' : H), I_ i11_' h' → m_ i11_' h' < m_ i11_ h → X0 (slices_Compare_s_int64_int64__e0 s0_ s1_ s9_ i10_ i11_') h') → slices_Compare_s_int64_int64__b0 S K X0 s0_ s1_ s9_ i10_ i11_ h) (i11_ : Int) {h : H} (h0 : I_ i11_ h) : slices_Compare_s_int64_int64__L0 S K s0_ s1_ s9_ i10_ i11_ h :=
  loop_rule (σ := (Int)) (fun s_ => slices_Compare_s_int64_int64__e0 s0_ s1_ s9_ i10_ (s_)) (fun s_ h => I_ (s_) h) (fun s_ h => m_ (s_) h)
    (fun X s_ h hi hx => (slices_Compare_s_int64_int64__link0 S K X s0_ s1_ s9_ i10_ (s_) h).mpr (hs X (s_) h hi fun i11_' h' hi' hm' => hx (i11_') h' hi' hm')) (i11_) h0
theorem slices_Compare_s_int64_int64__unroll0 (S : SatT) (K : AVal → H → Prop) (s0_ : Sl) (s1_ : Sl) (s9_ : Sl) (i10_ : Int) (i11_ : Int) (h : H) (hb : slices_Compare_s_int64_int64__b0 S K (fun fr h => loopK (slices_Compare_s_int64_int64__w0 S K) fr h) s0_ s1_ s9_ i10_ i11_ h) : slices_Compare_s_int64_int64__L0 S K s0_ s1_ s9_ i10_ i11_ h := loop_unroll ((slices_Compare_s_int64_int64__link0 S K _ s0_ s1_ s9_ i10_ i11_ h).mpr hb)
def slices_Compare_s_int64_int64__main (S : SatT) (K : AVal → H → Prop) (x0 : Sl) (x1 : Sl) (h : H) : Prop :=
 slices_Compare_s_int64_int64__L0 S K x0 x1 x0 (x0.len : Int) (0) h
theorem slices_Compare_s_int64_int64__main_link (S : SatT) (K : AVal → H → Prop) (x0 : Sl) (x1 : Sl) (h : H) : cwp S tab slices_Compare_s_int64_int64__M [] (bodyOf Try.f119) (kFun tab Try.f119.results.toList K) (fr0 Try.f119 [.sl x0, .sl x1]) h = slices_Compare_s_int64_int64__main S K x0 x1 h := by kernel_rfl
theorem slices_Compare_s_int64_int64__call (x0 : Sl) (x1 : Sl) (h : H) (K : Int → H → Prop) (hm : slices_Compare_s_int64_int64__main (Sat Try.prog) (fun v h' => ∃ r, v = .int .i64 r ∧ K r h') x0 x1 h) : callI (Sat Try.prog) .i64 i_slices_Compare_s_int64_int64_ [.sl x0, .sl x1] h K := by
  have := Sat.ex tok mixed slices_Compare_s_int64_int64__M Try.func119 (c := bodyOf Try.f119) (by kernel_rfl) (calls_of Try.func119 (c := bodyOf Try.f119) (by kernel_rfl) (by decide)) ((slices_Compare_s_int64_int64__main_link _ _ x0 x1 h).mpr hm)
  obtain ⟨v, h2, h3, r, rfl, h4⟩ := this; exact ⟨r, h2, h3, h4⟩

/-! ### slices.IndexFunc[[]int64,int64] -/
def slices_IndexFunc_s_int64_int64__M : Nat → List Nat := fun i => bif i == 0 then [0, 1, 7, 8] else []
def slices_IndexFunc_s_int64_int64__ks1 (S : SatT) (K : AVal → H → Prop) : Kont := kSeq (cwp S tab slices_IndexFunc_s_int64_int64__M [] (sub [1, 1] (bodyOf Try.f127)) (kFun tab (Try.f127).results.toList K)) (kFun tab (Try.f127).results.toList K)
def slices_IndexFunc_s_int64_int64__e0 (s0_ : Sl) (f1_ : AVal) (i7_ : Int) (i8_ : Int) : Frame := [.sl s0_, f1_, U, U, U, U, U, .int .i64 i7_, .int .i64 i8_, U, U, U, U, U, U, U, U, U, U]
def slices_IndexFunc_s_int64_int64__w0 (S : SatT) (K : AVal → H → Prop) : (Frame → H → Prop) → Frame → H → Prop := fun X fr h => cwp S tab slices_IndexFunc_s_int64_int64__M (slices_IndexFunc_s_int64_int64__M 0) (sub [1, 0, 1, 0, 0] (bodyOf Try.f127)) (kSeq (fun fr h => X (mask (slices_IndexFunc_s_int64_int64__M 0) fr) h) (kBlk 0 (slices_IndexFunc_s_int64_int64__ks1 S K))) fr h
def slices_IndexFunc_s_int64_int64__L0 (S : SatT) (K : AVal → H → Prop) (s0_ : Sl) (f1_ : AVal) (i7_ : Int) (i8_ : Int) (h : H) : Prop := loopK (slices_IndexFunc_s_int64_int64__w0 S K) (slices_IndexFunc_s_int64_int64__e0 s0_ f1_ i7_ i8_) h
def slices_IndexFunc_s_int64_int64__C0 (S : SatT) (K : AVal → H → Prop) (h : H) : Prop :=
 K (.int .i64 (-1)) h
def slices_IndexFunc_s_int64_int64__b0 (S : SatT) (K : AVal → H → Prop) (X0 : Frame → H → Prop) (s0_ : Sl) (f1_ : AVal) (i7_ : Int) (i8_ : Int) (h : H) : Prop :=
 bif (decide (i8_ < i7_)) then
 ixS s0_ 1 i8_ fun p0 =>
 ldI .i64 p0 h fun n1 =>
 viaF f1_ [.int .i64 n1] fun g2 ys3 =>
 callB S g2 ys3 h fun b5 h4 =>
 bif b5 then
 K (.int .i64 i8_) h4
 else
 X0 (slices_IndexFunc_s_int64_int64__e0 s0_ f1_ i7_ (w64 (i8_ + (1)))) h4
 else
 slices_IndexFunc_s_int64_int64__C0 S K h
theorem slices_IndexFunc_s_int64_int64__link0 (S : SatT) (K : AVal → H → Prop) (X0 : Frame → H → Prop) (s0_ : Sl) (f1_ : AVal) (i7_ : Int) (i8_ : Int) (h : H) : slices_IndexFunc_s_int64_int64__w0 S K X0 (slices_IndexFunc_s_int64_int64__e0 s0_ f1_ i7_ i8_) h = slices_IndexFunc_s_int64_int64__b0 S K X0 s0_ f1_ i7_ i8_ h := by kernel_rfl
theorem slices_IndexFunc_s_int64_int64__rule0 (S : SatT) (K : AVal → H → Prop) (s0_ : Sl) (f1_ : AVal) (i7_ : Int) (I_ : Int → H → Prop) (m_ : Int → H → Nat)
    (hs : ∀ (X0 : Frame → H → Prop) (i8_ : Int) (h : H), I_ i8_ h → (∀ (i8_' : Int) (h' : H), I_ i8_' h' → m_ i8_' h' < m_ i8_ h → X0 (slices_IndexFunc_s_int64_int64__e0 s0_ f1_ i7_ i8_') h') → slices_IndexFunc_s_int64_int64__b0 S K X0 s0_ f1_ i7_ i8_ h) (i8_ : Int) {h : H} (h0 : I_ i8_ h) : slices_IndexFunc_s_int64_int64__L0 S K s0_ f1_ i7_ i8_ h :=
  loop_rule (σ := (Int)) (fun s_ => slices_IndexFunc_s_int64_int64__e0 s0_ f1_ i7_ (s_)) (fun s_ h => I_ (s_) h) (fun s_ h => m_ (s_) h)
    (fun X s_ h hi hx => (slices_IndexFunc_s_int64_int64__link0 S K X s0_ f1_ i7_ (s_) h).mpr (hs X (s_) h hi fun i8_' h' hi' hm' => hx (i8_') h' hi' hm')) (i8_) h0
theorem slices_IndexFunc_s_int64_int64__unroll0 (S : SatT) (K : AVal → H → Prop) (s0_ : Sl) (f1_ : AVal) (i7_ : Int) (i8_ : Int) (h : H) (hb : slices_IndexFunc_s_int64_int64__b0 S K (fun fr h => loopK (slices_IndexFunc_s_int64_int64__w0 S K) fr h) s0_ f1_ i7_ i8_ h) : slices_IndexFunc_s_int64_int64__L0 S K s0_ f1_ i7_ i8_ h := loop_unroll ((slices_IndexFunc_s_int64_int64__link0 S K _ s0_ f1_ i7_ i8_ h).mpr hb)
def slices_IndexFunc_s_int64_int64__main (S : SatT) (K : AVal → H → Prop) (x0 : Sl) (x1 : AVal) (h : H) : Prop :=
 slices_IndexFunc_s_int64_int64__L0 S K x0 x1 (x0.len : Int) (0) h
theorem slices_IndexFunc_s_int64_int64__main_link (S : SatT) (K : AVal → H → Prop) (x0 : Sl) (x1 : AVal) (h : H) : cwp S tab slices_IndexFunc_s_int64_int64__M [] (bodyOf Try.f127) (kFun tab Try.f127.results.toList K) (fr0 Try.f127 [.sl x0, x1]) h = slices_IndexFunc_s_int64_int64__main S K x0 x1 h := by kernel_rfl
theorem slices_IndexFunc_s_int64_int64__call (x0 : Sl) (x1 : AVal) (h : H) (K : Int → H → Prop) (hm : slices_IndexFunc_s_int64_int64__main (Sat Try.prog) (fun v h' => ∃ r, v = .int .i64 r ∧ K r h') x0 x1 h) : callI (Sat Try.prog) .i64 i_slices_IndexFunc_s_int64_int64_ [.sl x0, x1] h K := by
  have := Sat.ex tok mixed slices_IndexFunc_s_int64_int64__M Try.func127 (c := bodyOf Try.f127) (by kernel_rfl) (calls_of Try.func127 (c := bodyOf Try.f127) (by kernel_rfl) (by decide)) ((slices_IndexFunc_s_int64_int64__main_link _ _ x0 x1 h).mpr hm)
  obtain ⟨v, h2, h3, r, rfl, h4⟩ := this; exact ⟨r, h2, h3, h4⟩

/-! ### (loop.example/g01354/impl.Set).rounds -/
def impl_Set_rounds_M : Nat → List Nat := fun i => bif i == 0 then [1, 5, 6, 11, 12] else []
def impl_Set_rounds_ks4 (S : SatT) (K : AVal → H → Prop) : Kont := kSeq (cwp S tab impl_Set_rounds_M [] (sub [1, 1, 1, 1, 1] (bodyOf Try.f57)) (kFun tab (Try.f57).results.toList K)) (kFun tab (Try.f57).results.toList K)
def impl_Set_rounds_e0 (i1_ : Int) (p5_ : Pt) (p6_ : Pt) (i11_ : Int) (i12_ : Int) : Frame := [U, .int .i64 i1_, U, U, U, .ptr p5_, .ptr p6_, U, U, U, U, .int .i64 i11_, .int .i64 i12_, U, U, U, U, U, U, U, U, U]
def impl_Set_rounds_w0 (S : SatT) (K : AVal → H → Prop) : (Frame → H → Prop) → Frame → H → Prop := fun X fr h => cwp S tab impl_Set_rounds_M (impl_Set_rounds_M 0) (sub [1, 1, 1, 1, 0, 1, 0, 0] (bodyOf Try.f57)) (kSeq (fun fr h => X (mask (impl_Set_rounds_M 0) fr) h) (kBlk 0 (impl_Set_rounds_ks4 S K))) fr h
def impl_Set_rounds_L0 (S : SatT) (K : AVal → H → Prop) (i1_ : Int) (p5_ : Pt) (p6_ : Pt) (i11_ : Int) (i12_ : Int) (h : H) : Prop := loopK (impl_Set_rounds_w0 S K) (impl_Set_rounds_e0 i1_ p5_ p6_ i11_ i12_) h
def impl_Set_rounds_C0 (S : SatT) (K : AVal → H → Prop) (p5_ : Pt) (h : H) : Prop :=
 ldS p5_ h fun s0 =>
 K (.sl s0) h
def impl_Set_rounds_b0 (S : SatT) (K : AVal → H → Prop) (X0 : Frame → H → Prop) (i1_ : Int) (p5_ : Pt) (p6_ : Pt) (i11_ : Int) (i12_ : Int) (h : H) : Prop :=
 bif (decide (i12_ < i11_)) then
 ldV p6_ h fun v0 =>
 viaF v0 [.int .i64 i12_, .int .i64 i12_, .int .i64 (0), .int .i64 (0), .int .i64 i1_] fun g1 ys2 =>
 callV S g1 ys2 h fun v4 h3 =>
 X0 (impl_Set_rounds_e0 i1_ p5_ p6_ i11_ (w64 (i12_ + (1)))) h3
 else
 impl_Set_rounds_C0 S K p5_ h
theorem impl_Set_rounds_link0 (S : SatT) (K : AVal → H → Prop) (X0 : Frame → H → Prop) (i1_ : Int) (p5_ : Pt) (p6_ : Pt) (i11_ : Int) (i12_ : Int) (h : H) : impl_Set_rounds_w0 S K X0 (impl_Set_rounds_e0 i1_ p5_ p6_ i11_ i12_) h = impl_Set_rounds_b0 S K X0 i1_ p5_ p6_ i11_ i12_ h := by kernel_rfl
theorem impl_Set_rounds_rule0 (S : SatT) (K : AVal → H → Prop) (i1_ : Int) (p5_ : Pt) (p6_ : Pt) (i11_ : Int) (I_ : Int → H → Prop) (m_ : Int → H → Nat)
    (hs : ∀ (X0 : Frame → H → Prop) (i12_ : Int) (h : H), I_ i12_ h → (∀ (i12_' : Int) (h' : H), I_ i12_' h' → m_ i12_' h' < m_ i12_ h → X0 (impl_Set_rounds_e0 i1_ p5_ p6_ i11_ i12_') h') → impl_Set_rounds_b0 S K X0 i1_ p5_ p6_ i11_ i12_ h) (i12_ : Int) {h : H} (h0 : I_ i12_ h) : impl_Set_rounds_L0 S K i1_ p5_ p6_ i11_ i12_ h :=
  loop_rule (σ := (Int)) (fun s_ => impl_Set_rounds_e0 i1_ p5_ p6_ i11_ (s_)) (fun s_ h => I_ (s_) h) (fun s_ h => m_ (s_) h)
    (fun X s_ h hi hx => (impl_Set_rounds_link0 S K X i1_ p5_ p6_ i11_ (s_) h).mpr (hs X (s_) h hi fun i12_' h' hi' hm' => hx (i12_') h' hi' hm')) (i12_) h0
theorem impl_Set_rounds_unroll0 (S : SatT) (K : AVal → H → Prop) (i1_ : Int) (p5_ : Pt) (p6_ : Pt) (i11_ : Int) (i12_ : Int) (h : H) (hb : impl_Set_rounds_b0 S K (fun fr h => loopK (impl_Set_rounds_w0 S K) fr h) i1_ p5_ p6_ i11_ i12_ h) : impl_Set_rounds_L0 S K i1_ p5_ p6_ i11_ i12_ h := loop_unroll ((impl_Set_rounds_link0 S K _ i1_ p5_ p6_ i11_ i12_ h).mpr hb)
def impl_Set_rounds_main (S : SatT) (K : AVal → H → Prop) (x0 : List AVal) (x1 : Int) (h : H) : Prop :=
 newK 2 x0 h fun p0 h1 =>
 newS 0 2 [] h1 fun s2 h3 =>
 newO [.sl Sl.nil] h3 fun p4 h5 =>
 st1 p4 (.sl s2) h5 fun h6 =>
 newO [.nilFunc] h6 fun p7 h8 =>
 st1 p7 (.func 103 [.ptr p4, .ptr p0, .ptr p7]) h8 fun h9 =>
 isPt p0 (
 ldI .i64 (Pt.add p0 0) h9 fun n10 =>
 impl_Set_rounds_L0 S K x1 p4 p7 n10 (0) h9)
theorem impl_Set_rounds_main_link (S : SatT) (K : AVal → H → Prop) (x0 : List AVal) (x1 : Int) (h : H) : cwp S tab impl_Set_rounds_M [] (bodyOf Try.f57) (kFun tab Try.f57.results.toList K) (fr0 Try.f57 [.agg x0, .int .i64 x1]) h = impl_Set_rounds_main S K x0 x1 h := by kernel_rfl
theorem impl_Set_rounds_call (x0 : List AVal) (x1 : Int) (h : H) (K : Sl → H → Prop) (hm : impl_Set_rounds_main (Sat Try.prog) (fun v h' => ∃ r, v = .sl r ∧ K r h') x0 x1 h) : callS (Sat Try.prog) i_impl_Set_rounds [.agg x0, .int .i64 x1] h K := by
  have := Sat.ex tok mixed impl_Set_rounds_M Try.func57 (c := bodyOf Try.f57) (by kernel_rfl) (calls_of Try.func57 (c := bodyOf Try.f57) (by kernel_rfl) (by decide)) ((impl_Set_rounds_main_link _ _ x0 x1 h).mpr hm)
  obtain ⟨v, h2, h3, r, rfl, h4⟩ := this; exact ⟨r, h2, h3, h4⟩

/-! ### loop.example/g01354/laws.FnExactShiftTorus -/
def laws_FnExactShiftTorus_M : Nat → List Nat := fun i => []
def laws_FnExactShiftTorus_main (S : SatT) (K : AVal → H → Prop) (x0 : List AVal) (x1 : Sl) (x2 : Int) (x3 : Int) (h : H) : Prop :=
 newK 2 x0 h fun p0 h1 =>
 ldA p0 2 h1 fun cs2 =>
 callI S .i64 i_laws_szSet [.agg cs2, .int .i64 (1048576)] h1 fun n4 h3 =>
 bif (decide (n4 < (0))) then
 K (.bool true) h3
 else
 callI S .i64 i_laws_szInt64SS [.sl x1, .int .i64 n4] h3 fun n6 h5 =>
 bif (decide (n6 < (0))) then
 K (.bool true) h5
 else
 ldA p0 2 h5 fun cs7 =>
 callA S i_laws_toSet [.agg cs7] h5 fun cs9 h8 =>
 callS S i_laws_toInt64SS [.sl x1] h8 fun s11 h10 =>
 callV S i_spec_ShiftTorus [.agg cs9, .sl s11, .int .i64 x2, .int .i64 x3] h10 fun v13 h12 =>
 viaT v13 fun vs14 =>
 exS vs14 0 fun s15 =>
 viaT v13 fun vs16 =>
 exI .i64 vs16 1 fun n17 =>
 ldA p0 2 h12 fun cs18 =>
 callA S i_laws_toSet [.agg cs18] h12 fun cs20 h19 =>
 newO [.int .i64 (0), .sl Sl.nil] h19 fun p21 h22 =>
 stN p21 2 cs20 h22 fun h23 =>
 callS S i_laws_toInt64SS [.sl x1] h23 fun s25 h24 =>
 ldA p21 2 h24 fun cs26 =>
 callV S i_impl_ShiftTorus [.agg cs26, .sl s25, .int .i64 x2, .int .i64 x3] h24 fun v28 h27 =>
 viaT v28 fun vs29 =>
 exS vs29 0 fun s30 =>
 viaT v28 fun vs31 =>
 exI .i64 vs31 1 fun n32 =>
 callB S i_laws_eqInt64SS [.sl s30, .sl s15] h27 fun b34 h33 =>
 bif (!b34) then
 K (.bool false) h33
 else
 bif (n32 != n17) then
 K (.bool false) h33
 else
 ldA p21 2 h33 fun cs35 =>
 ldA p0 2 h33 fun cs36 =>
 callA S i_laws_toSet [.agg cs36] h33 fun cs38 h37 =>
(range h37 p21.o p21.n p21.off 2 = range h33 p21.o p21.n p21.off 2) ∧ (
 callB S i_laws_eqSet [.agg cs35, .agg cs38] h37 fun b40 h39 =>
 bif (!b40) then
 K (.bool false) h39
 else
 callS S i_laws_toInt64SS [.sl x1] h39 fun s42 h41 =>
 callB S i_laws_eqInt64SS [.sl s25, .sl s42] h41 fun b44 h43 =>
 bif (!b44) then
 K (.bool false) h43
 else
 ldA p21 2 h43 fun cs45 =>
 callI S .i64 i_laws_markSet [.agg cs45, .int .i64 (1)] h43 fun n47 h46 =>
 callI S .i64 i_laws_markInt64SS [.sl s25, .int .i64 n47] h46 fun n49 h48 =>
 bif (decide (n49 < (0))) then
 K (.bool false) h48
 else
 callB S i_laws_eqInt64SS [.sl s30, .sl s15] h48 fun b51 h50 =>
 bif (!b51) then
 K (.bool false) h50
 else
 bif (n32 != n17) then
 K (.bool false) h50
 else
 callI S .i64 i_laws_markInt64SS [.sl s30, .int .i64 (1)] h50 fun n53 h52 =>
 callI S .i64 i_laws_heldInt64SS [.sl s30, .int .i64 (1)] h52 fun n55 h54 =>
 bif (decide (n55 < (0))) then
 K (.bool false) h54
 else
 bif (n55 != n53) then
 K (.bool false) h54
 else
 ldA p0 2 h54 fun cs56 =>
 callA S i_laws_toSet [.agg cs56] h54 fun cs58 h57 =>
 callS S i_laws_toInt64SS [.sl x1] h57 fun s60 h59 =>
 callV S i_impl_ShiftTorus [.agg cs58, .sl s60, .int .i64 x2, .int .i64 x3] h59 fun v62 h61 =>
 viaT v62 fun vs63 =>
 exS vs63 0 fun s64 =>
 viaT v62 fun vs65 =>
 exI .i64 vs65 1 fun n66 =>
 callB S i_laws_eqInt64SS [.sl s64, .sl s15] h61 fun b68 h67 =>
 bif (!b68) then
 K (.bool false) h67
 else
 bif (n66 != n17) then
 K (.bool false) h67
 else
 callI S .i64 i_laws_heldInt64SS [.sl s30, .int .i64 (1)] h67 fun n70 h69 =>
 bif (decide (n70 < (0))) then
 K (.bool false) h69
 else
 bif (n70 != n53) then
 K (.bool false) h69
 else
 K (.bool true) h69)
theorem laws_FnExactShiftTorus_main_link (S : SatT) (K : AVal → H → Prop) (x0 : List AVal) (x1 : Sl) (x2 : Int) (x3 : Int) (h : H) : cwp S tab laws_FnExactShiftTorus_M [] (bodyOf Try.f11) (kFun tab Try.f11.results.toList K) (fr0 Try.f11 [.agg x0, .sl x1, .int .i64 x2, .int .i64 x3]) h = laws_FnExactShiftTorus_main S K x0 x1 x2 x3 h := by kernel_rfl
theorem laws_FnExactShiftTorus_call (x0 : List AVal) (x1 : Sl) (x2 : Int) (x3 : Int) (h : H) (K : Bool → H → Prop) (hm : laws_FnExactShiftTorus_main (Sat Try.prog) (fun v h' => ∃ r, v = .bool r ∧ K r h') x0 x1 x2 x3 h) : callB (Sat Try.prog) i_laws_FnExactShiftTorus [.agg x0, .sl x1, .int .i64 x2, .int .i64 x3] h K := by
  have := Sat.ex tok mixed laws_FnExactShiftTorus_M Try.func11 (c := bodyOf Try.f11) (by kernel_rfl) (calls_of Try.func11 (c := bodyOf Try.f11) (by kernel_rfl) (by decide)) ((laws_FnExactShiftTorus_main_link _ _ x0 x1 x2 x3 h).mpr hm)
  obtain ⟨v, h2, h3, r, rfl, h4⟩ := this; exact ⟨r, h2, h3, h4⟩

/-! ### loop.example/g01354/laws.FnExactLeastForm -/
def laws_FnExactLeastForm_M : Nat → List Nat := fun i => []
def laws_FnExactLeastForm_main (S : SatT) (K : AVal → H → Prop) (x0 : List AVal) (x1 : Sl) (h : H) : Prop :=
 newK 2 x0 h fun p0 h1 =>
 ldA p0 2 h1 fun cs2 =>
 callI S .i64 i_laws_szSet [.agg cs2, .int .i64 (1048576)] h1 fun n4 h3 =>
 bif (decide (n4 < (0))) then
 K (.bool true) h3
 else
 callI S .i64 i_laws_szInt64SS [.sl x1, .int .i64 n4] h3 fun n6 h5 =>
 bif (decide (n6 < (0))) then
 K (.bool true) h5
 else
 ldA p0 2 h5 fun cs7 =>
 callA S i_laws_toSet [.agg cs7] h5 fun cs9 h8 =>
 callS S i_laws_toInt64SS [.sl x1] h8 fun s11 h10 =>
 callV S i_spec_LeastForm [.agg cs9, .sl s11] h10 fun v13 h12 =>
 viaT v13 fun vs14 =>
 exS vs14 0 fun s15 =>
 viaT v13 fun vs16 =>
 exI .i64 vs16 1 fun n17 =>
 ldA p0 2 h12 fun cs18 =>
 callA S i_laws_toSet [.agg cs18] h12 fun cs20 h19 =>
 newO [.int .i64 (0), .sl Sl.nil] h19 fun p21 h22 =>
 stN p21 2 cs20 h22 fun h23 =>
 callS S i_laws_toInt64SS [.sl x1] h23 fun s25 h24 =>
 ldA p21 2 h24 fun cs26 =>
 callV S i_impl_LeastForm [.agg cs26, .sl s25] h24 fun v28 h27 =>
 viaT v28 fun vs29 =>
 exS vs29 0 fun s30 =>
 viaT v28 fun vs31 =>
 exI .i64 vs31 1 fun n32 =>
 callB S i_laws_eqInt64SS [.sl s30, .sl s15] h27 fun b34 h33 =>
 bif (!b34) then
 K (.bool false) h33
 else
 bif (n32 != n17) then
 K (.bool false) h33
 else
 ldA p21 2 h33 fun cs35 =>
 ldA p0 2 h33 fun cs36 =>
 callA S i_laws_toSet [.agg cs36] h33 fun cs38 h37 =>
(range h37 p21.o p21.n p21.off 2 = range h33 p21.o p21.n p21.off 2) ∧ (
 callB S i_laws_eqSet [.agg cs35, .agg cs38] h37 fun b40 h39 =>
 bif (!b40) then
 K (.bool false) h39
 else
 callS S i_laws_toInt64SS [.sl x1] h39 fun s42 h41 =>
 callB S i_laws_eqInt64SS [.sl s25, .sl s42] h41 fun b44 h43 =>
 bif (!b44) then
 K (.bool false) h43
 else
 ldA p21 2 h43 fun cs45 =>
 callI S .i64 i_laws_markSet [.agg cs45, .int .i64 (1)] h43 fun n47 h46 =>
 callI S .i64 i_laws_markInt64SS [.sl s25, .int .i64 n47] h46 fun n49 h48 =>
 bif (decide (n49 < (0))) then
 K (.bool false) h48
 else
 callB S i_laws_eqInt64SS [.sl s30, .sl s15] h48 fun b51 h50 =>
 bif (!b51) then
 K (.bool false) h50
 else
 bif (n32 != n17) then
 K (.bool false) h50
 else
 callI S .i64 i_laws_markInt64SS [.sl s30, .int .i64 (1)] h50 fun n53 h52 =>
 callI S .i64 i_laws_heldInt64SS [.sl s30, .int .i64 (1)] h52 fun n55 h54 =>
 bif (decide (n55 < (0))) then
 K (.bool false) h54
 else
 bif (n55 != n53) then
 K (.bool false) h54
 else
 ldA p0 2 h54 fun cs56 =>
 callA S i_laws_toSet [.agg cs56] h54 fun cs58 h57 =>
 callS S i_laws_toInt64SS [.sl x1] h57 fun s60 h59 =>
 callV S i_impl_LeastForm [.agg cs58, .sl s60] h59 fun v62 h61 =>
 viaT v62 fun vs63 =>
 exS vs63 0 fun s64 =>
 viaT v62 fun vs65 =>
 exI .i64 vs65 1 fun n66 =>
 callB S i_laws_eqInt64SS [.sl s64, .sl s15] h61 fun b68 h67 =>
 bif (!b68) then
 K (.bool false) h67
 else
 bif (n66 != n17) then
 K (.bool false) h67
 else
 callI S .i64 i_laws_heldInt64SS [.sl s30, .int .i64 (1)] h67 fun n70 h69 =>
 bif (decide (n70 < (0))) then
 K (.bool false) h69
 else
 bif (n70 != n53) then
 K (.bool false) h69
 else
 K (.bool true) h69)
theorem laws_FnExactLeastForm_main_link (S : SatT) (K : AVal → H → Prop) (x0 : List AVal) (x1 : Sl) (h : H) : cwp S tab laws_FnExactLeastForm_M [] (bodyOf Try.f13) (kFun tab Try.f13.results.toList K) (fr0 Try.f13 [.agg x0, .sl x1]) h = laws_FnExactLeastForm_main S K x0 x1 h := by kernel_rfl
theorem laws_FnExactLeastForm_call (x0 : List AVal) (x1 : Sl) (h : H) (K : Bool → H → Prop) (hm : laws_FnExactLeastForm_main (Sat Try.prog) (fun v h' => ∃ r, v = .bool r ∧ K r h') x0 x1 h) : callB (Sat Try.prog) i_laws_FnExactLeastForm [.agg x0, .sl x1] h K := by
  have := Sat.ex tok mixed laws_FnExactLeastForm_M Try.func13 (c := bodyOf Try.f13) (by kernel_rfl) (calls_of Try.func13 (c := bodyOf Try.f13) (by kernel_rfl) (by decide)) ((laws_FnExactLeastForm_main_link _ _ x0 x1 h).mpr hm)
  obtain ⟨v, h2, h3, r, rfl, h4⟩ := this; exact ⟨r, h2, h3, h4⟩

/-! ### loop.example/g01354/laws.heldInt64S -/
def laws_heldInt64S_M : Nat → List Nat := fun i => bif i == 0 then [0, 1, 5] else []
def laws_heldInt64S_ks1 (S : SatT) (K : AVal → H → Prop) : Kont := kSeq (cwp S tab laws_heldInt64S_M [] (sub [1, 1] (bodyOf Try.f80)) (kFun tab (Try.f80).results.toList K)) (kFun tab (Try.f80).results.toList K)
def laws_heldInt64S_e0 (s0_ : Sl) (i1_ : Int) (i5_ : Int) : Frame := [.sl s0_, .int .i64 i1_, U, U, U, .int .i64 i5_, U, U, U, U, U, U, U, U, U, U, U, U, U, U, U]
def laws_heldInt64S_w0 (S : SatT) (K : AVal → H → Prop) : (Frame → H → Prop) → Frame → H → Prop := fun X fr h => cwp S tab laws_heldInt64S_M (laws_heldInt64S_M 0) (sub [1, 0, 1, 0, 0] (bodyOf Try.f80)) (kSeq (fun fr h => X (mask (laws_heldInt64S_M 0) fr) h) (kBlk 0 (laws_heldInt64S_ks1 S K))) fr h
def laws_heldInt64S_L0 (S : SatT) (K : AVal → H → Prop) (s0_ : Sl) (i1_ : Int) (i5_ : Int) (h : H) : Prop := loopK (laws_heldInt64S_w0 S K) (laws_heldInt64S_e0 s0_ i1_ i5_) h
def laws_heldInt64S_C0 (S : SatT) (K : AVal → H → Prop) (i1_ : Int) (h : H) : Prop :=
 K (.int .i64 i1_) h
def laws_heldInt64S_b0 (S : SatT) (K : AVal → H → Prop) (X0 : Frame → H → Prop) (s0_ : Sl) (i1_ : Int) (i5_ : Int) (h : H) : Prop :=
 bif (decide (i5_ < (s0_.len : Int))) then
 ixS s0_ 1 i5_ fun p0 =>
 ldI .i64 p0 h fun n1 =>
 bif (n1 != i1_) then
 K (.int .i64 (-1)) h
 else
 X0 (laws_heldInt64S_e0 s0_ (w64 (i1_ + (1))) (w64 (i5_ + (1)))) h
 else
 laws_heldInt64S_C0 S K i1_ h
theorem laws_heldInt64S_link0 (S : SatT) (K : AVal → H → Prop) (X0 : Frame → H → Prop) (s0_ : Sl) (i1_ : Int) (i5_ : Int) (h : H) : laws_heldInt64S_w0 S K X0 (laws_heldInt64S_e0 s0_ i1_ i5_) h = laws_heldInt64S_b0 S K X0 s0_ i1_ i5_ h := by kernel_rfl
theorem laws_heldInt64S_rule0 (S : SatT) (K : AVal → H → Prop) (s0_ : Sl) (I_ : Int → Int → H → Prop) (m_ : Int → Int → H → Nat)
    (hs : ∀ (X0 : Frame → H → Prop) (i1_ : Int) (i5_ : Int) (h : H), I_ i1_ i5_ h → (∀ (i1_' : Int) (i5_' : Int) (h' : H), I_ i1_' i5_' h' → m_ i1_' i5_' h' < m_ i1_ i5_ h → X0 (laws_heldInt64S_e0 s0_ i1_' i5_') h') → laws_heldInt64S_b0 S K X0 s0_ i1_ i5_ h) (i1_ : Int) (i5_ : Int) {h : H} (h0 : I_ i1_ i5_ h) : laws_heldInt64S_L0 S K s0_ i1_ i5_ h :=
  loop_rule (σ := (Int) × (Int)) (fun s_ => laws_heldInt64S_e0 s0_ (s_.1) (s_.2)) (fun s_ h => I_ (s_.1) (s_.2) h) (fun s_ h => m_ (s_.1) (s_.2) h)
    (fun X s_ h hi hx => (laws_heldInt64S_link0 S K X s0_ (s_.1) (s_.2) h).mpr (hs X (s_.1) (s_.2) h hi fun i1_' i5_' h' hi' hm' => hx (i1_', i5_') h' hi' hm')) (i1_, i5_) h0
theorem laws_heldInt64S_unroll0 (S : SatT) (K : AVal → H → Prop) (s0_ : Sl) (i1_ : Int) (i5_ : Int) (h : H) (hb : laws_heldInt64S_b0 S K (fun fr h => loopK (laws_heldInt64S_w0 S K) fr h) s0_ i1_ i5_ h) : laws_heldInt64S_L0 S K s0_ i1_ i5_ h := loop_unroll ((laws_heldInt64S_link0 S K _ s0_ i1_ i5_ h).mpr hb)
def laws_heldInt64S_main (S : SatT) (K : AVal → H → Prop) (x0 : Sl) (x1 : Int) (h : H) : Prop :=
 laws_heldInt64S_L0 S K x0 x1 (0) h
theorem laws_heldInt64S_main_link (S : SatT) (K : AVal → H → Prop) (x0 : Sl) (x1 : Int) (h : H) : cwp S tab laws_heldInt64S_M [] (bodyOf Try.f80) (kFun tab Try.f80.results.toList K) (fr0 Try.f80 [.sl x0, .int .i64 x1]) h = laws_heldInt64S_main S K x0 x1 h := by kernel_rfl
theorem laws_heldInt64S_call (x0 : Sl) (x1 : Int) (h : H) (K : Int → H → Prop) (hm : laws_heldInt64S_main (Sat Try.prog) (fun v h' => ∃ r, v = .int .i64 r ∧ K r h') x0 x1 h) : callI (Sat Try.prog) .i64 i_laws_heldInt64S [.sl x0, .int .i64 x1] h K := by
  have := Sat.ex tok mixed laws_heldInt64S_M Try.func80 (c := bodyOf Try.f80) (by kernel_rfl) (calls_of Try.func80 (c := bodyOf Try.f80) (by kernel_rfl) (by decide)) ((laws_heldInt64S_main_link _ _ x0 x1 h).mpr hm)
  obtain ⟨v, h2, h3, r, rfl, h4⟩ := this; exact ⟨r, h2, h3, h4⟩

/-! ### loop.example/g01354/laws.eqTileS -/
def laws_eqTileS_M : Nat → List Nat := fun i => bif i == 0 then [0, 1, 5] else []
def laws_eqTileS_ks4 (S : SatT) (K : AVal → H → Prop) : Kont := kSeq (cwp S tab laws_eqTileS_M [] (sub [1, 1, 1] (bodyOf Try.f59)) (kFun tab (Try.f59).results.toList K)) (kFun tab (Try.f59).results.toList K)
def laws_eqTileS_e0 (s0_ : Sl) (s1_ : Sl) (i5_ : Int) : Frame := [.sl s0_, .sl s1_, U, U, U, .int .i64 i5_, U, U, U, U, U, U, U, U, U, U, U, U, U, U, U, U, U, U, U, U, U]
def laws_eqTileS_w0 (S : SatT) (K : AVal → H → Prop) : (Frame → H → Prop) → Frame → H → Prop := fun X fr h => cwp S tab laws_eqTileS_M (laws_eqTileS_M 0) (sub [1, 1, 0, 1, 0, 0] (bodyOf Try.f59)) (kSeq (fun fr h => X (mask (laws_eqTileS_M 0) fr) h) (kBlk 0 (laws_eqTileS_ks4 S K))) fr h
def laws_eqTileS_L0 (S : SatT) (K : AVal → H → Prop) (s0_ : Sl) (s1_ : Sl) (i5_ : Int) (h : H) : Prop := loopK (laws_eqTileS_w0 S K) (laws_eqTileS_e0 s0_ s1_ i5_) h
def laws_eqTileS_C0 (S : SatT) (K : AVal → H → Prop) (h : H) : Prop :=
 K (.bool true) h
def laws_eqTileS_b0 (S : SatT) (K : AVal → H → Prop) (X0 : Frame → H → Prop) (s0_ : Sl) (s1_ : Sl) (i5_ : Int) (h : H) : Prop :=
 bif (decide (i5_ < (s0_.len : Int))) then
 ixS s0_ 4 i5_ fun p0 =>
 ldA p0 4 h fun cs1 =>
 ixS s1_ 4 i5_ fun p2 =>
 ldA p2 4 h fun cs3 =>
 callB S i_laws_eqTile [.agg cs1, .agg cs3] h fun b5 h4 =>
 bif (!b5) then
 K (.bool false) h4
 else
 X0 (laws_eqTileS_e0 s0_ s1_ (w64 (i5_ + (1)))) h4
 else
 laws_eqTileS_C0 S K h
theorem laws_eqTileS_link0 (S : SatT) (K : AVal → H → Prop) (X0 : Frame → H → Prop) (s0_ : Sl) (s1_ : Sl) (i5_ : Int) (h : H) : laws_eqTileS_w0 S K X0 (laws_eqTileS_e0 s0_ s1_ i5_) h = laws_eqTileS_b0 S K X0 s0_ s1_ i5_ h := by kernel_rfl
theorem laws_eqTileS_rule0 (S : SatT) (K : AVal → H → Prop) (s0_ : Sl) (s1_ : Sl) (I_ : Int → H → Prop) (m_ : Int → H → Nat)
    (hs : ∀ (X0 : Frame → H → Prop) (i5_ : Int) (h : H), I_ i5_ h → (∀ (i5_' : Int) (h' : H), I_ i5_' h' → m_ i5_' h' < m_ i5_ h → X0 (laws_eqTileS_e0 s0_ s1_ i5_') h') → laws_eqTileS_b0 S K X0 s0_ s1_ i5_ h) (i5_ : Int) {h : H} (h0 : I_ i5_ h) : laws_eqTileS_L0 S K s0_ s1_ i5_ h :=
  loop_rule (σ := (Int)) (fun s_ => laws_eqTileS_e0 s0_ s1_ (s_)) (fun s_ h => I_ (s_) h) (fun s_ h => m_ (s_) h)
    (fun X s_ h hi hx => (laws_eqTileS_link0 S K X s0_ s1_ (s_) h).mpr (hs X (s_) h hi fun i5_' h' hi' hm' => hx (i5_') h' hi' hm')) (i5_) h0
theorem laws_eqTileS_unroll0 (S : SatT) (K : AVal → H → Prop) (s0_ : Sl) (s1_ : Sl) (i5_ : Int) (h : H) (hb : laws_eqTileS_b0 S K (fun fr h => loopK (laws_eqTileS_w0 S K) fr h) s0_ s1_ i5_ h) : laws_eqTileS_L0 S K s0_ s1_ i5_ h := loop_unroll ((laws_eqTileS_link0 S K _ s0_ s1_ i5_ h).mpr hb)
def laws_eqTileS_main (S : SatT) (K : AVal → H → Prop) (x0 : Sl) (x1 : Sl) (h : H) : Prop :=
 bif ((x0.len : Int) != (x1.len : Int)) then
 K (.bool false) h
 else
 laws_eqTileS_L0 S K x0 x1 (0) h
theorem laws_eqTileS_main_link (S : SatT) (K : AVal → H → Prop) (x0 : Sl) (x1 : Sl) (h : H) : cwp S tab laws_eqTileS_M [] (bodyOf Try.f59) (kFun tab Try.f59.results.toList K) (fr0 Try.f59 [.sl x0, .sl x1]) h = laws_eqTileS_main S K x0 x1 h := by kernel_rfl
theorem laws_eqTileS_call (x0 : Sl) (x1 : Sl) (h : H) (K : Bool → H → Prop) (hm : laws_eqTileS_main (Sat Try.prog) (fun v h' => ∃ r, v = .bool r ∧ K r h') x0 x1 h) : callB (Sat Try.prog) i_laws_eqTileS [.sl x0, .sl x1] h K := by
  have := Sat.ex tok mixed laws_eqTileS_M Try.func59 (c := bodyOf Try.f59) (by kernel_rfl) (calls_of Try.func59 (c := bodyOf Try.f59) (by kernel_rfl) (by decide)) ((laws_eqTileS_main_link _ _ x0 x1 h).mpr hm)
  obtain ⟨v, h2, h3, r, rfl, h4⟩ := this; exact ⟨r, h2, h3, h4⟩

/-! ### loop.example/g01354/spec.l03Power -/
def spec_l03Power_M : Nat → List Nat := fun i => bif i == 0 then [0, 1, 5] else []
def spec_l03Power_ks2 (S : SatT) (K : AVal → H → Prop) : Kont := kSeq (cwp S tab spec_l03Power_M [] (sub [1, 1, 1] (bodyOf Try.f52)) (kFun tab (Try.f52).results.toList K)) (kFun tab (Try.f52).results.toList K)
def spec_l03Power_e0 (i0_ : Int) (i1_ : Int) (i5_ : Int) : Frame := [.int .i64 i0_, .int .i64 i1_, U, U, U, .int .i64 i5_, U, U, U, U, U, U, U, U]
def spec_l03Power_w0 (S : SatT) (K : AVal → H → Prop) : (Frame → H → Prop) → Frame → H → Prop := fun X fr h => cwp S tab spec_l03Power_M (spec_l03Power_M 0) (sub [1, 1, 0, 0, 0] (bodyOf Try.f52)) (kSeq (fun fr h => X (mask (spec_l03Power_M 0) fr) h) (kBlk 0 (spec_l03Power_ks2 S K))) fr h
def spec_l03Power_L0 (S : SatT) (K : AVal → H → Prop) (i0_ : Int) (i1_ : Int) (i5_ : Int) (h : H) : Prop := loopK (spec_l03Power_w0 S K) (spec_l03Power_e0 i0_ i1_ i5_) h
def spec_l03Power_C0 (S : SatT) (K : AVal → H → Prop) (i5_ : Int) (h : H) : Prop :=
 K (.int .i64 i5_) h
def spec_l03Power_b0 (S : SatT) (K : AVal → H → Prop) (X0 : Frame → H → Prop) (i0_ : Int) (i1_ : Int) (i5_ : Int) (h : H) : Prop :=
 bif (decide (i1_ > (0))) then
 X0 (spec_l03Power_e0 i0_ (w64 (i1_ - (1))) (w64 (i5_ * i0_))) h
 else
 spec_l03Power_C0 S K i5_ h
theorem spec_l03Power_link0 (S : SatT) (K : AVal → H → Prop) (X0 : Frame → H → Prop) (i0_ : Int) (i1_ : Int) (i5_ : Int) (h : H) : spec_l03Power_w0 S K X0 (spec_l03Power_e0 i0_ i1_ i5_) h = spec_l03Power_b0 S K X0 i0_ i1_ i5_ h := by kernel_rfl
theorem spec_l03Power_rule0 (S : SatT) (K : AVal → H → Prop) (i0_ : Int) (I_ : Int → Int → H → Prop) (m_ : Int → Int → H → Nat)
    (hs : ∀ (X0 : Frame → H → Prop) (i1_ : Int) (i5_ : Int) (h : H), I_ i1_ i5_ h → (∀ (i1_' : Int) (i5_' : Int) (h' : H), I_ i1_' i5_' h' → m_ i1_' i5_' h' < m_ i1_ i5_ h → X0 (spec_l03Power_e0 i0_ i1_' i5_') h') → spec_l03Power_b0 S K X0 i0_ i1_ i5_ h) (i1_ : Int) (i5_ : Int) {h : H} (h0 : I_ i1_ i5_ h) : spec_l03Power_L0 S K i0_ i1_ i5_ h :=
  loop_rule (σ := (Int) × (Int)) (fun s_ => spec_l03Power_e0 i0_ (s_.1) (s_.2)) (fun s_ h => I_ (s_.1) (s_.2) h) (fun s_ h => m_ (s_.1) (s_.2) h)
    (fun X s_ h hi hx => (spec_l03Power_link0 S K X i0_ (s_.1) (s_.2) h).mpr (hs X (s_.1) (s_.2) h hi fun i1_' i5_' h' hi' hm' => hx (i1_', i5_') h' hi' hm')) (i1_, i5_) h0
theorem spec_l03Power_unroll0 (S : SatT) (K : AVal → H → Prop) (i0_ : Int) (i1_ : Int) (i5_ : Int) (h : H) (hb : spec_l03Power_b0 S K (fun fr h => loopK (spec_l03Power_w0 S K) fr h) i0_ i1_ i5_ h) : spec_l03Power_L0 S K i0_ i1_ i5_ h := loop_unroll ((spec_l03Power_link0 S K _ i0_ i1_ i5_ h).mpr hb)
def spec_l03Power_main (S : SatT) (K : AVal → H → Prop) (x0 : Int) (x1 : Int) (h : H) : Prop :=
 spec_l03Power_L0 S K x0 x1 (1) h
theorem spec_l03Power_main_link (S : SatT) (K : AVal → H → Prop) (x0 : Int) (x1 : Int) (h : H) : cwp S tab spec_l03Power_M [] (bodyOf Try.f52) (kFun tab Try.f52.results.toList K) (fr0 Try.f52 [.int .i64 x0, .int .i64 x1]) h = spec_l03Power_main S K x0 x1 h := by kernel_rfl
theorem spec_l03Power_call (x0 : Int) (x1 : Int) (h : H) (K : Int → H → Prop) (hm : spec_l03Power_main (Sat Try.prog) (fun v h' => ∃ r, v = .int .i64 r ∧ K r h') x0 x1 h) : callI (Sat Try.prog) .i64 i_spec_l03Power [.int .i64 x0, .int .i64 x1] h K := by
  have := Sat.ex tok mixed spec_l03Power_M Try.func52 (c := bodyOf Try.f52) (by kernel_rfl) (calls_of Try.func52 (c := bodyOf Try.f52) (by kernel_rfl) (by decide)) ((spec_l03Power_main_link _ _ x0 x1 h).mpr hm)
  obtain ⟨v, h2, h3, r, rfl, h4⟩ := this; exact ⟨r, h2, h3, h4⟩

/-! ### loop.example/g01354/laws.FnExactFirstTorus -/
def laws_FnExactFirstTorus_M : Nat → List Nat := fun i => []
def laws_FnExactFirstTorus_main (S : SatT) (K : AVal → H → Prop) (x0 : List AVal) (x1 : Int) (x2 : Int) (h : H) : Prop :=
 newK 2 x0 h fun p0 h1 =>
 ldA p0 2 h1 fun cs2 =>
 callI S .i64 i_laws_szSet [.agg cs2, .int .i64 (1048576)] h1 fun n4 h3 =>
 bif (decide (n4 < (0))) then
 K (.bool true) h3
 else
 ldA p0 2 h3 fun cs5 =>
 callA S i_laws_toSet [.agg cs5] h3 fun cs7 h6 =>
 callV S i_spec_FirstTorus [.agg cs7, .int .i64 x1, .int .i64 x2] h6 fun v9 h8 =>
 viaT v9 fun vs10 =>
 exS vs10 0 fun s11 =>
 viaT v9 fun vs12 =>
 exI .i64 vs12 1 fun n13 =>
 ldA p0 2 h8 fun cs14 =>
 callA S i_laws_toSet [.agg cs14] h8 fun cs16 h15 =>
 newO [.int .i64 (0), .sl Sl.nil] h15 fun p17 h18 =>
 stN p17 2 cs16 h18 fun h19 =>
 ldA p17 2 h19 fun cs20 =>
 callV S i_impl_FirstTorus [.agg cs20, .int .i64 x1, .int .i64 x2] h19 fun v22 h21 =>
 viaT v22 fun vs23 =>
 exS vs23 0 fun s24 =>
 viaT v22 fun vs25 =>
 exI .i64 vs25 1 fun n26 =>
 callB S i_laws_eqInt64SS [.sl s24, .sl s11] h21 fun b28 h27 =>
 bif (!b28) then
 K (.bool false) h27
 else
 bif (n26 != n13) then
 K (.bool false) h27
 else
 ldA p17 2 h27 fun cs29 =>
 ldA p0 2 h27 fun cs30 =>
 callA S i_laws_toSet [.agg cs30] h27 fun cs32 h31 =>
(range h31 p17.o p17.n p17.off 2 = range h27 p17.o p17.n p17.off 2) ∧ (
 callB S i_laws_eqSet [.agg cs29, .agg cs32] h31 fun b34 h33 =>
 bif (!b34) then
 K (.bool false) h33
 else
 ldA p17 2 h33 fun cs35 =>
 callI S .i64 i_laws_markSet [.agg cs35, .int .i64 (1)] h33 fun n37 h36 =>
 bif (decide (n37 < (0))) then
 K (.bool false) h36
 else
 callB S i_laws_eqInt64SS [.sl s24, .sl s11] h36 fun b39 h38 =>
 bif (!b39) then
 K (.bool false) h38
 else
 bif (n26 != n13) then
 K (.bool false) h38
 else
 callI S .i64 i_laws_markInt64SS [.sl s24, .int .i64 (1)] h38 fun n41 h40 =>
 callI S .i64 i_laws_heldInt64SS [.sl s24, .int .i64 (1)] h40 fun n43 h42 =>
 bif (decide (n43 < (0))) then
 K (.bool false) h42
 else
 bif (n43 != n41) then
 K (.bool false) h42
 else
 ldA p0 2 h42 fun cs44 =>
 callA S i_laws_toSet [.agg cs44] h42 fun cs46 h45 =>
 callV S i_impl_FirstTorus [.agg cs46, .int .i64 x1, .int .i64 x2] h45 fun v48 h47 =>
 viaT v48 fun vs49 =>
 exS vs49 0 fun s50 =>
 viaT v48 fun vs51 =>
 exI .i64 vs51 1 fun n52 =>
 callB S i_laws_eqInt64SS [.sl s50, .sl s11] h47 fun b54 h53 =>
 bif (!b54) then
 K (.bool false) h53
 else
 bif (n52 != n13) then
 K (.bool false) h53
 else
 callI S .i64 i_laws_heldInt64SS [.sl s24, .int .i64 (1)] h53 fun n56 h55 =>
 bif (decide (n56 < (0))) then
 K (.bool false) h55
 else
 bif (n56 != n41) then
 K (.bool false) h55
 else
 K (.bool true) h55)
theorem laws_FnExactFirstTorus_main_link (S : SatT) (K : AVal → H → Prop) (x0 : List AVal) (x1 : Int) (x2 : Int) (h : H) : cwp S tab laws_FnExactFirstTorus_M [] (bodyOf Try.f9) (kFun tab Try.f9.results.toList K) (fr0 Try.f9 [.agg x0, .int .i64 x1, .int .i64 x2]) h = laws_FnExactFirstTorus_main S K x0 x1 x2 h := by kernel_rfl
theorem laws_FnExactFirstTorus_call (x0 : List AVal) (x1 : Int) (x2 : Int) (h : H) (K : Bool → H → Prop) (hm : laws_FnExactFirstTorus_main (Sat Try.prog) (fun v h' => ∃ r, v = .bool r ∧ K r h') x0 x1 x2 h) : callB (Sat Try.prog) i_laws_FnExactFirstTorus [.agg x0, .int .i64 x1, .int .i64 x2] h K := by
  have := Sat.ex tok mixed laws_FnExactFirstTorus_M Try.func9 (c := bodyOf Try.f9) (by kernel_rfl) (calls_of Try.func9 (c := bodyOf Try.f9) (by kernel_rfl) (by decide)) ((laws_FnExactFirstTorus_main_link _ _ x0 x1 x2 h).mpr hm)
  obtain ⟨v, h2, h3, r, rfl, h4⟩ := this; exact ⟨r, h2, h3, h4⟩

/-! ### loop.example/g01354/laws.FnExactIsCylinder -/
def laws_FnExactIsCylinder_M : Nat → List Nat := fun i => []
def laws_FnExactIsCylinder_main (S : SatT) (K : AVal → H → Prop) (x0 : List AVal) (x1 : Sl) (h : H) : Prop :=
 newK 2 x0 h fun p0 h1 =>
 ldA p0 2 h1 fun cs2 =>
 callI S .i64 i_laws_szSet [.agg cs2, .int .i64 (1048576)] h1 fun n4 h3 =>
 bif (decide (n4 < (0))) then
 K (.bool true) h3
 else
 callI S .i64 i_laws_szInt64SS [.sl x1, .int .i64 n4] h3 fun n6 h5 =>
 bif (decide (n6 < (0))) then
 K (.bool true) h5
 else
 ldA p0 2 h5 fun cs7 =>
 callA S i_laws_toSet [.agg cs7] h5 fun cs9 h8 =>
 callS S i_laws_toInt64SS [.sl x1] h8 fun s11 h10 =>
 callV S i_spec_IsCylinder [.agg cs9, .sl s11] h10 fun v13 h12 =>
 viaT v13 fun vs14 =>
 exB vs14 0 fun b15 =>
 viaT v13 fun vs16 =>
 exI .i64 vs16 1 fun n17 =>
 ldA p0 2 h12 fun cs18 =>
 callA S i_laws_toSet [.agg cs18] h12 fun cs20 h19 =>
 newO [.int .i64 (0), .sl Sl.nil] h19 fun p21 h22 =>
 stN p21 2 cs20 h22 fun h23 =>
 callS S i_laws_toInt64SS [.sl x1] h23 fun s25 h24 =>
 ldA p21 2 h24 fun cs26 =>
 callV S i_impl_IsCylinder [.agg cs26, .sl s25] h24 fun v28 h27 =>
 viaT v28 fun vs29 =>
 exB vs29 0 fun b30 =>
 viaT v28 fun vs31 =>
 exI .i64 vs31 1 fun n32 =>
 bif (b30 != b15) then
 K (.bool false) h27
 else
 bif (n32 != n17) then
 K (.bool false) h27
 else
 ldA p21 2 h27 fun cs33 =>
 ldA p0 2 h27 fun cs34 =>
 callA S i_laws_toSet [.agg cs34] h27 fun cs36 h35 =>
(range h35 p21.o p21.n p21.off 2 = range h27 p21.o p21.n p21.off 2) ∧ (
 callB S i_laws_eqSet [.agg cs33, .agg cs36] h35 fun b38 h37 =>
 bif (!b38) then
 K (.bool false) h37
 else
 callS S i_laws_toInt64SS [.sl x1] h37 fun s40 h39 =>
 callB S i_laws_eqInt64SS [.sl s25, .sl s40] h39 fun b42 h41 =>
 bif (!b42) then
 K (.bool false) h41
 else
 K (.bool true) h41)
theorem laws_FnExactIsCylinder_main_link (S : SatT) (K : AVal → H → Prop) (x0 : List AVal) (x1 : Sl) (h : H) : cwp S tab laws_FnExactIsCylinder_M [] (bodyOf Try.f5) (kFun tab Try.f5.results.toList K) (fr0 Try.f5 [.agg x0, .sl x1]) h = laws_FnExactIsCylinder_main S K x0 x1 h := by kernel_rfl
theorem laws_FnExactIsCylinder_call (x0 : List AVal) (x1 : Sl) (h : H) (K : Bool → H → Prop) (hm : laws_FnExactIsCylinder_main (Sat Try.prog) (fun v h' => ∃ r, v = .bool r ∧ K r h') x0 x1 h) : callB (Sat Try.prog) i_laws_FnExactIsCylinder [.agg x0, .sl x1] h K := by
  have := Sat.ex tok mixed laws_FnExactIsCylinder_M Try.func5 (c := bodyOf Try.f5) (by kernel_rfl) (calls_of Try.func5 (c := bodyOf Try.f5) (by kernel_rfl) (by decide)) ((laws_FnExactIsCylinder_main_link _ _ x0 x1 h).mpr hm)
  obtain ⟨v, h2, h3, r, rfl, h4⟩ := this; exact ⟨r, h2, h3, h4⟩

/-! ### loop.example/g01354/laws.FnExactCountCylinders -/
def laws_FnExactCountCylinders_M : Nat → List Nat := fun i => []
def laws_FnExactCountCylinders_main (S : SatT) (K : AVal → H → Prop) (x0 : List AVal) (x1 : Int) (x2 : Int) (h : H) : Prop :=
 newK 2 x0 h fun p0 h1 =>
 ldA p0 2 h1 fun cs2 =>
 callI S .i64 i_laws_szSet [.agg cs2, .int .i64 (1048576)] h1 fun n4 h3 =>
 bif (decide (n4 < (0))) then
 K (.bool true) h3
 else
 ldA p0 2 h3 fun cs5 =>
 callA S i_laws_toSet [.agg cs5] h3 fun cs7 h6 =>
 callV S i_spec_CountCylinders [.agg cs7, .int .i64 x1, .int .i64 x2] h6 fun v9 h8 =>
 viaT v9 fun vs10 =>
 exI .i64 vs10 0 fun n11 =>
 viaT v9 fun vs12 =>
 exI .i64 vs12 1 fun n13 =>
 ldA p0 2 h8 fun cs14 =>
 callA S i_laws_toSet [.agg cs14] h8 fun cs16 h15 =>
 newO [.int .i64 (0), .sl Sl.nil] h15 fun p17 h18 =>
 stN p17 2 cs16 h18 fun h19 =>
 ldA p17 2 h19 fun cs20 =>
 callV S i_impl_CountCylinders [.agg cs20, .int .i64 x1, .int .i64 x2] h19 fun v22 h21 =>
 viaT v22 fun vs23 =>
 exI .i64 vs23 0 fun n24 =>
 viaT v22 fun vs25 =>
 exI .i64 vs25 1 fun n26 =>
 bif (n24 != n11) then
 K (.bool false) h21
 else
 bif (n26 != n13) then
 K (.bool false) h21
 else
 ldA p17 2 h21 fun cs27 =>
 ldA p0 2 h21 fun cs28 =>
 callA S i_laws_toSet [.agg cs28] h21 fun cs30 h29 =>
(range h29 p17.o p17.n p17.off 2 = range h21 p17.o p17.n p17.off 2) ∧ (
 callB S i_laws_eqSet [.agg cs27, .agg cs30] h29 fun b32 h31 =>
 bif (!b32) then
 K (.bool false) h31
 else
 K (.bool true) h31)
theorem laws_FnExactCountCylinders_main_link (S : SatT) (K : AVal → H → Prop) (x0 : List AVal) (x1 : Int) (x2 : Int) (h : H) : cwp S tab laws_FnExactCountCylinders_M [] (bodyOf Try.f3) (kFun tab Try.f3.results.toList K) (fr0 Try.f3 [.agg x0, .int .i64 x1, .int .i64 x2]) h = laws_FnExactCountCylinders_main S K x0 x1 x2 h := by kernel_rfl
theorem laws_FnExactCountCylinders_call (x0 : List AVal) (x1 : Int) (x2 : Int) (h : H) (K : Bool → H → Prop) (hm : laws_FnExactCountCylinders_main (Sat Try.prog) (fun v h' => ∃ r, v = .bool r ∧ K r h') x0 x1 x2 h) : callB (Sat Try.prog) i_laws_FnExactCountCylinders [.agg x0, .int .i64 x1, .int .i64 x2] h K := by
  have := Sat.ex tok mixed laws_FnExactCountCylinders_M Try.func3 (c := bodyOf Try.f3) (by kernel_rfl) (calls_of Try.func3 (c := bodyOf Try.f3) (by kernel_rfl) (by decide)) ((laws_FnExactCountCylinders_main_link _ _ x0 x1 x2 h).mpr hm)
  obtain ⟨v, h2, h3, r, rfl, h4⟩ := this; exact ⟨r, h2, h3, h4⟩

/-! ### loop.example/g01354/impl.ShiftTorus$1 -/
def impl_ShiftTorus_1_M : Nat → List Nat := fun i => []
def impl_ShiftTorus_1_main (S : SatT) (K : AVal → H → Prop) (x0 : Pt) (x1 : Pt) (x2 : Pt) (x3 : Pt) (h : H) : Prop :=
 ldA x0 2 h fun cs0 =>
 ldS x1 h fun s1 =>
 callB S i_impl_Set_areNumbers [.agg cs0, .sl s1] h fun b3 h2 =>
 bif b3 then
 ldI .i64 x2 h2 fun n4 =>
 ldS x1 h2 fun s5 =>
 callB S i_impl_within [.int .i64 n4, .int .i64 (0), .int .i64 (w64 ((s5.len : Int) - (1)))] h2 fun b7 h6 =>
 bif b7 then
 ldI .i64 x3 h6 fun n8 =>
 ldS x1 h6 fun s9 =>
 ixS s9 1 (0) fun p10 =>
 ldS p10 h6 fun s11 =>
 callB S i_impl_within [.int .i64 n8, .int .i64 (0), .int .i64 (w64 ((s11.len : Int) - (1)))] h6 fun b13 h12 =>
 K (.bool b13) h12
 else
 K (.bool false) h6
 else
 K (.bool false) h2
theorem impl_ShiftTorus_1_main_link (S : SatT) (K : AVal → H → Prop) (x0 : Pt) (x1 : Pt) (x2 : Pt) (x3 : Pt) (h : H) : cwp S tab impl_ShiftTorus_1_M [] (bodyOf Try.f95) (kFun tab Try.f95.results.toList K) (fr0 Try.f95 [.ptr x0, .ptr x1, .ptr x2, .ptr x3]) h = impl_ShiftTorus_1_main S K x0 x1 x2 x3 h := by kernel_rfl
theorem impl_ShiftTorus_1_call (x0 : Pt) (x1 : Pt) (x2 : Pt) (x3 : Pt) (h : H) (K : Bool → H → Prop) (hm : impl_ShiftTorus_1_main (Sat Try.prog) (fun v h' => ∃ r, v = .bool r ∧ K r h') x0 x1 x2 x3 h) : callB (Sat Try.prog) i_impl_ShiftTorus_1 [.ptr x0, .ptr x1, .ptr x2, .ptr x3] h K := by
  have := Sat.ex tok mixed impl_ShiftTorus_1_M Try.func95 (c := bodyOf Try.f95) (by kernel_rfl) (calls_of Try.func95 (c := bodyOf Try.f95) (by kernel_rfl) (by decide)) ((impl_ShiftTorus_1_main_link _ _ x0 x1 x2 x3 h).mpr hm)
  obtain ⟨v, h2, h3, r, rfl, h4⟩ := this; exact ⟨r, h2, h3, h4⟩

/-! ### loop.example/g01354/impl.FirstTorus -/
def impl_FirstTorus_M : Nat → List Nat := fun i => []
def impl_FirstTorus_main (S : SatT) (K : AVal → H → Prop) (x0 : List AVal) (x1 : Int) (x2 : Int) (h : H) : Prop :=
 newK 2 x0 h fun p0 h1 =>
 newO [.int .i64 x1] h1 fun p2 h3 =>
 newO [.int .i64 x2] h3 fun p4 h5 =>
 ldA p0 2 h5 fun cs6 =>
 callI S .i64 i_impl_setCode [.agg cs6, .func 83 [.ptr p2, .ptr p4]] h5 fun n8 h7 =>
 bif (n8 != (0)) then
 K (.tuple [.sl Sl.nil, .int .i64 n8]) h7
 else
 ldA p0 2 h7 fun cs9 =>
 ldI .i64 p2 h7 fun n10 =>
 ldI .i64 p4 h7 fun n11 =>
 callS S i_impl_Set_firstTorus [.agg cs9, .int .i64 n10, .int .i64 n11] h7 fun s13 h12 =>
 bif (isNilS s13) then
 K (.tuple [.sl Sl.nil, .int .i64 (4)]) h12
 else
 K (.tuple [.sl s13, .int .i64 (0)]) h12
theorem impl_FirstTorus_main_link (S : SatT) (K : AVal → H → Prop) (x0 : List AVal) (x1 : Int) (x2 : Int) (h : H) : cwp S tab impl_FirstTorus_M [] (bodyOf Try.f37) (kFun tab Try.f37.results.toList K) (fr0 Try.f37 [.agg x0, .int .i64 x1, .int .i64 x2]) h = impl_FirstTorus_main S K x0 x1 x2 h := by kernel_rfl
theorem impl_FirstTorus_call (x0 : List AVal) (x1 : Int) (x2 : Int) (h : H) (K : AVal → H → Prop) (hm : impl_FirstTorus_main (Sat Try.prog) (fun v h' => K v h') x0 x1 x2 h) : callV (Sat Try.prog) i_impl_FirstTorus [.agg x0, .int .i64 x1, .int .i64 x2] h K := by
  have := Sat.ex tok mixed impl_FirstTorus_M Try.func37 (c := bodyOf Try.f37) (by kernel_rfl) (calls_of Try.func37 (c := bodyOf Try.f37) (by kernel_rfl) (by decide)) ((impl_FirstTorus_main_link _ _ x0 x1 x2 h).mpr hm)
  exact this

/-! ### loop.example/g01354/impl.CountCylinders -/
def impl_CountCylinders_M : Nat → List Nat := fun i => []
def impl_CountCylinders_main (S : SatT) (K : AVal → H → Prop) (x0 : List AVal) (x1 : Int) (x2 : Int) (h : H) : Prop :=
 newK 2 x0 h fun p0 h1 =>
 newO [.int .i64 x1] h1 fun p2 h3 =>
 newO [.int .i64 x2] h3 fun p4 h5 =>
 ldA p0 2 h5 fun cs6 =>
 callI S .i64 i_impl_setCode [.agg cs6, .func 55 [.ptr p2, .ptr p4]] h5 fun n8 h7 =>
 bif (n8 != (0)) then
 K (.tuple [.int .i64 (0), .int .i64 n8]) h7
 else
 ldA p0 2 h7 fun cs9 =>
 ldI .i64 p4 h7 fun n10 =>
 callS S i_impl_Set_rounds [.agg cs9, .int .i64 n10] h7 fun s12 h11 =>
 False
theorem impl_CountCylinders_main_link (S : SatT) (K : AVal → H → Prop) (x0 : List AVal) (x1 : Int) (x2 : Int) (h : H) : cwp S tab impl_CountCylinders_M [] (bodyOf Try.f18) (kFun tab Try.f18.results.toList K) (fr0 Try.f18 [.agg x0, .int .i64 x1, .int .i64 x2]) h = impl_CountCylinders_main S K x0 x1 x2 h := by kernel_rfl
theorem impl_CountCylinders_call (x0 : List AVal) (x1 : Int) (x2 : Int) (h : H) (K : AVal → H → Prop) (hm : impl_CountCylinders_main (Sat Try.prog) (fun v h' => K v h') x0 x1 x2 h) : callV (Sat Try.prog) i_impl_CountCylinders [.agg x0, .int .i64 x1, .int .i64 x2] h K := by
  have := Sat.ex tok mixed impl_CountCylinders_M Try.func18 (c := bodyOf Try.f18) (by kernel_rfl) (calls_of Try.func18 (c := bodyOf Try.f18) (by kernel_rfl) (by decide)) ((impl_CountCylinders_main_link _ _ x0 x1 x2 h).mpr hm)
  exact this

/-! ### loop.example/g01354/impl.ShiftNumber -/
def impl_ShiftNumber_M : Nat → List Nat := fun i => []
def impl_ShiftNumber_main (S : SatT) (K : AVal → H → Prop) (x0 : List AVal) (x1 : Sl) (h : H) : Prop :=
 newK 2 x0 h fun p0 h1 =>
 ldA p0 2 h1 fun cs2 =>
 callI S .i64 i_impl_torusCode [.agg cs2, .sl x1] h1 fun n4 h3 =>
 bif (n4 != (0)) then
 K (.tuple [.int .i64 (0), .int .i64 n4]) h3
 else
 ixS x1 1 (0) fun p5 =>
 ldS p5 h3 fun s6 =>
 callS S i_impl_keeping [.sl x1] h3 fun s8 h7 =>
(cell h7 p5 = cell h3 p5) ∧ (
 nz (s8.len : Int) (
 K (.tuple [.int .i64 (w64 (Int.tdiv (w64 ((x1.len : Int) * (s6.len : Int))) (s8.len : Int))), .int .i64 (0)]) h7))
theorem impl_ShiftNumber_main_link (S : SatT) (K : AVal → H → Prop) (x0 : List AVal) (x1 : Sl) (h : H) : cwp S tab impl_ShiftNumber_M [] (bodyOf Try.f43) (kFun tab Try.f43.results.toList K) (fr0 Try.f43 [.agg x0, .sl x1]) h = impl_ShiftNumber_main S K x0 x1 h := by kernel_rfl
theorem impl_ShiftNumber_call (x0 : List AVal) (x1 : Sl) (h : H) (K : AVal → H → Prop) (hm : impl_ShiftNumber_main (Sat Try.prog) (fun v h' => K v h') x0 x1 h) : callV (Sat Try.prog) i_impl_ShiftNumber [.agg x0, .sl x1] h K := by
  have := Sat.ex tok mixed impl_ShiftNumber_M Try.func43 (c := bodyOf Try.f43) (by kernel_rfl) (calls_of Try.func43 (c := bodyOf Try.f43) (by kernel_rfl) (by decide)) ((impl_ShiftNumber_main_link _ _ x0 x1 h).mpr hm)
  exact this

/-! ### loop.example/g01354/impl.torusCode -/
def impl_torusCode_M : Nat → List Nat := fun i => []
def impl_torusCode_main (S : SatT) (K : AVal → H → Prop) (x0 : List AVal) (x1 : Sl) (h : H) : Prop :=
 newK 2 x0 h fun p0 h1 =>
 newO [.sl x1] h1 fun p2 h3 =>
 ldA p0 2 h3 fun cs4 =>
 callI S .i64 i_impl_setCode [.agg cs4, .func 122 [.ptr p0, .ptr p2]] h3 fun n6 h5 =>
 bif (n6 == (0)) then
 ldA p0 2 h5 fun cs7 =>
 ldS p2 h5 fun s8 =>
 callB S i_impl_Set_isTorus [.agg cs7, .sl s8] h5 fun b10 h9 =>
 bif (!b10) then
 K (.int .i64 (5)) h9
 else
 K (.int .i64 n6) h9
 else
 K (.int .i64 n6) h5
theorem impl_torusCode_main_link (S : SatT) (K : AVal → H → Prop) (x0 : List AVal) (x1 : Sl) (h : H) : cwp S tab impl_torusCode_M [] (bodyOf Try.f98) (kFun tab Try.f98.results.toList K) (fr0 Try.f98 [.agg x0, .sl x1]) h = impl_torusCode_main S K x0 x1 h := by kernel_rfl
theorem impl_torusCode_call (x0 : List AVal) (x1 : Sl) (h : H) (K : Int → H → Prop) (hm : impl_torusCode_main (Sat Try.prog) (fun v h' => ∃ r, v = .int .i64 r ∧ K r h') x0 x1 h) : callI (Sat Try.prog) .i64 i_impl_torusCode [.agg x0, .sl x1] h K := by
  have := Sat.ex tok mixed impl_torusCode_M Try.func98 (c := bodyOf Try.f98) (by kernel_rfl) (calls_of Try.func98 (c := bodyOf Try.f98) (by kernel_rfl) (by decide)) ((impl_torusCode_main_link _ _ x0 x1 h).mpr hm)
  obtain ⟨v, h2, h3, r, rfl, h4⟩ := this; exact ⟨r, h2, h3, h4⟩

/-! ### loop.example/g01354/impl.IsCylinder -/
def impl_IsCylinder_M : Nat → List Nat := fun i => []
def impl_IsCylinder_main (S : SatT) (K : AVal → H → Prop) (x0 : List AVal) (x1 : Sl) (h : H) : Prop :=
 newK 2 x0 h fun p0 h1 =>
 newO [.sl x1] h1 fun p2 h3 =>
 ldA p0 2 h3 fun cs4 =>
 callI S .i64 i_impl_setCode [.agg cs4, .func 69 [.ptr p0, .ptr p2]] h3 fun n6 h5 =>
 bif (n6 != (0)) then
 K (.tuple [.bool false, .int .i64 n6]) h5
 else
 ldA p0 2 h5 fun cs7 =>
 ldS p2 h5 fun s8 =>
 callB S i_impl_Set_isCylinder [.agg cs7, .sl s8] h5 fun b10 h9 =>
 K (.tuple [.bool b10, .int .i64 (0)]) h9
theorem impl_IsCylinder_main_link (S : SatT) (K : AVal → H → Prop) (x0 : List AVal) (x1 : Sl) (h : H) : cwp S tab impl_IsCylinder_M [] (bodyOf Try.f25) (kFun tab Try.f25.results.toList K) (fr0 Try.f25 [.agg x0, .sl x1]) h = impl_IsCylinder_main S K x0 x1 h := by kernel_rfl
theorem impl_IsCylinder_call (x0 : List AVal) (x1 : Sl) (h : H) (K : AVal → H → Prop) (hm : impl_IsCylinder_main (Sat Try.prog) (fun v h' => K v h') x0 x1 h) : callV (Sat Try.prog) i_impl_IsCylinder [.agg x0, .sl x1] h K := by
  have := Sat.ex tok mixed impl_IsCylinder_M Try.func25 (c := bodyOf Try.f25) (by kernel_rfl) (calls_of Try.func25 (c := bodyOf Try.f25) (by kernel_rfl) (by decide)) ((impl_IsCylinder_main_link _ _ x0 x1 h).mpr hm)
  exact this

/-! ### loop.example/g01354/impl.IsTorus -/
def impl_IsTorus_M : Nat → List Nat := fun i => []
def impl_IsTorus_main (S : SatT) (K : AVal → H → Prop) (x0 : List AVal) (x1 : Sl) (h : H) : Prop :=
 newK 2 x0 h fun p0 h1 =>
 newO [.sl x1] h1 fun p2 h3 =>
 ldA p0 2 h3 fun cs4 =>
 callI S .i64 i_impl_setCode [.agg cs4, .func 74 [.ptr p0, .ptr p2]] h3 fun n6 h5 =>
 bif (n6 != (0)) then
 K (.tuple [.bool false, .int .i64 n6]) h5
 else
 ldA p0 2 h5 fun cs7 =>
 ldS p2 h5 fun s8 =>
 callB S i_impl_Set_isTorus [.agg cs7, .sl s8] h5 fun b10 h9 =>
 K (.tuple [.bool b10, .int .i64 (0)]) h9
theorem impl_IsTorus_main_link (S : SatT) (K : AVal → H → Prop) (x0 : List AVal) (x1 : Sl) (h : H) : cwp S tab impl_IsTorus_M [] (bodyOf Try.f28) (kFun tab Try.f28.results.toList K) (fr0 Try.f28 [.agg x0, .sl x1]) h = impl_IsTorus_main S K x0 x1 h := by kernel_rfl
theorem impl_IsTorus_call (x0 : List AVal) (x1 : Sl) (h : H) (K : AVal → H → Prop) (hm : impl_IsTorus_main (Sat Try.prog) (fun v h' => K v h') x0 x1 h) : callV (Sat Try.prog) i_impl_IsTorus [.agg x0, .sl x1] h K := by
  have := Sat.ex tok mixed impl_IsTorus_M Try.func28 (c := bodyOf Try.f28) (by kernel_rfl) (calls_of Try.func28 (c := bodyOf Try.f28) (by kernel_rfl) (by decide)) ((impl_IsTorus_main_link _ _ x0 x1 h).mpr hm)
  exact this

/-! ### loop.example/g01354/impl.areSizes -/
def impl_areSizes_M : Nat → List Nat := fun i => []
def impl_areSizes_main (S : SatT) (K : AVal → H → Prop) (x0 : Int) (x1 : Int) (h : H) : Prop :=
 callB S i_impl_within [.int .i64 x0, .int .i64 (1), .int .i64 (3)] h fun b1 h0 =>
 bif b1 then
 callB S i_impl_within [.int .i64 x1, .int .i64 (1), .int .i64 (3)] h0 fun b3 h2 =>
 K (.bool b3) h2
 else
 K (.bool false) h0
theorem impl_areSizes_main_link (S : SatT) (K : AVal → H → Prop) (x0 : Int) (x1 : Int) (h : H) : cwp S tab impl_areSizes_M [] (bodyOf Try.f62) (kFun tab Try.f62.results.toList K) (fr0 Try.f62 [.int .i64 x0, .int .i64 x1]) h = impl_areSizes_main S K x0 x1 h := by kernel_rfl
theorem impl_areSizes_call (x0 : Int) (x1 : Int) (h : H) (K : Bool → H → Prop) (hm : impl_areSizes_main (Sat Try.prog) (fun v h' => ∃ r, v = .bool r ∧ K r h') x0 x1 h) : callB (Sat Try.prog) i_impl_areSizes [.int .i64 x0, .int .i64 x1] h K := by
  have := Sat.ex tok mixed impl_areSizes_M Try.func62 (c := bodyOf Try.f62) (by kernel_rfl) (calls_of Try.func62 (c := bodyOf Try.f62) (by kernel_rfl) (by decide)) ((impl_areSizes_main_link _ _ x0 x1 h).mpr hm)
  obtain ⟨v, h2, h3, r, rfl, h4⟩ := this; exact ⟨r, h2, h3, h4⟩

/-! ### loop.example/g01354/spec.ShiftsKept -/
def spec_ShiftsKept_M : Nat → List Nat := fun i => []
def spec_ShiftsKept_main (S : SatT) (K : AVal → H → Prop) (x0 : List AVal) (x1 : Sl) (h : H) : Prop :=
 newK 2 x0 h fun p0 h1 =>
 ldA p0 2 h1 fun cs2 =>
 callI S .i64 i_spec_l05Given [.agg cs2, .sl x1] h1 fun n4 h3 =>
 bif (n4 != (0)) then
 K (.tuple [.sl Sl.nil, .int .i64 n4]) h3
 else
 callS S i_spec_l05Kept [.sl x1] h3 fun s6 h5 =>
 K (.tuple [.sl s6, .int .i64 (0)]) h5
theorem spec_ShiftsKept_main_link (S : SatT) (K : AVal → H → Prop) (x0 : List AVal) (x1 : Sl) (h : H) : cwp S tab spec_ShiftsKept_M [] (bodyOf Try.f46) (kFun tab Try.f46.results.toList K) (fr0 Try.f46 [.agg x0, .sl x1]) h = spec_ShiftsKept_main S K x0 x1 h := by kernel_rfl
theorem spec_ShiftsKept_call (x0 : List AVal) (x1 : Sl) (h : H) (K : AVal → H → Prop) (hm : spec_ShiftsKept_main (Sat Try.prog) (fun v h' => K v h') x0 x1 h) : callV (Sat Try.prog) i_spec_ShiftsKept [.agg x0, .sl x1] h K := by
  have := Sat.ex tok mixed spec_ShiftsKept_M Try.func46 (c := bodyOf Try.f46) (by kernel_rfl) (calls_of Try.func46 (c := bodyOf Try.f46) (by kernel_rfl) (by decide)) ((spec_ShiftsKept_main_link _ _ x0 x1 h).mpr hm)
  exact this

/-! ### loop.example/g01354/impl.leastForm -/
def impl_leastForm_M : Nat → List Nat := fun i => []
def impl_leastForm_main (S : SatT) (K : AVal → H → Prop) (x0 : Sl) (h : H) : Prop :=
 callS S i_impl_shifted [.sl x0, .int .i64 (0), .int .i64 (0)] h fun s1 h0 =>
 newO [.sl Sl.nil] h0 fun p2 h3 =>
 st1 p2 (.sl s1) h3 fun h4 =>
 callV S i_impl_shifts [.sl x0, .func 121 [.ptr p2]] h4 fun v6 h5 =>
 ldS p2 h5 fun s7 =>
 K (.sl s7) h5
theorem impl_leastForm_main_link (S : SatT) (K : AVal → H → Prop) (x0 : Sl) (h : H) : cwp S tab impl_leastForm_M [] (bodyOf Try.f91) (kFun tab Try.f91.results.toList K) (fr0 Try.f91 [.sl x0]) h = impl_leastForm_main S K x0 h := by kernel_rfl
theorem impl_leastForm_call (x0 : Sl) (h : H) (K : Sl → H → Prop) (hm : impl_leastForm_main (Sat Try.prog) (fun v h' => ∃ r, v = .sl r ∧ K r h') x0 h) : callS (Sat Try.prog) i_impl_leastForm [.sl x0] h K := by
  have := Sat.ex tok mixed impl_leastForm_M Try.func91 (c := bodyOf Try.f91) (by kernel_rfl) (calls_of Try.func91 (c := bodyOf Try.f91) (by kernel_rfl) (by decide)) ((impl_leastForm_main_link _ _ x0 h).mpr hm)
  obtain ⟨v, h2, h3, r, rfl, h4⟩ := this; exact ⟨r, h2, h3, h4⟩

/-! ### loop.example/g01354/impl.keeping -/
def impl_keeping_M : Nat → List Nat := fun i => []
def impl_keeping_main (S : SatT) (K : AVal → H → Prop) (x0 : Sl) (h : H) : Prop :=
 newO [.sl x0] h fun p0 h1 =>
 newS 0 1 [] h1 fun s2 h3 =>
 newO [.sl Sl.nil] h3 fun p4 h5 =>
 st1 p4 (.sl s2) h5 fun h6 =>
 ldS p0 h6 fun s7 =>
 callV S i_impl_shifts [.sl s7, .func 123 [.ptr p0, .ptr p4]] h6 fun v9 h8 =>
 ldS p4 h8 fun s10 =>
 K (.sl s10) h8
theorem impl_keeping_main_link (S : SatT) (K : AVal → H → Prop) (x0 : Sl) (h : H) : cwp S tab impl_keeping_M [] (bodyOf Try.f99) (kFun tab Try.f99.results.toList K) (fr0 Try.f99 [.sl x0]) h = impl_keeping_main S K x0 h := by kernel_rfl
theorem impl_keeping_call (x0 : Sl) (h : H) (K : Sl → H → Prop) (hm : impl_keeping_main (Sat Try.prog) (fun v h' => ∃ r, v = .sl r ∧ K r h') x0 h) : callS (Sat Try.prog) i_impl_keeping [.sl x0] h K := by
  have := Sat.ex tok mixed impl_keeping_M Try.func99 (c := bodyOf Try.f99) (by kernel_rfl) (calls_of Try.func99 (c := bodyOf Try.f99) (by kernel_rfl) (by decide)) ((impl_keeping_main_link _ _ x0 h).mpr hm)
  obtain ⟨v, h2, h3, r, rfl, h4⟩ := this; exact ⟨r, h2, h3, h4⟩

/-! ### loop.example/g01354/impl.compareRows -/
def impl_compareRows_M : Nat → List Nat := fun i => []
def impl_compareRows_main (S : SatT) (K : AVal → H → Prop) (x0 : Sl) (x1 : Sl) (h : H) : Prop :=
 callI S .i64 i_slices_CompareFunc_ss_int64_s_s_int64_s_int64_s_int64_ [.sl x0, .sl x1, .func 118 []] h fun n1 h0 =>
 K (.int .i64 n1) h0
theorem impl_compareRows_main_link (S : SatT) (K : AVal → H → Prop) (x0 : Sl) (x1 : Sl) (h : H) : cwp S tab impl_compareRows_M [] (bodyOf Try.f90) (kFun tab Try.f90.results.toList K) (fr0 Try.f90 [.sl x0, .sl x1]) h = impl_compareRows_main S K x0 x1 h := by kernel_rfl
theorem impl_compareRows_call (x0 : Sl) (x1 : Sl) (h : H) (K : Int → H → Prop) (hm : impl_compareRows_main (Sat Try.prog) (fun v h' => ∃ r, v = .int .i64 r ∧ K r h') x0 x1 h) : callI (Sat Try.prog) .i64 i_impl_compareRows [.sl x0, .sl x1] h K := by
  have := Sat.ex tok mixed impl_compareRows_M Try.func90 (c := bodyOf Try.f90) (by kernel_rfl) (calls_of Try.func90 (c := bodyOf Try.f90) (by kernel_rfl) (by decide)) ((impl_compareRows_main_link _ _ x0 x1 h).mpr hm)
  obtain ⟨v, h2, h3, r, rfl, h4⟩ := this; exact ⟨r, h2, h3, h4⟩

/-! ### loop.example/g01354/impl.torusCode$1 -/
def impl_torusCode_1_M : Nat → List Nat := fun i => []
def impl_torusCode_1_main (S : SatT) (K : AVal → H → Prop) (x0 : Pt) (x1 : Pt) (h : H) : Prop :=
 ldA x0 2 h fun cs0 =>
 ldS x1 h fun s1 =>
 callB S i_impl_Set_areNumbers [.agg cs0, .sl s1] h fun b3 h2 =>
 K (.bool b3) h2
theorem impl_torusCode_1_main_link (S : SatT) (K : AVal → H → Prop) (x0 : Pt) (x1 : Pt) (h : H) : cwp S tab impl_torusCode_1_M [] (bodyOf Try.f122) (kFun tab Try.f122.results.toList K) (fr0 Try.f122 [.ptr x0, .ptr x1]) h = impl_torusCode_1_main S K x0 x1 h := by kernel_rfl
theorem impl_torusCode_1_call (x0 : Pt) (x1 : Pt) (h : H) (K : Bool → H → Prop) (hm : impl_torusCode_1_main (Sat Try.prog) (fun v h' => ∃ r, v = .bool r ∧ K r h') x0 x1 h) : callB (Sat Try.prog) i_impl_torusCode_1 [.ptr x0, .ptr x1] h K := by
  have := Sat.ex tok mixed impl_torusCode_1_M Try.func122 (c := bodyOf Try.f122) (by kernel_rfl) (calls_of Try.func122 (c := bodyOf Try.f122) (by kernel_rfl) (by decide)) ((impl_torusCode_1_main_link _ _ x0 x1 h).mpr hm)
  obtain ⟨v, h2, h3, r, rfl, h4⟩ := this; exact ⟨r, h2, h3, h4⟩

/-! ### loop.example/g01354/laws.szInt64S -/
def laws_szInt64S_M : Nat → List Nat := fun i => []
def laws_szInt64S_main (S : SatT) (K : AVal → H → Prop) (x0 : Sl) (x1 : Int) (h : H) : Prop :=
 bif (decide ((w64 (x1 - (x0.len : Int))) < (0))) then
 K (.int .i64 (-1)) h
 else
 K (.int .i64 (w64 (x1 - (x0.len : Int)))) h
theorem laws_szInt64S_main_link (S : SatT) (K : AVal → H → Prop) (x0 : Sl) (x1 : Int) (h : H) : cwp S tab laws_szInt64S_M [] (bodyOf Try.f64) (kFun tab Try.f64.results.toList K) (fr0 Try.f64 [.sl x0, .int .i64 x1]) h = laws_szInt64S_main S K x0 x1 h := by kernel_rfl
theorem laws_szInt64S_call (x0 : Sl) (x1 : Int) (h : H) (K : Int → H → Prop) (hm : laws_szInt64S_main (Sat Try.prog) (fun v h' => ∃ r, v = .int .i64 r ∧ K r h') x0 x1 h) : callI (Sat Try.prog) .i64 i_laws_szInt64S [.sl x0, .int .i64 x1] h K := by
  have := Sat.ex tok mixed laws_szInt64S_M Try.func64 (c := bodyOf Try.f64) (by kernel_rfl) (calls_of Try.func64 (c := bodyOf Try.f64) (by kernel_rfl) (by decide)) ((laws_szInt64S_main_link _ _ x0 x1 h).mpr hm)
  obtain ⟨v, h2, h3, r, rfl, h4⟩ := this; exact ⟨r, h2, h3, h4⟩

/-! ### loop.example/g01354/impl.counted -/
def impl_counted_M : Nat → List Nat := fun i => []
def impl_counted_main (S : SatT) (K : AVal → H → Prop) (x0 : Int) (h : H) : Prop :=
 bif (decide (x0 > (1000000000000000))) then
 K (.tuple [.int .i64 (0), .int .i64 (3)]) h
 else
 K (.tuple [.int .i64 x0, .int .i64 (0)]) h
theorem impl_counted_main_link (S : SatT) (K : AVal → H → Prop) (x0 : Int) (h : H) : cwp S tab impl_counted_M [] (bodyOf Try.f58) (kFun tab Try.f58.results.toList K) (fr0 Try.f58 [.int .i64 x0]) h = impl_counted_main S K x0 h := by kernel_rfl
theorem impl_counted_call (x0 : Int) (h : H) (K : AVal → H → Prop) (hm : impl_counted_main (Sat Try.prog) (fun v h' => K v h') x0 h) : callV (Sat Try.prog) i_impl_counted [.int .i64 x0] h K := by
  have := Sat.ex tok mixed impl_counted_M Try.func58 (c := bodyOf Try.f58) (by kernel_rfl) (calls_of Try.func58 (c := bodyOf Try.f58) (by kernel_rfl) (by decide)) ((impl_counted_main_link _ _ x0 h).mpr hm)
  exact this

/-! ### gosem.cut.init -/
def gosem_cut_init_M : Nat → List Nat := fun i => []
def gosem_cut_init_main (S : SatT) (K : AVal → H → Prop) (h : H) : Prop :=
 callV S i_gosem_cut [] h fun v1 h0 =>
 K (.tuple []) h0
theorem gosem_cut_init_main_link (S : SatT) (K : AVal → H → Prop) (h : H) : cwp S tab gosem_cut_init_M [] (bodyOf Try.f2) (kFun tab Try.f2.results.toList K) (fr0 Try.f2 []) h = gosem_cut_init_main S K h := by kernel_rfl
theorem gosem_cut_init_call (h : H) (K : AVal → H → Prop) (hm : gosem_cut_init_main (Sat Try.prog) (fun v h' => K v h') h) : callV (Sat Try.prog) i_gosem_cut_init [] h K := by
  have := Sat.ex tok mixed gosem_cut_init_M Try.func2 (c := bodyOf Try.f2) (by kernel_rfl) (calls_of Try.func2 (c := bodyOf Try.f2) (by kernel_rfl) (by decide)) ((gosem_cut_init_main_link _ _ h).mpr hm)
  exact this

end Go.Proofs.Ytfmjjpophipfbaa.Cl
