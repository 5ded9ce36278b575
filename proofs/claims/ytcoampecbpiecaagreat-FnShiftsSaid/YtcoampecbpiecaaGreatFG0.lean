/- Typed forms of functions, and their links. No claim is stated here. -/
import Derived.Test.YtcoampecbpiecaaGreatFT
/- Typed forms of functions of the program, and their links. Printed by program. No claim is stated here. -/
set_option linter.unusedVariables false
namespace Go.Proofs.YtcoampecbpiecaaGreat.Cl
open Go
abbrev KT := AVal → H → Prop
abbrev XT := Frame → H → Prop
/-! ### loop.example/g01354/laws.FnShifts -/
def laws_FnShifts_M : Nat → List Nat := fun i => bif i == 0 then [0, 3, 4, 17, 21] else []
def laws_FnShifts_ks11 (S : SatT) (K : KT) : Kont := kSeq (cwp S tab laws_FnShifts_M [] (sub [1, 1, 1, 1, 1, 1, 1] (bodyOf Tryz.f4)) (kFun tab (Tryz.f4).results.toList K)) (kFun tab (Tryz.f4).results.toList K)
def laws_FnShifts_e0 (s0_ : Sl) (p3_ : Pt) (s4_ s17_ : Sl) (i21_ : Int) : Frame := [.sl s0_, U, U, .ptr p3_, .sl s4_, U, U, U, U, U, U, U, U, U, U, U, U, .sl s17_, U, U, U, .int .i64 i21_, U, U, U, U, U, U, U, U, U, U, U, U, U, U, U, U, U, U, U, U, U, U, U, U, U, U, U, U, U, U, U, U, U, U, U, U, U, U, U, U, U, U, U, U, U, U, U, U, U, U, U, U, U, U, U, U, U, U, U, U, U, U, U, U, U, U, U, U, U, U, U, U, U, U, U, U, U, U, U, U, U, U, U, U, U, U, U, U, U, U, U, U, U, U, U, U, U, U, U, U, U, U, U, U, U, U, U, U, U, U, U, U, U, U, U, U, U, U, U, U, U, U, U, U, U, U, U, U, U, U, U, U, U, U, U, U, U, U, U, U, U, U, U, U, U, U, U, U, U, U, U, U, U, U, U, U, U, U, U, U, U, U, U, U, U, U, U, U, U, U, U, U, U, U, U, U, U, U, U, U, U, U, U, U, U, U, U, U, U, U, U, U, U, U, U, U, U, U, U, U, U, U, U, U, U, U, U, U, U, U, U, U, U, U, U, U, U, U, U, U, U, U, U, U, U, U, U, U, U, U, U, U, U, U, U, U, U, U, U, U, U, U, U, U, U, U, U, U, U, U, U, U, U, U, U, U, U, U, U, U, U, U, U, U, U, U, U, U, U, U, U, U, U, U, U, U, U, U, U, U, U, U, U, U, U, U, U, U, U, U, U, U, U, U, U, U, U, U, U, U, U, U, U, U, U, U, U, U, U, U, U]
def laws_FnShifts_w0 (S : SatT) (K : KT) : (XT) → XT := fun X fr h => cwp S tab laws_FnShifts_M (laws_FnShifts_M 0) (sub [1, 1, 1, 1, 1, 1, 0, 1, 0, 1, 1, 1, 1, 1, 1, 1, 0, 0] (bodyOf Tryz.f4)) (kSeq (fun fr h => X (mask (laws_FnShifts_M 0) fr) h) (kBlk 0 (laws_FnShifts_ks11 S K))) fr h
def laws_FnShifts_L0 (S : SatT) (K : KT) (s0_ : Sl) (p3_ : Pt) (s4_ s17_ : Sl) (i21_ : Int) (h : H) : Prop := loopK (laws_FnShifts_w0 S K) (laws_FnShifts_e0 s0_ p3_ s4_ s17_ i21_) h
def laws_FnShifts_C0 (S : SatT) (K : KT) (s0_ : Sl) (h : H) : Prop :=
 callV S i_spec_DrawCountForms [.sl s0_] h fun v1 h0 =>
 viaT v1 fun vs2 =>
 exA vs2 0 fun cs3 =>
 viaT v1 fun vs4 =>
 exI .i64 vs4 1 fun n5 =>
 viaT v1 fun vs6 =>
 exI .i64 vs6 2 fun n7 =>
 newO [.int .i64 (0), .sl Sl.nil] h0 fun p8 h9 =>
 stN p8 2 cs3 h9 fun h10 =>
 ldA p8 2 h10 fun cs11 =>
 callV S i_impl_CountForms [.agg cs11, .int .i64 n5, .int .i64 n7] h10 fun v13 h12 =>
 viaT v13 fun vs14 =>
 exI .i64 vs14 0 fun n15 =>
 viaT v13 fun vs16 =>
 exI .i64 vs16 1 fun n17 =>
 ldA p8 2 h12 fun cs18 =>
 callV S i_spec_CountForms [.agg cs18, .int .i64 n5, .int .i64 n7] h12 fun v20 h19 =>
 viaT v20 fun vs21 =>
 exI .i64 vs21 0 fun n22 =>
 viaT v20 fun vs23 =>
 exI .i64 vs23 1 fun n24 =>
 bif (n17 != n24) then
 K (.bool false) h19
 else
 bif (n15 != n22) then
 K (.bool false) h19
 else
 bif (n17 == (0)) then
 ldA p8 2 h19 fun cs25 =>
 callV S i_impl_CountTori [.agg cs25, .int .i64 n5, .int .i64 n7] h19 fun v27 h26 =>
 viaT v27 fun vs28 =>
 exI .i64 vs28 0 fun n29 =>
 viaT v27 fun vs30 =>
 exI .i64 vs30 1 fun n31 =>
 bif (n31 != (0)) then
 K (.bool false) h26
 else
 bif (decide (n15 > n29)) then
 K (.bool false) h26
 else
 bif (decide ((w64 ((w64 (n15 * n5)) * n7)) < n29)) then
 K (.bool false) h26
 else
 callV S i_spec_DrawLeastForm [.sl s0_] h26 fun v33 h32 =>
 viaT v33 fun vs34 =>
 exA vs34 0 fun cs35 =>
 viaT v33 fun vs36 =>
 exS vs36 1 fun s37 =>
 newO [.int .i64 (0), .sl Sl.nil] h32 fun p38 h39 =>
 stN p38 2 cs35 h39 fun h40 =>
 ldA p38 2 h40 fun cs41 =>
 callV S i_impl_LeastForm [.agg cs41, .sl s37] h40 fun v43 h42 =>
 viaT v43 fun vs44 =>
 exS vs44 0 fun s45 =>
 viaT v43 fun vs46 =>
 exI .i64 vs46 1 fun n47 =>
 ldA p38 2 h42 fun cs48 =>
 callV S i_spec_LeastForm [.agg cs48, .sl s37] h42 fun v50 h49 =>
 viaT v50 fun vs51 =>
 exS vs51 0 fun s52 =>
 viaT v50 fun vs53 =>
 exI .i64 vs53 1 fun n54 =>
 callV S i_spec_DrawShiftsKept [.sl s0_] h49 fun v56 h55 =>
 viaT v56 fun vs57 =>
 exA vs57 0 fun cs58 =>
 viaT v56 fun vs59 =>
 exS vs59 1 fun s60 =>
 newO [.int .i64 (0), .sl Sl.nil] h55 fun p61 h62 =>
 stN p61 2 cs58 h62 fun h63 =>
 ldA p61 2 h63 fun cs64 =>
 callV S i_impl_ShiftsKept [.agg cs64, .sl s60] h63 fun v66 h65 =>
 viaT v66 fun vs67 =>
 exS vs67 0 fun s68 =>
 viaT v66 fun vs69 =>
 exI .i64 vs69 1 fun n70 =>
 ldA p61 2 h65 fun cs71 =>
 callV S i_spec_ShiftsKept [.agg cs71, .sl s60] h65 fun v73 h72 =>
 viaT v73 fun vs74 =>
 exS vs74 0 fun s75 =>
 viaT v73 fun vs76 =>
 exI .i64 vs76 1 fun n77 =>
 callV S i_spec_DrawShiftNumber [.sl s0_] h72 fun v79 h78 =>
 viaT v79 fun vs80 =>
 exA vs80 0 fun cs81 =>
 viaT v79 fun vs82 =>
 exS vs82 1 fun s83 =>
 newO [.int .i64 (0), .sl Sl.nil] h78 fun p84 h85 =>
 stN p84 2 cs81 h85 fun h86 =>
 ldA p84 2 h86 fun cs87 =>
 callV S i_impl_ShiftNumber [.agg cs87, .sl s83] h86 fun v89 h88 =>
 viaT v89 fun vs90 =>
 exI .i64 vs90 0 fun n91 =>
 viaT v89 fun vs92 =>
 exI .i64 vs92 1 fun n93 =>
 ldA p84 2 h88 fun cs94 =>
 callV S i_spec_ShiftNumber [.agg cs94, .sl s83] h88 fun v96 h95 =>
 viaT v96 fun vs97 =>
 exI .i64 vs97 0 fun n98 =>
 viaT v96 fun vs99 =>
 exI .i64 vs99 1 fun n100 =>
 bif (n47 == n54) then
 callB S i_laws_rows5 [.sl s45, .sl s52] h95 fun b102 h101 =>
 bif b102 then
 bif (n70 == n77) then
 callB S i_laws_rows5 [.sl s68, .sl s75] h101 fun b104 h103 =>
 bif b104 then
 bif (n93 == n100) then
 K (.bool (n91 == n98)) h103
 else
 K (.bool false) h103
 else
 K (.bool false) h103
 else
 K (.bool false) h101
 else
 K (.bool false) h101
 else
 K (.bool false) h95
 else
 callV S i_spec_DrawLeastForm [.sl s0_] h19 fun v106 h105 =>
 viaT v106 fun vs107 =>
 exA vs107 0 fun cs108 =>
 viaT v106 fun vs109 =>
 exS vs109 1 fun s110 =>
 newO [.int .i64 (0), .sl Sl.nil] h105 fun p111 h112 =>
 stN p111 2 cs108 h112 fun h113 =>
 ldA p111 2 h113 fun cs114 =>
 callV S i_impl_LeastForm [.agg cs114, .sl s110] h113 fun v116 h115 =>
 viaT v116 fun vs117 =>
 exS vs117 0 fun s118 =>
 viaT v116 fun vs119 =>
 exI .i64 vs119 1 fun n120 =>
 ldA p111 2 h115 fun cs121 =>
 callV S i_spec_LeastForm [.agg cs121, .sl s110] h115 fun v123 h122 =>
 viaT v123 fun vs124 =>
 exS vs124 0 fun s125 =>
 viaT v123 fun vs126 =>
 exI .i64 vs126 1 fun n127 =>
 callV S i_spec_DrawShiftsKept [.sl s0_] h122 fun v129 h128 =>
 viaT v129 fun vs130 =>
 exA vs130 0 fun cs131 =>
 viaT v129 fun vs132 =>
 exS vs132 1 fun s133 =>
 newO [.int .i64 (0), .sl Sl.nil] h128 fun p134 h135 =>
 stN p134 2 cs131 h135 fun h136 =>
 ldA p134 2 h136 fun cs137 =>
 callV S i_impl_ShiftsKept [.agg cs137, .sl s133] h136 fun v139 h138 =>
 viaT v139 fun vs140 =>
 exS vs140 0 fun s141 =>
 viaT v139 fun vs142 =>
 exI .i64 vs142 1 fun n143 =>
 ldA p134 2 h138 fun cs144 =>
 callV S i_spec_ShiftsKept [.agg cs144, .sl s133] h138 fun v146 h145 =>
 viaT v146 fun vs147 =>
 exS vs147 0 fun s148 =>
 viaT v146 fun vs149 =>
 exI .i64 vs149 1 fun n150 =>
 callV S i_spec_DrawShiftNumber [.sl s0_] h145 fun v152 h151 =>
 viaT v152 fun vs153 =>
 exA vs153 0 fun cs154 =>
 viaT v152 fun vs155 =>
 exS vs155 1 fun s156 =>
 newO [.int .i64 (0), .sl Sl.nil] h151 fun p157 h158 =>
 stN p157 2 cs154 h158 fun h159 =>
 ldA p157 2 h159 fun cs160 =>
 callV S i_impl_ShiftNumber [.agg cs160, .sl s156] h159 fun v162 h161 =>
 viaT v162 fun vs163 =>
 exI .i64 vs163 0 fun n164 =>
 viaT v162 fun vs165 =>
 exI .i64 vs165 1 fun n166 =>
 ldA p157 2 h161 fun cs167 =>
 callV S i_spec_ShiftNumber [.agg cs167, .sl s156] h161 fun v169 h168 =>
 viaT v169 fun vs170 =>
 exI .i64 vs170 0 fun n171 =>
 viaT v169 fun vs172 =>
 exI .i64 vs172 1 fun n173 =>
 bif (n120 == n127) then
 callB S i_laws_rows5 [.sl s118, .sl s125] h168 fun b175 h174 =>
 bif b175 then
 bif (n143 == n150) then
 callB S i_laws_rows5 [.sl s141, .sl s148] h174 fun b177 h176 =>
 bif b177 then
 bif (n166 == n173) then
 K (.bool (n164 == n171)) h176
 else
 K (.bool false) h176
 else
 K (.bool false) h176
 else
 K (.bool false) h174
 else
 K (.bool false) h174
 else
 K (.bool false) h168
def laws_FnShifts_b0 (S : SatT) (K : KT) (X0 : XT) (s0_ : Sl) (p3_ : Pt) (s4_ s17_ : Sl) (i21_ : Int) (h : H) : Prop :=
 bif (decide (i21_ < (s17_.len : Int))) then
 bif (decide (i21_ < (4))) then
 ixS s17_ 1 i21_ fun p0 =>
 ldS p0 h fun s1 =>
 bif ((s1.len : Int) != (2)) then
 K (.bool false) h
 else
 ldA p3_ 2 h fun cs2 =>
 ixS s17_ 1 i21_ fun p3 =>
 ldS p3 h fun s4 =>
 ixS s4 1 (0) fun p5 =>
 ldI .i64 p5 h fun n6 =>
 ixS s17_ 1 i21_ fun p7 =>
 ldS p7 h fun s8 =>
 ixS s8 1 (1) fun p9 =>
 ldI .i64 p9 h fun n10 =>
 callV S i_impl_ShiftTorus [.agg cs2, .sl s4_, .int .i64 n6, .int .i64 n10] h fun v12 h11 =>
 viaT v12 fun vs13 =>
 exS vs13 0 fun s14 =>
 viaT v12 fun vs15 =>
 exI .i64 vs15 1 fun n16 =>
 bif (n16 != (0)) then
 K (.bool false) h11
 else
 callB S i_laws_rows5 [.sl s14, .sl s4_] h11 fun b18 h17 =>
 bif (!b18) then
 K (.bool false) h17
 else
 X0 (laws_FnShifts_e0 s0_ p3_ s4_ s17_ (w64 (i21_ + (1)))) h17
 else
 laws_FnShifts_C0 S K s0_ h
 else
 laws_FnShifts_C0 S K s0_ h
theorem laws_FnShifts_link0 (S : SatT) (K : KT) (X0 : XT) (s0_ : Sl) (p3_ : Pt) (s4_ s17_ : Sl) (i21_ : Int) (h : H) : laws_FnShifts_w0 S K X0 (laws_FnShifts_e0 s0_ p3_ s4_ s17_ i21_) h = laws_FnShifts_b0 S K X0 s0_ p3_ s4_ s17_ i21_ h := by kernel_rfl
theorem laws_FnShifts_rule0 (S : SatT) (K : KT) (s0_ : Sl) (p3_ : Pt) (s4_ s17_ : Sl) (I_ : Int → H → Prop) (m_ : Int → H → Nat)
    (hs : ∀ (X0 : XT) (i21_ : Int) (h : H), I_ i21_ h → (∀ (i21_' : Int) (h' : H), I_ i21_' h' → m_ i21_' h' < m_ i21_ h → X0 (laws_FnShifts_e0 s0_ p3_ s4_ s17_ i21_') h') → laws_FnShifts_b0 S K X0 s0_ p3_ s4_ s17_ i21_ h) (i21_ : Int) {h : H} (h0 : I_ i21_ h) : laws_FnShifts_L0 S K s0_ p3_ s4_ s17_ i21_ h :=
  loop_rule (σ := (Int)) (fun s_ => laws_FnShifts_e0 s0_ p3_ s4_ s17_ (s_)) (fun s_ h => I_ (s_) h) (fun s_ h => m_ (s_) h)
    (fun X s_ h hi hx => (laws_FnShifts_link0 S K X s0_ p3_ s4_ s17_ (s_) h).mpr (hs X (s_) h hi fun i21_' h' hi' hm' => hx (i21_') h' hi' hm')) (i21_) h0
def laws_FnShifts_main (S : SatT) (K : KT) (x0 : Sl) (h : H) : Prop :=
 callB S i_laws_big [.sl x0] h fun b1 h0 =>
 bif b1 then
 K (.bool true) h0
 else
 callV S i_spec_DrawShiftTorus [.sl x0] h0 fun v3 h2 =>
 viaT v3 fun vs4 =>
 exA vs4 0 fun cs5 =>
 viaT v3 fun vs6 =>
 exS vs6 1 fun s7 =>
 viaT v3 fun vs8 =>
 exI .i64 vs8 2 fun n9 =>
 viaT v3 fun vs10 =>
 exI .i64 vs10 3 fun n11 =>
 newO [.int .i64 (0), .sl Sl.nil] h2 fun p12 h13 =>
 stN p12 2 cs5 h13 fun h14 =>
 ldA p12 2 h14 fun cs15 =>
 callV S i_impl_ShiftTorus [.agg cs15, .sl s7, .int .i64 n9, .int .i64 n11] h14 fun v17 h16 =>
 viaT v17 fun vs18 =>
 exS vs18 0 fun s19 =>
 viaT v17 fun vs20 =>
 exI .i64 vs20 1 fun n21 =>
 ldA p12 2 h16 fun cs22 =>
 callV S i_spec_ShiftTorus [.agg cs22, .sl s7, .int .i64 n9, .int .i64 n11] h16 fun v24 h23 =>
 viaT v24 fun vs25 =>
 exS vs25 0 fun s26 =>
 viaT v24 fun vs27 =>
 exI .i64 vs27 1 fun n28 =>
 bif (n21 != n28) then
 K (.bool false) h23
 else
 callB S i_laws_rows5 [.sl s19, .sl s26] h23 fun b30 h29 =>
 bif (!b30) then
 K (.bool false) h29
 else
 bif (n21 == (0)) then
 ldA p12 2 h29 fun cs31 =>
 callV S i_impl_IsTorus [.agg cs31, .sl s19] h29 fun v33 h32 =>
 viaT v33 fun vs34 =>
 exB vs34 0 fun b35 =>
 viaT v33 fun vs36 =>
 exI .i64 vs36 1 fun n37 =>
 ldA p12 2 h32 fun cs38 =>
 callV S i_impl_LeastForm [.agg cs38, .sl s7] h32 fun v40 h39 =>
 viaT v40 fun vs41 =>
 exS vs41 0 fun s42 =>
 viaT v40 fun vs43 =>
 exI .i64 vs43 1 fun n44 =>
 ldA p12 2 h39 fun cs45 =>
 callV S i_impl_LeastForm [.agg cs45, .sl s19] h39 fun v47 h46 =>
 viaT v47 fun vs48 =>
 exS vs48 0 fun s49 =>
 viaT v47 fun vs50 =>
 exI .i64 vs50 1 fun n51 =>
 ldA p12 2 h46 fun cs52 =>
 callV S i_impl_ShiftsKept [.agg cs52, .sl s7] h46 fun v54 h53 =>
 viaT v54 fun vs55 =>
 exS vs55 0 fun s56 =>
 viaT v54 fun vs57 =>
 exI .i64 vs57 1 fun n58 =>
 ldA p12 2 h53 fun cs59 =>
 callV S i_impl_ShiftNumber [.agg cs59, .sl s7] h53 fun v61 h60 =>
 viaT v61 fun vs62 =>
 exI .i64 vs62 0 fun n63 =>
 viaT v61 fun vs64 =>
 exI .i64 vs64 1 fun n65 =>
 bif (n37 != (0)) then
 K (.bool false) h60
 else
 bif (n44 != (0)) then
 K (.bool false) h60
 else
 bif (n51 != (0)) then
 K (.bool false) h60
 else
 bif (n58 != (0)) then
 K (.bool false) h60
 else
 bif (n65 != (0)) then
 K (.bool false) h60
 else
 bif (!b35) then
 K (.bool false) h60
 else
 callB S i_laws_rows5 [.sl s42, .sl s49] h60 fun b67 h66 =>
 bif (!b67) then
 K (.bool false) h66
 else
 ixS s7 1 (0) fun p68 =>
 ldS p68 h66 fun s69 =>
 bif ((w64 (n63 * (s56.len : Int))) != (w64 ((s7.len : Int) * (s69.len : Int)))) then
 K (.bool false) h66
 else
 laws_FnShifts_L0 S K x0 p12 s7 s56 (0) h66
 else
 callV S i_spec_DrawCountForms [.sl x0] h29 fun v71 h70 =>
 viaT v71 fun vs72 =>
 exA vs72 0 fun cs73 =>
 viaT v71 fun vs74 =>
 exI .i64 vs74 1 fun n75 =>
 viaT v71 fun vs76 =>
 exI .i64 vs76 2 fun n77 =>
 newO [.int .i64 (0), .sl Sl.nil] h70 fun p78 h79 =>
 stN p78 2 cs73 h79 fun h80 =>
 ldA p78 2 h80 fun cs81 =>
 callV S i_impl_CountForms [.agg cs81, .int .i64 n75, .int .i64 n77] h80 fun v83 h82 =>
 viaT v83 fun vs84 =>
 exI .i64 vs84 0 fun n85 =>
 viaT v83 fun vs86 =>
 exI .i64 vs86 1 fun n87 =>
 ldA p78 2 h82 fun cs88 =>
 callV S i_spec_CountForms [.agg cs88, .int .i64 n75, .int .i64 n77] h82 fun v90 h89 =>
 viaT v90 fun vs91 =>
 exI .i64 vs91 0 fun n92 =>
 viaT v90 fun vs93 =>
 exI .i64 vs93 1 fun n94 =>
 bif (n87 != n94) then
 K (.bool false) h89
 else
 bif (n85 != n92) then
 K (.bool false) h89
 else
 bif (n87 == (0)) then
 ldA p78 2 h89 fun cs95 =>
 callV S i_impl_CountTori [.agg cs95, .int .i64 n75, .int .i64 n77] h89 fun v97 h96 =>
 viaT v97 fun vs98 =>
 exI .i64 vs98 0 fun n99 =>
 viaT v97 fun vs100 =>
 exI .i64 vs100 1 fun n101 =>
 bif (n101 != (0)) then
 K (.bool false) h96
 else
 bif (decide (n85 > n99)) then
 K (.bool false) h96
 else
 bif (decide ((w64 ((w64 (n85 * n75)) * n77)) < n99)) then
 K (.bool false) h96
 else
 callV S i_spec_DrawLeastForm [.sl x0] h96 fun v103 h102 =>
 viaT v103 fun vs104 =>
 exA vs104 0 fun cs105 =>
 viaT v103 fun vs106 =>
 exS vs106 1 fun s107 =>
 newO [.int .i64 (0), .sl Sl.nil] h102 fun p108 h109 =>
 stN p108 2 cs105 h109 fun h110 =>
 ldA p108 2 h110 fun cs111 =>
 callV S i_impl_LeastForm [.agg cs111, .sl s107] h110 fun v113 h112 =>
 viaT v113 fun vs114 =>
 exS vs114 0 fun s115 =>
 viaT v113 fun vs116 =>
 exI .i64 vs116 1 fun n117 =>
 ldA p108 2 h112 fun cs118 =>
 callV S i_spec_LeastForm [.agg cs118, .sl s107] h112 fun v120 h119 =>
 viaT v120 fun vs121 =>
 exS vs121 0 fun s122 =>
 viaT v120 fun vs123 =>
 exI .i64 vs123 1 fun n124 =>
 callV S i_spec_DrawShiftsKept [.sl x0] h119 fun v126 h125 =>
 viaT v126 fun vs127 =>
 exA vs127 0 fun cs128 =>
 viaT v126 fun vs129 =>
 exS vs129 1 fun s130 =>
 newO [.int .i64 (0), .sl Sl.nil] h125 fun p131 h132 =>
 stN p131 2 cs128 h132 fun h133 =>
 ldA p131 2 h133 fun cs134 =>
 callV S i_impl_ShiftsKept [.agg cs134, .sl s130] h133 fun v136 h135 =>
 viaT v136 fun vs137 =>
 exS vs137 0 fun s138 =>
 viaT v136 fun vs139 =>
 exI .i64 vs139 1 fun n140 =>
 ldA p131 2 h135 fun cs141 =>
 callV S i_spec_ShiftsKept [.agg cs141, .sl s130] h135 fun v143 h142 =>
 viaT v143 fun vs144 =>
 exS vs144 0 fun s145 =>
 viaT v143 fun vs146 =>
 exI .i64 vs146 1 fun n147 =>
 callV S i_spec_DrawShiftNumber [.sl x0] h142 fun v149 h148 =>
 viaT v149 fun vs150 =>
 exA vs150 0 fun cs151 =>
 viaT v149 fun vs152 =>
 exS vs152 1 fun s153 =>
 newO [.int .i64 (0), .sl Sl.nil] h148 fun p154 h155 =>
 stN p154 2 cs151 h155 fun h156 =>
 ldA p154 2 h156 fun cs157 =>
 callV S i_impl_ShiftNumber [.agg cs157, .sl s153] h156 fun v159 h158 =>
 viaT v159 fun vs160 =>
 exI .i64 vs160 0 fun n161 =>
 viaT v159 fun vs162 =>
 exI .i64 vs162 1 fun n163 =>
 ldA p154 2 h158 fun cs164 =>
 callV S i_spec_ShiftNumber [.agg cs164, .sl s153] h158 fun v166 h165 =>
 viaT v166 fun vs167 =>
 exI .i64 vs167 0 fun n168 =>
 viaT v166 fun vs169 =>
 exI .i64 vs169 1 fun n170 =>
 bif (n117 == n124) then
 callB S i_laws_rows5 [.sl s115, .sl s122] h165 fun b172 h171 =>
 bif b172 then
 bif (n140 == n147) then
 callB S i_laws_rows5 [.sl s138, .sl s145] h171 fun b174 h173 =>
 bif b174 then
 bif (n163 == n170) then
 K (.bool (n161 == n168)) h173
 else
 K (.bool false) h173
 else
 K (.bool false) h173
 else
 K (.bool false) h171
 else
 K (.bool false) h171
 else
 K (.bool false) h165
 else
 callV S i_spec_DrawLeastForm [.sl x0] h89 fun v176 h175 =>
 viaT v176 fun vs177 =>
 exA vs177 0 fun cs178 =>
 viaT v176 fun vs179 =>
 exS vs179 1 fun s180 =>
 newO [.int .i64 (0), .sl Sl.nil] h175 fun p181 h182 =>
 stN p181 2 cs178 h182 fun h183 =>
 ldA p181 2 h183 fun cs184 =>
 callV S i_impl_LeastForm [.agg cs184, .sl s180] h183 fun v186 h185 =>
 viaT v186 fun vs187 =>
 exS vs187 0 fun s188 =>
 viaT v186 fun vs189 =>
 exI .i64 vs189 1 fun n190 =>
 ldA p181 2 h185 fun cs191 =>
 callV S i_spec_LeastForm [.agg cs191, .sl s180] h185 fun v193 h192 =>
 viaT v193 fun vs194 =>
 exS vs194 0 fun s195 =>
 viaT v193 fun vs196 =>
 exI .i64 vs196 1 fun n197 =>
 callV S i_spec_DrawShiftsKept [.sl x0] h192 fun v199 h198 =>
 viaT v199 fun vs200 =>
 exA vs200 0 fun cs201 =>
 viaT v199 fun vs202 =>
 exS vs202 1 fun s203 =>
 newO [.int .i64 (0), .sl Sl.nil] h198 fun p204 h205 =>
 stN p204 2 cs201 h205 fun h206 =>
 ldA p204 2 h206 fun cs207 =>
 callV S i_impl_ShiftsKept [.agg cs207, .sl s203] h206 fun v209 h208 =>
 viaT v209 fun vs210 =>
 exS vs210 0 fun s211 =>
 viaT v209 fun vs212 =>
 exI .i64 vs212 1 fun n213 =>
 ldA p204 2 h208 fun cs214 =>
 callV S i_spec_ShiftsKept [.agg cs214, .sl s203] h208 fun v216 h215 =>
 viaT v216 fun vs217 =>
 exS vs217 0 fun s218 =>
 viaT v216 fun vs219 =>
 exI .i64 vs219 1 fun n220 =>
 callV S i_spec_DrawShiftNumber [.sl x0] h215 fun v222 h221 =>
 viaT v222 fun vs223 =>
 exA vs223 0 fun cs224 =>
 viaT v222 fun vs225 =>
 exS vs225 1 fun s226 =>
 newO [.int .i64 (0), .sl Sl.nil] h221 fun p227 h228 =>
 stN p227 2 cs224 h228 fun h229 =>
 ldA p227 2 h229 fun cs230 =>
 callV S i_impl_ShiftNumber [.agg cs230, .sl s226] h229 fun v232 h231 =>
 viaT v232 fun vs233 =>
 exI .i64 vs233 0 fun n234 =>
 viaT v232 fun vs235 =>
 exI .i64 vs235 1 fun n236 =>
 ldA p227 2 h231 fun cs237 =>
 callV S i_spec_ShiftNumber [.agg cs237, .sl s226] h231 fun v239 h238 =>
 viaT v239 fun vs240 =>
 exI .i64 vs240 0 fun n241 =>
 viaT v239 fun vs242 =>
 exI .i64 vs242 1 fun n243 =>
 bif (n190 == n197) then
 callB S i_laws_rows5 [.sl s188, .sl s195] h238 fun b245 h244 =>
 bif b245 then
 bif (n213 == n220) then
 callB S i_laws_rows5 [.sl s211, .sl s218] h244 fun b247 h246 =>
 bif b247 then
 bif (n236 == n243) then
 K (.bool (n234 == n241)) h246
 else
 K (.bool false) h246
 else
 K (.bool false) h246
 else
 K (.bool false) h244
 else
 K (.bool false) h244
 else
 K (.bool false) h238
theorem laws_FnShifts_main_link (S : SatT) (K : KT) (x0 : Sl) (h : H) : cwp S tab laws_FnShifts_M [] (bodyOf Tryz.f4) (kFun tab Tryz.f4.results.toList K) (fr0 Tryz.f4 [.sl x0]) h = laws_FnShifts_main S K x0 h := by kernel_rfl
theorem laws_FnShifts_call (x0 : Sl) (h : H) (K : Bool → H → Prop) (hm : laws_FnShifts_main (Sat Tryz.prog) (fun v h' => ∃ r, v = .bool r ∧ K r h') x0 h) : callB (Sat Tryz.prog) i_laws_FnShifts [.sl x0] h K := by
  have := Sat.ex tok mixed laws_FnShifts_M Tryz.func4 (c := bodyOf Tryz.f4) (by kernel_rfl) (calls_of Tryz.func4 (c := bodyOf Tryz.f4) (by kernel_rfl) (by decide)) ((laws_FnShifts_main_link _ _ x0 h).mpr hm)
  obtain ⟨v, h2, h3, r, rfl, h4⟩ := this; exact ⟨r, h2, h3, h4⟩

/-! ### loop.example/g01354/spec.l05First -/
def spec_l05First_M : Nat → List Nat := fun i => bif i == 4 then [3, 8, 9, 10, 11, 13, 14, 15, 16, 17, 18] else bif i == 2 then [3, 8, 9, 10, 11, 13, 14, 15, 16] else bif i == 0 then [1, 3, 8, 9, 10, 11, 12] else []
def spec_l05First_ks3 (S : SatT) (K : KT) : Kont := kSeq (cwp S tab spec_l05First_M [] (sub [1, 1, 1, 1] (bodyOf Tryz.f109)) (kFun tab (Tryz.f109).results.toList K)) (kFun tab (Tryz.f109).results.toList K)
def spec_l05First_e0 (i1_ : Int) (p3_ : Pt) (s8_ s9_ s10_ : Sl) (i11_ i12_ : Int) : Frame := [U, .int .i64 i1_, U, .ptr p3_, U, U, U, U, .sl s8_, .sl s9_, .sl s10_, .int .i64 i11_, .int .i64 i12_, U, U, U, U, U, U, U, U, U, U, U, U, U, U, U, U, U, U, U, U, U, U, U, U, U, U, U, U, U, U, U, U, U, U, U, U, U, U, U, U, U, U, U, U, U, U, U, U, U, U, U, U, U, U, U, U, U, U, U, U, U, U, U, U, U, U, U, U, U, U, U, U, U, U, U, U, U, U, U, U, U, U, U, U, U, U, U, U, U, U, U, U, U, U, U, U, U, U, U, U, U, U, U]
def spec_l05First_w0 (S : SatT) (K : KT) : (XT) → XT := fun X fr h => cwp S tab spec_l05First_M (spec_l05First_M 0) (sub [1, 1, 1, 0, 1, 0, 0] (bodyOf Tryz.f109)) (kSeq (fun fr h => X (mask (spec_l05First_M 0) fr) h) (kBlk 0 (spec_l05First_ks3 S K))) fr h
def spec_l05First_L0 (S : SatT) (K : KT) (i1_ : Int) (p3_ : Pt) (s8_ s9_ s10_ : Sl) (i11_ i12_ : Int) (h : H) : Prop := loopK (spec_l05First_w0 S K) (spec_l05First_e0 i1_ p3_ s8_ s9_ s10_ i11_ i12_) h
def spec_l05First_C1 (S : SatT) (K : KT) (X0 : XT) (i1_ : Int) (p3_ : Pt) (s8_ s9_ s10_ : Sl) (i11_ i12_ : Int) (h : H) : Prop :=
 X0 (spec_l05First_e0 i1_ p3_ s8_ s9_ s10_ i11_ (w64 (i12_ + (1)))) h
def spec_l05First_ks7 (S : SatT) (K : KT) (X0 : XT) : Kont := kSeq (cwp S tab spec_l05First_M (spec_l05First_M 0) (sub [1, 1, 1, 0, 1, 0, 0, 1, 1] (bodyOf Tryz.f109)) (kSeq (fun fr h => X0 (mask (spec_l05First_M 0) fr) h) (kBlk 0 (spec_l05First_ks3 S K)))) (kSeq (fun fr h => X0 (mask (spec_l05First_M 0) fr) h) (kBlk 0 (spec_l05First_ks3 S K)))
def spec_l05First_ks13 (S : SatT) (K : KT) (X0 : XT) : Kont := kSeq (cwp S tab spec_l05First_M (spec_l05First_M 1) (sub [1, 1, 1, 0, 1, 0, 0, 1, 0, 0, 1, 1, 1, 1, 1] (bodyOf Tryz.f109)) (kBlk 1 (spec_l05First_ks7 S K X0))) (kBlk 1 (spec_l05First_ks7 S K X0))
def spec_l05First_e2 (p3_ : Pt) (s8_ s9_ s10_ : Sl) (i11_ i13_ : Int) (s14_ : Sl) (i15_ i16_ : Int) : Frame := [U, U, U, .ptr p3_, U, U, U, U, .sl s8_, .sl s9_, .sl s10_, .int .i64 i11_, U, .int .i64 i13_, .sl s14_, .int .i64 i15_, .int .i64 i16_, U, U, U, U, U, U, U, U, U, U, U, U, U, U, U, U, U, U, U, U, U, U, U, U, U, U, U, U, U, U, U, U, U, U, U, U, U, U, U, U, U, U, U, U, U, U, U, U, U, U, U, U, U, U, U, U, U, U, U, U, U, U, U, U, U, U, U, U, U, U, U, U, U, U, U, U, U, U, U, U, U, U, U, U, U, U, U, U, U, U, U, U, U, U, U, U, U, U, U]
def spec_l05First_w2 (S : SatT) (K : KT) (X0 : XT) : (XT) → XT := fun X fr h => cwp S tab spec_l05First_M (spec_l05First_M 2) (sub [1, 1, 1, 0, 1, 0, 0, 1, 0, 0, 1, 1, 1, 1, 0, 1, 0, 0] (bodyOf Tryz.f109)) (kSeq (fun fr h => X (mask (spec_l05First_M 2) fr) h) (kBlk 2 (spec_l05First_ks13 S K X0))) fr h
def spec_l05First_L2 (S : SatT) (K : KT) (X0 : XT) (p3_ : Pt) (s8_ s9_ s10_ : Sl) (i11_ i13_ : Int) (s14_ : Sl) (i15_ i16_ : Int) (h : H) : Prop := loopK (spec_l05First_w2 S K X0) (spec_l05First_e2 p3_ s8_ s9_ s10_ i11_ i13_ s14_ i15_ i16_) h
def spec_l05First_ks17 (S : SatT) (K : KT) (X0 X2 : XT) : Kont := kSeq (cwp S tab spec_l05First_M (spec_l05First_M 2) (sub [1, 1, 1, 0, 1, 0, 0, 1, 0, 0, 1, 1, 1, 1, 0, 1, 0, 0, 1, 1] (bodyOf Tryz.f109)) (kSeq (fun fr h => X2 (mask (spec_l05First_M 2) fr) h) (kBlk 2 (spec_l05First_ks13 S K X0)))) (kSeq (fun fr h => X2 (mask (spec_l05First_M 2) fr) h) (kBlk 2 (spec_l05First_ks13 S K X0)))
def spec_l05First_e4 (p3_ : Pt) (s8_ s9_ s10_ : Sl) (i11_ i13_ : Int) (s14_ : Sl) (i15_ i16_ : Int) (s17_ : Sl) (i18_ : Int) : Frame := [U, U, U, .ptr p3_, U, U, U, U, .sl s8_, .sl s9_, .sl s10_, .int .i64 i11_, U, .int .i64 i13_, .sl s14_, .int .i64 i15_, .int .i64 i16_, .sl s17_, .int .i64 i18_, U, U, U, U, U, U, U, U, U, U, U, U, U, U, U, U, U, U, U, U, U, U, U, U, U, U, U, U, U, U, U, U, U, U, U, U, U, U, U, U, U, U, U, U, U, U, U, U, U, U, U, U, U, U, U, U, U, U, U, U, U, U, U, U, U, U, U, U, U, U, U, U, U, U, U, U, U, U, U, U, U, U, U, U, U, U, U, U, U, U, U, U, U, U, U, U, U]
def spec_l05First_w4 (S : SatT) (K : KT) (X0 X2 : XT) : (XT) → XT := fun X fr h => cwp S tab spec_l05First_M (spec_l05First_M 4) (sub [1, 1, 1, 0, 1, 0, 0, 1, 0, 0, 1, 1, 1, 1, 0, 1, 0, 0, 1, 0, 0, 1, 1, 0, 0] (bodyOf Tryz.f109)) (kSeq (fun fr h => X (mask (spec_l05First_M 4) fr) h) (kBlk 4 (kBlk 3 (spec_l05First_ks17 S K X0 X2)))) fr h
def spec_l05First_L4 (S : SatT) (K : KT) (X0 X2 : XT) (p3_ : Pt) (s8_ s9_ s10_ : Sl) (i11_ i13_ : Int) (s14_ : Sl) (i15_ i16_ : Int) (s17_ : Sl) (i18_ : Int) (h : H) : Prop := loopK (spec_l05First_w4 S K X0 X2) (spec_l05First_e4 p3_ s8_ s9_ s10_ i11_ i13_ s14_ i15_ i16_ s17_ i18_) h
def spec_l05First_C3 (S : SatT) (K : KT) (X0 X2 : XT) (p3_ : Pt) (s8_ s9_ s10_ : Sl) (i11_ i13_ : Int) (s14_ : Sl) (i15_ i16_ : Int) (h : H) : Prop :=
 X2 (spec_l05First_e2 p3_ s8_ s9_ s10_ i11_ i13_ s14_ i15_ (w64 (i16_ - (1)))) h
def spec_l05First_C4 (S : SatT) (K : KT) (X0 X2 : XT) (p3_ : Pt) (s8_ s9_ s10_ : Sl) (i11_ i13_ : Int) (s14_ : Sl) (i15_ i16_ : Int) (h : H) : Prop :=
 spec_l05First_C3 S K X0 X2 p3_ s8_ s9_ s10_ i11_ i13_ s14_ i15_ i16_ h
def spec_l05First_b4 (S : SatT) (K : KT) (X0 X2 X4 : XT) (p3_ : Pt) (s8_ s9_ s10_ : Sl) (i11_ i13_ : Int) (s14_ : Sl) (i15_ i16_ : Int) (s17_ : Sl) (i18_ : Int) (h : H) : Prop :=
 bif (decide (i18_ < (s8_.len : Int))) then
 ixS s9_ 1 i18_ fun p0 =>
 ldI .i64 p0 h fun n1 =>
 bif (n1 == i15_) then
 ixS s10_ 1 i18_ fun p2 =>
 ldI .i64 p2 h fun n3 =>
 ixS s17_ 1 n3 fun p4 =>
 ldI .i64 p4 h fun n5 =>
 bif (decide (n5 > (0))) then
 ixS s8_ 1 i18_ fun p6 =>
 ldS p6 h fun s7 =>
 callS S i_spec_l01Own [.sl s7] h fun s9 h8 =>
 newS 1 1 [.sl s9] h8 fun s10 h11 =>
 app s14_ s10 1 h11 fun s12 h13 =>
 ixS s10_ 1 i18_ fun p14 =>
 ldI .i64 p14 h13 fun n15 =>
 spec_l05First_C4 S K X0 X2 p3_ s8_ s9_ s10_ i11_ i13_ s12 n15 i16_ h13
 else
 X4 (spec_l05First_e4 p3_ s8_ s9_ s10_ i11_ i13_ s14_ i15_ i16_ s17_ (w64 (i18_ + (1)))) h
 else
 X4 (spec_l05First_e4 p3_ s8_ s9_ s10_ i11_ i13_ s14_ i15_ i16_ s17_ (w64 (i18_ + (1)))) h
 else
 spec_l05First_C4 S K X0 X2 p3_ s8_ s9_ s10_ i11_ i13_ s14_ i15_ i16_ h
theorem spec_l05First_link4 (S : SatT) (K : KT) (X0 X2 X4 : XT) (p3_ : Pt) (s8_ s9_ s10_ : Sl) (i11_ i13_ : Int) (s14_ : Sl) (i15_ i16_ : Int) (s17_ : Sl) (i18_ : Int) (h : H) : spec_l05First_w4 S K X0 X2 X4 (spec_l05First_e4 p3_ s8_ s9_ s10_ i11_ i13_ s14_ i15_ i16_ s17_ i18_) h = spec_l05First_b4 S K X0 X2 X4 p3_ s8_ s9_ s10_ i11_ i13_ s14_ i15_ i16_ s17_ i18_ h := by kernel_rfl
theorem spec_l05First_rule4 (S : SatT) (K : KT) (X0 X2 : XT) (p3_ : Pt) (s8_ s9_ s10_ : Sl) (i11_ i13_ i16_ : Int) (s17_ : Sl) (I_ : Sl → Int → Int → H → Prop) (m_ : Sl → Int → Int → H → Nat)
    (hs : ∀ (X4 : XT) (s14_ : Sl) (i15_ i18_ : Int) (h : H), I_ s14_ i15_ i18_ h → (∀ (s14_' : Sl) (i15_' i18_' : Int) (h' : H), I_ s14_' i15_' i18_' h' → m_ s14_' i15_' i18_' h' < m_ s14_ i15_ i18_ h → X4 (spec_l05First_e4 p3_ s8_ s9_ s10_ i11_ i13_ s14_' i15_' i16_ s17_ i18_') h') → spec_l05First_b4 S K X0 X2 X4 p3_ s8_ s9_ s10_ i11_ i13_ s14_ i15_ i16_ s17_ i18_ h) (s14_ : Sl) (i15_ i18_ : Int) {h : H} (h0 : I_ s14_ i15_ i18_ h) : spec_l05First_L4 S K X0 X2 p3_ s8_ s9_ s10_ i11_ i13_ s14_ i15_ i16_ s17_ i18_ h :=
  loop_rule (σ := (Sl) × (Int) × (Int)) (fun s_ => spec_l05First_e4 p3_ s8_ s9_ s10_ i11_ i13_ (s_.1) (s_.2.1) i16_ s17_ (s_.2.2)) (fun s_ h => I_ (s_.1) (s_.2.1) (s_.2.2) h) (fun s_ h => m_ (s_.1) (s_.2.1) (s_.2.2) h)
    (fun X s_ h hi hx => (spec_l05First_link4 S K X0 X2 X p3_ s8_ s9_ s10_ i11_ i13_ (s_.1) (s_.2.1) i16_ s17_ (s_.2.2) h).mpr (hs X (s_.1) (s_.2.1) (s_.2.2) h hi fun s14_' i15_' i18_' h' hi' hm' => hx (s14_', i15_', i18_') h' hi' hm')) (s14_, i15_, i18_) h0
def spec_l05First_C2 (S : SatT) (K : KT) (X0 : XT) (s14_ : Sl) (h : H) : Prop :=
 K (.tuple [.sl s14_, .bool true]) h
def spec_l05First_b2 (S : SatT) (K : KT) (X0 X2 : XT) (p3_ : Pt) (s8_ s9_ s10_ : Sl) (i11_ i13_ : Int) (s14_ : Sl) (i15_ i16_ : Int) (h : H) : Prop :=
 bif (decide (i16_ ≥ (0))) then
 ldA p3_ 2 h fun cs0 =>
 callS S i_spec_l05Paths [.agg cs0, .sl s9_, .sl s10_, .int .i64 i11_, .int .i64 i16_, .int .i64 i13_] h fun s2 h1 =>
 spec_l05First_L4 S K X0 X2 p3_ s8_ s9_ s10_ i11_ i13_ s14_ i15_ i16_ s2 (0) h1
 else
 spec_l05First_C2 S K X0 s14_ h
theorem spec_l05First_link2 (S : SatT) (K : KT) (X0 X2 : XT) (p3_ : Pt) (s8_ s9_ s10_ : Sl) (i11_ i13_ : Int) (s14_ : Sl) (i15_ i16_ : Int) (h : H) : spec_l05First_w2 S K X0 X2 (spec_l05First_e2 p3_ s8_ s9_ s10_ i11_ i13_ s14_ i15_ i16_) h = spec_l05First_b2 S K X0 X2 p3_ s8_ s9_ s10_ i11_ i13_ s14_ i15_ i16_ h := by kernel_rfl
theorem spec_l05First_rule2 (S : SatT) (K : KT) (X0 : XT) (p3_ : Pt) (s8_ s9_ s10_ : Sl) (i11_ i13_ : Int) (I_ : Sl → Int → Int → H → Prop) (m_ : Sl → Int → Int → H → Nat)
    (hs : ∀ (X2 : XT) (s14_ : Sl) (i15_ i16_ : Int) (h : H), I_ s14_ i15_ i16_ h → (∀ (s14_' : Sl) (i15_' i16_' : Int) (h' : H), I_ s14_' i15_' i16_' h' → m_ s14_' i15_' i16_' h' < m_ s14_ i15_ i16_ h → X2 (spec_l05First_e2 p3_ s8_ s9_ s10_ i11_ i13_ s14_' i15_' i16_') h') → spec_l05First_b2 S K X0 X2 p3_ s8_ s9_ s10_ i11_ i13_ s14_ i15_ i16_ h) (s14_ : Sl) (i15_ i16_ : Int) {h : H} (h0 : I_ s14_ i15_ i16_ h) : spec_l05First_L2 S K X0 p3_ s8_ s9_ s10_ i11_ i13_ s14_ i15_ i16_ h :=
  loop_rule (σ := (Sl) × (Int) × (Int)) (fun s_ => spec_l05First_e2 p3_ s8_ s9_ s10_ i11_ i13_ (s_.1) (s_.2.1) (s_.2.2)) (fun s_ h => I_ (s_.1) (s_.2.1) (s_.2.2) h) (fun s_ h => m_ (s_.1) (s_.2.1) (s_.2.2) h)
    (fun X s_ h hi hx => (spec_l05First_link2 S K X0 X p3_ s8_ s9_ s10_ i11_ i13_ (s_.1) (s_.2.1) (s_.2.2) h).mpr (hs X (s_.1) (s_.2.1) (s_.2.2) h hi fun s14_' i15_' i16_' h' hi' hm' => hx (s14_', i15_', i16_') h' hi' hm')) (s14_, i15_, i16_) h0
def spec_l05First_C0 (S : SatT) (K : KT) (h : H) : Prop :=
 K (.tuple [.sl Sl.nil, .bool false]) h
def spec_l05First_b0 (S : SatT) (K : KT) (X0 : XT) (i1_ : Int) (p3_ : Pt) (s8_ s9_ s10_ : Sl) (i11_ i12_ : Int) (h : H) : Prop :=
 bif (decide (i12_ < (s8_.len : Int))) then
 ixS s9_ 1 i12_ fun p0 =>
 ldI .i64 p0 h fun n1 =>
 newS 0 1 [] h fun s2 h3 =>
 ldA p3_ 2 h3 fun cs4 =>
 callS S i_spec_l05Paths [.agg cs4, .sl s9_, .sl s10_, .int .i64 i11_, .int .i64 (w64 (i1_ - (1))), .int .i64 n1] h3 fun s6 h5 =>
 ixS s10_ 1 i12_ fun p7 =>
 ldI .i64 p7 h5 fun n8 =>
(cell h3 p7 = cell h5 p7) ∧ (
 ixS s6 1 n8 fun p9 =>
 ldI .i64 p9 h5 fun n10 =>
 bif (n10 == (0)) then
 spec_l05First_C1 S K X0 i1_ p3_ s8_ s9_ s10_ i11_ i12_ h5
 else
 ixS s8_ 1 i12_ fun p11 =>
 ldS p11 h5 fun s12 =>
 callS S i_spec_l01Own [.sl s12] h5 fun s14 h13 =>
 newS 1 1 [.sl s14] h13 fun s15 h16 =>
 app s2 s15 1 h16 fun s17 h18 =>
 ixS s10_ 1 i12_ fun p19 =>
 ldI .i64 p19 h18 fun n20 =>
 spec_l05First_L2 S K X0 p3_ s8_ s9_ s10_ i11_ n1 s17 n20 (w64 (i1_ - (2))) h18)
 else
 spec_l05First_C0 S K h
theorem spec_l05First_link0 (S : SatT) (K : KT) (X0 : XT) (i1_ : Int) (p3_ : Pt) (s8_ s9_ s10_ : Sl) (i11_ i12_ : Int) (h : H) : spec_l05First_w0 S K X0 (spec_l05First_e0 i1_ p3_ s8_ s9_ s10_ i11_ i12_) h = spec_l05First_b0 S K X0 i1_ p3_ s8_ s9_ s10_ i11_ i12_ h := by kernel_rfl
theorem spec_l05First_rule0 (S : SatT) (K : KT) (i1_ : Int) (p3_ : Pt) (s8_ s9_ s10_ : Sl) (i11_ : Int) (I_ : Int → H → Prop) (m_ : Int → H → Nat)
    (hs : ∀ (X0 : XT) (i12_ : Int) (h : H), I_ i12_ h → (∀ (i12_' : Int) (h' : H), I_ i12_' h' → m_ i12_' h' < m_ i12_ h → X0 (spec_l05First_e0 i1_ p3_ s8_ s9_ s10_ i11_ i12_') h') → spec_l05First_b0 S K X0 i1_ p3_ s8_ s9_ s10_ i11_ i12_ h) (i12_ : Int) {h : H} (h0 : I_ i12_ h) : spec_l05First_L0 S K i1_ p3_ s8_ s9_ s10_ i11_ i12_ h :=
  loop_rule (σ := (Int)) (fun s_ => spec_l05First_e0 i1_ p3_ s8_ s9_ s10_ i11_ (s_)) (fun s_ h => I_ (s_) h) (fun s_ h => m_ (s_) h)
    (fun X s_ h hi hx => (spec_l05First_link0 S K X i1_ p3_ s8_ s9_ s10_ i11_ (s_) h).mpr (hs X (s_) h hi fun i12_' h' hi' hm' => hx (i12_') h' hi' hm')) (i12_) h0
def spec_l05First_main (S : SatT) (K : KT) (x0 : List AVal) (x1 x2 : Int) (h : H) : Prop :=
 newK 2 x0 h fun p0 h1 =>
 ldA p0 2 h1 fun cs2 =>
 callV S i_spec_l05Words [.agg cs2, .int .i64 x2] h1 fun v4 h3 =>
 viaT v4 fun vs5 =>
 exS vs5 0 fun s6 =>
 viaT v4 fun vs7 =>
 exS vs7 1 fun s8 =>
 viaT v4 fun vs9 =>
 exS vs9 2 fun s10 =>
 isPt p0 (
 ldI .i64 (Pt.add p0 0) h3 fun n11 =>
 callI S .i64 i_spec_l03Power [.int .i64 n11, .int .i64 x2] h3 fun n13 h12 =>
 spec_l05First_L0 S K x1 p0 s6 s8 s10 n13 (0) h12)
theorem spec_l05First_main_link (S : SatT) (K : KT) (x0 : List AVal) (x1 x2 : Int) (h : H) : cwp S tab spec_l05First_M [] (bodyOf Tryz.f109) (kFun tab Tryz.f109.results.toList K) (fr0 Tryz.f109 [.agg x0, .int .i64 x1, .int .i64 x2]) h = spec_l05First_main S K x0 x1 x2 h := by kernel_rfl
theorem spec_l05First_call (x0 : List AVal) (x1 x2 : Int) (h : H) (K : KT) (hm : spec_l05First_main (Sat Tryz.prog) (fun v h' => K v h') x0 x1 x2 h) : callV (Sat Tryz.prog) i_spec_l05First [.agg x0, .int .i64 x1, .int .i64 x2] h K := by
  have := Sat.ex tok mixed spec_l05First_M Tryz.func109 (c := bodyOf Tryz.f109) (by kernel_rfl) (calls_of Tryz.func109 (c := bodyOf Tryz.f109) (by kernel_rfl) (by decide)) ((spec_l05First_main_link _ _ x0 x1 x2 h).mpr hm)
  exact this

/-! ### loop.example/g01354/spec.l01Good -/
def spec_l01Good_M : Nat → List Nat := fun i => bif i == 2 then [1, 2, 5, 6] else bif i == 0 then [1, 2, 5] else []
def spec_l01Good_ks1 (S : SatT) (K : KT) : Kont := kSeq (cwp S tab spec_l01Good_M [] (sub [1, 1] (bodyOf Tryz.f142)) (kFun tab (Tryz.f142).results.toList K)) (kFun tab (Tryz.f142).results.toList K)
def spec_l01Good_e0 (s1_ : Sl) (p2_ : Pt) (i5_ : Int) : Frame := [U, .sl s1_, .ptr p2_, U, U, .int .i64 i5_, U, U, U, U, U, U, U, U, U, U, U, U, U, U, U, U, U, U, U, U, U, U, U, U, U, U, U, U, U, U, U, U, U, U, U, U, U, U, U, U, U, U, U, U, U, U, U, U, U, U, U, U, U, U, U, U, U, U, U, U, U, U, U, U, U, U, U, U, U, U]
def spec_l01Good_w0 (S : SatT) (K : KT) : (XT) → XT := fun X fr h => cwp S tab spec_l01Good_M (spec_l01Good_M 0) (sub [1, 0, 1, 0, 0] (bodyOf Tryz.f142)) (kSeq (fun fr h => X (mask (spec_l01Good_M 0) fr) h) (kBlk 0 (spec_l01Good_ks1 S K))) fr h
def spec_l01Good_L0 (S : SatT) (K : KT) (s1_ : Sl) (p2_ : Pt) (i5_ : Int) (h : H) : Prop := loopK (spec_l01Good_w0 S K) (spec_l01Good_e0 s1_ p2_ i5_) h
def spec_l01Good_ks5 (S : SatT) (K : KT) (X0 : XT) : Kont := kSeq (cwp S tab spec_l01Good_M (spec_l01Good_M 0) (sub [1, 0, 1, 0, 0, 1, 1] (bodyOf Tryz.f142)) (kSeq (fun fr h => X0 (mask (spec_l01Good_M 0) fr) h) (kBlk 0 (spec_l01Good_ks1 S K)))) (kSeq (fun fr h => X0 (mask (spec_l01Good_M 0) fr) h) (kBlk 0 (spec_l01Good_ks1 S K)))
def spec_l01Good_e2 (s1_ : Sl) (p2_ : Pt) (i5_ i6_ : Int) : Frame := [U, .sl s1_, .ptr p2_, U, U, .int .i64 i5_, .int .i64 i6_, U, U, U, U, U, U, U, U, U, U, U, U, U, U, U, U, U, U, U, U, U, U, U, U, U, U, U, U, U, U, U, U, U, U, U, U, U, U, U, U, U, U, U, U, U, U, U, U, U, U, U, U, U, U, U, U, U, U, U, U, U, U, U, U, U, U, U, U, U]
def spec_l01Good_w2 (S : SatT) (K : KT) (X0 : XT) : (XT) → XT := fun X fr h => cwp S tab spec_l01Good_M (spec_l01Good_M 2) (sub [1, 0, 1, 0, 0, 1, 0, 0, 1, 0, 0] (bodyOf Tryz.f142)) (kSeq (fun fr h => X (mask (spec_l01Good_M 2) fr) h) (kBlk 2 (kBlk 1 (spec_l01Good_ks5 S K X0)))) fr h
def spec_l01Good_L2 (S : SatT) (K : KT) (X0 : XT) (s1_ : Sl) (p2_ : Pt) (i5_ i6_ : Int) (h : H) : Prop := loopK (spec_l01Good_w2 S K X0) (spec_l01Good_e2 s1_ p2_ i5_ i6_) h
def spec_l01Good_C1 (S : SatT) (K : KT) (X0 : XT) (s1_ : Sl) (p2_ : Pt) (i5_ : Int) (h : H) : Prop :=
 X0 (spec_l01Good_e0 s1_ p2_ (w64 (i5_ + (1)))) h
def spec_l01Good_C2 (S : SatT) (K : KT) (X0 : XT) (s1_ : Sl) (p2_ : Pt) (i5_ : Int) (h : H) : Prop :=
 spec_l01Good_C1 S K X0 s1_ p2_ i5_ h
def spec_l01Good_b2 (S : SatT) (K : KT) (X0 X2 : XT) (s1_ : Sl) (p2_ : Pt) (i5_ i6_ : Int) (h : H) : Prop :=
 ixS s1_ 1 i5_ fun p0 =>
 ldS p0 h fun s1 =>
 bif (decide (i6_ < (s1.len : Int))) then
 isPt p2_ (
 ldS (Pt.add p2_ 1) h fun s2 =>
 ixS s1_ 1 i5_ fun p3 =>
 ldS p3 h fun s4 =>
 ixS s4 1 i6_ fun p5 =>
 ldI .i64 p5 h fun n6 =>
 ixS s2 4 n6 fun p7 =>
 ldA p7 4 h fun cs8 =>
 newO [.int .i64 (0), .int .i64 (0), .int .i64 (0), .int .i64 (0)] h fun p9 h10 =>
(range h10 p7.o p7.n p7.off 4 = range h p7.o p7.n p7.off 4) ∧ (
(cell h10 p5 = cell h p5) ∧ (
(cell h10 p3 = cell h p3) ∧ (
(cell h10 (Pt.add p2_ 1) = cell h (Pt.add p2_ 1)) ∧ (
 stN p9 4 cs8 h10 fun h11 =>
 bif (decide (i6_ > (0))) then
 isPt p2_ (
 ldS (Pt.add p2_ 1) h11 fun s12 =>
 ixS s1_ 1 i5_ fun p13 =>
 ldS p13 h11 fun s14 =>
 ixS s14 1 (w64 (i6_ - (1))) fun p15 =>
 ldI .i64 p15 h11 fun n16 =>
 ixS s12 4 n16 fun p17 =>
 ixA p17 4 1 (2) fun p18 =>
 ldI .i64 p18 h11 fun n19 =>
 ixA p9 4 1 (0) fun p20 =>
 ldI .i64 p20 h11 fun n21 =>
 bif (n19 != n21) then
 K (.bool false) h11
 else
 bif (decide (i5_ > (0))) then
 isPt p2_ (
 ldS (Pt.add p2_ 1) h11 fun s22 =>
 ixS s1_ 1 (w64 (i5_ - (1))) fun p23 =>
 ldS p23 h11 fun s24 =>
 ixS s24 1 i6_ fun p25 =>
 ldI .i64 p25 h11 fun n26 =>
 ixS s22 4 n26 fun p27 =>
 ixA p27 4 1 (3) fun p28 =>
 ldI .i64 p28 h11 fun n29 =>
 ixA p9 4 1 (1) fun p30 =>
 ldI .i64 p30 h11 fun n31 =>
 bif (n29 != n31) then
 K (.bool false) h11
 else
 X2 (spec_l01Good_e2 s1_ p2_ i5_ (w64 (i6_ + (1)))) h11)
 else
 X2 (spec_l01Good_e2 s1_ p2_ i5_ (w64 (i6_ + (1)))) h11)
 else
 bif (decide (i5_ > (0))) then
 isPt p2_ (
 ldS (Pt.add p2_ 1) h11 fun s32 =>
 ixS s1_ 1 (w64 (i5_ - (1))) fun p33 =>
 ldS p33 h11 fun s34 =>
 ixS s34 1 i6_ fun p35 =>
 ldI .i64 p35 h11 fun n36 =>
 ixS s32 4 n36 fun p37 =>
 ixA p37 4 1 (3) fun p38 =>
 ldI .i64 p38 h11 fun n39 =>
 ixA p9 4 1 (1) fun p40 =>
 ldI .i64 p40 h11 fun n41 =>
 bif (n39 != n41) then
 K (.bool false) h11
 else
 X2 (spec_l01Good_e2 s1_ p2_ i5_ (w64 (i6_ + (1)))) h11)
 else
 X2 (spec_l01Good_e2 s1_ p2_ i5_ (w64 (i6_ + (1)))) h11)))))
 else
 spec_l01Good_C2 S K X0 s1_ p2_ i5_ h
theorem spec_l01Good_link2 (S : SatT) (K : KT) (X0 X2 : XT) (s1_ : Sl) (p2_ : Pt) (i5_ i6_ : Int) (h : H) : spec_l01Good_w2 S K X0 X2 (spec_l01Good_e2 s1_ p2_ i5_ i6_) h = spec_l01Good_b2 S K X0 X2 s1_ p2_ i5_ i6_ h := by kernel_rfl
theorem spec_l01Good_rule2 (S : SatT) (K : KT) (X0 : XT) (s1_ : Sl) (p2_ : Pt) (i5_ : Int) (I_ : Int → H → Prop) (m_ : Int → H → Nat)
    (hs : ∀ (X2 : XT) (i6_ : Int) (h : H), I_ i6_ h → (∀ (i6_' : Int) (h' : H), I_ i6_' h' → m_ i6_' h' < m_ i6_ h → X2 (spec_l01Good_e2 s1_ p2_ i5_ i6_') h') → spec_l01Good_b2 S K X0 X2 s1_ p2_ i5_ i6_ h) (i6_ : Int) {h : H} (h0 : I_ i6_ h) : spec_l01Good_L2 S K X0 s1_ p2_ i5_ i6_ h :=
  loop_rule (σ := (Int)) (fun s_ => spec_l01Good_e2 s1_ p2_ i5_ (s_)) (fun s_ h => I_ (s_) h) (fun s_ h => m_ (s_) h)
    (fun X s_ h hi hx => (spec_l01Good_link2 S K X0 X s1_ p2_ i5_ (s_) h).mpr (hs X (s_) h hi fun i6_' h' hi' hm' => hx (i6_') h' hi' hm')) (i6_) h0
def spec_l01Good_C0 (S : SatT) (K : KT) (h : H) : Prop :=
 K (.bool true) h
def spec_l01Good_b0 (S : SatT) (K : KT) (X0 : XT) (s1_ : Sl) (p2_ : Pt) (i5_ : Int) (h : H) : Prop :=
 bif (decide (i5_ < (s1_.len : Int))) then
 spec_l01Good_L2 S K X0 s1_ p2_ i5_ (0) h
 else
 spec_l01Good_C0 S K h
theorem spec_l01Good_link0 (S : SatT) (K : KT) (X0 : XT) (s1_ : Sl) (p2_ : Pt) (i5_ : Int) (h : H) : spec_l01Good_w0 S K X0 (spec_l01Good_e0 s1_ p2_ i5_) h = spec_l01Good_b0 S K X0 s1_ p2_ i5_ h := by kernel_rfl
theorem spec_l01Good_rule0 (S : SatT) (K : KT) (s1_ : Sl) (p2_ : Pt) (I_ : Int → H → Prop) (m_ : Int → H → Nat)
    (hs : ∀ (X0 : XT) (i5_ : Int) (h : H), I_ i5_ h → (∀ (i5_' : Int) (h' : H), I_ i5_' h' → m_ i5_' h' < m_ i5_ h → X0 (spec_l01Good_e0 s1_ p2_ i5_') h') → spec_l01Good_b0 S K X0 s1_ p2_ i5_ h) (i5_ : Int) {h : H} (h0 : I_ i5_ h) : spec_l01Good_L0 S K s1_ p2_ i5_ h :=
  loop_rule (σ := (Int)) (fun s_ => spec_l01Good_e0 s1_ p2_ (s_)) (fun s_ h => I_ (s_) h) (fun s_ h => m_ (s_) h)
    (fun X s_ h hi hx => (spec_l01Good_link0 S K X s1_ p2_ (s_) h).mpr (hs X (s_) h hi fun i5_' h' hi' hm' => hx (i5_') h' hi' hm')) (i5_) h0
def spec_l01Good_main (S : SatT) (K : KT) (x0 : List AVal) (x1 : Sl) (h : H) : Prop :=
 newK 2 x0 h fun p0 h1 =>
 spec_l01Good_L0 S K x1 p0 (0) h1
theorem spec_l01Good_main_link (S : SatT) (K : KT) (x0 : List AVal) (x1 : Sl) (h : H) : cwp S tab spec_l01Good_M [] (bodyOf Tryz.f142) (kFun tab Tryz.f142.results.toList K) (fr0 Tryz.f142 [.agg x0, .sl x1]) h = spec_l01Good_main S K x0 x1 h := by kernel_rfl
theorem spec_l01Good_call (x0 : List AVal) (x1 : Sl) (h : H) (K : Bool → H → Prop) (hm : spec_l01Good_main (Sat Tryz.prog) (fun v h' => ∃ r, v = .bool r ∧ K r h') x0 x1 h) : callB (Sat Tryz.prog) i_spec_l01Good [.agg x0, .sl x1] h K := by
  have := Sat.ex tok mixed spec_l01Good_M Tryz.func142 (c := bodyOf Tryz.f142) (by kernel_rfl) (calls_of Tryz.func142 (c := bodyOf Tryz.f142) (by kernel_rfl) (by decide)) ((spec_l01Good_main_link _ _ x0 x1 h).mpr hm)
  obtain ⟨v, h2, h3, r, rfl, h4⟩ := this; exact ⟨r, h2, h3, h4⟩

/-! ### (loop.example/g01354/impl.Set).areNumbers -/
def impl_Set_areNumbers_M : Nat → List Nat := fun i => bif i == 2 then [1, 2, 9, 10, 11, 15, 16, 17] else bif i == 0 then [1, 2, 9, 10, 11] else []
def impl_Set_areNumbers_ks1 (S : SatT) (K : KT) : Kont := kSeq (cwp S tab impl_Set_areNumbers_M [] (sub [1, 1] (bodyOf Tryz.f61)) (kFun tab (Tryz.f61).results.toList K)) (kFun tab (Tryz.f61).results.toList K)
def impl_Set_areNumbers_e0 (s1_ : Sl) (p2_ : Pt) (s9_ : Sl) (i10_ i11_ : Int) : Frame := [U, .sl s1_, .ptr p2_, U, U, U, U, U, U, .sl s9_, .int .i64 i10_, .int .i64 i11_, U, U, U, U, U, U, U, U, U, U, U, U, U, U, U, U, U]
def impl_Set_areNumbers_w0 (S : SatT) (K : KT) : (XT) → XT := fun X fr h => cwp S tab impl_Set_areNumbers_M (impl_Set_areNumbers_M 0) (sub [1, 0, 1, 0, 0] (bodyOf Tryz.f61)) (kSeq (fun fr h => X (mask (impl_Set_areNumbers_M 0) fr) h) (kBlk 0 (impl_Set_areNumbers_ks1 S K))) fr h
def impl_Set_areNumbers_L0 (S : SatT) (K : KT) (s1_ : Sl) (p2_ : Pt) (s9_ : Sl) (i10_ i11_ : Int) (h : H) : Prop := loopK (impl_Set_areNumbers_w0 S K) (impl_Set_areNumbers_e0 s1_ p2_ s9_ i10_ i11_) h
def impl_Set_areNumbers_ks5 (S : SatT) (K : KT) (X0 : XT) : Kont := kSeq (cwp S tab impl_Set_areNumbers_M (impl_Set_areNumbers_M 0) (sub [1, 0, 1, 0, 0, 1, 1, 1] (bodyOf Tryz.f61)) (kSeq (fun fr h => X0 (mask (impl_Set_areNumbers_M 0) fr) h) (kBlk 0 (impl_Set_areNumbers_ks1 S K)))) (kSeq (fun fr h => X0 (mask (impl_Set_areNumbers_M 0) fr) h) (kBlk 0 (impl_Set_areNumbers_ks1 S K)))
def impl_Set_areNumbers_e2 (s1_ : Sl) (p2_ : Pt) (s9_ : Sl) (i10_ i11_ : Int) (s15_ : Sl) (i16_ i17_ : Int) : Frame := [U, .sl s1_, .ptr p2_, U, U, U, U, U, U, .sl s9_, .int .i64 i10_, .int .i64 i11_, U, U, U, .sl s15_, .int .i64 i16_, .int .i64 i17_, U, U, U, U, U, U, U, U, U, U, U]
def impl_Set_areNumbers_w2 (S : SatT) (K : KT) (X0 : XT) : (XT) → XT := fun X fr h => cwp S tab impl_Set_areNumbers_M (impl_Set_areNumbers_M 2) (sub [1, 0, 1, 0, 0, 1, 1, 0, 0, 1, 1, 0, 0] (bodyOf Tryz.f61)) (kSeq (fun fr h => X (mask (impl_Set_areNumbers_M 2) fr) h) (kBlk 2 (kBlk 1 (impl_Set_areNumbers_ks5 S K X0)))) fr h
def impl_Set_areNumbers_L2 (S : SatT) (K : KT) (X0 : XT) (s1_ : Sl) (p2_ : Pt) (s9_ : Sl) (i10_ i11_ : Int) (s15_ : Sl) (i16_ i17_ : Int) (h : H) : Prop := loopK (impl_Set_areNumbers_w2 S K X0) (impl_Set_areNumbers_e2 s1_ p2_ s9_ i10_ i11_ s15_ i16_ i17_) h
def impl_Set_areNumbers_C1 (S : SatT) (K : KT) (X0 : XT) (s1_ : Sl) (p2_ : Pt) (s9_ : Sl) (i10_ i11_ : Int) (h : H) : Prop :=
 X0 (impl_Set_areNumbers_e0 s1_ p2_ s9_ i10_ (w64 (i11_ + (1)))) h
def impl_Set_areNumbers_C2 (S : SatT) (K : KT) (X0 : XT) (s1_ : Sl) (p2_ : Pt) (s9_ : Sl) (i10_ i11_ : Int) (h : H) : Prop :=
 impl_Set_areNumbers_C1 S K X0 s1_ p2_ s9_ i10_ i11_ h
def impl_Set_areNumbers_b2 (S : SatT) (K : KT) (X0 X2 : XT) (s1_ : Sl) (p2_ : Pt) (s9_ : Sl) (i10_ i11_ : Int) (s15_ : Sl) (i16_ i17_ : Int) (h : H) : Prop :=
 bif (decide (i17_ < i16_)) then
 ixS s15_ 1 i17_ fun p0 =>
 ldI .i64 p0 h fun n1 =>
 ldA p2_ 2 h fun cs2 =>
 callB S i_impl_Set_isNumber [.agg cs2, .int .i64 n1] h fun b4 h3 =>
 bif (!b4) then
 K (.bool false) h3
 else
 X2 (impl_Set_areNumbers_e2 s1_ p2_ s9_ i10_ i11_ s15_ i16_ (w64 (i17_ + (1)))) h3
 else
 impl_Set_areNumbers_C2 S K X0 s1_ p2_ s9_ i10_ i11_ h
theorem impl_Set_areNumbers_link2 (S : SatT) (K : KT) (X0 X2 : XT) (s1_ : Sl) (p2_ : Pt) (s9_ : Sl) (i10_ i11_ : Int) (s15_ : Sl) (i16_ i17_ : Int) (h : H) : impl_Set_areNumbers_w2 S K X0 X2 (impl_Set_areNumbers_e2 s1_ p2_ s9_ i10_ i11_ s15_ i16_ i17_) h = impl_Set_areNumbers_b2 S K X0 X2 s1_ p2_ s9_ i10_ i11_ s15_ i16_ i17_ h := by kernel_rfl
theorem impl_Set_areNumbers_rule2 (S : SatT) (K : KT) (X0 : XT) (s1_ : Sl) (p2_ : Pt) (s9_ : Sl) (i10_ i11_ : Int) (s15_ : Sl) (i16_ : Int) (I_ : Int → H → Prop) (m_ : Int → H → Nat)
    (hs : ∀ (X2 : XT) (i17_ : Int) (h : H), I_ i17_ h → (∀ (i17_' : Int) (h' : H), I_ i17_' h' → m_ i17_' h' < m_ i17_ h → X2 (impl_Set_areNumbers_e2 s1_ p2_ s9_ i10_ i11_ s15_ i16_ i17_') h') → impl_Set_areNumbers_b2 S K X0 X2 s1_ p2_ s9_ i10_ i11_ s15_ i16_ i17_ h) (i17_ : Int) {h : H} (h0 : I_ i17_ h) : impl_Set_areNumbers_L2 S K X0 s1_ p2_ s9_ i10_ i11_ s15_ i16_ i17_ h :=
  loop_rule (σ := (Int)) (fun s_ => impl_Set_areNumbers_e2 s1_ p2_ s9_ i10_ i11_ s15_ i16_ (s_)) (fun s_ h => I_ (s_) h) (fun s_ h => m_ (s_) h)
    (fun X s_ h hi hx => (impl_Set_areNumbers_link2 S K X0 X s1_ p2_ s9_ i10_ i11_ s15_ i16_ (s_) h).mpr (hs X (s_) h hi fun i17_' h' hi' hm' => hx (i17_') h' hi' hm')) (i17_) h0
def impl_Set_areNumbers_C0 (S : SatT) (K : KT) (s1_ : Sl) (h : H) : Prop :=
 callB S i_impl_isTable [.sl s1_, .int .i64 (8)] h fun b1 h0 =>
 K (.bool b1) h0
def impl_Set_areNumbers_b0 (S : SatT) (K : KT) (X0 : XT) (s1_ : Sl) (p2_ : Pt) (s9_ : Sl) (i10_ i11_ : Int) (h : H) : Prop :=
 bif (decide (i11_ < i10_)) then
 ixS s9_ 1 i11_ fun p0 =>
 ldS p0 h fun s1 =>
 impl_Set_areNumbers_L2 S K X0 s1_ p2_ s9_ i10_ i11_ s1 (s1.len : Int) (0) h
 else
 impl_Set_areNumbers_C0 S K s1_ h
theorem impl_Set_areNumbers_link0 (S : SatT) (K : KT) (X0 : XT) (s1_ : Sl) (p2_ : Pt) (s9_ : Sl) (i10_ i11_ : Int) (h : H) : impl_Set_areNumbers_w0 S K X0 (impl_Set_areNumbers_e0 s1_ p2_ s9_ i10_ i11_) h = impl_Set_areNumbers_b0 S K X0 s1_ p2_ s9_ i10_ i11_ h := by kernel_rfl
theorem impl_Set_areNumbers_rule0 (S : SatT) (K : KT) (s1_ : Sl) (p2_ : Pt) (s9_ : Sl) (i10_ : Int) (I_ : Int → H → Prop) (m_ : Int → H → Nat)
    (hs : ∀ (X0 : XT) (i11_ : Int) (h : H), I_ i11_ h → (∀ (i11_' : Int) (h' : H), I_ i11_' h' → m_ i11_' h' < m_ i11_ h → X0 (impl_Set_areNumbers_e0 s1_ p2_ s9_ i10_ i11_') h') → impl_Set_areNumbers_b0 S K X0 s1_ p2_ s9_ i10_ i11_ h) (i11_ : Int) {h : H} (h0 : I_ i11_ h) : impl_Set_areNumbers_L0 S K s1_ p2_ s9_ i10_ i11_ h :=
  loop_rule (σ := (Int)) (fun s_ => impl_Set_areNumbers_e0 s1_ p2_ s9_ i10_ (s_)) (fun s_ h => I_ (s_) h) (fun s_ h => m_ (s_) h)
    (fun X s_ h hi hx => (impl_Set_areNumbers_link0 S K X s1_ p2_ s9_ i10_ (s_) h).mpr (hs X (s_) h hi fun i11_' h' hi' hm' => hx (i11_') h' hi' hm')) (i11_) h0
def impl_Set_areNumbers_main (S : SatT) (K : KT) (x0 : List AVal) (x1 : Sl) (h : H) : Prop :=
 newK 2 x0 h fun p0 h1 =>
 impl_Set_areNumbers_L0 S K x1 p0 x1 (x1.len : Int) (0) h1
theorem impl_Set_areNumbers_main_link (S : SatT) (K : KT) (x0 : List AVal) (x1 : Sl) (h : H) : cwp S tab impl_Set_areNumbers_M [] (bodyOf Tryz.f61) (kFun tab Tryz.f61.results.toList K) (fr0 Tryz.f61 [.agg x0, .sl x1]) h = impl_Set_areNumbers_main S K x0 x1 h := by kernel_rfl
theorem impl_Set_areNumbers_call (x0 : List AVal) (x1 : Sl) (h : H) (K : Bool → H → Prop) (hm : impl_Set_areNumbers_main (Sat Tryz.prog) (fun v h' => ∃ r, v = .bool r ∧ K r h') x0 x1 h) : callB (Sat Tryz.prog) i_impl_Set_areNumbers [.agg x0, .sl x1] h K := by
  have := Sat.ex tok mixed impl_Set_areNumbers_M Tryz.func61 (c := bodyOf Tryz.f61) (by kernel_rfl) (calls_of Tryz.func61 (c := bodyOf Tryz.f61) (by kernel_rfl) (by decide)) ((impl_Set_areNumbers_main_link _ _ x0 x1 h).mpr hm)
  obtain ⟨v, h2, h3, r, rfl, h4⟩ := this; exact ⟨r, h2, h3, h4⟩

/-! ### loop.example/g01354/impl.shifts -/
def impl_shifts_M : Nat → List Nat := fun i => bif i == 2 then [0, 1, 4, 7, 8, 14, 15] else bif i == 0 then [0, 1, 7, 8] else []
def impl_shifts_e0 (s0_ : Sl) (f1_ : AVal) (i7_ i8_ : Int) : Frame := [.sl s0_, f1_, U, U, U, U, U, .int .i64 i7_, .int .i64 i8_, U, U, U, U, U, U, U, U, U, U, U, U, U, U, U, U, U, U, U]
def impl_shifts_w0 (S : SatT) (K : KT) : (XT) → XT := fun X fr h => cwp S tab impl_shifts_M (impl_shifts_M 0) (sub [1, 0, 0] (bodyOf Tryz.f115)) (kSeq (fun fr h => X (mask (impl_shifts_M 0) fr) h) (kBlk 0 (kFun tab (Tryz.f115).results.toList K))) fr h
def impl_shifts_L0 (S : SatT) (K : KT) (s0_ : Sl) (f1_ : AVal) (i7_ i8_ : Int) (h : H) : Prop := loopK (impl_shifts_w0 S K) (impl_shifts_e0 s0_ f1_ i7_ i8_) h
def impl_shifts_ks3 (S : SatT) (K : KT) (X0 : XT) : Kont := kSeq (cwp S tab impl_shifts_M (impl_shifts_M 0) (sub [1, 0, 0, 1, 1, 1] (bodyOf Tryz.f115)) (kSeq (fun fr h => X0 (mask (impl_shifts_M 0) fr) h) (kBlk 0 (kFun tab (Tryz.f115).results.toList K)))) (kSeq (fun fr h => X0 (mask (impl_shifts_M 0) fr) h) (kBlk 0 (kFun tab (Tryz.f115).results.toList K)))
def impl_shifts_e2 (s0_ : Sl) (f1_ : AVal) (i4_ i7_ : Int) (i8_ i14_ i15_ : Int) : Frame := [.sl s0_, f1_, U, U, .int .i64 i4_, U, U, .int .i64 i7_, .int .i64 i8_, U, U, U, U, U, .int .i64 i14_, .int .i64 i15_, U, U, U, U, U, U, U, U, U, U, U, U]
def impl_shifts_w2 (S : SatT) (K : KT) (X0 : XT) : (XT) → XT := fun X fr h => cwp S tab impl_shifts_M (impl_shifts_M 2) (sub [1, 0, 0, 1, 1, 0, 0, 1, 1, 0, 0] (bodyOf Tryz.f115)) (kSeq (fun fr h => X (mask (impl_shifts_M 2) fr) h) (kBlk 2 (kBlk 1 (impl_shifts_ks3 S K X0)))) fr h
def impl_shifts_L2 (S : SatT) (K : KT) (X0 : XT) (s0_ : Sl) (f1_ : AVal) (i4_ i7_ : Int) (i8_ i14_ i15_ : Int) (h : H) : Prop := loopK (impl_shifts_w2 S K X0) (impl_shifts_e2 s0_ f1_ i4_ i7_ i8_ i14_ i15_) h
def impl_shifts_C1 (S : SatT) (K : KT) (X0 : XT) (s0_ : Sl) (f1_ : AVal) (i7_ i8_ : Int) (h : H) : Prop :=
 X0 (impl_shifts_e0 s0_ f1_ i7_ (w64 (i8_ + (1)))) h
def impl_shifts_C2 (S : SatT) (K : KT) (X0 : XT) (s0_ : Sl) (f1_ : AVal) (i7_ i8_ : Int) (h : H) : Prop :=
 impl_shifts_C1 S K X0 s0_ f1_ i7_ i8_ h
def impl_shifts_b2 (S : SatT) (K : KT) (X0 X2 : XT) (s0_ : Sl) (f1_ : AVal) (i4_ i7_ : Int) (i8_ i14_ i15_ : Int) (h : H) : Prop :=
 bif (decide (i15_ < i14_)) then
 callS S i_impl_shifted [.sl s0_, .int .i64 i4_, .int .i64 i15_] h fun s1 h0 =>
 viaF f1_ [.int .i64 i4_, .int .i64 i15_, .sl s1] fun g2 ys3 =>
 callV S g2 ys3 h0 fun v5 h4 =>
 X2 (impl_shifts_e2 s0_ f1_ i4_ i7_ i8_ i14_ (w64 (i15_ + (1)))) h4
 else
 impl_shifts_C2 S K X0 s0_ f1_ i7_ i8_ h
theorem impl_shifts_link2 (S : SatT) (K : KT) (X0 X2 : XT) (s0_ : Sl) (f1_ : AVal) (i4_ i7_ : Int) (i8_ i14_ i15_ : Int) (h : H) : impl_shifts_w2 S K X0 X2 (impl_shifts_e2 s0_ f1_ i4_ i7_ i8_ i14_ i15_) h = impl_shifts_b2 S K X0 X2 s0_ f1_ i4_ i7_ i8_ i14_ i15_ h := by kernel_rfl
theorem impl_shifts_rule2 (S : SatT) (K : KT) (X0 : XT) (s0_ : Sl) (f1_ : AVal) (i4_ i7_ : Int) (i8_ i14_ : Int) (I_ : Int → H → Prop) (m_ : Int → H → Nat)
    (hs : ∀ (X2 : XT) (i15_ : Int) (h : H), I_ i15_ h → (∀ (i15_' : Int) (h' : H), I_ i15_' h' → m_ i15_' h' < m_ i15_ h → X2 (impl_shifts_e2 s0_ f1_ i4_ i7_ i8_ i14_ i15_') h') → impl_shifts_b2 S K X0 X2 s0_ f1_ i4_ i7_ i8_ i14_ i15_ h) (i15_ : Int) {h : H} (h0 : I_ i15_ h) : impl_shifts_L2 S K X0 s0_ f1_ i4_ i7_ i8_ i14_ i15_ h :=
  loop_rule (σ := (Int)) (fun s_ => impl_shifts_e2 s0_ f1_ i4_ i7_ i8_ i14_ (s_)) (fun s_ h => I_ (s_) h) (fun s_ h => m_ (s_) h)
    (fun X s_ h hi hx => (impl_shifts_link2 S K X0 X s0_ f1_ i4_ i7_ i8_ i14_ (s_) h).mpr (hs X (s_) h hi fun i15_' h' hi' hm' => hx (i15_') h' hi' hm')) (i15_) h0
def impl_shifts_b0 (S : SatT) (K : KT) (X0 : XT) (s0_ : Sl) (f1_ : AVal) (i7_ i8_ : Int) (h : H) : Prop :=
 bif (decide (i8_ < i7_)) then
 ixS s0_ 1 (0) fun p0 =>
 ldS p0 h fun s1 =>
 impl_shifts_L2 S K X0 s0_ f1_ i8_ i7_ i8_ (s1.len : Int) (0) h
 else
 K (.tuple []) h
theorem impl_shifts_link0 (S : SatT) (K : KT) (X0 : XT) (s0_ : Sl) (f1_ : AVal) (i7_ i8_ : Int) (h : H) : impl_shifts_w0 S K X0 (impl_shifts_e0 s0_ f1_ i7_ i8_) h = impl_shifts_b0 S K X0 s0_ f1_ i7_ i8_ h := by kernel_rfl
theorem impl_shifts_rule0 (S : SatT) (K : KT) (s0_ : Sl) (f1_ : AVal) (i7_ : Int) (I_ : Int → H → Prop) (m_ : Int → H → Nat)
    (hs : ∀ (X0 : XT) (i8_ : Int) (h : H), I_ i8_ h → (∀ (i8_' : Int) (h' : H), I_ i8_' h' → m_ i8_' h' < m_ i8_ h → X0 (impl_shifts_e0 s0_ f1_ i7_ i8_') h') → impl_shifts_b0 S K X0 s0_ f1_ i7_ i8_ h) (i8_ : Int) {h : H} (h0 : I_ i8_ h) : impl_shifts_L0 S K s0_ f1_ i7_ i8_ h :=
  loop_rule (σ := (Int)) (fun s_ => impl_shifts_e0 s0_ f1_ i7_ (s_)) (fun s_ h => I_ (s_) h) (fun s_ h => m_ (s_) h)
    (fun X s_ h hi hx => (impl_shifts_link0 S K X s0_ f1_ i7_ (s_) h).mpr (hs X (s_) h hi fun i8_' h' hi' hm' => hx (i8_') h' hi' hm')) (i8_) h0
def impl_shifts_main (S : SatT) (K : KT) (x0 : Sl) (x1 : AVal) (h : H) : Prop :=
 impl_shifts_L0 S K x0 x1 (x0.len : Int) (0) h
theorem impl_shifts_main_link (S : SatT) (K : KT) (x0 : Sl) (x1 : AVal) (h : H) : cwp S tab impl_shifts_M [] (bodyOf Tryz.f115) (kFun tab Tryz.f115.results.toList K) (fr0 Tryz.f115 [.sl x0, x1]) h = impl_shifts_main S K x0 x1 h := by kernel_rfl
theorem impl_shifts_call (x0 : Sl) (x1 : AVal) (h : H) (K : KT) (hm : impl_shifts_main (Sat Tryz.prog) (fun v h' => K v h') x0 x1 h) : callV (Sat Tryz.prog) i_impl_shifts [.sl x0, x1] h K := by
  have := Sat.ex tok mixed impl_shifts_M Tryz.func115 (c := bodyOf Tryz.f115) (by kernel_rfl) (calls_of Tryz.func115 (c := bodyOf Tryz.f115) (by kernel_rfl) (by decide)) ((impl_shifts_main_link _ _ x0 x1 h).mpr hm)
  exact this

/-! ### loop.example/g01354/spec.l05Rounds -/
def spec_l05Rounds_M : Nat → List Nat := fun i => bif i == 0 then [1, 2, 3, 7, 8, 9] else []
def spec_l05Rounds_ks9 (S : SatT) (K : KT) : Kont := kSeq (cwp S tab spec_l05Rounds_M [] (sub [1, 1, 1, 1, 1] (bodyOf Tryz.f124)) (kFun tab (Tryz.f124).results.toList K)) (kFun tab (Tryz.f124).results.toList K)
def spec_l05Rounds_e0 (s1_ : Sl) (i2_ : Int) (p3_ : Pt) (i7_ : Int) (s8_ : Sl) (i9_ : Int) : Frame := [U, .sl s1_, .int .i64 i2_, .ptr p3_, U, U, U, .int .i64 i7_, .sl s8_, .int .i64 i9_, U, U, U, U, U, U, U, U, U, U, U, U, U, U, U, U, U, U, U, U, U, U, U, U, U, U, U, U, U, U, U, U, U, U, U, U, U, U, U, U, U, U, U, U, U, U, U, U, U, U, U, U, U, U, U, U, U, U, U, U, U, U, U, U, U, U, U]
def spec_l05Rounds_w0 (S : SatT) (K : KT) : (XT) → XT := fun X fr h => cwp S tab spec_l05Rounds_M (spec_l05Rounds_M 0) (sub [1, 1, 1, 1, 0, 1, 0, 0] (bodyOf Tryz.f124)) (kSeq (fun fr h => X (mask (spec_l05Rounds_M 0) fr) h) (kBlk 0 (spec_l05Rounds_ks9 S K))) fr h
def spec_l05Rounds_L0 (S : SatT) (K : KT) (s1_ : Sl) (i2_ : Int) (p3_ : Pt) (i7_ : Int) (s8_ : Sl) (i9_ : Int) (h : H) : Prop := loopK (spec_l05Rounds_w0 S K) (spec_l05Rounds_e0 s1_ i2_ p3_ i7_ s8_ i9_) h
def spec_l05Rounds_C0 (S : SatT) (K : KT) (s8_ : Sl) (h : H) : Prop :=
 K (.sl s8_) h
def spec_l05Rounds_b0 (S : SatT) (K : KT) (X0 : XT) (s1_ : Sl) (i2_ : Int) (p3_ : Pt) (i7_ : Int) (s8_ : Sl) (i9_ : Int) (h : H) : Prop :=
 isPt p3_ (
 ldS (Pt.add p3_ 1) h fun s0 =>
 bif (decide (i9_ < (s0.len : Int))) then
 bif (i7_ == (0)) then
 slotK 11 h fun h1 =>
 ldA p3_ 2 h1 fun cs2 =>
 callS S i_spec_l01Own [.sl s1_] h1 fun s4 h3 =>
(range h3 p3_.o p3_.n p3_.off 2 = range h1 p3_.o p3_.n p3_.off 2) ∧ (
 newSat 1 1 [.int .i64 i9_] h3 (h.length + 5) fun s5 h6 =>
(range h6 p3_.o p3_.n p3_.off 2 = range h1 p3_.o p3_.n p3_.off 2) ∧ (
 app s4 s5 1 h6 fun s7 h8 =>
(range h8 p3_.o p3_.n p3_.off 2 = range h1 p3_.o p3_.n p3_.off 2) ∧ (
 callS S i_spec_l05Rounds [.agg cs2, .sl s7, .int .i64 i2_] h8 fun s10 h9 =>
 app s8_ s10 1 h9 fun s11 h12 =>
 X0 (spec_l05Rounds_e0 s1_ i2_ p3_ i7_ s11 (w64 (i9_ + (1)))) h12)))
 else
 isPt p3_ (
 ldS (Pt.add p3_ 1) h fun s13 =>
 ixS s1_ 1 (w64 (i7_ - (1))) fun p14 =>
 ldI .i64 p14 h fun n15 =>
 ixS s13 4 n15 fun p16 =>
 ixA p16 4 1 (2) fun p17 =>
 ldI .i64 p17 h fun n18 =>
 isPt p3_ (
 ldS (Pt.add p3_ 1) h fun s19 =>
 ixS s19 4 i9_ fun p20 =>
 ixA p20 4 1 (0) fun p21 =>
 ldI .i64 p21 h fun n22 =>
 bif (n18 == n22) then
 slotK 11 h fun h23 =>
 ldA p3_ 2 h23 fun cs24 =>
 callS S i_spec_l01Own [.sl s1_] h23 fun s26 h25 =>
(range h25 p3_.o p3_.n p3_.off 2 = range h23 p3_.o p3_.n p3_.off 2) ∧ (
 newSat 1 1 [.int .i64 i9_] h25 (h.length + 5) fun s27 h28 =>
(range h28 p3_.o p3_.n p3_.off 2 = range h23 p3_.o p3_.n p3_.off 2) ∧ (
 app s26 s27 1 h28 fun s29 h30 =>
(range h30 p3_.o p3_.n p3_.off 2 = range h23 p3_.o p3_.n p3_.off 2) ∧ (
 callS S i_spec_l05Rounds [.agg cs24, .sl s29, .int .i64 i2_] h30 fun s32 h31 =>
 app s8_ s32 1 h31 fun s33 h34 =>
 X0 (spec_l05Rounds_e0 s1_ i2_ p3_ i7_ s33 (w64 (i9_ + (1)))) h34)))
 else
 X0 (spec_l05Rounds_e0 s1_ i2_ p3_ i7_ s8_ (w64 (i9_ + (1)))) h))
 else
 spec_l05Rounds_C0 S K s8_ h)
theorem spec_l05Rounds_link0 (S : SatT) (K : KT) (X0 : XT) (s1_ : Sl) (i2_ : Int) (p3_ : Pt) (i7_ : Int) (s8_ : Sl) (i9_ : Int) (h : H) : spec_l05Rounds_w0 S K X0 (spec_l05Rounds_e0 s1_ i2_ p3_ i7_ s8_ i9_) h = spec_l05Rounds_b0 S K X0 s1_ i2_ p3_ i7_ s8_ i9_ h := by kernel_rfl
theorem spec_l05Rounds_rule0 (S : SatT) (K : KT) (s1_ : Sl) (i2_ : Int) (p3_ : Pt) (i7_ : Int) (I_ : Sl → Int → H → Prop) (m_ : Sl → Int → H → Nat)
    (hs : ∀ (X0 : XT) (s8_ : Sl) (i9_ : Int) (h : H), I_ s8_ i9_ h → (∀ (s8_' : Sl) (i9_' : Int) (h' : H), I_ s8_' i9_' h' → m_ s8_' i9_' h' < m_ s8_ i9_ h → X0 (spec_l05Rounds_e0 s1_ i2_ p3_ i7_ s8_' i9_') h') → spec_l05Rounds_b0 S K X0 s1_ i2_ p3_ i7_ s8_ i9_ h) (s8_ : Sl) (i9_ : Int) {h : H} (h0 : I_ s8_ i9_ h) : spec_l05Rounds_L0 S K s1_ i2_ p3_ i7_ s8_ i9_ h :=
  loop_rule (σ := (Sl) × (Int)) (fun s_ => spec_l05Rounds_e0 s1_ i2_ p3_ i7_ (s_.1) (s_.2)) (fun s_ h => I_ (s_.1) (s_.2) h) (fun s_ h => m_ (s_.1) (s_.2) h)
    (fun X s_ h hi hx => (spec_l05Rounds_link0 S K X s1_ i2_ p3_ i7_ (s_.1) (s_.2) h).mpr (hs X (s_.1) (s_.2) h hi fun s8_' i9_' h' hi' hm' => hx (s8_', i9_') h' hi' hm')) (s8_, i9_) h0
def spec_l05Rounds_main (S : SatT) (K : KT) (x0 : List AVal) (x1 : Sl) (x2 : Int) (h : H) : Prop :=
 newK 2 x0 h fun p0 h1 =>
 bif ((x1.len : Int) == x2) then
 isPt p0 (
 ldS (Pt.add p0 1) h1 fun s2 =>
 ixS x1 1 (w64 ((x1.len : Int) - (1))) fun p3 =>
 ldI .i64 p3 h1 fun n4 =>
 ixS s2 4 n4 fun p5 =>
 ixA p5 4 1 (2) fun p6 =>
 ldI .i64 p6 h1 fun n7 =>
 isPt p0 (
 ldS (Pt.add p0 1) h1 fun s8 =>
 ixS x1 1 (0) fun p9 =>
 ldI .i64 p9 h1 fun n10 =>
 ixS s8 4 n10 fun p11 =>
 ixA p11 4 1 (0) fun p12 =>
 ldI .i64 p12 h1 fun n13 =>
 bif (n7 == n13) then
 newS 1 1 [.sl x1] h1 fun s14 h15 =>
 K (.sl s14) h15
 else
 newS 0 1 [] h1 fun s16 h17 =>
 K (.sl s16) h17))
 else
 newS 0 1 [] h1 fun s18 h19 =>
 spec_l05Rounds_L0 S K x1 x2 p0 (x1.len : Int) s18 (0) h19
theorem spec_l05Rounds_main_link (S : SatT) (K : KT) (x0 : List AVal) (x1 : Sl) (x2 : Int) (h : H) : cwp S tab spec_l05Rounds_M [] (bodyOf Tryz.f124) (kFun tab Tryz.f124.results.toList K) (fr0 Tryz.f124 [.agg x0, .sl x1, .int .i64 x2]) h = spec_l05Rounds_main S K x0 x1 x2 h := by kernel_rfl
theorem spec_l05Rounds_call (x0 : List AVal) (x1 : Sl) (x2 : Int) (h : H) (K : Sl → H → Prop) (hm : spec_l05Rounds_main (Sat Tryz.prog) (fun v h' => ∃ r, v = .sl r ∧ K r h') x0 x1 x2 h) : callS (Sat Tryz.prog) i_spec_l05Rounds [.agg x0, .sl x1, .int .i64 x2] h K := by
  have := Sat.ex tok mixed spec_l05Rounds_M Tryz.func124 (c := bodyOf Tryz.f124) (by kernel_rfl) (calls_of Tryz.func124 (c := bodyOf Tryz.f124) (by kernel_rfl) (by decide)) ((spec_l05Rounds_main_link _ _ x0 x1 x2 h).mpr hm)
  obtain ⟨v, h2, h3, r, rfl, h4⟩ := this; exact ⟨r, h2, h3, h4⟩

/-! ### loop.example/g01354/spec.l01Draw -/
def spec_l01Draw_M : Nat → List Nat := fun i => []
def spec_l01Draw_main (S : SatT) (K : KT) (x0 : Pt) (h : H) : Prop :=
 newO [.int .i64 (0), .sl Sl.nil] h fun p0 h1 =>
 callI S .i64 i_spec_l01Next [.ptr x0, .int .i64 (4)] h1 fun n3 h2 =>
 bif (n3 == (0)) then
 bif (n3 == (0)) then
 callA S i_spec_l01Small [.ptr x0] h2 fun cs5 h4 =>
 stN p0 2 cs5 h4 fun h6 =>
 ldA p0 2 h6 fun cs7 =>
 K (.agg cs7) h6
 else
 bif (n3 == (2)) then
 newS 3 1 [.int .i64 (2), .int .i64 (3), .int .i64 (4)] h2 fun s8 h9 =>
 callI S .i64 i_spec_l01Pick [.ptr x0, .sl s8] h9 fun n11 h10 =>
 callI S .i64 i_spec_l01Next [.ptr x0, .int .i64 (10)] h10 fun n13 h12 =>
 callA S i_spec_l01DrawOf [.ptr x0, .int .i64 n11, .int .i64 n13] h12 fun cs15 h14 =>
 newO [.int .i64 (0), .sl Sl.nil] h14 fun p16 h17 =>
 stN p16 2 cs15 h17 fun h18 =>
 isPt p16 (
 ldI .i64 (Pt.add p16 0) h18 fun n19 =>
 callI S .i64 i_spec_l01Next [.ptr x0, .int .i64 n19] h18 fun n21 h20 =>
 isPt p16 (
 ldI .i64 (Pt.add p16 0) h20 fun n22 =>
(cell h18 (Pt.add p16 0) = cell h20 (Pt.add p16 0)) ∧ (
 callI S .i64 i_spec_l01Next [.ptr x0, .int .i64 n22] h20 fun n24 h23 =>
 slotK 15 h23 fun h25 =>
 isPt p16 (
 ldI .i64 (Pt.add p16 0) h25 fun n26 =>
 isPt p16 (
 ldS (Pt.add p16 1) h25 fun s27 =>
 newSat 0 4 [] h25 (h23.length + 2) fun s28 h29 =>
(cell h29 (Pt.add p16 1) = cell h25 (Pt.add p16 1)) ∧ (
(cell h29 (Pt.add p16 0) = cell h25 (Pt.add p16 0)) ∧ (
 app s28 s27 4 h29 fun s30 h31 =>
(cell h31 (Pt.add p16 0) = cell h25 (Pt.add p16 0)) ∧ (
 lenA [.int .i64 n21, .int .i64 n24, .int .i64 n21, .int .i64 n24] 4 (
 newSat 1 4 (spl [.int .i64 (0), .int .i64 (0), .int .i64 (0), .int .i64 (0)] 0 4 [.int .i64 n21, .int .i64 n24, .int .i64 n21, .int .i64 n24]) h31 (h23.length + 11) fun s32 h33 =>
(cell h31 (Pt.add p16 1) = cell h25 (Pt.add p16 1)) ∧ (
(cell h33 (Pt.add p16 1) = cell h25 (Pt.add p16 1)) ∧ (
(cell h33 (Pt.add p16 0) = cell h25 (Pt.add p16 0)) ∧ (
 app s30 s32 4 h33 fun s34 h35 =>
(cell h35 (Pt.add p16 0) = cell h25 (Pt.add p16 0)) ∧ (
 callA S i_spec_l01Made [.int .i64 n26, .sl s34] h35 fun cs37 h36 =>
 stN p0 2 cs37 h36 fun h38 =>
 ldA p0 2 h38 fun cs39 =>
 K (.agg cs39) h38)))))))))))))
 else
 callI S .i64 i_spec_l01Next [.ptr x0, .int .i64 (6)] h2 fun n41 h40 =>
 callI S .i64 i_spec_l01Next [.ptr x0, .int .i64 (17)] h40 fun n43 h42 =>
 callA S i_spec_l01DrawOf [.ptr x0, .int .i64 (w64 ((1) + n41)), .int .i64 n43] h42 fun cs45 h44 =>
 stN p0 2 cs45 h44 fun h46 =>
 ldA p0 2 h46 fun cs47 =>
 K (.agg cs47) h46
 else
 bif (n3 == (1)) then
 callA S i_spec_l01Small [.ptr x0] h2 fun cs49 h48 =>
 stN p0 2 cs49 h48 fun h50 =>
 ldA p0 2 h50 fun cs51 =>
 K (.agg cs51) h50
 else
 bif (n3 == (2)) then
 newS 3 1 [.int .i64 (2), .int .i64 (3), .int .i64 (4)] h2 fun s52 h53 =>
 callI S .i64 i_spec_l01Pick [.ptr x0, .sl s52] h53 fun n55 h54 =>
 callI S .i64 i_spec_l01Next [.ptr x0, .int .i64 (10)] h54 fun n57 h56 =>
 callA S i_spec_l01DrawOf [.ptr x0, .int .i64 n55, .int .i64 n57] h56 fun cs59 h58 =>
 newO [.int .i64 (0), .sl Sl.nil] h58 fun p60 h61 =>
 stN p60 2 cs59 h61 fun h62 =>
 isPt p60 (
 ldI .i64 (Pt.add p60 0) h62 fun n63 =>
 callI S .i64 i_spec_l01Next [.ptr x0, .int .i64 n63] h62 fun n65 h64 =>
 isPt p60 (
 ldI .i64 (Pt.add p60 0) h64 fun n66 =>
(cell h62 (Pt.add p60 0) = cell h64 (Pt.add p60 0)) ∧ (
 callI S .i64 i_spec_l01Next [.ptr x0, .int .i64 n66] h64 fun n68 h67 =>
 slotK 15 h67 fun h69 =>
 isPt p60 (
 ldI .i64 (Pt.add p60 0) h69 fun n70 =>
 isPt p60 (
 ldS (Pt.add p60 1) h69 fun s71 =>
 newSat 0 4 [] h69 (h67.length + 2) fun s72 h73 =>
(cell h73 (Pt.add p60 1) = cell h69 (Pt.add p60 1)) ∧ (
(cell h73 (Pt.add p60 0) = cell h69 (Pt.add p60 0)) ∧ (
 app s72 s71 4 h73 fun s74 h75 =>
(cell h75 (Pt.add p60 0) = cell h69 (Pt.add p60 0)) ∧ (
 lenA [.int .i64 n65, .int .i64 n68, .int .i64 n65, .int .i64 n68] 4 (
 newSat 1 4 (spl [.int .i64 (0), .int .i64 (0), .int .i64 (0), .int .i64 (0)] 0 4 [.int .i64 n65, .int .i64 n68, .int .i64 n65, .int .i64 n68]) h75 (h67.length + 11) fun s76 h77 =>
(cell h75 (Pt.add p60 1) = cell h69 (Pt.add p60 1)) ∧ (
(cell h77 (Pt.add p60 1) = cell h69 (Pt.add p60 1)) ∧ (
(cell h77 (Pt.add p60 0) = cell h69 (Pt.add p60 0)) ∧ (
 app s74 s76 4 h77 fun s78 h79 =>
(cell h79 (Pt.add p60 0) = cell h69 (Pt.add p60 0)) ∧ (
 callA S i_spec_l01Made [.int .i64 n70, .sl s78] h79 fun cs81 h80 =>
 stN p0 2 cs81 h80 fun h82 =>
 ldA p0 2 h82 fun cs83 =>
 K (.agg cs83) h82)))))))))))))
 else
 callI S .i64 i_spec_l01Next [.ptr x0, .int .i64 (6)] h2 fun n85 h84 =>
 callI S .i64 i_spec_l01Next [.ptr x0, .int .i64 (17)] h84 fun n87 h86 =>
 callA S i_spec_l01DrawOf [.ptr x0, .int .i64 (w64 ((1) + n85)), .int .i64 n87] h86 fun cs89 h88 =>
 stN p0 2 cs89 h88 fun h90 =>
 ldA p0 2 h90 fun cs91 =>
 K (.agg cs91) h90
theorem spec_l01Draw_main_link (S : SatT) (K : KT) (x0 : Pt) (h : H) : cwp S tab spec_l01Draw_M [] (bodyOf Tryz.f127) (kFun tab Tryz.f127.results.toList K) (fr0 Tryz.f127 [.ptr x0]) h = spec_l01Draw_main S K x0 h := by kernel_rfl
theorem spec_l01Draw_call (x0 : Pt) (h : H) (K : List AVal → H → Prop) (hm : spec_l01Draw_main (Sat Tryz.prog) (fun v h' => ∃ r, v = .agg r ∧ K r h') x0 h) : callA (Sat Tryz.prog) i_spec_l01Draw [.ptr x0] h K := by
  have := Sat.ex tok mixed spec_l01Draw_M Tryz.func127 (c := bodyOf Tryz.f127) (by kernel_rfl) (calls_of Tryz.func127 (c := bodyOf Tryz.f127) (by kernel_rfl) (by decide)) ((spec_l01Draw_main_link _ _ x0 h).mpr hm)
  obtain ⟨v, h2, h3, r, rfl, h4⟩ := this; exact ⟨r, h2, h3, h4⟩

/-! ### slices.IndexFunc[[]int64,int64] -/
def slices_IndexFunc_s_int64_int64__M : Nat → List Nat := fun i => bif i == 0 then [0, 1, 7, 8] else []
def slices_IndexFunc_s_int64_int64__ks1 (S : SatT) (K : KT) : Kont := kSeq (cwp S tab slices_IndexFunc_s_int64_int64__M [] (sub [1, 1] (bodyOf Tryz.f138)) (kFun tab (Tryz.f138).results.toList K)) (kFun tab (Tryz.f138).results.toList K)
def slices_IndexFunc_s_int64_int64__e0 (s0_ : Sl) (f1_ : AVal) (i7_ i8_ : Int) : Frame := [.sl s0_, f1_, U, U, U, U, U, .int .i64 i7_, .int .i64 i8_, U, U, U, U, U, U, U, U, U, U]
def slices_IndexFunc_s_int64_int64__w0 (S : SatT) (K : KT) : (XT) → XT := fun X fr h => cwp S tab slices_IndexFunc_s_int64_int64__M (slices_IndexFunc_s_int64_int64__M 0) (sub [1, 0, 1, 0, 0] (bodyOf Tryz.f138)) (kSeq (fun fr h => X (mask (slices_IndexFunc_s_int64_int64__M 0) fr) h) (kBlk 0 (slices_IndexFunc_s_int64_int64__ks1 S K))) fr h
def slices_IndexFunc_s_int64_int64__L0 (S : SatT) (K : KT) (s0_ : Sl) (f1_ : AVal) (i7_ i8_ : Int) (h : H) : Prop := loopK (slices_IndexFunc_s_int64_int64__w0 S K) (slices_IndexFunc_s_int64_int64__e0 s0_ f1_ i7_ i8_) h
def slices_IndexFunc_s_int64_int64__C0 (S : SatT) (K : KT) (h : H) : Prop :=
 K (.int .i64 (-1)) h
def slices_IndexFunc_s_int64_int64__b0 (S : SatT) (K : KT) (X0 : XT) (s0_ : Sl) (f1_ : AVal) (i7_ i8_ : Int) (h : H) : Prop :=
 bif (decide (i8_ < i7_)) then
 ixS s0_ 1 i8_ fun p0 =>
 ldI .i64 p0 h fun n1 =>
 viaF f1_ [.int .i64 n1] fun g2 ys3 =>
 callB S g2 ys3 h fun b5 h4 =>
 bif b5 then
 K (.int .i64 i8_) h4
 else
 X0 (slices_IndexFunc_s_int64_int64__e0 s0_ f1_ i7_ (w64 (i8_ + (1)))) h4
 else
 slices_IndexFunc_s_int64_int64__C0 S K h
theorem slices_IndexFunc_s_int64_int64__link0 (S : SatT) (K : KT) (X0 : XT) (s0_ : Sl) (f1_ : AVal) (i7_ i8_ : Int) (h : H) : slices_IndexFunc_s_int64_int64__w0 S K X0 (slices_IndexFunc_s_int64_int64__e0 s0_ f1_ i7_ i8_) h = slices_IndexFunc_s_int64_int64__b0 S K X0 s0_ f1_ i7_ i8_ h := by kernel_rfl
theorem slices_IndexFunc_s_int64_int64__rule0 (S : SatT) (K : KT) (s0_ : Sl) (f1_ : AVal) (i7_ : Int) (I_ : Int → H → Prop) (m_ : Int → H → Nat)
    (hs : ∀ (X0 : XT) (i8_ : Int) (h : H), I_ i8_ h → (∀ (i8_' : Int) (h' : H), I_ i8_' h' → m_ i8_' h' < m_ i8_ h → X0 (slices_IndexFunc_s_int64_int64__e0 s0_ f1_ i7_ i8_') h') → slices_IndexFunc_s_int64_int64__b0 S K X0 s0_ f1_ i7_ i8_ h) (i8_ : Int) {h : H} (h0 : I_ i8_ h) : slices_IndexFunc_s_int64_int64__L0 S K s0_ f1_ i7_ i8_ h :=
  loop_rule (σ := (Int)) (fun s_ => slices_IndexFunc_s_int64_int64__e0 s0_ f1_ i7_ (s_)) (fun s_ h => I_ (s_) h) (fun s_ h => m_ (s_) h)
    (fun X s_ h hi hx => (slices_IndexFunc_s_int64_int64__link0 S K X s0_ f1_ i7_ (s_) h).mpr (hs X (s_) h hi fun i8_' h' hi' hm' => hx (i8_') h' hi' hm')) (i8_) h0
def slices_IndexFunc_s_int64_int64__main (S : SatT) (K : KT) (x0 : Sl) (x1 : AVal) (h : H) : Prop :=
 slices_IndexFunc_s_int64_int64__L0 S K x0 x1 (x0.len : Int) (0) h
theorem slices_IndexFunc_s_int64_int64__main_link (S : SatT) (K : KT) (x0 : Sl) (x1 : AVal) (h : H) : cwp S tab slices_IndexFunc_s_int64_int64__M [] (bodyOf Tryz.f138) (kFun tab Tryz.f138.results.toList K) (fr0 Tryz.f138 [.sl x0, x1]) h = slices_IndexFunc_s_int64_int64__main S K x0 x1 h := by kernel_rfl
theorem slices_IndexFunc_s_int64_int64__call (x0 : Sl) (x1 : AVal) (h : H) (K : Int → H → Prop) (hm : slices_IndexFunc_s_int64_int64__main (Sat Tryz.prog) (fun v h' => ∃ r, v = .int .i64 r ∧ K r h') x0 x1 h) : callI (Sat Tryz.prog) .i64 i_slices_IndexFunc_s_int64_int64_ [.sl x0, x1] h K := by
  have := Sat.ex tok mixed slices_IndexFunc_s_int64_int64__M Tryz.func138 (c := bodyOf Tryz.f138) (by kernel_rfl) (calls_of Tryz.func138 (c := bodyOf Tryz.f138) (by kernel_rfl) (by decide)) ((slices_IndexFunc_s_int64_int64__main_link _ _ x0 x1 h).mpr hm)
  obtain ⟨v, h2, h3, r, rfl, h4⟩ := this; exact ⟨r, h2, h3, h4⟩

/-! ### loop.example/g01354/spec.l01DrawOf -/
def spec_l01DrawOf_M : Nat → List Nat := fun i => bif i == 0 then [0, 1, 6, 7, 8] else []
def spec_l01DrawOf_ks2 (S : SatT) (K : KT) : Kont := kSeq (cwp S tab spec_l01DrawOf_M [] (sub [1, 1, 1] (bodyOf Tryz.f132)) (kFun tab (Tryz.f132).results.toList K)) (kFun tab (Tryz.f132).results.toList K)
def spec_l01DrawOf_e0 (p0_ : Pt) (i1_ : Int) (p6_ : Pt) (s7_ : Sl) (i8_ : Int) : Frame := [.ptr p0_, .int .i64 i1_, U, U, U, U, .ptr p6_, .sl s7_, .int .i64 i8_, U, U, U, U, U, U, U, U, U, U, U, U, U, U, U]
def spec_l01DrawOf_w0 (S : SatT) (K : KT) : (XT) → XT := fun X fr h => cwp S tab spec_l01DrawOf_M (spec_l01DrawOf_M 0) (sub [1, 1, 0, 1, 0, 0] (bodyOf Tryz.f132)) (kSeq (fun fr h => X (mask (spec_l01DrawOf_M 0) fr) h) (kBlk 0 (spec_l01DrawOf_ks2 S K))) fr h
def spec_l01DrawOf_L0 (S : SatT) (K : KT) (p0_ : Pt) (i1_ : Int) (p6_ : Pt) (s7_ : Sl) (i8_ : Int) (h : H) : Prop := loopK (spec_l01DrawOf_w0 S K) (spec_l01DrawOf_e0 p0_ i1_ p6_ s7_ i8_) h
def spec_l01DrawOf_C0 (S : SatT) (K : KT) (i1_ : Int) (p6_ : Pt) (s7_ : Sl) (h : H) : Prop :=
 callA S i_spec_l01Made [.int .i64 i1_, .sl s7_] h fun cs1 h0 =>
 stN p6_ 2 cs1 h0 fun h2 =>
 ldA p6_ 2 h2 fun cs3 =>
 K (.agg cs3) h2
def spec_l01DrawOf_b0 (S : SatT) (K : KT) (X0 : XT) (p0_ : Pt) (i1_ : Int) (p6_ : Pt) (s7_ : Sl) (i8_ : Int) (h : H) : Prop :=
 bif (decide (i8_ > (0))) then
 callA S i_spec_l01DrawTile [.ptr p0_, .int .i64 i1_] h fun cs1 h0 =>
 lenA cs1 4 (
 newS 1 4 (spl [.int .i64 (0), .int .i64 (0), .int .i64 (0), .int .i64 (0)] 0 4 cs1) h0 fun s2 h3 =>
 app s7_ s2 4 h3 fun s4 h5 =>
 X0 (spec_l01DrawOf_e0 p0_ i1_ p6_ s4 (w64 (i8_ - (1)))) h5)
 else
 spec_l01DrawOf_C0 S K i1_ p6_ s7_ h
theorem spec_l01DrawOf_link0 (S : SatT) (K : KT) (X0 : XT) (p0_ : Pt) (i1_ : Int) (p6_ : Pt) (s7_ : Sl) (i8_ : Int) (h : H) : spec_l01DrawOf_w0 S K X0 (spec_l01DrawOf_e0 p0_ i1_ p6_ s7_ i8_) h = spec_l01DrawOf_b0 S K X0 p0_ i1_ p6_ s7_ i8_ h := by kernel_rfl
theorem spec_l01DrawOf_rule0 (S : SatT) (K : KT) (p0_ : Pt) (i1_ : Int) (p6_ : Pt) (I_ : Sl → Int → H → Prop) (m_ : Sl → Int → H → Nat)
    (hs : ∀ (X0 : XT) (s7_ : Sl) (i8_ : Int) (h : H), I_ s7_ i8_ h → (∀ (s7_' : Sl) (i8_' : Int) (h' : H), I_ s7_' i8_' h' → m_ s7_' i8_' h' < m_ s7_ i8_ h → X0 (spec_l01DrawOf_e0 p0_ i1_ p6_ s7_' i8_') h') → spec_l01DrawOf_b0 S K X0 p0_ i1_ p6_ s7_ i8_ h) (s7_ : Sl) (i8_ : Int) {h : H} (h0 : I_ s7_ i8_ h) : spec_l01DrawOf_L0 S K p0_ i1_ p6_ s7_ i8_ h :=
  loop_rule (σ := (Sl) × (Int)) (fun s_ => spec_l01DrawOf_e0 p0_ i1_ p6_ (s_.1) (s_.2)) (fun s_ h => I_ (s_.1) (s_.2) h) (fun s_ h => m_ (s_.1) (s_.2) h)
    (fun X s_ h hi hx => (spec_l01DrawOf_link0 S K X p0_ i1_ p6_ (s_.1) (s_.2) h).mpr (hs X (s_.1) (s_.2) h hi fun s7_' i8_' h' hi' hm' => hx (s7_', i8_') h' hi' hm')) (s7_, i8_) h0
def spec_l01DrawOf_main (S : SatT) (K : KT) (x0 : Pt) (x1 x2 : Int) (h : H) : Prop :=
 newO [.int .i64 (0), .sl Sl.nil] h fun p0 h1 =>
 newS 0 4 [] h1 fun s2 h3 =>
 spec_l01DrawOf_L0 S K x0 x1 p0 s2 x2 h3
theorem spec_l01DrawOf_main_link (S : SatT) (K : KT) (x0 : Pt) (x1 x2 : Int) (h : H) : cwp S tab spec_l01DrawOf_M [] (bodyOf Tryz.f132) (kFun tab Tryz.f132.results.toList K) (fr0 Tryz.f132 [.ptr x0, .int .i64 x1, .int .i64 x2]) h = spec_l01DrawOf_main S K x0 x1 x2 h := by kernel_rfl
theorem spec_l01DrawOf_call (x0 : Pt) (x1 x2 : Int) (h : H) (K : List AVal → H → Prop) (hm : spec_l01DrawOf_main (Sat Tryz.prog) (fun v h' => ∃ r, v = .agg r ∧ K r h') x0 x1 x2 h) : callA (Sat Tryz.prog) i_spec_l01DrawOf [.ptr x0, .int .i64 x1, .int .i64 x2] h K := by
  have := Sat.ex tok mixed spec_l01DrawOf_M Tryz.func132 (c := bodyOf Tryz.f132) (by kernel_rfl) (calls_of Tryz.func132 (c := bodyOf Tryz.f132) (by kernel_rfl) (by decide)) ((spec_l01DrawOf_main_link _ _ x0 x1 x2 h).mpr hm)
  obtain ⟨v, h2, h3, r, rfl, h4⟩ := this; exact ⟨r, h2, h3, h4⟩

/-! ### loop.example/g01354/impl.isTable -/
def impl_isTable_M : Nat → List Nat := fun i => bif i == 0 then [0, 1, 16, 17, 18] else []
def impl_isTable_ks5 (S : SatT) (K : KT) : Kont := kSeq (cwp S tab impl_isTable_M [] (sub [1, 1, 1] (bodyOf Tryz.f111)) (kFun tab (Tryz.f111).results.toList K)) (kFun tab (Tryz.f111).results.toList K)
def impl_isTable_e0 (s0_ : Sl) (i1_ : Int) (s16_ : Sl) (i17_ i18_ : Int) : Frame := [.sl s0_, .int .i64 i1_, U, U, U, U, U, U, U, U, U, U, U, U, U, U, .sl s16_, .int .i64 i17_, .int .i64 i18_, U, U, U, U, U, U, U, U, U, U, U, U, U, U, U, U, U, U, U, U, U, U]
def impl_isTable_w0 (S : SatT) (K : KT) : (XT) → XT := fun X fr h => cwp S tab impl_isTable_M (impl_isTable_M 0) (sub [1, 1, 0, 1, 0, 0] (bodyOf Tryz.f111)) (kSeq (fun fr h => X (mask (impl_isTable_M 0) fr) h) (kBlk 0 (impl_isTable_ks5 S K))) fr h
def impl_isTable_L0 (S : SatT) (K : KT) (s0_ : Sl) (i1_ : Int) (s16_ : Sl) (i17_ i18_ : Int) (h : H) : Prop := loopK (impl_isTable_w0 S K) (impl_isTable_e0 s0_ i1_ s16_ i17_ i18_) h
def impl_isTable_C0 (S : SatT) (K : KT) (h : H) : Prop :=
 K (.bool true) h
def impl_isTable_b0 (S : SatT) (K : KT) (X0 : XT) (s0_ : Sl) (i1_ : Int) (s16_ : Sl) (i17_ i18_ : Int) (h : H) : Prop :=
 bif (decide (i18_ < i17_)) then
 ixS s16_ 1 i18_ fun p0 =>
 ldS p0 h fun s1 =>
 ixS s0_ 1 (0) fun p2 =>
 ldS p2 h fun s3 =>
 bif ((s1.len : Int) != (s3.len : Int)) then
 K (.bool false) h
 else
 bif (decide ((s1.len : Int) < (1))) then
 K (.bool false) h
 else
 bif (decide ((s1.len : Int) > i1_)) then
 K (.bool false) h
 else
 X0 (impl_isTable_e0 s0_ i1_ s16_ i17_ (w64 (i18_ + (1)))) h
 else
 impl_isTable_C0 S K h
theorem impl_isTable_link0 (S : SatT) (K : KT) (X0 : XT) (s0_ : Sl) (i1_ : Int) (s16_ : Sl) (i17_ i18_ : Int) (h : H) : impl_isTable_w0 S K X0 (impl_isTable_e0 s0_ i1_ s16_ i17_ i18_) h = impl_isTable_b0 S K X0 s0_ i1_ s16_ i17_ i18_ h := by kernel_rfl
theorem impl_isTable_rule0 (S : SatT) (K : KT) (s0_ : Sl) (i1_ : Int) (s16_ : Sl) (i17_ : Int) (I_ : Int → H → Prop) (m_ : Int → H → Nat)
    (hs : ∀ (X0 : XT) (i18_ : Int) (h : H), I_ i18_ h → (∀ (i18_' : Int) (h' : H), I_ i18_' h' → m_ i18_' h' < m_ i18_ h → X0 (impl_isTable_e0 s0_ i1_ s16_ i17_ i18_') h') → impl_isTable_b0 S K X0 s0_ i1_ s16_ i17_ i18_ h) (i18_ : Int) {h : H} (h0 : I_ i18_ h) : impl_isTable_L0 S K s0_ i1_ s16_ i17_ i18_ h :=
  loop_rule (σ := (Int)) (fun s_ => impl_isTable_e0 s0_ i1_ s16_ i17_ (s_)) (fun s_ h => I_ (s_) h) (fun s_ h => m_ (s_) h)
    (fun X s_ h hi hx => (impl_isTable_link0 S K X s0_ i1_ s16_ i17_ (s_) h).mpr (hs X (s_) h hi fun i18_' h' hi' hm' => hx (i18_') h' hi' hm')) (i18_) h0
def impl_isTable_main (S : SatT) (K : KT) (x0 : Sl) (x1 : Int) (h : H) : Prop :=
 bif (decide ((x0.len : Int) < (1))) then
 K (.bool false) h
 else
 bif (decide ((x0.len : Int) > x1)) then
 K (.bool false) h
 else
 impl_isTable_L0 S K x0 x1 x0 (x0.len : Int) (0) h
theorem impl_isTable_main_link (S : SatT) (K : KT) (x0 : Sl) (x1 : Int) (h : H) : cwp S tab impl_isTable_M [] (bodyOf Tryz.f111) (kFun tab Tryz.f111.results.toList K) (fr0 Tryz.f111 [.sl x0, .int .i64 x1]) h = impl_isTable_main S K x0 x1 h := by kernel_rfl
theorem impl_isTable_call (x0 : Sl) (x1 : Int) (h : H) (K : Bool → H → Prop) (hm : impl_isTable_main (Sat Tryz.prog) (fun v h' => ∃ r, v = .bool r ∧ K r h') x0 x1 h) : callB (Sat Tryz.prog) i_impl_isTable [.sl x0, .int .i64 x1] h K := by
  have := Sat.ex tok mixed impl_isTable_M Tryz.func111 (c := bodyOf Tryz.f111) (by kernel_rfl) (calls_of Tryz.func111 (c := bodyOf Tryz.f111) (by kernel_rfl) (by decide)) ((impl_isTable_main_link _ _ x0 x1 h).mpr hm)
  obtain ⟨v, h2, h3, r, rfl, h4⟩ := this; exact ⟨r, h2, h3, h4⟩

/-! ### loop.example/g01354/spec.l01Is -/
def spec_l01Is_M : Nat → List Nat := fun i => bif i == 0 then [1, 3] else []
def spec_l01Is_ks5 (S : SatT) (K : KT) : Kont := kSeq (cwp S tab spec_l01Is_M [] (sub [1, 1, 1] (bodyOf Tryz.f49)) (kFun tab (Tryz.f49).results.toList K)) (kFun tab (Tryz.f49).results.toList K)
def spec_l01Is_e0 (p1_ : Pt) (i3_ : Int) : Frame := [U, .ptr p1_, U, .int .i64 i3_, U, U, U, U, U, U, U, U, U, U, U, U, U, U, U, U, U, U, U, U, U, U, U, U, U, U, U, U, U, U, U, U, U, U, U, U, U, U, U, U, U, U, U, U, U]
def spec_l01Is_w0 (S : SatT) (K : KT) : (XT) → XT := fun X fr h => cwp S tab spec_l01Is_M (spec_l01Is_M 0) (sub [1, 1, 0, 1, 0, 0] (bodyOf Tryz.f49)) (kSeq (fun fr h => X (mask (spec_l01Is_M 0) fr) h) (kBlk 0 (spec_l01Is_ks5 S K))) fr h
def spec_l01Is_L0 (S : SatT) (K : KT) (p1_ : Pt) (i3_ : Int) (h : H) : Prop := loopK (spec_l01Is_w0 S K) (spec_l01Is_e0 p1_ i3_) h
def spec_l01Is_C0 (S : SatT) (K : KT) (h : H) : Prop :=
 K (.bool true) h
def spec_l01Is_b0 (S : SatT) (K : KT) (X0 : XT) (p1_ : Pt) (i3_ : Int) (h : H) : Prop :=
 isPt p1_ (
 ldS (Pt.add p1_ 1) h fun s0 =>
 bif (decide (i3_ < (s0.len : Int))) then
 isPt p1_ (
 ldI .i64 (Pt.add p1_ 0) h fun n1 =>
 isPt p1_ (
 ldS (Pt.add p1_ 1) h fun s2 =>
 ixS s2 4 i3_ fun p3 =>
 ldA p3 4 h fun cs4 =>
 callB S i_spec_l01Tile [.int .i64 n1, .agg cs4] h fun b6 h5 =>
 bif (!b6) then
 K (.bool false) h5
 else
 bif (decide (i3_ > (0))) then
 isPt p1_ (
 ldS (Pt.add p1_ 1) h5 fun s7 =>
 ixS s7 4 (w64 (i3_ - (1))) fun p8 =>
 ldA p8 4 h5 fun cs9 =>
 isPt p1_ (
 ldS (Pt.add p1_ 1) h5 fun s10 =>
 ixS s10 4 i3_ fun p11 =>
 ldA p11 4 h5 fun cs12 =>
 callB S i_spec_l01Before [.agg cs9, .agg cs12] h5 fun b14 h13 =>
 bif (!b14) then
 K (.bool false) h13
 else
 X0 (spec_l01Is_e0 p1_ (w64 (i3_ + (1)))) h13))
 else
 X0 (spec_l01Is_e0 p1_ (w64 (i3_ + (1)))) h5))
 else
 spec_l01Is_C0 S K h)
theorem spec_l01Is_link0 (S : SatT) (K : KT) (X0 : XT) (p1_ : Pt) (i3_ : Int) (h : H) : spec_l01Is_w0 S K X0 (spec_l01Is_e0 p1_ i3_) h = spec_l01Is_b0 S K X0 p1_ i3_ h := by kernel_rfl
theorem spec_l01Is_rule0 (S : SatT) (K : KT) (p1_ : Pt) (I_ : Int → H → Prop) (m_ : Int → H → Nat)
    (hs : ∀ (X0 : XT) (i3_ : Int) (h : H), I_ i3_ h → (∀ (i3_' : Int) (h' : H), I_ i3_' h' → m_ i3_' h' < m_ i3_ h → X0 (spec_l01Is_e0 p1_ i3_') h') → spec_l01Is_b0 S K X0 p1_ i3_ h) (i3_ : Int) {h : H} (h0 : I_ i3_ h) : spec_l01Is_L0 S K p1_ i3_ h :=
  loop_rule (σ := (Int)) (fun s_ => spec_l01Is_e0 p1_ (s_)) (fun s_ h => I_ (s_) h) (fun s_ h => m_ (s_) h)
    (fun X s_ h hi hx => (spec_l01Is_link0 S K X p1_ (s_) h).mpr (hs X (s_) h hi fun i3_' h' hi' hm' => hx (i3_') h' hi' hm')) (i3_) h0
def spec_l01Is_main (S : SatT) (K : KT) (x0 : List AVal) (h : H) : Prop :=
 newK 2 x0 h fun p0 h1 =>
 isPt p0 (
 ldI .i64 (Pt.add p0 0) h1 fun n2 =>
 callB S i_spec_l01In [.int .i64 n2, .int .i64 (1), .int .i64 (6)] h1 fun b4 h3 =>
 bif (!b4) then
 K (.bool false) h3
 else
 isPt p0 (
 ldS (Pt.add p0 1) h3 fun s5 =>
 bif (decide ((s5.len : Int) > (16))) then
 K (.bool false) h3
 else
 spec_l01Is_L0 S K p0 (0) h3))
theorem spec_l01Is_main_link (S : SatT) (K : KT) (x0 : List AVal) (h : H) : cwp S tab spec_l01Is_M [] (bodyOf Tryz.f49) (kFun tab Tryz.f49.results.toList K) (fr0 Tryz.f49 [.agg x0]) h = spec_l01Is_main S K x0 h := by kernel_rfl
theorem spec_l01Is_call (x0 : List AVal) (h : H) (K : Bool → H → Prop) (hm : spec_l01Is_main (Sat Tryz.prog) (fun v h' => ∃ r, v = .bool r ∧ K r h') x0 h) : callB (Sat Tryz.prog) i_spec_l01Is [.agg x0] h K := by
  have := Sat.ex tok mixed spec_l01Is_M Tryz.func49 (c := bodyOf Tryz.f49) (by kernel_rfl) (calls_of Tryz.func49 (c := bodyOf Tryz.f49) (by kernel_rfl) (by decide)) ((spec_l01Is_main_link _ _ x0 h).mpr hm)
  obtain ⟨v, h2, h3, r, rfl, h4⟩ := this; exact ⟨r, h2, h3, h4⟩

/-! ### loop.example/g01354/spec.l01Before -/
def spec_l01Before_M : Nat → List Nat := fun i => bif i == 0 then [2, 3, 5] else []
def spec_l01Before_ks1 (S : SatT) (K : KT) : Kont := kSeq (cwp S tab spec_l01Before_M [] (sub [1, 1] (bodyOf Tryz.f99)) (kFun tab (Tryz.f99).results.toList K)) (kFun tab (Tryz.f99).results.toList K)
def spec_l01Before_e0 (p2_ p3_ : Pt) (i5_ : Int) : Frame := [U, U, .ptr p2_, .ptr p3_, U, .int .i64 i5_, U, U, U, U, U, U, U, U, U, U, U, U, U, U, U, U, U, U]
def spec_l01Before_w0 (S : SatT) (K : KT) : (XT) → XT := fun X fr h => cwp S tab spec_l01Before_M (spec_l01Before_M 0) (sub [1, 0, 1, 0, 0] (bodyOf Tryz.f99)) (kSeq (fun fr h => X (mask (spec_l01Before_M 0) fr) h) (kBlk 0 (spec_l01Before_ks1 S K))) fr h
def spec_l01Before_L0 (S : SatT) (K : KT) (p2_ p3_ : Pt) (i5_ : Int) (h : H) : Prop := loopK (spec_l01Before_w0 S K) (spec_l01Before_e0 p2_ p3_ i5_) h
def spec_l01Before_C0 (S : SatT) (K : KT) (h : H) : Prop :=
 K (.bool false) h
def spec_l01Before_b0 (S : SatT) (K : KT) (X0 : XT) (p2_ p3_ : Pt) (i5_ : Int) (h : H) : Prop :=
 bif (decide (i5_ < (4))) then
 ixA p2_ 4 1 i5_ fun p0 =>
 ldI .i64 p0 h fun n1 =>
 ixA p3_ 4 1 i5_ fun p2 =>
 ldI .i64 p2 h fun n3 =>
 bif (n1 != n3) then
 ixA p2_ 4 1 i5_ fun p4 =>
 ldI .i64 p4 h fun n5 =>
 ixA p3_ 4 1 i5_ fun p6 =>
 ldI .i64 p6 h fun n7 =>
 K (.bool (decide (n5 < n7))) h
 else
 X0 (spec_l01Before_e0 p2_ p3_ (w64 (i5_ + (1)))) h
 else
 spec_l01Before_C0 S K h
theorem spec_l01Before_link0 (S : SatT) (K : KT) (X0 : XT) (p2_ p3_ : Pt) (i5_ : Int) (h : H) : spec_l01Before_w0 S K X0 (spec_l01Before_e0 p2_ p3_ i5_) h = spec_l01Before_b0 S K X0 p2_ p3_ i5_ h := by kernel_rfl
theorem spec_l01Before_rule0 (S : SatT) (K : KT) (p2_ p3_ : Pt) (I_ : Int → H → Prop) (m_ : Int → H → Nat)
    (hs : ∀ (X0 : XT) (i5_ : Int) (h : H), I_ i5_ h → (∀ (i5_' : Int) (h' : H), I_ i5_' h' → m_ i5_' h' < m_ i5_ h → X0 (spec_l01Before_e0 p2_ p3_ i5_') h') → spec_l01Before_b0 S K X0 p2_ p3_ i5_ h) (i5_ : Int) {h : H} (h0 : I_ i5_ h) : spec_l01Before_L0 S K p2_ p3_ i5_ h :=
  loop_rule (σ := (Int)) (fun s_ => spec_l01Before_e0 p2_ p3_ (s_)) (fun s_ h => I_ (s_) h) (fun s_ h => m_ (s_) h)
    (fun X s_ h hi hx => (spec_l01Before_link0 S K X p2_ p3_ (s_) h).mpr (hs X (s_) h hi fun i5_' h' hi' hm' => hx (i5_') h' hi' hm')) (i5_) h0
def spec_l01Before_main (S : SatT) (K : KT) (x0 x1 : List AVal) (h : H) : Prop :=
 newK 4 x0 h fun p0 h1 =>
 newK 4 x1 h1 fun p2 h3 =>
 spec_l01Before_L0 S K p0 p2 (0) h3
theorem spec_l01Before_main_link (S : SatT) (K : KT) (x0 x1 : List AVal) (h : H) : cwp S tab spec_l01Before_M [] (bodyOf Tryz.f99) (kFun tab Tryz.f99.results.toList K) (fr0 Tryz.f99 [.agg x0, .agg x1]) h = spec_l01Before_main S K x0 x1 h := by kernel_rfl
theorem spec_l01Before_call (x0 x1 : List AVal) (h : H) (K : Bool → H → Prop) (hm : spec_l01Before_main (Sat Tryz.prog) (fun v h' => ∃ r, v = .bool r ∧ K r h') x0 x1 h) : callB (Sat Tryz.prog) i_spec_l01Before [.agg x0, .agg x1] h K := by
  have := Sat.ex tok mixed spec_l01Before_M Tryz.func99 (c := bodyOf Tryz.f99) (by kernel_rfl) (calls_of Tryz.func99 (c := bodyOf Tryz.f99) (by kernel_rfl) (by decide)) ((spec_l01Before_main_link _ _ x0 x1 h).mpr hm)
  obtain ⟨v, h2, h3, r, rfl, h4⟩ := this; exact ⟨r, h2, h3, h4⟩

/-! ### loop.example/g01354/spec.ShiftTorus -/
def spec_ShiftTorus_M : Nat → List Nat := fun i => []
def spec_ShiftTorus_main (S : SatT) (K : KT) (x0 : List AVal) (x1 : Sl) (x2 x3 : Int) (h : H) : Prop :=
 newK 2 x0 h fun p0 h1 =>
 ldA p0 2 h1 fun cs2 =>
 callI S .i64 i_spec_l01Rows [.agg cs2, .sl x1] h1 fun n4 h3 =>
 bif (n4 == (0)) then
 callB S i_spec_l01In [.int .i64 x2, .int .i64 (0), .int .i64 (w64 ((x1.len : Int) - (1)))] h3 fun b6 h5 =>
 bif (!b6) then
 bif ((2) == (0)) then
 ldA p0 2 h5 fun cs7 =>
 callI S .i64 i_spec_l05Given [.agg cs7, .sl x1] h5 fun n9 h8 =>
 bif (n9 != (0)) then
 K (.tuple [.sl Sl.nil, .int .i64 n9]) h8
 else
 callS S i_spec_l05Shift [.sl x1, .int .i64 x2, .int .i64 x3] h8 fun s11 h10 =>
 K (.tuple [.sl s11, .int .i64 (0)]) h10
 else
 bif ((2) != (0)) then
 K (.tuple [.sl Sl.nil, .int .i64 (2)]) h5
 else
 callS S i_spec_l05Shift [.sl x1, .int .i64 x2, .int .i64 x3] h5 fun s13 h12 =>
 K (.tuple [.sl s13, .int .i64 (0)]) h12
 else
 ixS x1 1 (0) fun p14 =>
 ldS p14 h5 fun s15 =>
 callB S i_spec_l01In [.int .i64 x3, .int .i64 (0), .int .i64 (w64 ((s15.len : Int) - (1)))] h5 fun b17 h16 =>
 bif (!b17) then
 bif ((2) == (0)) then
 ldA p0 2 h16 fun cs18 =>
 callI S .i64 i_spec_l05Given [.agg cs18, .sl x1] h16 fun n20 h19 =>
 bif (n20 != (0)) then
 K (.tuple [.sl Sl.nil, .int .i64 n20]) h19
 else
 callS S i_spec_l05Shift [.sl x1, .int .i64 x2, .int .i64 x3] h19 fun s22 h21 =>
 K (.tuple [.sl s22, .int .i64 (0)]) h21
 else
 bif ((2) != (0)) then
 K (.tuple [.sl Sl.nil, .int .i64 (2)]) h16
 else
 callS S i_spec_l05Shift [.sl x1, .int .i64 x2, .int .i64 x3] h16 fun s24 h23 =>
 K (.tuple [.sl s24, .int .i64 (0)]) h23
 else
 bif (n4 == (0)) then
 ldA p0 2 h16 fun cs25 =>
 callI S .i64 i_spec_l05Given [.agg cs25, .sl x1] h16 fun n27 h26 =>
 bif (n27 != (0)) then
 K (.tuple [.sl Sl.nil, .int .i64 n27]) h26
 else
 callS S i_spec_l05Shift [.sl x1, .int .i64 x2, .int .i64 x3] h26 fun s29 h28 =>
 K (.tuple [.sl s29, .int .i64 (0)]) h28
 else
 bif (n4 != (0)) then
 K (.tuple [.sl Sl.nil, .int .i64 n4]) h16
 else
 callS S i_spec_l05Shift [.sl x1, .int .i64 x2, .int .i64 x3] h16 fun s31 h30 =>
 K (.tuple [.sl s31, .int .i64 (0)]) h30
 else
 bif (n4 == (0)) then
 ldA p0 2 h3 fun cs32 =>
 callI S .i64 i_spec_l05Given [.agg cs32, .sl x1] h3 fun n34 h33 =>
 bif (n34 != (0)) then
 K (.tuple [.sl Sl.nil, .int .i64 n34]) h33
 else
 callS S i_spec_l05Shift [.sl x1, .int .i64 x2, .int .i64 x3] h33 fun s36 h35 =>
 K (.tuple [.sl s36, .int .i64 (0)]) h35
 else
 bif (n4 != (0)) then
 K (.tuple [.sl Sl.nil, .int .i64 n4]) h3
 else
 callS S i_spec_l05Shift [.sl x1, .int .i64 x2, .int .i64 x3] h3 fun s38 h37 =>
 K (.tuple [.sl s38, .int .i64 (0)]) h37
theorem spec_ShiftTorus_main_link (S : SatT) (K : KT) (x0 : List AVal) (x1 : Sl) (x2 x3 : Int) (h : H) : cwp S tab spec_ShiftTorus_M [] (bodyOf Tryz.f21) (kFun tab Tryz.f21.results.toList K) (fr0 Tryz.f21 [.agg x0, .sl x1, .int .i64 x2, .int .i64 x3]) h = spec_ShiftTorus_main S K x0 x1 x2 x3 h := by kernel_rfl
theorem spec_ShiftTorus_call (x0 : List AVal) (x1 : Sl) (x2 x3 : Int) (h : H) (K : KT) (hm : spec_ShiftTorus_main (Sat Tryz.prog) (fun v h' => K v h') x0 x1 x2 x3 h) : callV (Sat Tryz.prog) i_spec_ShiftTorus [.agg x0, .sl x1, .int .i64 x2, .int .i64 x3] h K := by
  have := Sat.ex tok mixed spec_ShiftTorus_M Tryz.func21 (c := bodyOf Tryz.f21) (by kernel_rfl) (calls_of Tryz.func21 (c := bodyOf Tryz.f21) (by kernel_rfl) (by decide)) ((spec_ShiftTorus_main_link _ _ x0 x1 x2 x3 h).mpr hm)
  exact this

/-! ### loop.example/g01354/impl.ShiftTorus -/
def impl_ShiftTorus_M : Nat → List Nat := fun i => []
def impl_ShiftTorus_main (S : SatT) (K : KT) (x0 : List AVal) (x1 : Sl) (x2 x3 : Int) (h : H) : Prop :=
 newK 2 x0 h fun p0 h1 =>
 newO [.sl x1] h1 fun p2 h3 =>
 newO [.int .i64 x2] h3 fun p4 h5 =>
 newO [.int .i64 x3] h5 fun p6 h7 =>
 ldA p0 2 h7 fun cs8 =>
 callI S .i64 i_impl_setCode [.agg cs8, .func 60 [.ptr p0, .ptr p2, .ptr p4, .ptr p6]] h7 fun n10 h9 =>
 bif (n10 != (0)) then
 K (.tuple [.sl Sl.nil, .int .i64 n10]) h9
 else
 ldA p0 2 h9 fun cs11 =>
 ldS p2 h9 fun s12 =>
 callB S i_impl_Set_isTorus [.agg cs11, .sl s12] h9 fun b14 h13 =>
 bif (!b14) then
 K (.tuple [.sl Sl.nil, .int .i64 (5)]) h13
 else
 ldS p2 h13 fun s15 =>
 ldI .i64 p4 h13 fun n16 =>
 ldI .i64 p6 h13 fun n17 =>
 callS S i_impl_shifted [.sl s15, .int .i64 n16, .int .i64 n17] h13 fun s19 h18 =>
 K (.tuple [.sl s19, .int .i64 (0)]) h18
theorem impl_ShiftTorus_main_link (S : SatT) (K : KT) (x0 : List AVal) (x1 : Sl) (x2 x3 : Int) (h : H) : cwp S tab impl_ShiftTorus_M [] (bodyOf Tryz.f20) (kFun tab Tryz.f20.results.toList K) (fr0 Tryz.f20 [.agg x0, .sl x1, .int .i64 x2, .int .i64 x3]) h = impl_ShiftTorus_main S K x0 x1 x2 x3 h := by kernel_rfl
theorem impl_ShiftTorus_call (x0 : List AVal) (x1 : Sl) (x2 x3 : Int) (h : H) (K : KT) (hm : impl_ShiftTorus_main (Sat Tryz.prog) (fun v h' => K v h') x0 x1 x2 x3 h) : callV (Sat Tryz.prog) i_impl_ShiftTorus [.agg x0, .sl x1, .int .i64 x2, .int .i64 x3] h K := by
  have := Sat.ex tok mixed impl_ShiftTorus_M Tryz.func20 (c := bodyOf Tryz.f20) (by kernel_rfl) (calls_of Tryz.func20 (c := bodyOf Tryz.f20) (by kernel_rfl) (by decide)) ((impl_ShiftTorus_main_link _ _ x0 x1 x2 x3 h).mpr hm)
  exact this

/-! ### loop.example/g01354/impl.ShiftTorus$1 -/
def impl_ShiftTorus_1_M : Nat → List Nat := fun i => []
def impl_ShiftTorus_1_main (S : SatT) (K : KT) (x0 x1 : Pt) (x2 x3 : Pt) (h : H) : Prop :=
 ldA x0 2 h fun cs0 =>
 ldS x1 h fun s1 =>
 callB S i_impl_Set_areNumbers [.agg cs0, .sl s1] h fun b3 h2 =>
 bif b3 then
 ldI .i64 x2 h2 fun n4 =>
 ldS x1 h2 fun s5 =>
 callB S i_impl_within [.int .i64 n4, .int .i64 (0), .int .i64 (w64 ((s5.len : Int) - (1)))] h2 fun b7 h6 =>
 bif b7 then
 ldI .i64 x3 h6 fun n8 =>
 ldS x1 h6 fun s9 =>
 ixS s9 1 (0) fun p10 =>
 ldS p10 h6 fun s11 =>
 callB S i_impl_within [.int .i64 n8, .int .i64 (0), .int .i64 (w64 ((s11.len : Int) - (1)))] h6 fun b13 h12 =>
 K (.bool b13) h12
 else
 K (.bool false) h6
 else
 K (.bool false) h2
theorem impl_ShiftTorus_1_main_link (S : SatT) (K : KT) (x0 x1 : Pt) (x2 x3 : Pt) (h : H) : cwp S tab impl_ShiftTorus_1_M [] (bodyOf Tryz.f60) (kFun tab Tryz.f60.results.toList K) (fr0 Tryz.f60 [.ptr x0, .ptr x1, .ptr x2, .ptr x3]) h = impl_ShiftTorus_1_main S K x0 x1 x2 x3 h := by kernel_rfl
theorem impl_ShiftTorus_1_call (x0 x1 : Pt) (x2 x3 : Pt) (h : H) (K : Bool → H → Prop) (hm : impl_ShiftTorus_1_main (Sat Tryz.prog) (fun v h' => ∃ r, v = .bool r ∧ K r h') x0 x1 x2 x3 h) : callB (Sat Tryz.prog) i_impl_ShiftTorus_1 [.ptr x0, .ptr x1, .ptr x2, .ptr x3] h K := by
  have := Sat.ex tok mixed impl_ShiftTorus_1_M Tryz.func60 (c := bodyOf Tryz.f60) (by kernel_rfl) (calls_of Tryz.func60 (c := bodyOf Tryz.f60) (by kernel_rfl) (by decide)) ((impl_ShiftTorus_1_main_link _ _ x0 x1 x2 x3 h).mpr hm)
  obtain ⟨v, h2, h3, r, rfl, h4⟩ := this; exact ⟨r, h2, h3, h4⟩

/-! ### loop.example/g01354/spec.DrawShiftTorus -/
def spec_DrawShiftTorus_M : Nat → List Nat := fun i => []
def spec_DrawShiftTorus_main (S : SatT) (K : KT) (x0 : Sl) (h : H) : Prop :=
 newO [.int .i64 (0), .sl Sl.nil] h fun p0 h1 =>
 callP S i_spec_l01From [.sl x0] h1 fun p3 h2 =>
 callV S i_spec_l05With [.ptr p3] h2 fun v5 h4 =>
 viaT v5 fun vs6 =>
 exA vs6 0 fun cs7 =>
 viaT v5 fun vs8 =>
 exS vs8 1 fun s9 =>
 newO [.int .i64 (0), .sl Sl.nil] h4 fun p10 h11 =>
 stN p10 2 cs7 h11 fun h12 =>
 ldA p10 2 h12 fun cs13 =>
 callI S .i64 i_spec_l01Near [.ptr p3, .int .i64 (2)] h12 fun n15 h14 =>
(range h14 p10.o p10.n p10.off 2 = range h12 p10.o p10.n p10.off 2) ∧ (
 callI S .i64 i_spec_l01Near [.ptr p3, .int .i64 (2)] h14 fun n17 h16 =>
(range h16 p10.o p10.n p10.off 2 = range h12 p10.o p10.n p10.off 2) ∧ (
 stN p0 2 cs13 h16 fun h18 =>
 ldA p0 2 h18 fun cs19 =>
 K (.tuple [.agg cs19, .sl s9, .int .i64 n15, .int .i64 n17]) h18))
theorem spec_DrawShiftTorus_main_link (S : SatT) (K : KT) (x0 : Sl) (h : H) : cwp S tab spec_DrawShiftTorus_M [] (bodyOf Tryz.f19) (kFun tab Tryz.f19.results.toList K) (fr0 Tryz.f19 [.sl x0]) h = spec_DrawShiftTorus_main S K x0 h := by kernel_rfl
theorem spec_DrawShiftTorus_call (x0 : Sl) (h : H) (K : KT) (hm : spec_DrawShiftTorus_main (Sat Tryz.prog) (fun v h' => K v h') x0 h) : callV (Sat Tryz.prog) i_spec_DrawShiftTorus [.sl x0] h K := by
  have := Sat.ex tok mixed spec_DrawShiftTorus_M Tryz.func19 (c := bodyOf Tryz.f19) (by kernel_rfl) (calls_of Tryz.func19 (c := bodyOf Tryz.f19) (by kernel_rfl) (by decide)) ((spec_DrawShiftTorus_main_link _ _ x0 h).mpr hm)
  exact this

/-! ### cmp.Compare[int64] -/
def cmp_Compare_int64__M : Nat → List Nat := fun i => []
def cmp_Compare_int64__main (S : SatT) (K : KT) (x0 x1 : Int) (h : H) : Prop :=
 callB S i_cmp_isNaN_int64_ [.int .i64 x0] h fun b1 h0 =>
 callB S i_cmp_isNaN_int64_ [.int .i64 x1] h0 fun b3 h2 =>
 bif b1 then
 bif b3 then
 K (.int .i64 (0)) h2
 else
 K (.int .i64 (-1)) h2
 else
 bif b3 then
 K (.int .i64 (1)) h2
 else
 bif (decide (x0 < x1)) then
 K (.int .i64 (-1)) h2
 else
 bif (decide (x0 > x1)) then
 K (.int .i64 (1)) h2
 else
 K (.int .i64 (0)) h2
theorem cmp_Compare_int64__main_link (S : SatT) (K : KT) (x0 x1 : Int) (h : H) : cwp S tab cmp_Compare_int64__M [] (bodyOf Tryz.f137) (kFun tab Tryz.f137.results.toList K) (fr0 Tryz.f137 [.int .i64 x0, .int .i64 x1]) h = cmp_Compare_int64__main S K x0 x1 h := by kernel_rfl
theorem cmp_Compare_int64__call (x0 x1 : Int) (h : H) (K : Int → H → Prop) (hm : cmp_Compare_int64__main (Sat Tryz.prog) (fun v h' => ∃ r, v = .int .i64 r ∧ K r h') x0 x1 h) : callI (Sat Tryz.prog) .i64 i_cmp_Compare_int64_ [.int .i64 x0, .int .i64 x1] h K := by
  have := Sat.ex tok mixed cmp_Compare_int64__M Tryz.func137 (c := bodyOf Tryz.f137) (by kernel_rfl) (calls_of Tryz.func137 (c := bodyOf Tryz.f137) (by kernel_rfl) (by decide)) ((cmp_Compare_int64__main_link _ _ x0 x1 h).mpr hm)
  obtain ⟨v, h2, h3, r, rfl, h4⟩ := this; exact ⟨r, h2, h3, h4⟩

/-! ### loop.example/g01354/impl.ShiftNumber -/
def impl_ShiftNumber_M : Nat → List Nat := fun i => []
def impl_ShiftNumber_main (S : SatT) (K : KT) (x0 : List AVal) (x1 : Sl) (h : H) : Prop :=
 newK 2 x0 h fun p0 h1 =>
 ldA p0 2 h1 fun cs2 =>
 callI S .i64 i_impl_torusCode [.agg cs2, .sl x1] h1 fun n4 h3 =>
 bif (n4 != (0)) then
 K (.tuple [.int .i64 (0), .int .i64 n4]) h3
 else
 ixS x1 1 (0) fun p5 =>
 ldS p5 h3 fun s6 =>
 callS S i_impl_keeping [.sl x1] h3 fun s8 h7 =>
(cell h7 p5 = cell h3 p5) ∧ (
 nz (s8.len : Int) (
 K (.tuple [.int .i64 (w64 (Int.tdiv (w64 ((x1.len : Int) * (s6.len : Int))) (s8.len : Int))), .int .i64 (0)]) h7))
theorem impl_ShiftNumber_main_link (S : SatT) (K : KT) (x0 : List AVal) (x1 : Sl) (h : H) : cwp S tab impl_ShiftNumber_M [] (bodyOf Tryz.f26) (kFun tab Tryz.f26.results.toList K) (fr0 Tryz.f26 [.agg x0, .sl x1]) h = impl_ShiftNumber_main S K x0 x1 h := by kernel_rfl
theorem impl_ShiftNumber_call (x0 : List AVal) (x1 : Sl) (h : H) (K : KT) (hm : impl_ShiftNumber_main (Sat Tryz.prog) (fun v h' => K v h') x0 x1 h) : callV (Sat Tryz.prog) i_impl_ShiftNumber [.agg x0, .sl x1] h K := by
  have := Sat.ex tok mixed impl_ShiftNumber_M Tryz.func26 (c := bodyOf Tryz.f26) (by kernel_rfl) (calls_of Tryz.func26 (c := bodyOf Tryz.f26) (by kernel_rfl) (by decide)) ((impl_ShiftNumber_main_link _ _ x0 x1 h).mpr hm)
  exact this

/-! ### loop.example/g01354/spec.DrawShiftNumber -/
def spec_DrawShiftNumber_M : Nat → List Nat := fun i => []
def spec_DrawShiftNumber_main (S : SatT) (K : KT) (x0 : Sl) (h : H) : Prop :=
 newO [.int .i64 (0), .sl Sl.nil] h fun p0 h1 =>
 callP S i_spec_l01From [.sl x0] h1 fun p3 h2 =>
 callV S i_spec_l05With [.ptr p3] h2 fun v5 h4 =>
 viaT v5 fun vs6 =>
 exA vs6 0 fun cs7 =>
 viaT v5 fun vs8 =>
 exS vs8 1 fun s9 =>
 newO [.int .i64 (0), .sl Sl.nil] h4 fun p10 h11 =>
 stN p10 2 cs7 h11 fun h12 =>
 ldA p10 2 h12 fun cs13 =>
 stN p0 2 cs13 h12 fun h14 =>
 ldA p0 2 h14 fun cs15 =>
 K (.tuple [.agg cs15, .sl s9]) h14
theorem spec_DrawShiftNumber_main_link (S : SatT) (K : KT) (x0 : Sl) (h : H) : cwp S tab spec_DrawShiftNumber_M [] (bodyOf Tryz.f35) (kFun tab Tryz.f35.results.toList K) (fr0 Tryz.f35 [.sl x0]) h = spec_DrawShiftNumber_main S K x0 h := by kernel_rfl
theorem spec_DrawShiftNumber_call (x0 : Sl) (h : H) (K : KT) (hm : spec_DrawShiftNumber_main (Sat Tryz.prog) (fun v h' => K v h') x0 h) : callV (Sat Tryz.prog) i_spec_DrawShiftNumber [.sl x0] h K := by
  have := Sat.ex tok mixed spec_DrawShiftNumber_M Tryz.func35 (c := bodyOf Tryz.f35) (by kernel_rfl) (calls_of Tryz.func35 (c := bodyOf Tryz.f35) (by kernel_rfl) (by decide)) ((spec_DrawShiftNumber_main_link _ _ x0 h).mpr hm)
  exact this

/-! ### loop.example/g01354/impl.IsTorus -/
def impl_IsTorus_M : Nat → List Nat := fun i => []
def impl_IsTorus_main (S : SatT) (K : KT) (x0 : List AVal) (x1 : Sl) (h : H) : Prop :=
 newK 2 x0 h fun p0 h1 =>
 newO [.sl x1] h1 fun p2 h3 =>
 ldA p0 2 h3 fun cs4 =>
 callI S .i64 i_impl_setCode [.agg cs4, .func 68 [.ptr p0, .ptr p2]] h3 fun n6 h5 =>
 bif (n6 != (0)) then
 K (.tuple [.bool false, .int .i64 n6]) h5
 else
 ldA p0 2 h5 fun cs7 =>
 ldS p2 h5 fun s8 =>
 callB S i_impl_Set_isTorus [.agg cs7, .sl s8] h5 fun b10 h9 =>
 K (.tuple [.bool b10, .int .i64 (0)]) h9
theorem impl_IsTorus_main_link (S : SatT) (K : KT) (x0 : List AVal) (x1 : Sl) (h : H) : cwp S tab impl_IsTorus_M [] (bodyOf Tryz.f23) (kFun tab Tryz.f23.results.toList K) (fr0 Tryz.f23 [.agg x0, .sl x1]) h = impl_IsTorus_main S K x0 x1 h := by kernel_rfl
theorem impl_IsTorus_call (x0 : List AVal) (x1 : Sl) (h : H) (K : KT) (hm : impl_IsTorus_main (Sat Tryz.prog) (fun v h' => K v h') x0 x1 h) : callV (Sat Tryz.prog) i_impl_IsTorus [.agg x0, .sl x1] h K := by
  have := Sat.ex tok mixed impl_IsTorus_M Tryz.func23 (c := bodyOf Tryz.f23) (by kernel_rfl) (calls_of Tryz.func23 (c := bodyOf Tryz.f23) (by kernel_rfl) (by decide)) ((impl_IsTorus_main_link _ _ x0 x1 h).mpr hm)
  exact this

/-! ### (loop.example/g01354/impl.Set).isNumber -/
def impl_Set_isNumber_M : Nat → List Nat := fun i => []
def impl_Set_isNumber_main (S : SatT) (K : KT) (x0 : List AVal) (x1 : Int) (h : H) : Prop :=
 newK 2 x0 h fun p0 h1 =>
 isPt p0 (
 ldS (Pt.add p0 1) h1 fun s2 =>
 callB S i_impl_within [.int .i64 x1, .int .i64 (0), .int .i64 (w64 ((s2.len : Int) - (1)))] h1 fun b4 h3 =>
 K (.bool b4) h3)
theorem impl_Set_isNumber_main_link (S : SatT) (K : KT) (x0 : List AVal) (x1 : Int) (h : H) : cwp S tab impl_Set_isNumber_M [] (bodyOf Tryz.f94) (kFun tab Tryz.f94.results.toList K) (fr0 Tryz.f94 [.agg x0, .int .i64 x1]) h = impl_Set_isNumber_main S K x0 x1 h := by kernel_rfl
theorem impl_Set_isNumber_call (x0 : List AVal) (x1 : Int) (h : H) (K : Bool → H → Prop) (hm : impl_Set_isNumber_main (Sat Tryz.prog) (fun v h' => ∃ r, v = .bool r ∧ K r h') x0 x1 h) : callB (Sat Tryz.prog) i_impl_Set_isNumber [.agg x0, .int .i64 x1] h K := by
  have := Sat.ex tok mixed impl_Set_isNumber_M Tryz.func94 (c := bodyOf Tryz.f94) (by kernel_rfl) (calls_of Tryz.func94 (c := bodyOf Tryz.f94) (by kernel_rfl) (by decide)) ((impl_Set_isNumber_main_link _ _ x0 x1 h).mpr hm)
  obtain ⟨v, h2, h3, r, rfl, h4⟩ := this; exact ⟨r, h2, h3, h4⟩

/-! ### loop.example/g01354/impl.ShiftsKept -/
def impl_ShiftsKept_M : Nat → List Nat := fun i => []
def impl_ShiftsKept_main (S : SatT) (K : KT) (x0 : List AVal) (x1 : Sl) (h : H) : Prop :=
 newK 2 x0 h fun p0 h1 =>
 ldA p0 2 h1 fun cs2 =>
 callI S .i64 i_impl_torusCode [.agg cs2, .sl x1] h1 fun n4 h3 =>
 bif (n4 != (0)) then
 K (.tuple [.sl Sl.nil, .int .i64 n4]) h3
 else
 callS S i_impl_keeping [.sl x1] h3 fun s6 h5 =>
 K (.tuple [.sl s6, .int .i64 (0)]) h5
theorem impl_ShiftsKept_main_link (S : SatT) (K : KT) (x0 : List AVal) (x1 : Sl) (h : H) : cwp S tab impl_ShiftsKept_M [] (bodyOf Tryz.f25) (kFun tab Tryz.f25.results.toList K) (fr0 Tryz.f25 [.agg x0, .sl x1]) h = impl_ShiftsKept_main S K x0 x1 h := by kernel_rfl
theorem impl_ShiftsKept_call (x0 : List AVal) (x1 : Sl) (h : H) (K : KT) (hm : impl_ShiftsKept_main (Sat Tryz.prog) (fun v h' => K v h') x0 x1 h) : callV (Sat Tryz.prog) i_impl_ShiftsKept [.agg x0, .sl x1] h K := by
  have := Sat.ex tok mixed impl_ShiftsKept_M Tryz.func25 (c := bodyOf Tryz.f25) (by kernel_rfl) (calls_of Tryz.func25 (c := bodyOf Tryz.f25) (by kernel_rfl) (by decide)) ((impl_ShiftsKept_main_link _ _ x0 x1 h).mpr hm)
  exact this

/-! ### loop.example/g01354/spec.LeastForm -/
def spec_LeastForm_M : Nat → List Nat := fun i => []
def spec_LeastForm_main (S : SatT) (K : KT) (x0 : List AVal) (x1 : Sl) (h : H) : Prop :=
 newK 2 x0 h fun p0 h1 =>
 ldA p0 2 h1 fun cs2 =>
 callI S .i64 i_spec_l05Given [.agg cs2, .sl x1] h1 fun n4 h3 =>
 bif (n4 != (0)) then
 K (.tuple [.sl Sl.nil, .int .i64 n4]) h3
 else
 callS S i_spec_l05Least [.sl x1] h3 fun s6 h5 =>
 K (.tuple [.sl s6, .int .i64 (0)]) h5
theorem spec_LeastForm_main_link (S : SatT) (K : KT) (x0 : List AVal) (x1 : Sl) (h : H) : cwp S tab spec_LeastForm_M [] (bodyOf Tryz.f32) (kFun tab Tryz.f32.results.toList K) (fr0 Tryz.f32 [.agg x0, .sl x1]) h = spec_LeastForm_main S K x0 x1 h := by kernel_rfl
theorem spec_LeastForm_call (x0 : List AVal) (x1 : Sl) (h : H) (K : KT) (hm : spec_LeastForm_main (Sat Tryz.prog) (fun v h' => K v h') x0 x1 h) : callV (Sat Tryz.prog) i_spec_LeastForm [.agg x0, .sl x1] h K := by
  have := Sat.ex tok mixed spec_LeastForm_M Tryz.func32 (c := bodyOf Tryz.f32) (by kernel_rfl) (calls_of Tryz.func32 (c := bodyOf Tryz.f32) (by kernel_rfl) (by decide)) ((spec_LeastForm_main_link _ _ x0 x1 h).mpr hm)
  exact this

/-! ### loop.example/g01354/impl.CountForms$1 -/
def impl_CountForms_1_M : Nat → List Nat := fun i => []
def impl_CountForms_1_main (S : SatT) (K : KT) (x0 x1 : Pt) (h : H) : Prop :=
 ldI .i64 x0 h fun n0 =>
 ldI .i64 x1 h fun n1 =>
 callB S i_impl_areSizes [.int .i64 n0, .int .i64 n1] h fun b3 h2 =>
 K (.bool b3) h2
theorem impl_CountForms_1_main_link (S : SatT) (K : KT) (x0 x1 : Pt) (h : H) : cwp S tab impl_CountForms_1_M [] (bodyOf Tryz.f73) (kFun tab Tryz.f73.results.toList K) (fr0 Tryz.f73 [.ptr x0, .ptr x1]) h = impl_CountForms_1_main S K x0 x1 h := by kernel_rfl
theorem impl_CountForms_1_call (x0 x1 : Pt) (h : H) (K : Bool → H → Prop) (hm : impl_CountForms_1_main (Sat Tryz.prog) (fun v h' => ∃ r, v = .bool r ∧ K r h') x0 x1 h) : callB (Sat Tryz.prog) i_impl_CountForms_1 [.ptr x0, .ptr x1] h K := by
  have := Sat.ex tok mixed impl_CountForms_1_M Tryz.func73 (c := bodyOf Tryz.f73) (by kernel_rfl) (calls_of Tryz.func73 (c := bodyOf Tryz.f73) (by kernel_rfl) (by decide)) ((impl_CountForms_1_main_link _ _ x0 x1 h).mpr hm)
  obtain ⟨v, h2, h3, r, rfl, h4⟩ := this; exact ⟨r, h2, h3, h4⟩

/-! ### loop.example/g01354/impl.torusCode$1 -/
def impl_torusCode_1_M : Nat → List Nat := fun i => []
def impl_torusCode_1_main (S : SatT) (K : KT) (x0 x1 : Pt) (h : H) : Prop :=
 ldA x0 2 h fun cs0 =>
 ldS x1 h fun s1 =>
 callB S i_impl_Set_areNumbers [.agg cs0, .sl s1] h fun b3 h2 =>
 K (.bool b3) h2
theorem impl_torusCode_1_main_link (S : SatT) (K : KT) (x0 x1 : Pt) (h : H) : cwp S tab impl_torusCode_1_M [] (bodyOf Tryz.f114) (kFun tab Tryz.f114.results.toList K) (fr0 Tryz.f114 [.ptr x0, .ptr x1]) h = impl_torusCode_1_main S K x0 x1 h := by kernel_rfl
theorem impl_torusCode_1_call (x0 x1 : Pt) (h : H) (K : Bool → H → Prop) (hm : impl_torusCode_1_main (Sat Tryz.prog) (fun v h' => ∃ r, v = .bool r ∧ K r h') x0 x1 h) : callB (Sat Tryz.prog) i_impl_torusCode_1 [.ptr x0, .ptr x1] h K := by
  have := Sat.ex tok mixed impl_torusCode_1_M Tryz.func114 (c := bodyOf Tryz.f114) (by kernel_rfl) (calls_of Tryz.func114 (c := bodyOf Tryz.f114) (by kernel_rfl) (by decide)) ((impl_torusCode_1_main_link _ _ x0 x1 h).mpr hm)
  obtain ⟨v, h2, h3, r, rfl, h4⟩ := this; exact ⟨r, h2, h3, h4⟩

/-! ### loop.example/g01354/spec.l01In -/
def spec_l01In_M : Nat → List Nat := fun i => []
def spec_l01In_main (S : SatT) (K : KT) (x0 x1 x2 : Int) (h : H) : Prop :=
 bif (decide (x0 ≥ x1)) then
 K (.bool (decide (x0 ≤ x2))) h
 else
 K (.bool false) h
theorem spec_l01In_main_link (S : SatT) (K : KT) (x0 x1 x2 : Int) (h : H) : cwp S tab spec_l01In_M [] (bodyOf Tryz.f65) (kFun tab Tryz.f65.results.toList K) (fr0 Tryz.f65 [.int .i64 x0, .int .i64 x1, .int .i64 x2]) h = spec_l01In_main S K x0 x1 x2 h := by kernel_rfl
theorem spec_l01In_call (x0 x1 x2 : Int) (h : H) (K : Bool → H → Prop) (hm : spec_l01In_main (Sat Tryz.prog) (fun v h' => ∃ r, v = .bool r ∧ K r h') x0 x1 x2 h) : callB (Sat Tryz.prog) i_spec_l01In [.int .i64 x0, .int .i64 x1, .int .i64 x2] h K := by
  have := Sat.ex tok mixed spec_l01In_M Tryz.func65 (c := bodyOf Tryz.f65) (by kernel_rfl) (calls_of Tryz.func65 (c := bodyOf Tryz.f65) (by kernel_rfl) (by decide)) ((spec_l01In_main_link _ _ x0 x1 x2 h).mpr hm)
  obtain ⟨v, h2, h3, r, rfl, h4⟩ := this; exact ⟨r, h2, h3, h4⟩

/-! ### loop.example/g01354/impl.IsTorus$1 -/
def impl_IsTorus_1_M : Nat → List Nat := fun i => []
def impl_IsTorus_1_main (S : SatT) (K : KT) (x0 x1 : Pt) (h : H) : Prop :=
 ldA x0 2 h fun cs0 =>
 ldS x1 h fun s1 =>
 callB S i_impl_Set_areNumbers [.agg cs0, .sl s1] h fun b3 h2 =>
 K (.bool b3) h2
theorem impl_IsTorus_1_main_link (S : SatT) (K : KT) (x0 x1 : Pt) (h : H) : cwp S tab impl_IsTorus_1_M [] (bodyOf Tryz.f68) (kFun tab Tryz.f68.results.toList K) (fr0 Tryz.f68 [.ptr x0, .ptr x1]) h = impl_IsTorus_1_main S K x0 x1 h := by kernel_rfl
theorem impl_IsTorus_1_call (x0 x1 : Pt) (h : H) (K : Bool → H → Prop) (hm : impl_IsTorus_1_main (Sat Tryz.prog) (fun v h' => ∃ r, v = .bool r ∧ K r h') x0 x1 h) : callB (Sat Tryz.prog) i_impl_IsTorus_1 [.ptr x0, .ptr x1] h K := by
  have := Sat.ex tok mixed impl_IsTorus_1_M Tryz.func68 (c := bodyOf Tryz.f68) (by kernel_rfl) (calls_of Tryz.func68 (c := bodyOf Tryz.f68) (by kernel_rfl) (by decide)) ((impl_IsTorus_1_main_link _ _ x0 x1 h).mpr hm)
  obtain ⟨v, h2, h3, r, rfl, h4⟩ := this; exact ⟨r, h2, h3, h4⟩

/-! ### (loop.example/g01354/impl.Set).tori$1 -/
def impl_Set_tori_1_M : Nat → List Nat := fun i => bif i == 2 then [0, 1, 2, 3, 5, 6, 11, 12, 48, 49, 50] else bif i == 0 then [1, 3, 4, 9, 20, 21] else []
def impl_Set_tori_1_ks1 (S : SatT) (K : KT) : Kont := kSeq (cwp S tab impl_Set_tori_1_M [] (sub [1, 1] (bodyOf Tryz.f118)) (kFun tab (Tryz.f118).results.toList K)) (kFun tab (Tryz.f118).results.toList K)
def impl_Set_tori_1_ks4 (S : SatT) (K : KT) : Kont := kSeq (cwp S tab impl_Set_tori_1_M [] (sub [1, 0, 1, 0, 1, 1] (bodyOf Tryz.f118)) (impl_Set_tori_1_ks1 S K)) (impl_Set_tori_1_ks1 S K)
def impl_Set_tori_1_e0 (p1_ p3_ p4_ : Pt) (s9_ : Sl) (i20_ i21_ : Int) : Frame := [U, .ptr p1_, U, .ptr p3_, .ptr p4_, U, U, U, U, .sl s9_, U, U, U, U, U, U, U, U, U, U, .int .i64 i20_, .int .i64 i21_, U, U, U, U, U, U, U, U, U, U, U, U, U, U, U, U, U, U, U, U, U, U, U, U, U, U, U, U, U, U, U, U, U, U, U, U, U, U, U, U, U, U, U, U, U, U, U, U, U, U, U, U, U, U, U, U, U, U, U, U, U, U, U, U, U, U, U, U, U, U, U, U, U, U, U, U, U, U, U, U, U, U, U, U, U, U, U, U, U, U, U, U, U, U, U, U, U, U, U, U, U, U, U, U, U, U, U, U, U, U, U, U, U, U, U, U, U, U, U, U]
def impl_Set_tori_1_w0 (S : SatT) (K : KT) : (XT) → XT := fun X fr h => cwp S tab impl_Set_tori_1_M (impl_Set_tori_1_M 0) (sub [1, 0, 1, 0, 1, 0, 1, 0, 0] (bodyOf Tryz.f118)) (kSeq (fun fr h => X (mask (impl_Set_tori_1_M 0) fr) h) (kBlk 0 (impl_Set_tori_1_ks4 S K))) fr h
def impl_Set_tori_1_L0 (S : SatT) (K : KT) (p1_ p3_ p4_ : Pt) (s9_ : Sl) (i20_ i21_ : Int) (h : H) : Prop := loopK (impl_Set_tori_1_w0 S K) (impl_Set_tori_1_e0 p1_ p3_ p4_ s9_ i20_ i21_) h
def impl_Set_tori_1_C0 (S : SatT) (K : KT) (p4_ : Pt) (s9_ : Sl) (h : H) : Prop :=
 ldV p4_ h fun v0 =>
 viaF v0 [.sl s9_] fun g1 ys2 =>
 callB S g1 ys2 h fun b4 h3 =>
 K (.bool b4) h3
def impl_Set_tori_1_b0 (S : SatT) (K : KT) (X0 : XT) (p1_ p3_ p4_ : Pt) (s9_ : Sl) (i20_ i21_ : Int) (h : H) : Prop :=
 bif (decide (i21_ < i20_)) then
 ldS p1_ h fun s0 =>
 ldI .i64 p3_ h fun n1 =>
 ldI .i64 p3_ h fun n2 =>
 cut s0 1 (w64 (i21_ * n1)) (w64 ((w64 (i21_ + (1))) * n2)) h fun s3 =>
 callS S i_slices_Clone_s_int64_int64_ [.sl s3] h fun s5 h4 =>
 newS 1 1 [.sl s5] h4 fun s6 h7 =>
 app s9_ s6 1 h7 fun s8 h9 =>
 X0 (impl_Set_tori_1_e0 p1_ p3_ p4_ s8 i20_ (w64 (i21_ + (1)))) h9
 else
 impl_Set_tori_1_C0 S K p4_ s9_ h
theorem impl_Set_tori_1_link0 (S : SatT) (K : KT) (X0 : XT) (p1_ p3_ p4_ : Pt) (s9_ : Sl) (i20_ i21_ : Int) (h : H) : impl_Set_tori_1_w0 S K X0 (impl_Set_tori_1_e0 p1_ p3_ p4_ s9_ i20_ i21_) h = impl_Set_tori_1_b0 S K X0 p1_ p3_ p4_ s9_ i20_ i21_ h := by kernel_rfl
theorem impl_Set_tori_1_rule0 (S : SatT) (K : KT) (p1_ p3_ p4_ : Pt) (i20_ : Int) (I_ : Sl → Int → H → Prop) (m_ : Sl → Int → H → Nat)
    (hs : ∀ (X0 : XT) (s9_ : Sl) (i21_ : Int) (h : H), I_ s9_ i21_ h → (∀ (s9_' : Sl) (i21_' : Int) (h' : H), I_ s9_' i21_' h' → m_ s9_' i21_' h' < m_ s9_ i21_ h → X0 (impl_Set_tori_1_e0 p1_ p3_ p4_ s9_' i20_ i21_') h') → impl_Set_tori_1_b0 S K X0 p1_ p3_ p4_ s9_ i20_ i21_ h) (s9_ : Sl) (i21_ : Int) {h : H} (h0 : I_ s9_ i21_ h) : impl_Set_tori_1_L0 S K p1_ p3_ p4_ s9_ i20_ i21_ h :=
  loop_rule (σ := (Sl) × (Int)) (fun s_ => impl_Set_tori_1_e0 p1_ p3_ p4_ (s_.1) i20_ (s_.2)) (fun s_ h => I_ (s_.1) (s_.2) h) (fun s_ h => m_ (s_.1) (s_.2) h)
    (fun X s_ h hi hx => (impl_Set_tori_1_link0 S K X p1_ p3_ p4_ (s_.1) i20_ (s_.2) h).mpr (hs X (s_.1) (s_.2) h hi fun s9_' i21_' h' hi' hm' => hx (s9_', i21_') h' hi' hm')) (s9_, i21_) h0
def impl_Set_tori_1_ks12 (S : SatT) (K : KT) : Kont := kSeq (cwp S tab impl_Set_tori_1_M [] (sub [1, 1, 1, 1] (bodyOf Tryz.f118)) (kFun tab (Tryz.f118).results.toList K)) (kFun tab (Tryz.f118).results.toList K)
def impl_Set_tori_1_e2 (i0_ : Int) (p1_ p2_ : Pt) (p3_ p5_ p6_ : Pt) (i11_ i12_ : Int) (s48_ : Sl) (i49_ i50_ : Int) : Frame := [.int .i64 i0_, .ptr p1_, .ptr p2_, .ptr p3_, U, .ptr p5_, .ptr p6_, U, U, U, U, .int .i64 i11_, .int .i64 i12_, U, U, U, U, U, U, U, U, U, U, U, U, U, U, U, U, U, U, U, U, U, U, U, U, U, U, U, U, U, U, U, U, U, U, U, .sl s48_, .int .i64 i49_, .int .i64 i50_, U, U, U, U, U, U, U, U, U, U, U, U, U, U, U, U, U, U, U, U, U, U, U, U, U, U, U, U, U, U, U, U, U, U, U, U, U, U, U, U, U, U, U, U, U, U, U, U, U, U, U, U, U, U, U, U, U, U, U, U, U, U, U, U, U, U, U, U, U, U, U, U, U, U, U, U, U, U, U, U, U, U, U, U, U, U, U, U, U, U, U]
def impl_Set_tori_1_w2 (S : SatT) (K : KT) : (XT) → XT := fun X fr h => cwp S tab impl_Set_tori_1_M (impl_Set_tori_1_M 2) (sub [1, 1, 1, 0, 1, 0, 0] (bodyOf Tryz.f118)) (kSeq (fun fr h => X (mask (impl_Set_tori_1_M 2) fr) h) (kBlk 2 (impl_Set_tori_1_ks12 S K))) fr h
def impl_Set_tori_1_L2 (S : SatT) (K : KT) (i0_ : Int) (p1_ p2_ : Pt) (p3_ p5_ p6_ : Pt) (i11_ i12_ : Int) (s48_ : Sl) (i49_ i50_ : Int) (h : H) : Prop := loopK (impl_Set_tori_1_w2 S K) (impl_Set_tori_1_e2 i0_ p1_ p2_ p3_ p5_ p6_ i11_ i12_ s48_ i49_ i50_) h
def impl_Set_tori_1_C2 (S : SatT) (K : KT) (h : H) : Prop :=
 K (.bool true) h
def impl_Set_tori_1_b2 (S : SatT) (K : KT) (X2 : XT) (i0_ : Int) (p1_ p2_ : Pt) (p3_ p5_ p6_ : Pt) (i11_ i12_ : Int) (s48_ : Sl) (i49_ i50_ : Int) (h : H) : Prop :=
 bif (decide (i50_ < i49_)) then
 ixS s48_ 4 i50_ fun p0 =>
 ldA p0 4 h fun cs1 =>
 newO [.int .i64 (0), .int .i64 (0), .int .i64 (0), .int .i64 (0)] h fun p2 h3 =>
 stN p2 4 cs1 h3 fun h4 =>
 ldS p1_ h4 fun s5 =>
 ixS s5 1 i0_ fun p6 =>
 st1 p6 (.int .i64 i50_) h4 fun h7 =>
 bif (decide (i12_ > (0))) then
 isPt p5_ (
 ldS (Pt.add p5_ 1) h7 fun s8 =>
 ldS p1_ h7 fun s9 =>
 ixS s9 1 (w64 (i0_ - (1))) fun p10 =>
 ldI .i64 p10 h7 fun n11 =>
 ixS s8 4 n11 fun p12 =>
 ixA p12 4 1 (2) fun p13 =>
 ldI .i64 p13 h7 fun n14 =>
 ixA p2 4 1 (0) fun p15 =>
 ldI .i64 p15 h7 fun n16 =>
 bif (n14 != n16) then
 X2 (impl_Set_tori_1_e2 i0_ p1_ p2_ p3_ p5_ p6_ i11_ i12_ s48_ i49_ (w64 (i50_ + (1)))) h7
 else
 ldI .i64 p3_ h7 fun n17 =>
 bif (i12_ == (w64 (n17 - (1)))) then
 isPt p5_ (
 ldS (Pt.add p5_ 1) h7 fun s18 =>
 ldS p1_ h7 fun s19 =>
 ldI .i64 p3_ h7 fun n20 =>
 ixS s19 1 (w64 (i11_ * n20)) fun p21 =>
 ldI .i64 p21 h7 fun n22 =>
 ixS s18 4 n22 fun p23 =>
 ixA p23 4 1 (0) fun p24 =>
 ldI .i64 p24 h7 fun n25 =>
 ixA p2 4 1 (2) fun p26 =>
 ldI .i64 p26 h7 fun n27 =>
 bif (n25 != n27) then
 X2 (impl_Set_tori_1_e2 i0_ p1_ p2_ p3_ p5_ p6_ i11_ i12_ s48_ i49_ (w64 (i50_ + (1)))) h7
 else
 bif (decide (i11_ > (0))) then
 isPt p5_ (
 ldS (Pt.add p5_ 1) h7 fun s28 =>
 ldS p1_ h7 fun s29 =>
 ldI .i64 p3_ h7 fun n30 =>
 ixS s29 1 (w64 (i0_ - n30)) fun p31 =>
 ldI .i64 p31 h7 fun n32 =>
 ixS s28 4 n32 fun p33 =>
 ixA p33 4 1 (3) fun p34 =>
 ldI .i64 p34 h7 fun n35 =>
 ixA p2 4 1 (1) fun p36 =>
 ldI .i64 p36 h7 fun n37 =>
 bif (n35 != n37) then
 X2 (impl_Set_tori_1_e2 i0_ p1_ p2_ p3_ p5_ p6_ i11_ i12_ s48_ i49_ (w64 (i50_ + (1)))) h7
 else
 ldI .i64 p2_ h7 fun n38 =>
 bif (i11_ == (w64 (n38 - (1)))) then
 isPt p5_ (
 ldS (Pt.add p5_ 1) h7 fun s39 =>
 ldS p1_ h7 fun s40 =>
 ixS s40 1 i12_ fun p41 =>
 ldI .i64 p41 h7 fun n42 =>
 ixS s39 4 n42 fun p43 =>
 ixA p43 4 1 (1) fun p44 =>
 ldI .i64 p44 h7 fun n45 =>
 ixA p2 4 1 (3) fun p46 =>
 ldI .i64 p46 h7 fun n47 =>
 bif (n45 != n47) then
 X2 (impl_Set_tori_1_e2 i0_ p1_ p2_ p3_ p5_ p6_ i11_ i12_ s48_ i49_ (w64 (i50_ + (1)))) h7
 else
 ldV p6_ h7 fun v48 =>
 viaF v48 [.int .i64 (w64 (i0_ + (1)))] fun g49 ys50 =>
 callB S g49 ys50 h7 fun b52 h51 =>
 bif (!b52) then
 K (.bool false) h51
 else
 X2 (impl_Set_tori_1_e2 i0_ p1_ p2_ p3_ p5_ p6_ i11_ i12_ s48_ i49_ (w64 (i50_ + (1)))) h51)
 else
 ldV p6_ h7 fun v53 =>
 viaF v53 [.int .i64 (w64 (i0_ + (1)))] fun g54 ys55 =>
 callB S g54 ys55 h7 fun b57 h56 =>
 bif (!b57) then
 K (.bool false) h56
 else
 X2 (impl_Set_tori_1_e2 i0_ p1_ p2_ p3_ p5_ p6_ i11_ i12_ s48_ i49_ (w64 (i50_ + (1)))) h56)
 else
 ldI .i64 p2_ h7 fun n58 =>
 bif (i11_ == (w64 (n58 - (1)))) then
 isPt p5_ (
 ldS (Pt.add p5_ 1) h7 fun s59 =>
 ldS p1_ h7 fun s60 =>
 ixS s60 1 i12_ fun p61 =>
 ldI .i64 p61 h7 fun n62 =>
 ixS s59 4 n62 fun p63 =>
 ixA p63 4 1 (1) fun p64 =>
 ldI .i64 p64 h7 fun n65 =>
 ixA p2 4 1 (3) fun p66 =>
 ldI .i64 p66 h7 fun n67 =>
 bif (n65 != n67) then
 X2 (impl_Set_tori_1_e2 i0_ p1_ p2_ p3_ p5_ p6_ i11_ i12_ s48_ i49_ (w64 (i50_ + (1)))) h7
 else
 ldV p6_ h7 fun v68 =>
 viaF v68 [.int .i64 (w64 (i0_ + (1)))] fun g69 ys70 =>
 callB S g69 ys70 h7 fun b72 h71 =>
 bif (!b72) then
 K (.bool false) h71
 else
 X2 (impl_Set_tori_1_e2 i0_ p1_ p2_ p3_ p5_ p6_ i11_ i12_ s48_ i49_ (w64 (i50_ + (1)))) h71)
 else
 ldV p6_ h7 fun v73 =>
 viaF v73 [.int .i64 (w64 (i0_ + (1)))] fun g74 ys75 =>
 callB S g74 ys75 h7 fun b77 h76 =>
 bif (!b77) then
 K (.bool false) h76
 else
 X2 (impl_Set_tori_1_e2 i0_ p1_ p2_ p3_ p5_ p6_ i11_ i12_ s48_ i49_ (w64 (i50_ + (1)))) h76)
 else
 bif (decide (i11_ > (0))) then
 isPt p5_ (
 ldS (Pt.add p5_ 1) h7 fun s78 =>
 ldS p1_ h7 fun s79 =>
 ldI .i64 p3_ h7 fun n80 =>
 ixS s79 1 (w64 (i0_ - n80)) fun p81 =>
 ldI .i64 p81 h7 fun n82 =>
 ixS s78 4 n82 fun p83 =>
 ixA p83 4 1 (3) fun p84 =>
 ldI .i64 p84 h7 fun n85 =>
 ixA p2 4 1 (1) fun p86 =>
 ldI .i64 p86 h7 fun n87 =>
 bif (n85 != n87) then
 X2 (impl_Set_tori_1_e2 i0_ p1_ p2_ p3_ p5_ p6_ i11_ i12_ s48_ i49_ (w64 (i50_ + (1)))) h7
 else
 ldI .i64 p2_ h7 fun n88 =>
 bif (i11_ == (w64 (n88 - (1)))) then
 isPt p5_ (
 ldS (Pt.add p5_ 1) h7 fun s89 =>
 ldS p1_ h7 fun s90 =>
 ixS s90 1 i12_ fun p91 =>
 ldI .i64 p91 h7 fun n92 =>
 ixS s89 4 n92 fun p93 =>
 ixA p93 4 1 (1) fun p94 =>
 ldI .i64 p94 h7 fun n95 =>
 ixA p2 4 1 (3) fun p96 =>
 ldI .i64 p96 h7 fun n97 =>
 bif (n95 != n97) then
 X2 (impl_Set_tori_1_e2 i0_ p1_ p2_ p3_ p5_ p6_ i11_ i12_ s48_ i49_ (w64 (i50_ + (1)))) h7
 else
 ldV p6_ h7 fun v98 =>
 viaF v98 [.int .i64 (w64 (i0_ + (1)))] fun g99 ys100 =>
 callB S g99 ys100 h7 fun b102 h101 =>
 bif (!b102) then
 K (.bool false) h101
 else
 X2 (impl_Set_tori_1_e2 i0_ p1_ p2_ p3_ p5_ p6_ i11_ i12_ s48_ i49_ (w64 (i50_ + (1)))) h101)
 else
 ldV p6_ h7 fun v103 =>
 viaF v103 [.int .i64 (w64 (i0_ + (1)))] fun g104 ys105 =>
 callB S g104 ys105 h7 fun b107 h106 =>
 bif (!b107) then
 K (.bool false) h106
 else
 X2 (impl_Set_tori_1_e2 i0_ p1_ p2_ p3_ p5_ p6_ i11_ i12_ s48_ i49_ (w64 (i50_ + (1)))) h106)
 else
 ldI .i64 p2_ h7 fun n108 =>
 bif (i11_ == (w64 (n108 - (1)))) then
 isPt p5_ (
 ldS (Pt.add p5_ 1) h7 fun s109 =>
 ldS p1_ h7 fun s110 =>
 ixS s110 1 i12_ fun p111 =>
 ldI .i64 p111 h7 fun n112 =>
 ixS s109 4 n112 fun p113 =>
 ixA p113 4 1 (1) fun p114 =>
 ldI .i64 p114 h7 fun n115 =>
 ixA p2 4 1 (3) fun p116 =>
 ldI .i64 p116 h7 fun n117 =>
 bif (n115 != n117) then
 X2 (impl_Set_tori_1_e2 i0_ p1_ p2_ p3_ p5_ p6_ i11_ i12_ s48_ i49_ (w64 (i50_ + (1)))) h7
 else
 ldV p6_ h7 fun v118 =>
 viaF v118 [.int .i64 (w64 (i0_ + (1)))] fun g119 ys120 =>
 callB S g119 ys120 h7 fun b122 h121 =>
 bif (!b122) then
 K (.bool false) h121
 else
 X2 (impl_Set_tori_1_e2 i0_ p1_ p2_ p3_ p5_ p6_ i11_ i12_ s48_ i49_ (w64 (i50_ + (1)))) h121)
 else
 ldV p6_ h7 fun v123 =>
 viaF v123 [.int .i64 (w64 (i0_ + (1)))] fun g124 ys125 =>
 callB S g124 ys125 h7 fun b127 h126 =>
 bif (!b127) then
 K (.bool false) h126
 else
 X2 (impl_Set_tori_1_e2 i0_ p1_ p2_ p3_ p5_ p6_ i11_ i12_ s48_ i49_ (w64 (i50_ + (1)))) h126)
 else
 ldI .i64 p3_ h7 fun n128 =>
 bif (i12_ == (w64 (n128 - (1)))) then
 isPt p5_ (
 ldS (Pt.add p5_ 1) h7 fun s129 =>
 ldS p1_ h7 fun s130 =>
 ldI .i64 p3_ h7 fun n131 =>
 ixS s130 1 (w64 (i11_ * n131)) fun p132 =>
 ldI .i64 p132 h7 fun n133 =>
 ixS s129 4 n133 fun p134 =>
 ixA p134 4 1 (0) fun p135 =>
 ldI .i64 p135 h7 fun n136 =>
 ixA p2 4 1 (2) fun p137 =>
 ldI .i64 p137 h7 fun n138 =>
 bif (n136 != n138) then
 X2 (impl_Set_tori_1_e2 i0_ p1_ p2_ p3_ p5_ p6_ i11_ i12_ s48_ i49_ (w64 (i50_ + (1)))) h7
 else
 bif (decide (i11_ > (0))) then
 isPt p5_ (
 ldS (Pt.add p5_ 1) h7 fun s139 =>
 ldS p1_ h7 fun s140 =>
 ldI .i64 p3_ h7 fun n141 =>
 ixS s140 1 (w64 (i0_ - n141)) fun p142 =>
 ldI .i64 p142 h7 fun n143 =>
 ixS s139 4 n143 fun p144 =>
 ixA p144 4 1 (3) fun p145 =>
 ldI .i64 p145 h7 fun n146 =>
 ixA p2 4 1 (1) fun p147 =>
 ldI .i64 p147 h7 fun n148 =>
 bif (n146 != n148) then
 X2 (impl_Set_tori_1_e2 i0_ p1_ p2_ p3_ p5_ p6_ i11_ i12_ s48_ i49_ (w64 (i50_ + (1)))) h7
 else
 ldI .i64 p2_ h7 fun n149 =>
 bif (i11_ == (w64 (n149 - (1)))) then
 isPt p5_ (
 ldS (Pt.add p5_ 1) h7 fun s150 =>
 ldS p1_ h7 fun s151 =>
 ixS s151 1 i12_ fun p152 =>
 ldI .i64 p152 h7 fun n153 =>
 ixS s150 4 n153 fun p154 =>
 ixA p154 4 1 (1) fun p155 =>
 ldI .i64 p155 h7 fun n156 =>
 ixA p2 4 1 (3) fun p157 =>
 ldI .i64 p157 h7 fun n158 =>
 bif (n156 != n158) then
 X2 (impl_Set_tori_1_e2 i0_ p1_ p2_ p3_ p5_ p6_ i11_ i12_ s48_ i49_ (w64 (i50_ + (1)))) h7
 else
 ldV p6_ h7 fun v159 =>
 viaF v159 [.int .i64 (w64 (i0_ + (1)))] fun g160 ys161 =>
 callB S g160 ys161 h7 fun b163 h162 =>
 bif (!b163) then
 K (.bool false) h162
 else
 X2 (impl_Set_tori_1_e2 i0_ p1_ p2_ p3_ p5_ p6_ i11_ i12_ s48_ i49_ (w64 (i50_ + (1)))) h162)
 else
 ldV p6_ h7 fun v164 =>
 viaF v164 [.int .i64 (w64 (i0_ + (1)))] fun g165 ys166 =>
 callB S g165 ys166 h7 fun b168 h167 =>
 bif (!b168) then
 K (.bool false) h167
 else
 X2 (impl_Set_tori_1_e2 i0_ p1_ p2_ p3_ p5_ p6_ i11_ i12_ s48_ i49_ (w64 (i50_ + (1)))) h167)
 else
 ldI .i64 p2_ h7 fun n169 =>
 bif (i11_ == (w64 (n169 - (1)))) then
 isPt p5_ (
 ldS (Pt.add p5_ 1) h7 fun s170 =>
 ldS p1_ h7 fun s171 =>
 ixS s171 1 i12_ fun p172 =>
 ldI .i64 p172 h7 fun n173 =>
 ixS s170 4 n173 fun p174 =>
 ixA p174 4 1 (1) fun p175 =>
 ldI .i64 p175 h7 fun n176 =>
 ixA p2 4 1 (3) fun p177 =>
 ldI .i64 p177 h7 fun n178 =>
 bif (n176 != n178) then
 X2 (impl_Set_tori_1_e2 i0_ p1_ p2_ p3_ p5_ p6_ i11_ i12_ s48_ i49_ (w64 (i50_ + (1)))) h7
 else
 ldV p6_ h7 fun v179 =>
 viaF v179 [.int .i64 (w64 (i0_ + (1)))] fun g180 ys181 =>
 callB S g180 ys181 h7 fun b183 h182 =>
 bif (!b183) then
 K (.bool false) h182
 else
 X2 (impl_Set_tori_1_e2 i0_ p1_ p2_ p3_ p5_ p6_ i11_ i12_ s48_ i49_ (w64 (i50_ + (1)))) h182)
 else
 ldV p6_ h7 fun v184 =>
 viaF v184 [.int .i64 (w64 (i0_ + (1)))] fun g185 ys186 =>
 callB S g185 ys186 h7 fun b188 h187 =>
 bif (!b188) then
 K (.bool false) h187
 else
 X2 (impl_Set_tori_1_e2 i0_ p1_ p2_ p3_ p5_ p6_ i11_ i12_ s48_ i49_ (w64 (i50_ + (1)))) h187)
 else
 bif (decide (i11_ > (0))) then
 isPt p5_ (
 ldS (Pt.add p5_ 1) h7 fun s189 =>
 ldS p1_ h7 fun s190 =>
 ldI .i64 p3_ h7 fun n191 =>
 ixS s190 1 (w64 (i0_ - n191)) fun p192 =>
 ldI .i64 p192 h7 fun n193 =>
 ixS s189 4 n193 fun p194 =>
 ixA p194 4 1 (3) fun p195 =>
 ldI .i64 p195 h7 fun n196 =>
 ixA p2 4 1 (1) fun p197 =>
 ldI .i64 p197 h7 fun n198 =>
 bif (n196 != n198) then
 X2 (impl_Set_tori_1_e2 i0_ p1_ p2_ p3_ p5_ p6_ i11_ i12_ s48_ i49_ (w64 (i50_ + (1)))) h7
 else
 ldI .i64 p2_ h7 fun n199 =>
 bif (i11_ == (w64 (n199 - (1)))) then
 isPt p5_ (
 ldS (Pt.add p5_ 1) h7 fun s200 =>
 ldS p1_ h7 fun s201 =>
 ixS s201 1 i12_ fun p202 =>
 ldI .i64 p202 h7 fun n203 =>
 ixS s200 4 n203 fun p204 =>
 ixA p204 4 1 (1) fun p205 =>
 ldI .i64 p205 h7 fun n206 =>
 ixA p2 4 1 (3) fun p207 =>
 ldI .i64 p207 h7 fun n208 =>
 bif (n206 != n208) then
 X2 (impl_Set_tori_1_e2 i0_ p1_ p2_ p3_ p5_ p6_ i11_ i12_ s48_ i49_ (w64 (i50_ + (1)))) h7
 else
 ldV p6_ h7 fun v209 =>
 viaF v209 [.int .i64 (w64 (i0_ + (1)))] fun g210 ys211 =>
 callB S g210 ys211 h7 fun b213 h212 =>
 bif (!b213) then
 K (.bool false) h212
 else
 X2 (impl_Set_tori_1_e2 i0_ p1_ p2_ p3_ p5_ p6_ i11_ i12_ s48_ i49_ (w64 (i50_ + (1)))) h212)
 else
 ldV p6_ h7 fun v214 =>
 viaF v214 [.int .i64 (w64 (i0_ + (1)))] fun g215 ys216 =>
 callB S g215 ys216 h7 fun b218 h217 =>
 bif (!b218) then
 K (.bool false) h217
 else
 X2 (impl_Set_tori_1_e2 i0_ p1_ p2_ p3_ p5_ p6_ i11_ i12_ s48_ i49_ (w64 (i50_ + (1)))) h217)
 else
 ldI .i64 p2_ h7 fun n219 =>
 bif (i11_ == (w64 (n219 - (1)))) then
 isPt p5_ (
 ldS (Pt.add p5_ 1) h7 fun s220 =>
 ldS p1_ h7 fun s221 =>
 ixS s221 1 i12_ fun p222 =>
 ldI .i64 p222 h7 fun n223 =>
 ixS s220 4 n223 fun p224 =>
 ixA p224 4 1 (1) fun p225 =>
 ldI .i64 p225 h7 fun n226 =>
 ixA p2 4 1 (3) fun p227 =>
 ldI .i64 p227 h7 fun n228 =>
 bif (n226 != n228) then
 X2 (impl_Set_tori_1_e2 i0_ p1_ p2_ p3_ p5_ p6_ i11_ i12_ s48_ i49_ (w64 (i50_ + (1)))) h7
 else
 ldV p6_ h7 fun v229 =>
 viaF v229 [.int .i64 (w64 (i0_ + (1)))] fun g230 ys231 =>
 callB S g230 ys231 h7 fun b233 h232 =>
 bif (!b233) then
 K (.bool false) h232
 else
 X2 (impl_Set_tori_1_e2 i0_ p1_ p2_ p3_ p5_ p6_ i11_ i12_ s48_ i49_ (w64 (i50_ + (1)))) h232)
 else
 ldV p6_ h7 fun v234 =>
 viaF v234 [.int .i64 (w64 (i0_ + (1)))] fun g235 ys236 =>
 callB S g235 ys236 h7 fun b238 h237 =>
 bif (!b238) then
 K (.bool false) h237
 else
 X2 (impl_Set_tori_1_e2 i0_ p1_ p2_ p3_ p5_ p6_ i11_ i12_ s48_ i49_ (w64 (i50_ + (1)))) h237
 else
 impl_Set_tori_1_C2 S K h
theorem impl_Set_tori_1_link2 (S : SatT) (K : KT) (X2 : XT) (i0_ : Int) (p1_ p2_ : Pt) (p3_ p5_ p6_ : Pt) (i11_ i12_ : Int) (s48_ : Sl) (i49_ i50_ : Int) (h : H) : impl_Set_tori_1_w2 S K X2 (impl_Set_tori_1_e2 i0_ p1_ p2_ p3_ p5_ p6_ i11_ i12_ s48_ i49_ i50_) h = impl_Set_tori_1_b2 S K X2 i0_ p1_ p2_ p3_ p5_ p6_ i11_ i12_ s48_ i49_ i50_ h := by kernel_rfl
theorem impl_Set_tori_1_rule2 (S : SatT) (K : KT) (i0_ : Int) (p1_ p2_ : Pt) (p3_ p5_ p6_ : Pt) (i11_ i12_ : Int) (s48_ : Sl) (i49_ : Int) (I_ : Int → H → Prop) (m_ : Int → H → Nat)
    (hs : ∀ (X2 : XT) (i50_ : Int) (h : H), I_ i50_ h → (∀ (i50_' : Int) (h' : H), I_ i50_' h' → m_ i50_' h' < m_ i50_ h → X2 (impl_Set_tori_1_e2 i0_ p1_ p2_ p3_ p5_ p6_ i11_ i12_ s48_ i49_ i50_') h') → impl_Set_tori_1_b2 S K X2 i0_ p1_ p2_ p3_ p5_ p6_ i11_ i12_ s48_ i49_ i50_ h) (i50_ : Int) {h : H} (h0 : I_ i50_ h) : impl_Set_tori_1_L2 S K i0_ p1_ p2_ p3_ p5_ p6_ i11_ i12_ s48_ i49_ i50_ h :=
  loop_rule (σ := (Int)) (fun s_ => impl_Set_tori_1_e2 i0_ p1_ p2_ p3_ p5_ p6_ i11_ i12_ s48_ i49_ (s_)) (fun s_ h => I_ (s_) h) (fun s_ h => m_ (s_) h)
    (fun X s_ h hi hx => (impl_Set_tori_1_link2 S K X i0_ p1_ p2_ p3_ p5_ p6_ i11_ i12_ s48_ i49_ (s_) h).mpr (hs X (s_) h hi fun i50_' h' hi' hm' => hx (i50_') h' hi' hm')) (i50_) h0
def impl_Set_tori_1_main (S : SatT) (K : KT) (x0 : Int) (x1 x2 : Pt) (x3 x4 : Pt) (x5 x6 : Pt) (h : H) : Prop :=
 ldS x1 h fun s0 =>
 bif (x0 == (s0.len : Int)) then
 newS 0 1 [] h fun s1 h2 =>
 ldI .i64 x2 h2 fun n3 =>
 impl_Set_tori_1_L0 S K x1 x3 x4 s1 n3 (0) h2
 else
 ldI .i64 x3 h fun n4 =>
 nz n4 (
 ldI .i64 x3 h fun n5 =>
 nz n5 (
 isPt x5 (
 ldS (Pt.add x5 1) h fun s6 =>
 impl_Set_tori_1_L2 S K x0 x1 x2 x3 x5 x6 (w64 (Int.tdiv x0 n4)) (Int.tmod x0 n5) s6 (s6.len : Int) (0) h)))
theorem impl_Set_tori_1_main_link (S : SatT) (K : KT) (x0 : Int) (x1 x2 : Pt) (x3 x4 : Pt) (x5 x6 : Pt) (h : H) : cwp S tab impl_Set_tori_1_M [] (bodyOf Tryz.f118) (kFun tab Tryz.f118.results.toList K) (fr0 Tryz.f118 [.int .i64 x0, .ptr x1, .ptr x2, .ptr x3, .ptr x4, .ptr x5, .ptr x6]) h = impl_Set_tori_1_main S K x0 x1 x2 x3 x4 x5 x6 h := by kernel_rfl
theorem impl_Set_tori_1_call (x0 : Int) (x1 x2 : Pt) (x3 x4 : Pt) (x5 x6 : Pt) (h : H) (K : Bool → H → Prop) (hm : impl_Set_tori_1_main (Sat Tryz.prog) (fun v h' => ∃ r, v = .bool r ∧ K r h') x0 x1 x2 x3 x4 x5 x6 h) : callB (Sat Tryz.prog) i_impl_Set_tori_1 [.int .i64 x0, .ptr x1, .ptr x2, .ptr x3, .ptr x4, .ptr x5, .ptr x6] h K := by
  have := Sat.ex tok mixed impl_Set_tori_1_M Tryz.func118 (c := bodyOf Tryz.f118) (by kernel_rfl) (calls_of Tryz.func118 (c := bodyOf Tryz.f118) (by kernel_rfl) (by decide)) ((impl_Set_tori_1_main_link _ _ x0 x1 x2 x3 x4 x5 x6 h).mpr hm)
  obtain ⟨v, h2, h3, r, rfl, h4⟩ := this; exact ⟨r, h2, h3, h4⟩

/-! ### loop.example/g01354/spec.l05Paths -/
def spec_l05Paths_M : Nat → List Nat := fun i => bif i == 4 then [1, 2, 3, 4, 13, 15, 16] else bif i == 2 then [1, 2, 3, 4, 13] else bif i == 0 then [1, 2, 3, 4, 5, 13, 14] else []
def spec_l05Paths_ks2 (S : SatT) (K : KT) : Kont := kSeq (cwp S tab spec_l05Paths_M [] (sub [1, 1, 1] (bodyOf Tryz.f123)) (kFun tab (Tryz.f123).results.toList K)) (kFun tab (Tryz.f123).results.toList K)
def spec_l05Paths_e0 (s1_ s2_ : Sl) (i3_ i4_ i5_ : Int) (s13_ : Sl) (i14_ : Int) : Frame := [U, .sl s1_, .sl s2_, .int .i64 i3_, .int .i64 i4_, .int .i64 i5_, U, U, U, U, U, U, U, .sl s13_, .int .i64 i14_, U, U, U, U, U, U, U, U, U, U, U, U, U, U, U, U, U, U, U, U, U, U, U, U, U, U, U, U, U, U, U, U, U, U, U, U, U, U, U, U, U, U, U, U, U, U, U, U, U, U, U, U, U, U, U]
def spec_l05Paths_w0 (S : SatT) (K : KT) : (XT) → XT := fun X fr h => cwp S tab spec_l05Paths_M (spec_l05Paths_M 0) (sub [1, 1, 0, 1, 0, 0] (bodyOf Tryz.f123)) (kSeq (fun fr h => X (mask (spec_l05Paths_M 0) fr) h) (kBlk 0 (spec_l05Paths_ks2 S K))) fr h
def spec_l05Paths_L0 (S : SatT) (K : KT) (s1_ s2_ : Sl) (i3_ i4_ i5_ : Int) (s13_ : Sl) (i14_ : Int) (h : H) : Prop := loopK (spec_l05Paths_w0 S K) (spec_l05Paths_e0 s1_ s2_ i3_ i4_ i5_ s13_ i14_) h
def spec_l05Paths_ks8 (S : SatT) (K : KT) : Kont := kSeq (cwp S tab spec_l05Paths_M [] (sub [1, 1, 1, 1] (bodyOf Tryz.f123)) (kFun tab (Tryz.f123).results.toList K)) (kFun tab (Tryz.f123).results.toList K)
def spec_l05Paths_e2 (s1_ s2_ : Sl) (i3_ i4_ : Int) (s13_ : Sl) : Frame := [U, .sl s1_, .sl s2_, .int .i64 i3_, .int .i64 i4_, U, U, U, U, U, U, U, U, .sl s13_, U, U, U, U, U, U, U, U, U, U, U, U, U, U, U, U, U, U, U, U, U, U, U, U, U, U, U, U, U, U, U, U, U, U, U, U, U, U, U, U, U, U, U, U, U, U, U, U, U, U, U, U, U, U, U, U]
def spec_l05Paths_w2 (S : SatT) (K : KT) : (XT) → XT := fun X fr h => cwp S tab spec_l05Paths_M (spec_l05Paths_M 2) (sub [1, 1, 1, 0, 0, 0] (bodyOf Tryz.f123)) (kSeq (fun fr h => X (mask (spec_l05Paths_M 2) fr) h) (kBlk 2 (spec_l05Paths_ks8 S K))) fr h
def spec_l05Paths_L2 (S : SatT) (K : KT) (s1_ s2_ : Sl) (i3_ i4_ : Int) (s13_ : Sl) (h : H) : Prop := loopK (spec_l05Paths_w2 S K) (spec_l05Paths_e2 s1_ s2_ i3_ i4_ s13_) h
def spec_l05Paths_ks11 (S : SatT) (K : KT) (X2 : XT) : Kont := kSeq (cwp S tab spec_l05Paths_M (spec_l05Paths_M 2) (sub [1, 1, 1, 0, 0, 0, 1, 1] (bodyOf Tryz.f123)) (kSeq (fun fr h => X2 (mask (spec_l05Paths_M 2) fr) h) (kBlk 2 (spec_l05Paths_ks8 S K)))) (kSeq (fun fr h => X2 (mask (spec_l05Paths_M 2) fr) h) (kBlk 2 (spec_l05Paths_ks8 S K)))
def spec_l05Paths_ks13 (S : SatT) (K : KT) (X2 : XT) : Kont := kSeq (cwp S tab spec_l05Paths_M (spec_l05Paths_M 3) (sub [1, 1, 1, 0, 0, 0, 1, 0, 0, 1, 1] (bodyOf Tryz.f123)) (kBlk 3 (spec_l05Paths_ks11 S K X2))) (kBlk 3 (spec_l05Paths_ks11 S K X2))
def spec_l05Paths_e4 (s1_ s2_ : Sl) (i3_ i4_ : Int) (s13_ s15_ : Sl) (i16_ : Int) : Frame := [U, .sl s1_, .sl s2_, .int .i64 i3_, .int .i64 i4_, U, U, U, U, U, U, U, U, .sl s13_, U, .sl s15_, .int .i64 i16_, U, U, U, U, U, U, U, U, U, U, U, U, U, U, U, U, U, U, U, U, U, U, U, U, U, U, U, U, U, U, U, U, U, U, U, U, U, U, U, U, U, U, U, U, U, U, U, U, U, U, U, U, U]
def spec_l05Paths_w4 (S : SatT) (K : KT) (X2 : XT) : (XT) → XT := fun X fr h => cwp S tab spec_l05Paths_M (spec_l05Paths_M 4) (sub [1, 1, 1, 0, 0, 0, 1, 0, 0, 1, 0, 1, 0, 0] (bodyOf Tryz.f123)) (kSeq (fun fr h => X (mask (spec_l05Paths_M 4) fr) h) (kBlk 4 (spec_l05Paths_ks13 S K X2))) fr h
def spec_l05Paths_L4 (S : SatT) (K : KT) (X2 : XT) (s1_ s2_ : Sl) (i3_ i4_ : Int) (s13_ s15_ : Sl) (i16_ : Int) (h : H) : Prop := loopK (spec_l05Paths_w4 S K X2) (spec_l05Paths_e4 s1_ s2_ i3_ i4_ s13_ s15_ i16_) h
def spec_l05Paths_C3 (S : SatT) (K : KT) (X2 : XT) (s1_ s2_ : Sl) (i3_ i4_ : Int) (s13_ : Sl) (h : H) : Prop :=
 X2 (spec_l05Paths_e2 s1_ s2_ i3_ (w64 (i4_ - (1))) s13_) h
def spec_l05Paths_C4 (S : SatT) (K : KT) (X2 : XT) (s1_ s2_ : Sl) (i3_ i4_ : Int) (s15_ : Sl) (h : H) : Prop :=
 spec_l05Paths_C3 S K X2 s1_ s2_ i3_ i4_ s15_ h
def spec_l05Paths_b4 (S : SatT) (K : KT) (X2 X4 : XT) (s1_ s2_ : Sl) (i3_ i4_ : Int) (s13_ s15_ : Sl) (i16_ : Int) (h : H) : Prop :=
 bif (decide (i16_ < (s1_.len : Int))) then
 ixS s1_ 1 i16_ fun p0 =>
 ldI .i64 p0 h fun n1 =>
 ixS s1_ 1 i16_ fun p2 =>
 ldI .i64 p2 h fun n3 =>
 ixS s15_ 1 n3 fun p4 =>
 ldI .i64 p4 h fun n5 =>
 ixS s2_ 1 i16_ fun p6 =>
 ldI .i64 p6 h fun n7 =>
 ixS s13_ 1 n7 fun p8 =>
 ldI .i64 p8 h fun n9 =>
 ixS s15_ 1 n1 fun p10 =>
 st1 p10 (.int .i64 (mnI (w64 (n5 + n9)) (1000000000000001))) h fun h11 =>
 X4 (spec_l05Paths_e4 s1_ s2_ i3_ i4_ s13_ s15_ (w64 (i16_ + (1)))) h11
 else
 spec_l05Paths_C4 S K X2 s1_ s2_ i3_ i4_ s15_ h
theorem spec_l05Paths_link4 (S : SatT) (K : KT) (X2 X4 : XT) (s1_ s2_ : Sl) (i3_ i4_ : Int) (s13_ s15_ : Sl) (i16_ : Int) (h : H) : spec_l05Paths_w4 S K X2 X4 (spec_l05Paths_e4 s1_ s2_ i3_ i4_ s13_ s15_ i16_) h = spec_l05Paths_b4 S K X2 X4 s1_ s2_ i3_ i4_ s13_ s15_ i16_ h := by kernel_rfl
theorem spec_l05Paths_rule4 (S : SatT) (K : KT) (X2 : XT) (s1_ s2_ : Sl) (i3_ i4_ : Int) (s13_ s15_ : Sl) (I_ : Int → H → Prop) (m_ : Int → H → Nat)
    (hs : ∀ (X4 : XT) (i16_ : Int) (h : H), I_ i16_ h → (∀ (i16_' : Int) (h' : H), I_ i16_' h' → m_ i16_' h' < m_ i16_ h → X4 (spec_l05Paths_e4 s1_ s2_ i3_ i4_ s13_ s15_ i16_') h') → spec_l05Paths_b4 S K X2 X4 s1_ s2_ i3_ i4_ s13_ s15_ i16_ h) (i16_ : Int) {h : H} (h0 : I_ i16_ h) : spec_l05Paths_L4 S K X2 s1_ s2_ i3_ i4_ s13_ s15_ i16_ h :=
  loop_rule (σ := (Int)) (fun s_ => spec_l05Paths_e4 s1_ s2_ i3_ i4_ s13_ s15_ (s_)) (fun s_ h => I_ (s_) h) (fun s_ h => m_ (s_) h)
    (fun X s_ h hi hx => (spec_l05Paths_link4 S K X2 X s1_ s2_ i3_ i4_ s13_ s15_ (s_) h).mpr (hs X (s_) h hi fun i16_' h' hi' hm' => hx (i16_') h' hi' hm')) (i16_) h0
def spec_l05Paths_C2 (S : SatT) (K : KT) (s13_ : Sl) (h : H) : Prop :=
 K (.sl s13_) h
def spec_l05Paths_b2 (S : SatT) (K : KT) (X2 : XT) (s1_ s2_ : Sl) (i3_ i4_ : Int) (s13_ : Sl) (h : H) : Prop :=
 bif (decide (i4_ > (0))) then
 mkS i3_ [.int .i64 (0)] h fun s0 h1 =>
 spec_l05Paths_L4 S K X2 s1_ s2_ i3_ i4_ s13_ s0 (0) h1
 else
 spec_l05Paths_C2 S K s13_ h
theorem spec_l05Paths_link2 (S : SatT) (K : KT) (X2 : XT) (s1_ s2_ : Sl) (i3_ i4_ : Int) (s13_ : Sl) (h : H) : spec_l05Paths_w2 S K X2 (spec_l05Paths_e2 s1_ s2_ i3_ i4_ s13_) h = spec_l05Paths_b2 S K X2 s1_ s2_ i3_ i4_ s13_ h := by kernel_rfl
theorem spec_l05Paths_rule2 (S : SatT) (K : KT) (s1_ s2_ : Sl) (i3_ : Int) (I_ : Int → Sl → H → Prop) (m_ : Int → Sl → H → Nat)
    (hs : ∀ (X2 : XT) (i4_ : Int) (s13_ : Sl) (h : H), I_ i4_ s13_ h → (∀ (i4_' : Int) (s13_' : Sl) (h' : H), I_ i4_' s13_' h' → m_ i4_' s13_' h' < m_ i4_ s13_ h → X2 (spec_l05Paths_e2 s1_ s2_ i3_ i4_' s13_') h') → spec_l05Paths_b2 S K X2 s1_ s2_ i3_ i4_ s13_ h) (i4_ : Int) (s13_ : Sl) {h : H} (h0 : I_ i4_ s13_ h) : spec_l05Paths_L2 S K s1_ s2_ i3_ i4_ s13_ h :=
  loop_rule (σ := (Int) × (Sl)) (fun s_ => spec_l05Paths_e2 s1_ s2_ i3_ (s_.1) (s_.2)) (fun s_ h => I_ (s_.1) (s_.2) h) (fun s_ h => m_ (s_.1) (s_.2) h)
    (fun X s_ h hi hx => (spec_l05Paths_link2 S K X s1_ s2_ i3_ (s_.1) (s_.2) h).mpr (hs X (s_.1) (s_.2) h hi fun i4_' s13_' h' hi' hm' => hx (i4_', s13_') h' hi' hm')) (i4_, s13_) h0
def spec_l05Paths_C0 (S : SatT) (K : KT) (s1_ s2_ : Sl) (i3_ i4_ : Int) (s13_ : Sl) (h : H) : Prop :=
 spec_l05Paths_L2 S K s1_ s2_ i3_ i4_ s13_ h
def spec_l05Paths_b0 (S : SatT) (K : KT) (X0 : XT) (s1_ s2_ : Sl) (i3_ i4_ i5_ : Int) (s13_ : Sl) (i14_ : Int) (h : H) : Prop :=
 bif (decide (i14_ < i3_)) then
 bif (decide (i5_ < (0))) then
 ixS s13_ 1 i14_ fun p0 =>
 st1 p0 (.int .i64 (1)) h fun h1 =>
 X0 (spec_l05Paths_e0 s1_ s2_ i3_ i4_ i5_ s13_ (w64 (i14_ + (1)))) h1
 else
 bif (i14_ == i5_) then
 ixS s13_ 1 i14_ fun p2 =>
 st1 p2 (.int .i64 (1)) h fun h3 =>
 X0 (spec_l05Paths_e0 s1_ s2_ i3_ i4_ i5_ s13_ (w64 (i14_ + (1)))) h3
 else
 X0 (spec_l05Paths_e0 s1_ s2_ i3_ i4_ i5_ s13_ (w64 (i14_ + (1)))) h
 else
 spec_l05Paths_C0 S K s1_ s2_ i3_ i4_ s13_ h
theorem spec_l05Paths_link0 (S : SatT) (K : KT) (X0 : XT) (s1_ s2_ : Sl) (i3_ i4_ i5_ : Int) (s13_ : Sl) (i14_ : Int) (h : H) : spec_l05Paths_w0 S K X0 (spec_l05Paths_e0 s1_ s2_ i3_ i4_ i5_ s13_ i14_) h = spec_l05Paths_b0 S K X0 s1_ s2_ i3_ i4_ i5_ s13_ i14_ h := by kernel_rfl
theorem spec_l05Paths_rule0 (S : SatT) (K : KT) (s1_ s2_ : Sl) (i3_ i4_ i5_ : Int) (s13_ : Sl) (I_ : Int → H → Prop) (m_ : Int → H → Nat)
    (hs : ∀ (X0 : XT) (i14_ : Int) (h : H), I_ i14_ h → (∀ (i14_' : Int) (h' : H), I_ i14_' h' → m_ i14_' h' < m_ i14_ h → X0 (spec_l05Paths_e0 s1_ s2_ i3_ i4_ i5_ s13_ i14_') h') → spec_l05Paths_b0 S K X0 s1_ s2_ i3_ i4_ i5_ s13_ i14_ h) (i14_ : Int) {h : H} (h0 : I_ i14_ h) : spec_l05Paths_L0 S K s1_ s2_ i3_ i4_ i5_ s13_ i14_ h :=
  loop_rule (σ := (Int)) (fun s_ => spec_l05Paths_e0 s1_ s2_ i3_ i4_ i5_ s13_ (s_)) (fun s_ h => I_ (s_) h) (fun s_ h => m_ (s_) h)
    (fun X s_ h hi hx => (spec_l05Paths_link0 S K X s1_ s2_ i3_ i4_ i5_ s13_ (s_) h).mpr (hs X (s_) h hi fun i14_' h' hi' hm' => hx (i14_') h' hi' hm')) (i14_) h0
def spec_l05Paths_main (S : SatT) (K : KT) (x0 : List AVal) (x1 x2 : Sl) (x3 x4 x5 : Int) (h : H) : Prop :=
 newK 2 x0 h fun p0 h1 =>
 mkS x3 [.int .i64 (0)] h1 fun s2 h3 =>
 spec_l05Paths_L0 S K x1 x2 x3 x4 x5 s2 (0) h3
theorem spec_l05Paths_main_link (S : SatT) (K : KT) (x0 : List AVal) (x1 x2 : Sl) (x3 x4 x5 : Int) (h : H) : cwp S tab spec_l05Paths_M [] (bodyOf Tryz.f123) (kFun tab Tryz.f123.results.toList K) (fr0 Tryz.f123 [.agg x0, .sl x1, .sl x2, .int .i64 x3, .int .i64 x4, .int .i64 x5]) h = spec_l05Paths_main S K x0 x1 x2 x3 x4 x5 h := by kernel_rfl
theorem spec_l05Paths_call (x0 : List AVal) (x1 x2 : Sl) (x3 x4 x5 : Int) (h : H) (K : Sl → H → Prop) (hm : spec_l05Paths_main (Sat Tryz.prog) (fun v h' => ∃ r, v = .sl r ∧ K r h') x0 x1 x2 x3 x4 x5 h) : callS (Sat Tryz.prog) i_spec_l05Paths [.agg x0, .sl x1, .sl x2, .int .i64 x3, .int .i64 x4, .int .i64 x5] h K := by
  have := Sat.ex tok mixed spec_l05Paths_M Tryz.func123 (c := bodyOf Tryz.f123) (by kernel_rfl) (calls_of Tryz.func123 (c := bodyOf Tryz.f123) (by kernel_rfl) (by decide)) ((spec_l05Paths_main_link _ _ x0 x1 x2 x3 x4 x5 h).mpr hm)
  obtain ⟨v, h2, h3, r, rfl, h4⟩ := this; exact ⟨r, h2, h3, h4⟩

/-! ### loop.example/g01354/impl.shifted -/
def impl_shifted_M : Nat → List Nat := fun i => bif i == 2 then [0, 1, 2, 7, 8, 9, 10, 11, 20, 21, 25, 26] else bif i == 0 then [0, 1, 2, 7, 8, 9, 20, 21] else []
def impl_shifted_ks2 (S : SatT) (K : KT) : Kont := kSeq (cwp S tab impl_shifted_M [] (sub [1, 1, 1] (bodyOf Tryz.f63)) (kFun tab (Tryz.f63).results.toList K)) (kFun tab (Tryz.f63).results.toList K)
def impl_shifted_e0 (s0_ : Sl) (i1_ i2_ : Int) (s7_ : Sl) (i8_ i9_ : Int) (i20_ i21_ : Int) : Frame := [.sl s0_, .int .i64 i1_, .int .i64 i2_, U, U, U, U, .sl s7_, .int .i64 i8_, .int .i64 i9_, U, U, U, U, U, U, U, U, U, U, .int .i64 i20_, .int .i64 i21_, U, U, U, U, U, U, U, U, U, U, U, U, U, U, U, U, U, U, U, U, U, U, U, U, U, U, U, U, U, U, U, U]
def impl_shifted_w0 (S : SatT) (K : KT) : (XT) → XT := fun X fr h => cwp S tab impl_shifted_M (impl_shifted_M 0) (sub [1, 1, 0, 1, 0, 0] (bodyOf Tryz.f63)) (kSeq (fun fr h => X (mask (impl_shifted_M 0) fr) h) (kBlk 0 (impl_shifted_ks2 S K))) fr h
def impl_shifted_L0 (S : SatT) (K : KT) (s0_ : Sl) (i1_ i2_ : Int) (s7_ : Sl) (i8_ i9_ : Int) (i20_ i21_ : Int) (h : H) : Prop := loopK (impl_shifted_w0 S K) (impl_shifted_e0 s0_ i1_ i2_ s7_ i8_ i9_ i20_ i21_) h
def impl_shifted_ks6 (S : SatT) (K : KT) (X0 : XT) : Kont := kSeq (cwp S tab impl_shifted_M (impl_shifted_M 0) (sub [1, 1, 0, 1, 0, 0, 1, 1, 1] (bodyOf Tryz.f63)) (kSeq (fun fr h => X0 (mask (impl_shifted_M 0) fr) h) (kBlk 0 (impl_shifted_ks2 S K)))) (kSeq (fun fr h => X0 (mask (impl_shifted_M 0) fr) h) (kBlk 0 (impl_shifted_ks2 S K)))
def impl_shifted_ks9 (S : SatT) (K : KT) (X0 : XT) : Kont := kSeq (cwp S tab impl_shifted_M (impl_shifted_M 1) (sub [1, 1, 0, 1, 0, 0, 1, 1, 0, 0, 1, 1, 1] (bodyOf Tryz.f63)) (kBlk 1 (impl_shifted_ks6 S K X0))) (kBlk 1 (impl_shifted_ks6 S K X0))
def impl_shifted_e2 (s0_ : Sl) (i1_ i2_ : Int) (s7_ : Sl) (i8_ i9_ i10_ : Int) (s11_ : Sl) (i20_ i21_ : Int) (i25_ i26_ : Int) : Frame := [.sl s0_, .int .i64 i1_, .int .i64 i2_, U, U, U, U, .sl s7_, .int .i64 i8_, .int .i64 i9_, .int .i64 i10_, .sl s11_, U, U, U, U, U, U, U, U, .int .i64 i20_, .int .i64 i21_, U, U, U, .int .i64 i25_, .int .i64 i26_, U, U, U, U, U, U, U, U, U, U, U, U, U, U, U, U, U, U, U, U, U, U, U, U, U, U, U]
def impl_shifted_w2 (S : SatT) (K : KT) (X0 : XT) : (XT) → XT := fun X fr h => cwp S tab impl_shifted_M (impl_shifted_M 2) (sub [1, 1, 0, 1, 0, 0, 1, 1, 0, 0, 1, 1, 0, 1, 0, 0] (bodyOf Tryz.f63)) (kSeq (fun fr h => X (mask (impl_shifted_M 2) fr) h) (kBlk 2 (impl_shifted_ks9 S K X0))) fr h
def impl_shifted_L2 (S : SatT) (K : KT) (X0 : XT) (s0_ : Sl) (i1_ i2_ : Int) (s7_ : Sl) (i8_ i9_ i10_ : Int) (s11_ : Sl) (i20_ i21_ : Int) (i25_ i26_ : Int) (h : H) : Prop := loopK (impl_shifted_w2 S K X0) (impl_shifted_e2 s0_ i1_ i2_ s7_ i8_ i9_ i10_ s11_ i20_ i21_ i25_ i26_) h
def impl_shifted_C1 (S : SatT) (K : KT) (X0 : XT) (s0_ : Sl) (i1_ i2_ : Int) (s7_ : Sl) (i8_ i9_ : Int) (i20_ i21_ : Int) (h : H) : Prop :=
 X0 (impl_shifted_e0 s0_ i1_ i2_ s7_ i8_ i9_ i20_ (w64 (i21_ + (1)))) h
def impl_shifted_C2 (S : SatT) (K : KT) (X0 : XT) (s0_ : Sl) (i1_ i2_ : Int) (s7_ : Sl) (i8_ i9_ : Int) (s11_ : Sl) (i20_ i21_ : Int) (h : H) : Prop :=
 newS 1 1 [.sl s11_] h fun s0 h1 =>
 app s7_ s0 1 h1 fun s2 h3 =>
 impl_shifted_C1 S K X0 s0_ i1_ i2_ s2 i8_ i9_ i20_ i21_ h3
def impl_shifted_b2 (S : SatT) (K : KT) (X0 X2 : XT) (s0_ : Sl) (i1_ i2_ : Int) (s7_ : Sl) (i8_ i9_ i10_ : Int) (s11_ : Sl) (i20_ i21_ : Int) (i25_ i26_ : Int) (h : H) : Prop :=
 bif (decide (i26_ < i25_)) then
 nz i8_ (
 ixS s0_ 1 (Int.tmod (w64 (i10_ + i1_)) i8_) fun p0 =>
 ldS p0 h fun s1 =>
 nz i9_ (
 ixS s1 1 (Int.tmod (w64 (i26_ + i2_)) i9_) fun p2 =>
 ldI .i64 p2 h fun n3 =>
 newS 1 1 [.int .i64 n3] h fun s4 h5 =>
 app s11_ s4 1 h5 fun s6 h7 =>
 X2 (impl_shifted_e2 s0_ i1_ i2_ s7_ i8_ i9_ i10_ s6 i20_ i21_ i25_ (w64 (i26_ + (1)))) h7))
 else
 impl_shifted_C2 S K X0 s0_ i1_ i2_ s7_ i8_ i9_ s11_ i20_ i21_ h
theorem impl_shifted_link2 (S : SatT) (K : KT) (X0 X2 : XT) (s0_ : Sl) (i1_ i2_ : Int) (s7_ : Sl) (i8_ i9_ i10_ : Int) (s11_ : Sl) (i20_ i21_ : Int) (i25_ i26_ : Int) (h : H) : impl_shifted_w2 S K X0 X2 (impl_shifted_e2 s0_ i1_ i2_ s7_ i8_ i9_ i10_ s11_ i20_ i21_ i25_ i26_) h = impl_shifted_b2 S K X0 X2 s0_ i1_ i2_ s7_ i8_ i9_ i10_ s11_ i20_ i21_ i25_ i26_ h := by kernel_rfl
theorem impl_shifted_rule2 (S : SatT) (K : KT) (X0 : XT) (s0_ : Sl) (i1_ i2_ : Int) (s7_ : Sl) (i8_ i9_ : Int) (i10_ i20_ : Int) (i21_ i25_ : Int) (I_ : Sl → Int → H → Prop) (m_ : Sl → Int → H → Nat)
    (hs : ∀ (X2 : XT) (s11_ : Sl) (i26_ : Int) (h : H), I_ s11_ i26_ h → (∀ (s11_' : Sl) (i26_' : Int) (h' : H), I_ s11_' i26_' h' → m_ s11_' i26_' h' < m_ s11_ i26_ h → X2 (impl_shifted_e2 s0_ i1_ i2_ s7_ i8_ i9_ i10_ s11_' i20_ i21_ i25_ i26_') h') → impl_shifted_b2 S K X0 X2 s0_ i1_ i2_ s7_ i8_ i9_ i10_ s11_ i20_ i21_ i25_ i26_ h) (s11_ : Sl) (i26_ : Int) {h : H} (h0 : I_ s11_ i26_ h) : impl_shifted_L2 S K X0 s0_ i1_ i2_ s7_ i8_ i9_ i10_ s11_ i20_ i21_ i25_ i26_ h :=
  loop_rule (σ := (Sl) × (Int)) (fun s_ => impl_shifted_e2 s0_ i1_ i2_ s7_ i8_ i9_ i10_ (s_.1) i20_ i21_ i25_ (s_.2)) (fun s_ h => I_ (s_.1) (s_.2) h) (fun s_ h => m_ (s_.1) (s_.2) h)
    (fun X s_ h hi hx => (impl_shifted_link2 S K X0 X s0_ i1_ i2_ s7_ i8_ i9_ i10_ (s_.1) i20_ i21_ i25_ (s_.2) h).mpr (hs X (s_.1) (s_.2) h hi fun s11_' i26_' h' hi' hm' => hx (s11_', i26_') h' hi' hm')) (s11_, i26_) h0
def impl_shifted_C0 (S : SatT) (K : KT) (s7_ : Sl) (h : H) : Prop :=
 K (.sl s7_) h
def impl_shifted_b0 (S : SatT) (K : KT) (X0 : XT) (s0_ : Sl) (i1_ i2_ : Int) (s7_ : Sl) (i8_ i9_ : Int) (i20_ i21_ : Int) (h : H) : Prop :=
 bif (decide (i21_ < i20_)) then
 newS 0 1 [] h fun s0 h1 =>
 impl_shifted_L2 S K X0 s0_ i1_ i2_ s7_ i8_ i9_ i21_ s0 i20_ i21_ i9_ (0) h1
 else
 impl_shifted_C0 S K s7_ h
theorem impl_shifted_link0 (S : SatT) (K : KT) (X0 : XT) (s0_ : Sl) (i1_ i2_ : Int) (s7_ : Sl) (i8_ i9_ : Int) (i20_ i21_ : Int) (h : H) : impl_shifted_w0 S K X0 (impl_shifted_e0 s0_ i1_ i2_ s7_ i8_ i9_ i20_ i21_) h = impl_shifted_b0 S K X0 s0_ i1_ i2_ s7_ i8_ i9_ i20_ i21_ h := by kernel_rfl
theorem impl_shifted_rule0 (S : SatT) (K : KT) (s0_ : Sl) (i1_ i2_ : Int) (i8_ i9_ i20_ : Int) (I_ : Sl → Int → H → Prop) (m_ : Sl → Int → H → Nat)
    (hs : ∀ (X0 : XT) (s7_ : Sl) (i21_ : Int) (h : H), I_ s7_ i21_ h → (∀ (s7_' : Sl) (i21_' : Int) (h' : H), I_ s7_' i21_' h' → m_ s7_' i21_' h' < m_ s7_ i21_ h → X0 (impl_shifted_e0 s0_ i1_ i2_ s7_' i8_ i9_ i20_ i21_') h') → impl_shifted_b0 S K X0 s0_ i1_ i2_ s7_ i8_ i9_ i20_ i21_ h) (s7_ : Sl) (i21_ : Int) {h : H} (h0 : I_ s7_ i21_ h) : impl_shifted_L0 S K s0_ i1_ i2_ s7_ i8_ i9_ i20_ i21_ h :=
  loop_rule (σ := (Sl) × (Int)) (fun s_ => impl_shifted_e0 s0_ i1_ i2_ (s_.1) i8_ i9_ i20_ (s_.2)) (fun s_ h => I_ (s_.1) (s_.2) h) (fun s_ h => m_ (s_.1) (s_.2) h)
    (fun X s_ h hi hx => (impl_shifted_link0 S K X s0_ i1_ i2_ (s_.1) i8_ i9_ i20_ (s_.2) h).mpr (hs X (s_.1) (s_.2) h hi fun s7_' i21_' h' hi' hm' => hx (s7_', i21_') h' hi' hm')) (s7_, i21_) h0
def impl_shifted_main (S : SatT) (K : KT) (x0 : Sl) (x1 x2 : Int) (h : H) : Prop :=
 newS 0 1 [] h fun s0 h1 =>
 ixS x0 1 (0) fun p2 =>
 ldS p2 h1 fun s3 =>
(cell h p2 = cell h1 p2) ∧ (
 impl_shifted_L0 S K x0 x1 x2 s0 (x0.len : Int) (s3.len : Int) (x0.len : Int) (0) h1)
theorem impl_shifted_main_link (S : SatT) (K : KT) (x0 : Sl) (x1 x2 : Int) (h : H) : cwp S tab impl_shifted_M [] (bodyOf Tryz.f63) (kFun tab Tryz.f63.results.toList K) (fr0 Tryz.f63 [.sl x0, .int .i64 x1, .int .i64 x2]) h = impl_shifted_main S K x0 x1 x2 h := by kernel_rfl
theorem impl_shifted_call (x0 : Sl) (x1 x2 : Int) (h : H) (K : Sl → H → Prop) (hm : impl_shifted_main (Sat Tryz.prog) (fun v h' => ∃ r, v = .sl r ∧ K r h') x0 x1 x2 h) : callS (Sat Tryz.prog) i_impl_shifted [.sl x0, .int .i64 x1, .int .i64 x2] h K := by
  have := Sat.ex tok mixed impl_shifted_M Tryz.func63 (c := bodyOf Tryz.f63) (by kernel_rfl) (calls_of Tryz.func63 (c := bodyOf Tryz.f63) (by kernel_rfl) (by decide)) ((impl_shifted_main_link _ _ x0 x1 x2 h).mpr hm)
  obtain ⟨v, h2, h3, r, rfl, h4⟩ := this; exact ⟨r, h2, h3, h4⟩

/-! ### loop.example/g01354/spec.l01Rows -/
def spec_l01Rows_M : Nat → List Nat := fun i => bif i == 2 then [1, 2, 5, 6] else bif i == 0 then [1, 2, 5] else []
def spec_l01Rows_ks10 (S : SatT) (K : KT) : Kont := kSeq (cwp S tab spec_l01Rows_M [] (sub [1, 1, 1, 1] (bodyOf Tryz.f64)) (kFun tab (Tryz.f64).results.toList K)) (kFun tab (Tryz.f64).results.toList K)
def spec_l01Rows_e0 (s1_ : Sl) (p2_ : Pt) (i5_ : Int) : Frame := [U, .sl s1_, .ptr p2_, U, U, .int .i64 i5_, U, U, U, U, U, U, U, U, U, U, U, U, U, U, U, U, U, U, U, U, U, U, U, U, U, U, U, U, U, U, U, U, U, U, U, U, U, U, U, U, U, U, U, U, U, U, U, U, U, U, U, U, U, U, U, U, U, U, U, U, U, U, U, U]
def spec_l01Rows_w0 (S : SatT) (K : KT) : (XT) → XT := fun X fr h => cwp S tab spec_l01Rows_M (spec_l01Rows_M 0) (sub [1, 1, 1, 0, 1, 0, 0] (bodyOf Tryz.f64)) (kSeq (fun fr h => X (mask (spec_l01Rows_M 0) fr) h) (kBlk 0 (spec_l01Rows_ks10 S K))) fr h
def spec_l01Rows_L0 (S : SatT) (K : KT) (s1_ : Sl) (p2_ : Pt) (i5_ : Int) (h : H) : Prop := loopK (spec_l01Rows_w0 S K) (spec_l01Rows_e0 s1_ p2_ i5_) h
def spec_l01Rows_ks14 (S : SatT) (K : KT) (X0 : XT) : Kont := kSeq (cwp S tab spec_l01Rows_M (spec_l01Rows_M 0) (sub [1, 1, 1, 0, 1, 0, 0, 1, 1] (bodyOf Tryz.f64)) (kSeq (fun fr h => X0 (mask (spec_l01Rows_M 0) fr) h) (kBlk 0 (spec_l01Rows_ks10 S K)))) (kSeq (fun fr h => X0 (mask (spec_l01Rows_M 0) fr) h) (kBlk 0 (spec_l01Rows_ks10 S K)))
def spec_l01Rows_e2 (s1_ : Sl) (p2_ : Pt) (i5_ i6_ : Int) : Frame := [U, .sl s1_, .ptr p2_, U, U, .int .i64 i5_, .int .i64 i6_, U, U, U, U, U, U, U, U, U, U, U, U, U, U, U, U, U, U, U, U, U, U, U, U, U, U, U, U, U, U, U, U, U, U, U, U, U, U, U, U, U, U, U, U, U, U, U, U, U, U, U, U, U, U, U, U, U, U, U, U, U, U, U]
def spec_l01Rows_w2 (S : SatT) (K : KT) (X0 : XT) : (XT) → XT := fun X fr h => cwp S tab spec_l01Rows_M (spec_l01Rows_M 2) (sub [1, 1, 1, 0, 1, 0, 0, 1, 0, 0, 1, 1, 0, 0] (bodyOf Tryz.f64)) (kSeq (fun fr h => X (mask (spec_l01Rows_M 2) fr) h) (kBlk 2 (kBlk 1 (spec_l01Rows_ks14 S K X0)))) fr h
def spec_l01Rows_L2 (S : SatT) (K : KT) (X0 : XT) (s1_ : Sl) (p2_ : Pt) (i5_ i6_ : Int) (h : H) : Prop := loopK (spec_l01Rows_w2 S K X0) (spec_l01Rows_e2 s1_ p2_ i5_ i6_) h
def spec_l01Rows_C1 (S : SatT) (K : KT) (X0 : XT) (s1_ : Sl) (p2_ : Pt) (i5_ : Int) (h : H) : Prop :=
 X0 (spec_l01Rows_e0 s1_ p2_ (w64 (i5_ + (1)))) h
def spec_l01Rows_C2 (S : SatT) (K : KT) (X0 : XT) (s1_ : Sl) (p2_ : Pt) (i5_ : Int) (h : H) : Prop :=
 spec_l01Rows_C1 S K X0 s1_ p2_ i5_ h
def spec_l01Rows_b2 (S : SatT) (K : KT) (X0 X2 : XT) (s1_ : Sl) (p2_ : Pt) (i5_ i6_ : Int) (h : H) : Prop :=
 ixS s1_ 1 i5_ fun p0 =>
 ldS p0 h fun s1 =>
 bif (decide (i6_ < (s1.len : Int))) then
 ixS s1_ 1 i5_ fun p2 =>
 ldS p2 h fun s3 =>
 ixS s3 1 i6_ fun p4 =>
 ldI .i64 p4 h fun n5 =>
 isPt p2_ (
 ldS (Pt.add p2_ 1) h fun s6 =>
 callB S i_spec_l01In [.int .i64 n5, .int .i64 (0), .int .i64 (w64 ((s6.len : Int) - (1)))] h fun b8 h7 =>
 bif (!b8) then
 K (.int .i64 (2)) h7
 else
 X2 (spec_l01Rows_e2 s1_ p2_ i5_ (w64 (i6_ + (1)))) h7)
 else
 spec_l01Rows_C2 S K X0 s1_ p2_ i5_ h
theorem spec_l01Rows_link2 (S : SatT) (K : KT) (X0 X2 : XT) (s1_ : Sl) (p2_ : Pt) (i5_ i6_ : Int) (h : H) : spec_l01Rows_w2 S K X0 X2 (spec_l01Rows_e2 s1_ p2_ i5_ i6_) h = spec_l01Rows_b2 S K X0 X2 s1_ p2_ i5_ i6_ h := by kernel_rfl
theorem spec_l01Rows_rule2 (S : SatT) (K : KT) (X0 : XT) (s1_ : Sl) (p2_ : Pt) (i5_ : Int) (I_ : Int → H → Prop) (m_ : Int → H → Nat)
    (hs : ∀ (X2 : XT) (i6_ : Int) (h : H), I_ i6_ h → (∀ (i6_' : Int) (h' : H), I_ i6_' h' → m_ i6_' h' < m_ i6_ h → X2 (spec_l01Rows_e2 s1_ p2_ i5_ i6_') h') → spec_l01Rows_b2 S K X0 X2 s1_ p2_ i5_ i6_ h) (i6_ : Int) {h : H} (h0 : I_ i6_ h) : spec_l01Rows_L2 S K X0 s1_ p2_ i5_ i6_ h :=
  loop_rule (σ := (Int)) (fun s_ => spec_l01Rows_e2 s1_ p2_ i5_ (s_)) (fun s_ h => I_ (s_) h) (fun s_ h => m_ (s_) h)
    (fun X s_ h hi hx => (spec_l01Rows_link2 S K X0 X s1_ p2_ i5_ (s_) h).mpr (hs X (s_) h hi fun i6_' h' hi' hm' => hx (i6_') h' hi' hm')) (i6_) h0
def spec_l01Rows_C0 (S : SatT) (K : KT) (h : H) : Prop :=
 K (.int .i64 (0)) h
def spec_l01Rows_b0 (S : SatT) (K : KT) (X0 : XT) (s1_ : Sl) (p2_ : Pt) (i5_ : Int) (h : H) : Prop :=
 bif (decide (i5_ < (s1_.len : Int))) then
 ixS s1_ 1 i5_ fun p0 =>
 ldS p0 h fun s1 =>
 ixS s1_ 1 (0) fun p2 =>
 ldS p2 h fun s3 =>
 bif ((s1.len : Int) != (s3.len : Int)) then
 K (.int .i64 (2)) h
 else
 spec_l01Rows_L2 S K X0 s1_ p2_ i5_ (0) h
 else
 spec_l01Rows_C0 S K h
theorem spec_l01Rows_link0 (S : SatT) (K : KT) (X0 : XT) (s1_ : Sl) (p2_ : Pt) (i5_ : Int) (h : H) : spec_l01Rows_w0 S K X0 (spec_l01Rows_e0 s1_ p2_ i5_) h = spec_l01Rows_b0 S K X0 s1_ p2_ i5_ h := by kernel_rfl
theorem spec_l01Rows_rule0 (S : SatT) (K : KT) (s1_ : Sl) (p2_ : Pt) (I_ : Int → H → Prop) (m_ : Int → H → Nat)
    (hs : ∀ (X0 : XT) (i5_ : Int) (h : H), I_ i5_ h → (∀ (i5_' : Int) (h' : H), I_ i5_' h' → m_ i5_' h' < m_ i5_ h → X0 (spec_l01Rows_e0 s1_ p2_ i5_') h') → spec_l01Rows_b0 S K X0 s1_ p2_ i5_ h) (i5_ : Int) {h : H} (h0 : I_ i5_ h) : spec_l01Rows_L0 S K s1_ p2_ i5_ h :=
  loop_rule (σ := (Int)) (fun s_ => spec_l01Rows_e0 s1_ p2_ (s_)) (fun s_ h => I_ (s_) h) (fun s_ h => m_ (s_) h)
    (fun X s_ h hi hx => (spec_l01Rows_link0 S K X s1_ p2_ (s_) h).mpr (hs X (s_) h hi fun i5_' h' hi' hm' => hx (i5_') h' hi' hm')) (i5_) h0
def spec_l01Rows_main (S : SatT) (K : KT) (x0 : List AVal) (x1 : Sl) (h : H) : Prop :=
 newK 2 x0 h fun p0 h1 =>
 ldA p0 2 h1 fun cs2 =>
 callB S i_spec_l01Is [.agg cs2] h1 fun b4 h3 =>
 bif (!b4) then
 K (.int .i64 (1)) h3
 else
 bif (decide ((x1.len : Int) < (1))) then
 K (.int .i64 (2)) h3
 else
 bif (decide ((x1.len : Int) > (8))) then
 K (.int .i64 (2)) h3
 else
 ixS x1 1 (0) fun p5 =>
 ldS p5 h3 fun s6 =>
 bif (decide ((s6.len : Int) < (1))) then
 K (.int .i64 (2)) h3
 else
 ixS x1 1 (0) fun p7 =>
 ldS p7 h3 fun s8 =>
 bif (decide ((s8.len : Int) > (8))) then
 K (.int .i64 (2)) h3
 else
 spec_l01Rows_L0 S K x1 p0 (0) h3
theorem spec_l01Rows_main_link (S : SatT) (K : KT) (x0 : List AVal) (x1 : Sl) (h : H) : cwp S tab spec_l01Rows_M [] (bodyOf Tryz.f64) (kFun tab Tryz.f64.results.toList K) (fr0 Tryz.f64 [.agg x0, .sl x1]) h = spec_l01Rows_main S K x0 x1 h := by kernel_rfl
theorem spec_l01Rows_call (x0 : List AVal) (x1 : Sl) (h : H) (K : Int → H → Prop) (hm : spec_l01Rows_main (Sat Tryz.prog) (fun v h' => ∃ r, v = .int .i64 r ∧ K r h') x0 x1 h) : callI (Sat Tryz.prog) .i64 i_spec_l01Rows [.agg x0, .sl x1] h K := by
  have := Sat.ex tok mixed spec_l01Rows_M Tryz.func64 (c := bodyOf Tryz.f64) (by kernel_rfl) (calls_of Tryz.func64 (c := bodyOf Tryz.f64) (by kernel_rfl) (by decide)) ((spec_l01Rows_main_link _ _ x0 x1 h).mpr hm)
  obtain ⟨v, h2, h3, r, rfl, h4⟩ := this; exact ⟨r, h2, h3, h4⟩

/-! ### loop.example/g01354/spec.l05Less -/
def spec_l05Less_M : Nat → List Nat := fun i => bif i == 2 then [0, 1, 5, 6] else bif i == 0 then [0, 1, 5] else []
def spec_l05Less_ks1 (S : SatT) (K : KT) : Kont := kSeq (cwp S tab spec_l05Less_M [] (sub [1, 1] (bodyOf Tryz.f83)) (kFun tab (Tryz.f83).results.toList K)) (kFun tab (Tryz.f83).results.toList K)
def spec_l05Less_e0 (s0_ s1_ : Sl) (i5_ : Int) : Frame := [.sl s0_, .sl s1_, U, U, U, .int .i64 i5_, U, U, U, U, U, U, U, U, U, U, U, U, U, U, U, U, U, U, U, U, U, U, U, U, U, U, U, U, U, U, U, U, U, U, U, U, U, U, U, U, U, U, U, U, U, U]
def spec_l05Less_w0 (S : SatT) (K : KT) : (XT) → XT := fun X fr h => cwp S tab spec_l05Less_M (spec_l05Less_M 0) (sub [1, 0, 1, 0, 0] (bodyOf Tryz.f83)) (kSeq (fun fr h => X (mask (spec_l05Less_M 0) fr) h) (kBlk 0 (spec_l05Less_ks1 S K))) fr h
def spec_l05Less_L0 (S : SatT) (K : KT) (s0_ s1_ : Sl) (i5_ : Int) (h : H) : Prop := loopK (spec_l05Less_w0 S K) (spec_l05Less_e0 s0_ s1_ i5_) h
def spec_l05Less_ks5 (S : SatT) (K : KT) (X0 : XT) : Kont := kSeq (cwp S tab spec_l05Less_M (spec_l05Less_M 0) (sub [1, 0, 1, 0, 0, 1, 1] (bodyOf Tryz.f83)) (kSeq (fun fr h => X0 (mask (spec_l05Less_M 0) fr) h) (kBlk 0 (spec_l05Less_ks1 S K)))) (kSeq (fun fr h => X0 (mask (spec_l05Less_M 0) fr) h) (kBlk 0 (spec_l05Less_ks1 S K)))
def spec_l05Less_e2 (s0_ s1_ : Sl) (i5_ i6_ : Int) : Frame := [.sl s0_, .sl s1_, U, U, U, .int .i64 i5_, .int .i64 i6_, U, U, U, U, U, U, U, U, U, U, U, U, U, U, U, U, U, U, U, U, U, U, U, U, U, U, U, U, U, U, U, U, U, U, U, U, U, U, U, U, U, U, U, U, U]
def spec_l05Less_w2 (S : SatT) (K : KT) (X0 : XT) : (XT) → XT := fun X fr h => cwp S tab spec_l05Less_M (spec_l05Less_M 2) (sub [1, 0, 1, 0, 0, 1, 0, 0, 1, 0, 0] (bodyOf Tryz.f83)) (kSeq (fun fr h => X (mask (spec_l05Less_M 2) fr) h) (kBlk 2 (kBlk 1 (spec_l05Less_ks5 S K X0)))) fr h
def spec_l05Less_L2 (S : SatT) (K : KT) (X0 : XT) (s0_ s1_ : Sl) (i5_ i6_ : Int) (h : H) : Prop := loopK (spec_l05Less_w2 S K X0) (spec_l05Less_e2 s0_ s1_ i5_ i6_) h
def spec_l05Less_C1 (S : SatT) (K : KT) (X0 : XT) (s0_ s1_ : Sl) (i5_ : Int) (h : H) : Prop :=
 X0 (spec_l05Less_e0 s0_ s1_ (w64 (i5_ + (1)))) h
def spec_l05Less_C2 (S : SatT) (K : KT) (X0 : XT) (s0_ s1_ : Sl) (i5_ : Int) (h : H) : Prop :=
 spec_l05Less_C1 S K X0 s0_ s1_ i5_ h
def spec_l05Less_b2 (S : SatT) (K : KT) (X0 X2 : XT) (s0_ s1_ : Sl) (i5_ i6_ : Int) (h : H) : Prop :=
 ixS s0_ 1 i5_ fun p0 =>
 ldS p0 h fun s1 =>
 bif (decide (i6_ < (s1.len : Int))) then
 ixS s0_ 1 i5_ fun p2 =>
 ldS p2 h fun s3 =>
 ixS s3 1 i6_ fun p4 =>
 ldI .i64 p4 h fun n5 =>
 ixS s1_ 1 i5_ fun p6 =>
 ldS p6 h fun s7 =>
 ixS s7 1 i6_ fun p8 =>
 ldI .i64 p8 h fun n9 =>
 bif (n5 != n9) then
 ixS s0_ 1 i5_ fun p10 =>
 ldS p10 h fun s11 =>
 ixS s11 1 i6_ fun p12 =>
 ldI .i64 p12 h fun n13 =>
 ixS s1_ 1 i5_ fun p14 =>
 ldS p14 h fun s15 =>
 ixS s15 1 i6_ fun p16 =>
 ldI .i64 p16 h fun n17 =>
 K (.bool (decide (n13 < n17))) h
 else
 X2 (spec_l05Less_e2 s0_ s1_ i5_ (w64 (i6_ + (1)))) h
 else
 spec_l05Less_C2 S K X0 s0_ s1_ i5_ h
theorem spec_l05Less_link2 (S : SatT) (K : KT) (X0 X2 : XT) (s0_ s1_ : Sl) (i5_ i6_ : Int) (h : H) : spec_l05Less_w2 S K X0 X2 (spec_l05Less_e2 s0_ s1_ i5_ i6_) h = spec_l05Less_b2 S K X0 X2 s0_ s1_ i5_ i6_ h := by kernel_rfl
theorem spec_l05Less_rule2 (S : SatT) (K : KT) (X0 : XT) (s0_ s1_ : Sl) (i5_ : Int) (I_ : Int → H → Prop) (m_ : Int → H → Nat)
    (hs : ∀ (X2 : XT) (i6_ : Int) (h : H), I_ i6_ h → (∀ (i6_' : Int) (h' : H), I_ i6_' h' → m_ i6_' h' < m_ i6_ h → X2 (spec_l05Less_e2 s0_ s1_ i5_ i6_') h') → spec_l05Less_b2 S K X0 X2 s0_ s1_ i5_ i6_ h) (i6_ : Int) {h : H} (h0 : I_ i6_ h) : spec_l05Less_L2 S K X0 s0_ s1_ i5_ i6_ h :=
  loop_rule (σ := (Int)) (fun s_ => spec_l05Less_e2 s0_ s1_ i5_ (s_)) (fun s_ h => I_ (s_) h) (fun s_ h => m_ (s_) h)
    (fun X s_ h hi hx => (spec_l05Less_link2 S K X0 X s0_ s1_ i5_ (s_) h).mpr (hs X (s_) h hi fun i6_' h' hi' hm' => hx (i6_') h' hi' hm')) (i6_) h0
def spec_l05Less_C0 (S : SatT) (K : KT) (h : H) : Prop :=
 K (.bool false) h
def spec_l05Less_b0 (S : SatT) (K : KT) (X0 : XT) (s0_ s1_ : Sl) (i5_ : Int) (h : H) : Prop :=
 bif (decide (i5_ < (s0_.len : Int))) then
 spec_l05Less_L2 S K X0 s0_ s1_ i5_ (0) h
 else
 spec_l05Less_C0 S K h
theorem spec_l05Less_link0 (S : SatT) (K : KT) (X0 : XT) (s0_ s1_ : Sl) (i5_ : Int) (h : H) : spec_l05Less_w0 S K X0 (spec_l05Less_e0 s0_ s1_ i5_) h = spec_l05Less_b0 S K X0 s0_ s1_ i5_ h := by kernel_rfl
theorem spec_l05Less_rule0 (S : SatT) (K : KT) (s0_ s1_ : Sl) (I_ : Int → H → Prop) (m_ : Int → H → Nat)
    (hs : ∀ (X0 : XT) (i5_ : Int) (h : H), I_ i5_ h → (∀ (i5_' : Int) (h' : H), I_ i5_' h' → m_ i5_' h' < m_ i5_ h → X0 (spec_l05Less_e0 s0_ s1_ i5_') h') → spec_l05Less_b0 S K X0 s0_ s1_ i5_ h) (i5_ : Int) {h : H} (h0 : I_ i5_ h) : spec_l05Less_L0 S K s0_ s1_ i5_ h :=
  loop_rule (σ := (Int)) (fun s_ => spec_l05Less_e0 s0_ s1_ (s_)) (fun s_ h => I_ (s_) h) (fun s_ h => m_ (s_) h)
    (fun X s_ h hi hx => (spec_l05Less_link0 S K X s0_ s1_ (s_) h).mpr (hs X (s_) h hi fun i5_' h' hi' hm' => hx (i5_') h' hi' hm')) (i5_) h0
def spec_l05Less_main (S : SatT) (K : KT) (x0 x1 : Sl) (h : H) : Prop :=
 spec_l05Less_L0 S K x0 x1 (0) h
theorem spec_l05Less_main_link (S : SatT) (K : KT) (x0 x1 : Sl) (h : H) : cwp S tab spec_l05Less_M [] (bodyOf Tryz.f83) (kFun tab Tryz.f83.results.toList K) (fr0 Tryz.f83 [.sl x0, .sl x1]) h = spec_l05Less_main S K x0 x1 h := by kernel_rfl
theorem spec_l05Less_call (x0 x1 : Sl) (h : H) (K : Bool → H → Prop) (hm : spec_l05Less_main (Sat Tryz.prog) (fun v h' => ∃ r, v = .bool r ∧ K r h') x0 x1 h) : callB (Sat Tryz.prog) i_spec_l05Less [.sl x0, .sl x1] h K := by
  have := Sat.ex tok mixed spec_l05Less_M Tryz.func83 (c := bodyOf Tryz.f83) (by kernel_rfl) (calls_of Tryz.func83 (c := bodyOf Tryz.f83) (by kernel_rfl) (by decide)) ((spec_l05Less_main_link _ _ x0 x1 h).mpr hm)
  obtain ⟨v, h2, h3, r, rfl, h4⟩ := this; exact ⟨r, h2, h3, h4⟩

/-! ### slices.CompareFunc[[][]int64,[][]int64,[]int64,[]int64] -/
def slices_CompareFunc_ss_int64_s_s_int64_s_int64_s_int64__M : Nat → List Nat := fun i => bif i == 0 then [0, 1, 2, 11, 12, 13] else []
def slices_CompareFunc_ss_int64_s_s_int64_s_int64_s_int64__ks1 (S : SatT) (K : KT) : Kont := kSeq (cwp S tab slices_CompareFunc_ss_int64_s_s_int64_s_int64_s_int64__M [] (sub [1, 1] (bodyOf Tryz.f120)) (kFun tab (Tryz.f120).results.toList K)) (kFun tab (Tryz.f120).results.toList K)
def slices_CompareFunc_ss_int64_s_s_int64_s_int64_s_int64__e0 (s0_ s1_ : Sl) (f2_ : AVal) (s11_ : Sl) (i12_ i13_ : Int) : Frame := [.sl s0_, .sl s1_, f2_, U, U, U, U, U, U, U, U, .sl s11_, .int .i64 i12_, .int .i64 i13_, U, U, U, U, U, U, U, U, U, U, U, U, U, U, U, U, U, U, U, U, U, U, U, U, U]
def slices_CompareFunc_ss_int64_s_s_int64_s_int64_s_int64__w0 (S : SatT) (K : KT) : (XT) → XT := fun X fr h => cwp S tab slices_CompareFunc_ss_int64_s_s_int64_s_int64_s_int64__M (slices_CompareFunc_ss_int64_s_s_int64_s_int64_s_int64__M 0) (sub [1, 0, 1, 0, 0] (bodyOf Tryz.f120)) (kSeq (fun fr h => X (mask (slices_CompareFunc_ss_int64_s_s_int64_s_int64_s_int64__M 0) fr) h) (kBlk 0 (slices_CompareFunc_ss_int64_s_s_int64_s_int64_s_int64__ks1 S K))) fr h
def slices_CompareFunc_ss_int64_s_s_int64_s_int64_s_int64__L0 (S : SatT) (K : KT) (s0_ s1_ : Sl) (f2_ : AVal) (s11_ : Sl) (i12_ i13_ : Int) (h : H) : Prop := loopK (slices_CompareFunc_ss_int64_s_s_int64_s_int64_s_int64__w0 S K) (slices_CompareFunc_ss_int64_s_s_int64_s_int64_s_int64__e0 s0_ s1_ f2_ s11_ i12_ i13_) h
def slices_CompareFunc_ss_int64_s_s_int64_s_int64_s_int64__C0 (S : SatT) (K : KT) (s0_ s1_ : Sl) (h : H) : Prop :=
 bif (decide ((s0_.len : Int) < (s1_.len : Int))) then
 K (.int .i64 (-1)) h
 else
 K (.int .i64 (0)) h
def slices_CompareFunc_ss_int64_s_s_int64_s_int64_s_int64__b0 (S : SatT) (K : KT) (X0 : XT) (s0_ s1_ : Sl) (f2_ : AVal) (s11_ : Sl) (i12_ i13_ : Int) (h : H) : Prop :=
 bif (decide (i13_ < i12_)) then
 ixS s11_ 1 i13_ fun p0 =>
 ldS p0 h fun s1 =>
 bif (decide (i13_ ≥ (s1_.len : Int))) then
 K (.int .i64 (1)) h
 else
 ixS s1_ 1 i13_ fun p2 =>
 ldS p2 h fun s3 =>
 viaF f2_ [.sl s1, .sl s3] fun g4 ys5 =>
 callI S .i64 g4 ys5 h fun n7 h6 =>
 bif (n7 != (0)) then
 K (.int .i64 n7) h6
 else
 X0 (slices_CompareFunc_ss_int64_s_s_int64_s_int64_s_int64__e0 s0_ s1_ f2_ s11_ i12_ (w64 (i13_ + (1)))) h6
 else
 slices_CompareFunc_ss_int64_s_s_int64_s_int64_s_int64__C0 S K s0_ s1_ h
theorem slices_CompareFunc_ss_int64_s_s_int64_s_int64_s_int64__link0 (S : SatT) (K : KT) (X0 : XT) (s0_ s1_ : Sl) (f2_ : AVal) (s11_ : Sl) (i12_ i13_ : Int) (h : H) : slices_CompareFunc_ss_int64_s_s_int64_s_int64_s_int64__w0 S K X0 (slices_CompareFunc_ss_int64_s_s_int64_s_int64_s_int64__e0 s0_ s1_ f2_ s11_ i12_ i13_) h = slices_CompareFunc_ss_int64_s_s_int64_s_int64_s_int64__b0 S K X0 s0_ s1_ f2_ s11_ i12_ i13_ h := by kernel_rfl
theorem slices_CompareFunc_ss_int64_s_s_int64_s_int64_s_int64__rule0 (S : SatT) (K : KT) (s0_ s1_ : Sl) (f2_ : AVal) (s11_ : Sl) (i12_ : Int) (I_ : Int → H → Prop) (m_ : Int → H → Nat)
    (hs : ∀ (X0 : XT) (i13_ : Int) (h : H), I_ i13_ h → (∀ (i13_' : Int) (h' : H), I_ i13_' h' → m_ i13_' h' < m_ i13_ h → X0 (slices_CompareFunc_ss_int64_s_s_int64_s_int64_s_int64__e0 s0_ s1_ f2_ s11_ i12_ i13_') h') → slices_CompareFunc_ss_int64_s_s_int64_s_int64_s_int64__b0 S K X0 s0_ s1_ f2_ s11_ i12_ i13_ h) (i13_ : Int) {h : H} (h0 : I_ i13_ h) : slices_CompareFunc_ss_int64_s_s_int64_s_int64_s_int64__L0 S K s0_ s1_ f2_ s11_ i12_ i13_ h :=
  loop_rule (σ := (Int)) (fun s_ => slices_CompareFunc_ss_int64_s_s_int64_s_int64_s_int64__e0 s0_ s1_ f2_ s11_ i12_ (s_)) (fun s_ h => I_ (s_) h) (fun s_ h => m_ (s_) h)
    (fun X s_ h hi hx => (slices_CompareFunc_ss_int64_s_s_int64_s_int64_s_int64__link0 S K X s0_ s1_ f2_ s11_ i12_ (s_) h).mpr (hs X (s_) h hi fun i13_' h' hi' hm' => hx (i13_') h' hi' hm')) (i13_) h0
def slices_CompareFunc_ss_int64_s_s_int64_s_int64_s_int64__main (S : SatT) (K : KT) (x0 x1 : Sl) (x2 : AVal) (h : H) : Prop :=
 slices_CompareFunc_ss_int64_s_s_int64_s_int64_s_int64__L0 S K x0 x1 x2 x0 (x0.len : Int) (0) h
theorem slices_CompareFunc_ss_int64_s_s_int64_s_int64_s_int64__main_link (S : SatT) (K : KT) (x0 x1 : Sl) (x2 : AVal) (h : H) : cwp S tab slices_CompareFunc_ss_int64_s_s_int64_s_int64_s_int64__M [] (bodyOf Tryz.f120) (kFun tab Tryz.f120.results.toList K) (fr0 Tryz.f120 [.sl x0, .sl x1, x2]) h = slices_CompareFunc_ss_int64_s_s_int64_s_int64_s_int64__main S K x0 x1 x2 h := by kernel_rfl
theorem slices_CompareFunc_ss_int64_s_s_int64_s_int64_s_int64__call (x0 x1 : Sl) (x2 : AVal) (h : H) (K : Int → H → Prop) (hm : slices_CompareFunc_ss_int64_s_s_int64_s_int64_s_int64__main (Sat Tryz.prog) (fun v h' => ∃ r, v = .int .i64 r ∧ K r h') x0 x1 x2 h) : callI (Sat Tryz.prog) .i64 i_slices_CompareFunc_ss_int64_s_s_int64_s_int64_s_int64_ [.sl x0, .sl x1, x2] h K := by
  have := Sat.ex tok mixed slices_CompareFunc_ss_int64_s_s_int64_s_int64_s_int64__M Tryz.func120 (c := bodyOf Tryz.f120) (by kernel_rfl) (calls_of Tryz.func120 (c := bodyOf Tryz.f120) (by kernel_rfl) (by decide)) ((slices_CompareFunc_ss_int64_s_s_int64_s_int64_s_int64__main_link _ _ x0 x1 x2 h).mpr hm)
  obtain ⟨v, h2, h3, r, rfl, h4⟩ := this; exact ⟨r, h2, h3, h4⟩

/-! ### loop.example/g01354/spec.l01Named -/
def spec_l01Named_M : Nat → List Nat := fun i => bif i == 0 then [0, 2, 4, 5, 6] else []
def spec_l01Named_ks3 (S : SatT) (K : KT) : Kont := kSeq (cwp S tab spec_l01Named_M [] (sub [1, 1, 1, 1] (bodyOf Tryz.f129)) (kFun tab (Tryz.f129).results.toList K)) (kFun tab (Tryz.f129).results.toList K)
def spec_l01Named_e0 (f0_ : AVal) (p2_ : Pt) (s4_ s5_ : Sl) (i6_ : Int) : Frame := [f0_, U, .ptr p2_, U, .sl s4_, .sl s5_, .int .i64 i6_, U, U, U, U, U, U, U, U, U, U, U, U, U, U, U, U, U, U, U, U, U, U, U, U, U, U]
def spec_l01Named_w0 (S : SatT) (K : KT) : (XT) → XT := fun X fr h => cwp S tab spec_l01Named_M (spec_l01Named_M 0) (sub [1, 1, 1, 0, 1, 0, 0] (bodyOf Tryz.f129)) (kSeq (fun fr h => X (mask (spec_l01Named_M 0) fr) h) (kBlk 0 (spec_l01Named_ks3 S K))) fr h
def spec_l01Named_L0 (S : SatT) (K : KT) (f0_ : AVal) (p2_ : Pt) (s4_ s5_ : Sl) (i6_ : Int) (h : H) : Prop := loopK (spec_l01Named_w0 S K) (spec_l01Named_e0 f0_ p2_ s4_ s5_ i6_) h
def spec_l01Named_C0 (S : SatT) (K : KT) (p2_ : Pt) (h : H) : Prop :=
 stN p2_ 2 [.int .i64 (0), .sl Sl.nil] h fun h0 =>
 ldA p2_ 2 h0 fun cs1 =>
 K (.tuple [.agg cs1, .bool false]) h0
def spec_l01Named_b0 (S : SatT) (K : KT) (X0 : XT) (f0_ : AVal) (p2_ : Pt) (s4_ s5_ : Sl) (i6_ : Int) (h : H) : Prop :=
 bif (decide (i6_ < (s4_.len : Int))) then
 ixS s4_ 1 i6_ fun p0 =>
 ldV p0 h fun v1 =>
 strEq v1 f0_ fun b2 =>
 bif b2 then
 ixS s5_ 1 i6_ fun p3 =>
 ldV p3 h fun v4 =>
 callV S i_spec_l01Read [v4] h fun v6 h5 =>
 viaT v6 fun vs7 =>
 exA vs7 0 fun cs8 =>
 viaT v6 fun vs9 =>
 exB vs9 1 fun b10 =>
 newO [.int .i64 (0), .sl Sl.nil] h5 fun p11 h12 =>
 stN p11 2 cs8 h12 fun h13 =>
 ldA p11 2 h13 fun cs14 =>
 stN p2_ 2 cs14 h13 fun h15 =>
 ldA p2_ 2 h15 fun cs16 =>
 K (.tuple [.agg cs16, .bool true]) h15
 else
 X0 (spec_l01Named_e0 f0_ p2_ s4_ s5_ (w64 (i6_ + (1)))) h
 else
 spec_l01Named_C0 S K p2_ h
theorem spec_l01Named_link0 (S : SatT) (K : KT) (X0 : XT) (f0_ : AVal) (p2_ : Pt) (s4_ s5_ : Sl) (i6_ : Int) (h : H) : spec_l01Named_w0 S K X0 (spec_l01Named_e0 f0_ p2_ s4_ s5_ i6_) h = spec_l01Named_b0 S K X0 f0_ p2_ s4_ s5_ i6_ h := by kernel_rfl
theorem spec_l01Named_rule0 (S : SatT) (K : KT) (f0_ : AVal) (p2_ : Pt) (s4_ s5_ : Sl) (I_ : Int → H → Prop) (m_ : Int → H → Nat)
    (hs : ∀ (X0 : XT) (i6_ : Int) (h : H), I_ i6_ h → (∀ (i6_' : Int) (h' : H), I_ i6_' h' → m_ i6_' h' < m_ i6_ h → X0 (spec_l01Named_e0 f0_ p2_ s4_ s5_ i6_') h') → spec_l01Named_b0 S K X0 f0_ p2_ s4_ s5_ i6_ h) (i6_ : Int) {h : H} (h0 : I_ i6_ h) : spec_l01Named_L0 S K f0_ p2_ s4_ s5_ i6_ h :=
  loop_rule (σ := (Int)) (fun s_ => spec_l01Named_e0 f0_ p2_ s4_ s5_ (s_)) (fun s_ h => I_ (s_) h) (fun s_ h => m_ (s_) h)
    (fun X s_ h hi hx => (spec_l01Named_link0 S K X f0_ p2_ s4_ s5_ (s_) h).mpr (hs X (s_) h hi fun i6_' h' hi' hm' => hx (i6_') h' hi' hm')) (i6_) h0
def spec_l01Named_main (S : SatT) (K : KT) (x0 : AVal) (h : H) : Prop :=
 newO [.int .i64 (0), .sl Sl.nil] h fun p0 h1 =>
 callS S i_spec_l01Names [] h1 fun s3 h2 =>
 newS 8 1 [.str (⟨#[49, 58, 48, 48, 48, 48]⟩ : ByteArray), .str (⟨#[50, 58, 48, 48, 49, 49, 44, 49, 49, 48, 48]⟩ : ByteArray), .str (⟨#[50, 58, 48, 48, 48, 48, 44, 48, 49, 48, 49, 44, 49, 48, 49, 48, 44, 49, 49, 49, 49]⟩ : ByteArray), .str (⟨#[50, 58, 48, 48, 48, 48, 44, 48, 49, 49, 48, 44, 49, 48, 48, 49, 44, 49, 49, 49, 49]⟩ : ByteArray), .str (⟨#[50, 58, 48, 48, 48, 48, 44, 48, 49, 49, 49, 44, 49, 48, 49, 49, 44, 49, 49, 48, 48]⟩ : ByteArray), .str (⟨#[50, 58, 48, 48, 48, 48, 44, 48, 48, 49, 49, 44, 48, 49, 48, 49, 44, 49, 49, 49, 48]⟩ : ByteArray), .str (⟨#[50, 58, 48, 48, 48, 49]⟩ : ByteArray), .str (⟨#[51, 58, 48, 49, 50, 48, 44, 49, 50, 48, 49, 44, 50, 48, 49, 50]⟩ : ByteArray)] h2 fun s4 h5 =>
 spec_l01Named_L0 S K x0 p0 s3 s4 (0) h5
theorem spec_l01Named_main_link (S : SatT) (K : KT) (x0 : AVal) (h : H) : cwp S tab spec_l01Named_M [] (bodyOf Tryz.f129) (kFun tab Tryz.f129.results.toList K) (fr0 Tryz.f129 [x0]) h = spec_l01Named_main S K x0 h := by kernel_rfl
theorem spec_l01Named_call (x0 : AVal) (h : H) (K : KT) (hm : spec_l01Named_main (Sat Tryz.prog) (fun v h' => K v h') x0 h) : callV (Sat Tryz.prog) i_spec_l01Named [x0] h K := by
  have := Sat.ex tok mixed spec_l01Named_M Tryz.func129 (c := bodyOf Tryz.f129) (by kernel_rfl) (calls_of Tryz.func129 (c := bodyOf Tryz.f129) (by kernel_rfl) (by decide)) ((spec_l01Named_main_link _ _ x0 h).mpr hm)
  exact this

/-! ### slices.Compare[[]int64,int64] -/
def slices_Compare_s_int64_int64__M : Nat → List Nat := fun i => bif i == 0 then [0, 1, 9, 10, 11] else []
def slices_Compare_s_int64_int64__ks1 (S : SatT) (K : KT) : Kont := kSeq (cwp S tab slices_Compare_s_int64_int64__M [] (sub [1, 1] (bodyOf Tryz.f104)) (kFun tab (Tryz.f104).results.toList K)) (kFun tab (Tryz.f104).results.toList K)
def slices_Compare_s_int64_int64__e0 (s0_ s1_ s9_ : Sl) (i10_ i11_ : Int) : Frame := [.sl s0_, .sl s1_, U, U, U, U, U, U, U, .sl s9_, .int .i64 i10_, .int .i64 i11_, U, U, U, U, U, U, U, U, U, U, U, U, U, U, U, U, U, U, U, U, U, U, U, U]
def slices_Compare_s_int64_int64__w0 (S : SatT) (K : KT) : (XT) → XT := fun X fr h => cwp S tab slices_Compare_s_int64_int64__M (slices_Compare_s_int64_int64__M 0) (sub [1, 0, 1, 0, 0] (bodyOf Tryz.f104)) (kSeq (fun fr h => X (mask (slices_Compare_s_int64_int64__M 0) fr) h) (kBlk 0 (slices_Compare_s_int64_int64__ks1 S K))) fr h
def slices_Compare_s_int64_int64__L0 (S : SatT) (K : KT) (s0_ s1_ s9_ : Sl) (i10_ i11_ : Int) (h : H) : Prop := loopK (slices_Compare_s_int64_int64__w0 S K) (slices_Compare_s_int64_int64__e0 s0_ s1_ s9_ i10_ i11_) h
def slices_Compare_s_int64_int64__C0 (S : SatT) (K : KT) (s0_ s1_ : Sl) (h : H) : Prop :=
 bif (decide ((s0_.len : Int) < (s1_.len : Int))) then
 K (.int .i64 (-1)) h
 else
 K (.int .i64 (0)) h
def slices_Compare_s_int64_int64__b0 (S : SatT) (K : KT) (X0 : XT) (s0_ s1_ s9_ : Sl) (i10_ i11_ : Int) (h : H) : Prop :=
 bif (decide (i11_ < i10_)) then
 ixS s9_ 1 i11_ fun p0 =>
 ldI .i64 p0 h fun n1 =>
 bif (decide (i11_ ≥ (s1_.len : Int))) then
 K (.int .i64 (1)) h
 else
 ixS s1_ 1 i11_ fun p2 =>
 ldI .i64 p2 h fun n3 =>
 callI S .i64 i_cmp_Compare_int64_ [.int .i64 n1, .int .i64 n3] h fun n5 h4 =>
 bif (n5 != (0)) then
 K (.int .i64 n5) h4
 else
 X0 (slices_Compare_s_int64_int64__e0 s0_ s1_ s9_ i10_ (w64 (i11_ + (1)))) h4
 else
 slices_Compare_s_int64_int64__C0 S K s0_ s1_ h
theorem slices_Compare_s_int64_int64__link0 (S : SatT) (K : KT) (X0 : XT) (s0_ s1_ s9_ : Sl) (i10_ i11_ : Int) (h : H) : slices_Compare_s_int64_int64__w0 S K X0 (slices_Compare_s_int64_int64__e0 s0_ s1_ s9_ i10_ i11_) h = slices_Compare_s_int64_int64__b0 S K X0 s0_ s1_ s9_ i10_ i11_ h := by kernel_rfl
theorem slices_Compare_s_int64_int64__rule0 (S : SatT) (K : KT) (s0_ s1_ s9_ : Sl) (i10_ : Int) (I_ : Int → H → Prop) (m_ : Int → H → Nat)
    (hs : ∀ (X0 : XT) (i11_ : Int) (h : H), I_ i11_ h → (∀ (i11_' : Int) (h' : H), I_ i11_' h' → m_ i11_' h' < m_ i11_ h → X0 (slices_Compare_s_int64_int64__e0 s0_ s1_ s9_ i10_ i11_') h') → slices_Compare_s_int64_int64__b0 S K X0 s0_ s1_ s9_ i10_ i11_ h) (i11_ : Int) {h : H} (h0 : I_ i11_ h) : slices_Compare_s_int64_int64__L0 S K s0_ s1_ s9_ i10_ i11_ h :=
  loop_rule (σ := (Int)) (fun s_ => slices_Compare_s_int64_int64__e0 s0_ s1_ s9_ i10_ (s_)) (fun s_ h => I_ (s_) h) (fun s_ h => m_ (s_) h)
    (fun X s_ h hi hx => (slices_Compare_s_int64_int64__link0 S K X s0_ s1_ s9_ i10_ (s_) h).mpr (hs X (s_) h hi fun i11_' h' hi' hm' => hx (i11_') h' hi' hm')) (i11_) h0
def slices_Compare_s_int64_int64__main (S : SatT) (K : KT) (x0 x1 : Sl) (h : H) : Prop :=
 slices_Compare_s_int64_int64__L0 S K x0 x1 x0 (x0.len : Int) (0) h
theorem slices_Compare_s_int64_int64__main_link (S : SatT) (K : KT) (x0 x1 : Sl) (h : H) : cwp S tab slices_Compare_s_int64_int64__M [] (bodyOf Tryz.f104) (kFun tab Tryz.f104.results.toList K) (fr0 Tryz.f104 [.sl x0, .sl x1]) h = slices_Compare_s_int64_int64__main S K x0 x1 h := by kernel_rfl
theorem slices_Compare_s_int64_int64__call (x0 x1 : Sl) (h : H) (K : Int → H → Prop) (hm : slices_Compare_s_int64_int64__main (Sat Tryz.prog) (fun v h' => ∃ r, v = .int .i64 r ∧ K r h') x0 x1 h) : callI (Sat Tryz.prog) .i64 i_slices_Compare_s_int64_int64_ [.sl x0, .sl x1] h K := by
  have := Sat.ex tok mixed slices_Compare_s_int64_int64__M Tryz.func104 (c := bodyOf Tryz.f104) (by kernel_rfl) (calls_of Tryz.func104 (c := bodyOf Tryz.f104) (by kernel_rfl) (by decide)) ((slices_Compare_s_int64_int64__main_link _ _ x0 x1 h).mpr hm)
  obtain ⟨v, h2, h3, r, rfl, h4⟩ := this; exact ⟨r, h2, h3, h4⟩

/-! ### loop.example/g01354/spec.l05Words -/
def spec_l05Words_M : Nat → List Nat := fun i => bif i == 0 then [2, 7, 8, 9, 10] else []
def spec_l05Words_ks2 (S : SatT) (K : KT) : Kont := kSeq (cwp S tab spec_l05Words_M [] (sub [1, 1, 1] (bodyOf Tryz.f80)) (kFun tab (Tryz.f80).results.toList K)) (kFun tab (Tryz.f80).results.toList K)
def spec_l05Words_e0 (p2_ : Pt) (s7_ s8_ s9_ : Sl) (i10_ : Int) : Frame := [U, U, .ptr p2_, U, U, U, U, .sl s7_, .sl s8_, .sl s9_, .int .i64 i10_, U, U, U, U, U, U, U, U, U, U, U, U, U, U, U, U, U, U, U, U, U, U, U, U, U, U, U, U, U, U, U, U, U]
def spec_l05Words_w0 (S : SatT) (K : KT) : (XT) → XT := fun X fr h => cwp S tab spec_l05Words_M (spec_l05Words_M 0) (sub [1, 1, 0, 1, 0, 0] (bodyOf Tryz.f80)) (kSeq (fun fr h => X (mask (spec_l05Words_M 0) fr) h) (kBlk 0 (spec_l05Words_ks2 S K))) fr h
def spec_l05Words_L0 (S : SatT) (K : KT) (p2_ : Pt) (s7_ s8_ s9_ : Sl) (i10_ : Int) (h : H) : Prop := loopK (spec_l05Words_w0 S K) (spec_l05Words_e0 p2_ s7_ s8_ s9_ i10_) h
def spec_l05Words_C0 (S : SatT) (K : KT) (s7_ s8_ s9_ : Sl) (h : H) : Prop :=
 K (.tuple [.sl s7_, .sl s8_, .sl s9_]) h
def spec_l05Words_b0 (S : SatT) (K : KT) (X0 : XT) (p2_ : Pt) (s7_ s8_ s9_ : Sl) (i10_ : Int) (h : H) : Prop :=
 bif (decide (i10_ < (s7_.len : Int))) then
 ldA p2_ 2 h fun cs0 =>
 ixS s7_ 1 i10_ fun p1 =>
 ldS p1 h fun s2 =>
 callI S .i64 i_spec_l05Side [.agg cs0, .sl s2, .int .i64 (1)] h fun n4 h3 =>
 newS 1 1 [.int .i64 n4] h3 fun s5 h6 =>
 app s8_ s5 1 h6 fun s7 h8 =>
 ldA p2_ 2 h8 fun cs9 =>
 ixS s7_ 1 i10_ fun p10 =>
 ldS p10 h8 fun s11 =>
 callI S .i64 i_spec_l05Side [.agg cs9, .sl s11, .int .i64 (3)] h8 fun n13 h12 =>
 newS 1 1 [.int .i64 n13] h12 fun s14 h15 =>
 app s9_ s14 1 h15 fun s16 h17 =>
 X0 (spec_l05Words_e0 p2_ s7_ s7 s16 (w64 (i10_ + (1)))) h17
 else
 spec_l05Words_C0 S K s7_ s8_ s9_ h
theorem spec_l05Words_link0 (S : SatT) (K : KT) (X0 : XT) (p2_ : Pt) (s7_ s8_ s9_ : Sl) (i10_ : Int) (h : H) : spec_l05Words_w0 S K X0 (spec_l05Words_e0 p2_ s7_ s8_ s9_ i10_) h = spec_l05Words_b0 S K X0 p2_ s7_ s8_ s9_ i10_ h := by kernel_rfl
theorem spec_l05Words_rule0 (S : SatT) (K : KT) (p2_ : Pt) (s7_ : Sl) (I_ : Sl → Sl → Int → H → Prop) (m_ : Sl → Sl → Int → H → Nat)
    (hs : ∀ (X0 : XT) (s8_ s9_ : Sl) (i10_ : Int) (h : H), I_ s8_ s9_ i10_ h → (∀ (s8_' s9_' : Sl) (i10_' : Int) (h' : H), I_ s8_' s9_' i10_' h' → m_ s8_' s9_' i10_' h' < m_ s8_ s9_ i10_ h → X0 (spec_l05Words_e0 p2_ s7_ s8_' s9_' i10_') h') → spec_l05Words_b0 S K X0 p2_ s7_ s8_ s9_ i10_ h) (s8_ s9_ : Sl) (i10_ : Int) {h : H} (h0 : I_ s8_ s9_ i10_ h) : spec_l05Words_L0 S K p2_ s7_ s8_ s9_ i10_ h :=
  loop_rule (σ := (Sl) × (Sl) × (Int)) (fun s_ => spec_l05Words_e0 p2_ s7_ (s_.1) (s_.2.1) (s_.2.2)) (fun s_ h => I_ (s_.1) (s_.2.1) (s_.2.2) h) (fun s_ h => m_ (s_.1) (s_.2.1) (s_.2.2) h)
    (fun X s_ h hi hx => (spec_l05Words_link0 S K X p2_ s7_ (s_.1) (s_.2.1) (s_.2.2) h).mpr (hs X (s_.1) (s_.2.1) (s_.2.2) h hi fun s8_' s9_' i10_' h' hi' hm' => hx (s8_', s9_', i10_') h' hi' hm')) (s8_, s9_, i10_) h0
def spec_l05Words_main (S : SatT) (K : KT) (x0 : List AVal) (x1 : Int) (h : H) : Prop :=
 newK 2 x0 h fun p0 h1 =>
 ldA p0 2 h1 fun cs2 =>
 newS 0 1 [] h1 fun s3 h4 =>
 callS S i_spec_l05Rounds [.agg cs2, .sl s3, .int .i64 x1] h4 fun s6 h5 =>
 newS 0 1 [] h5 fun s7 h8 =>
 newS 0 1 [] h8 fun s9 h10 =>
 spec_l05Words_L0 S K p0 s6 s7 s9 (0) h10
theorem spec_l05Words_main_link (S : SatT) (K : KT) (x0 : List AVal) (x1 : Int) (h : H) : cwp S tab spec_l05Words_M [] (bodyOf Tryz.f80) (kFun tab Tryz.f80.results.toList K) (fr0 Tryz.f80 [.agg x0, .int .i64 x1]) h = spec_l05Words_main S K x0 x1 h := by kernel_rfl
theorem spec_l05Words_call (x0 : List AVal) (x1 : Int) (h : H) (K : KT) (hm : spec_l05Words_main (Sat Tryz.prog) (fun v h' => K v h') x0 x1 h) : callV (Sat Tryz.prog) i_spec_l05Words [.agg x0, .int .i64 x1] h K := by
  have := Sat.ex tok mixed spec_l05Words_M Tryz.func80 (c := bodyOf Tryz.f80) (by kernel_rfl) (calls_of Tryz.func80 (c := bodyOf Tryz.f80) (by kernel_rfl) (by decide)) ((spec_l05Words_main_link _ _ x0 x1 h).mpr hm)
  exact this

/-! ### loop.example/g01354/spec.l01Split -/
def spec_l01Split_M : Nat → List Nat := fun i => bif i == 0 then [0, 1, 5, 6, 7] else []
def spec_l01Split_ks3 (S : SatT) (K : KT) : Kont := kSeq (cwp S tab spec_l01Split_M [] (sub [1, 1, 1, 1] (bodyOf Tryz.f159)) (kFun tab (Tryz.f159).results.toList K)) (kFun tab (Tryz.f159).results.toList K)
def spec_l01Split_e0 (f0_ : AVal) (i1_ : Int) (s5_ : Sl) (i6_ i7_ : Int) : Frame := [f0_, .int .u8 i1_, U, U, U, .sl s5_, .int .i64 i6_, .int .i64 i7_, U, U, U, U, U, U, U, U, U, U, U, U, U, U, U, U, U, U, U, U, U, U, U, U, U, U, U]
def spec_l01Split_w0 (S : SatT) (K : KT) : (XT) → XT := fun X fr h => cwp S tab spec_l01Split_M (spec_l01Split_M 0) (sub [1, 1, 1, 0, 1, 0, 0] (bodyOf Tryz.f159)) (kSeq (fun fr h => X (mask (spec_l01Split_M 0) fr) h) (kBlk 0 (spec_l01Split_ks3 S K))) fr h
def spec_l01Split_L0 (S : SatT) (K : KT) (f0_ : AVal) (i1_ : Int) (s5_ : Sl) (i6_ i7_ : Int) (h : H) : Prop := loopK (spec_l01Split_w0 S K) (spec_l01Split_e0 f0_ i1_ s5_ i6_ i7_) h
def spec_l01Split_C0 (S : SatT) (K : KT) (f0_ : AVal) (s5_ : Sl) (i6_ : Int) (h : H) : Prop :=
 viaStr f0_ fun t0 =>
 cutStr t0 i6_ (t0.size : Int) fun t1 =>
 newS 1 1 [.str t1] h fun s2 h3 =>
 app s5_ s2 1 h3 fun s4 h5 =>
 K (.sl s4) h5
def spec_l01Split_b0 (S : SatT) (K : KT) (X0 : XT) (f0_ : AVal) (i1_ : Int) (s5_ : Sl) (i6_ i7_ : Int) (h : H) : Prop :=
 viaStr f0_ fun t0 =>
 bif (decide (i7_ < (t0.size : Int))) then
 viaStr f0_ fun t1 =>
 ixStr t1 i7_ fun n2 =>
 bif (n2 == i1_) then
 viaStr f0_ fun t3 =>
 cutStr t3 i6_ i7_ fun t4 =>
 newS 1 1 [.str t4] h fun s5 h6 =>
 app s5_ s5 1 h6 fun s7 h8 =>
 X0 (spec_l01Split_e0 f0_ i1_ s7 (w64 (i7_ + (1))) (w64 (i7_ + (1)))) h8
 else
 X0 (spec_l01Split_e0 f0_ i1_ s5_ i6_ (w64 (i7_ + (1)))) h
 else
 spec_l01Split_C0 S K f0_ s5_ i6_ h
theorem spec_l01Split_link0 (S : SatT) (K : KT) (X0 : XT) (f0_ : AVal) (i1_ : Int) (s5_ : Sl) (i6_ i7_ : Int) (h : H) : spec_l01Split_w0 S K X0 (spec_l01Split_e0 f0_ i1_ s5_ i6_ i7_) h = spec_l01Split_b0 S K X0 f0_ i1_ s5_ i6_ i7_ h := by kernel_rfl
theorem spec_l01Split_rule0 (S : SatT) (K : KT) (f0_ : AVal) (i1_ : Int) (I_ : Sl → Int → Int → H → Prop) (m_ : Sl → Int → Int → H → Nat)
    (hs : ∀ (X0 : XT) (s5_ : Sl) (i6_ i7_ : Int) (h : H), I_ s5_ i6_ i7_ h → (∀ (s5_' : Sl) (i6_' i7_' : Int) (h' : H), I_ s5_' i6_' i7_' h' → m_ s5_' i6_' i7_' h' < m_ s5_ i6_ i7_ h → X0 (spec_l01Split_e0 f0_ i1_ s5_' i6_' i7_') h') → spec_l01Split_b0 S K X0 f0_ i1_ s5_ i6_ i7_ h) (s5_ : Sl) (i6_ i7_ : Int) {h : H} (h0 : I_ s5_ i6_ i7_ h) : spec_l01Split_L0 S K f0_ i1_ s5_ i6_ i7_ h :=
  loop_rule (σ := (Sl) × (Int) × (Int)) (fun s_ => spec_l01Split_e0 f0_ i1_ (s_.1) (s_.2.1) (s_.2.2)) (fun s_ h => I_ (s_.1) (s_.2.1) (s_.2.2) h) (fun s_ h => m_ (s_.1) (s_.2.1) (s_.2.2) h)
    (fun X s_ h hi hx => (spec_l01Split_link0 S K X f0_ i1_ (s_.1) (s_.2.1) (s_.2.2) h).mpr (hs X (s_.1) (s_.2.1) (s_.2.2) h hi fun s5_' i6_' i7_' h' hi' hm' => hx (s5_', i6_', i7_') h' hi' hm')) (s5_, i6_, i7_) h0
def spec_l01Split_main (S : SatT) (K : KT) (x0 : AVal) (x1 : Int) (h : H) : Prop :=
 newS 0 1 [] h fun s0 h1 =>
 spec_l01Split_L0 S K x0 x1 s0 (0) (0) h1
theorem spec_l01Split_main_link (S : SatT) (K : KT) (x0 : AVal) (x1 : Int) (h : H) : cwp S tab spec_l01Split_M [] (bodyOf Tryz.f159) (kFun tab Tryz.f159.results.toList K) (fr0 Tryz.f159 [x0, .int .u8 x1]) h = spec_l01Split_main S K x0 x1 h := by kernel_rfl
theorem spec_l01Split_call (x0 : AVal) (x1 : Int) (h : H) (K : Sl → H → Prop) (hm : spec_l01Split_main (Sat Tryz.prog) (fun v h' => ∃ r, v = .sl r ∧ K r h') x0 x1 h) : callS (Sat Tryz.prog) i_spec_l01Split [x0, .int .u8 x1] h K := by
  have := Sat.ex tok mixed spec_l01Split_M Tryz.func159 (c := bodyOf Tryz.f159) (by kernel_rfl) (calls_of Tryz.func159 (c := bodyOf Tryz.f159) (by kernel_rfl) (by decide)) ((spec_l01Split_main_link _ _ x0 x1 h).mpr hm)
  obtain ⟨v, h2, h3, r, rfl, h4⟩ := this; exact ⟨r, h2, h3, h4⟩

/-! ### loop.example/g01354/impl.IsSet -/
def impl_IsSet_M : Nat → List Nat := fun i => bif i == 0 then [1, 6, 7, 8] else []
def impl_IsSet_ks1 (S : SatT) (K : KT) : Kont := kSeq (cwp S tab impl_IsSet_M [] (sub [1, 1] (bodyOf Tryz.f17)) (kFun tab (Tryz.f17).results.toList K)) (kFun tab (Tryz.f17).results.toList K)
def impl_IsSet_e0 (p1_ : Pt) (s6_ : Sl) (i7_ i8_ : Int) : Frame := [U, .ptr p1_, U, U, U, U, .sl s6_, .int .i64 i7_, .int .i64 i8_, U, U, U, U, U, U, U, U, U, U, U, U, U, U, U, U, U, U, U, U, U, U, U, U, U, U, U, U, U, U, U, U, U, U]
def impl_IsSet_w0 (S : SatT) (K : KT) : (XT) → XT := fun X fr h => cwp S tab impl_IsSet_M (impl_IsSet_M 0) (sub [1, 0, 1, 0, 0] (bodyOf Tryz.f17)) (kSeq (fun fr h => X (mask (impl_IsSet_M 0) fr) h) (kBlk 0 (impl_IsSet_ks1 S K))) fr h
def impl_IsSet_L0 (S : SatT) (K : KT) (p1_ : Pt) (s6_ : Sl) (i7_ i8_ : Int) (h : H) : Prop := loopK (impl_IsSet_w0 S K) (impl_IsSet_e0 p1_ s6_ i7_ i8_) h
def impl_IsSet_C0 (S : SatT) (K : KT) (p1_ : Pt) (h : H) : Prop :=
 isPt p1_ (
 ldI .i64 (Pt.add p1_ 0) h fun n0 =>
 callB S i_impl_within [.int .i64 n0, .int .i64 (1), .int .i64 (6)] h fun b2 h1 =>
 bif b2 then
 isPt p1_ (
 ldS (Pt.add p1_ 1) h1 fun s3 =>
 K (.bool (decide ((s3.len : Int) ≤ (16)))) h1)
 else
 K (.bool false) h1)
def impl_IsSet_b0 (S : SatT) (K : KT) (X0 : XT) (p1_ : Pt) (s6_ : Sl) (i7_ i8_ : Int) (h : H) : Prop :=
 bif (decide (i8_ < i7_)) then
 ixS s6_ 4 i8_ fun p0 =>
 ldA p0 4 h fun cs1 =>
 newO [.int .i64 (0), .int .i64 (0), .int .i64 (0), .int .i64 (0)] h fun p2 h3 =>
 stN p2 4 cs1 h3 fun h4 =>
 ldA p2 4 h4 fun cs5 =>
 isPt p1_ (
 ldI .i64 (Pt.add p1_ 0) h4 fun n6 =>
 callB S i_impl_isTile [.agg cs5, .int .i64 n6] h4 fun b8 h7 =>
 bif (!b8) then
 K (.bool false) h7
 else
 bif (decide (i8_ > (0))) then
 isPt p1_ (
 ldS (Pt.add p1_ 1) h7 fun s9 =>
 ixS s9 4 (w64 (i8_ - (1))) fun p10 =>
 ldA p10 4 h7 fun cs11 =>
 ldA p2 4 h7 fun cs12 =>
 callI S .i64 i_impl_compare [.agg cs11, .agg cs12] h7 fun n14 h13 =>
 bif (decide (n14 ≥ (0))) then
 K (.bool false) h13
 else
 X0 (impl_IsSet_e0 p1_ s6_ i7_ (w64 (i8_ + (1)))) h13)
 else
 X0 (impl_IsSet_e0 p1_ s6_ i7_ (w64 (i8_ + (1)))) h7)
 else
 impl_IsSet_C0 S K p1_ h
theorem impl_IsSet_link0 (S : SatT) (K : KT) (X0 : XT) (p1_ : Pt) (s6_ : Sl) (i7_ i8_ : Int) (h : H) : impl_IsSet_w0 S K X0 (impl_IsSet_e0 p1_ s6_ i7_ i8_) h = impl_IsSet_b0 S K X0 p1_ s6_ i7_ i8_ h := by kernel_rfl
theorem impl_IsSet_rule0 (S : SatT) (K : KT) (p1_ : Pt) (s6_ : Sl) (i7_ : Int) (I_ : Int → H → Prop) (m_ : Int → H → Nat)
    (hs : ∀ (X0 : XT) (i8_ : Int) (h : H), I_ i8_ h → (∀ (i8_' : Int) (h' : H), I_ i8_' h' → m_ i8_' h' < m_ i8_ h → X0 (impl_IsSet_e0 p1_ s6_ i7_ i8_') h') → impl_IsSet_b0 S K X0 p1_ s6_ i7_ i8_ h) (i8_ : Int) {h : H} (h0 : I_ i8_ h) : impl_IsSet_L0 S K p1_ s6_ i7_ i8_ h :=
  loop_rule (σ := (Int)) (fun s_ => impl_IsSet_e0 p1_ s6_ i7_ (s_)) (fun s_ h => I_ (s_) h) (fun s_ h => m_ (s_) h)
    (fun X s_ h hi hx => (impl_IsSet_link0 S K X p1_ s6_ i7_ (s_) h).mpr (hs X (s_) h hi fun i8_' h' hi' hm' => hx (i8_') h' hi' hm')) (i8_) h0
def impl_IsSet_main (S : SatT) (K : KT) (x0 : List AVal) (h : H) : Prop :=
 newK 2 x0 h fun p0 h1 =>
 isPt p0 (
 ldS (Pt.add p0 1) h1 fun s2 =>
 impl_IsSet_L0 S K p0 s2 (s2.len : Int) (0) h1)
theorem impl_IsSet_main_link (S : SatT) (K : KT) (x0 : List AVal) (h : H) : cwp S tab impl_IsSet_M [] (bodyOf Tryz.f17) (kFun tab Tryz.f17.results.toList K) (fr0 Tryz.f17 [.agg x0]) h = impl_IsSet_main S K x0 h := by kernel_rfl
theorem impl_IsSet_call (x0 : List AVal) (h : H) (K : Bool → H → Prop) (hm : impl_IsSet_main (Sat Tryz.prog) (fun v h' => ∃ r, v = .bool r ∧ K r h') x0 h) : callB (Sat Tryz.prog) i_impl_IsSet [.agg x0] h K := by
  have := Sat.ex tok mixed impl_IsSet_M Tryz.func17 (c := bodyOf Tryz.f17) (by kernel_rfl) (calls_of Tryz.func17 (c := bodyOf Tryz.f17) (by kernel_rfl) (by decide)) ((impl_IsSet_main_link _ _ x0 h).mpr hm)
  obtain ⟨v, h2, h3, r, rfl, h4⟩ := this; exact ⟨r, h2, h3, h4⟩

/-! ### loop.example/g01354/spec.l05Side -/
def spec_l05Side_M : Nat → List Nat := fun i => bif i == 0 then [1, 2, 3, 7, 8] else []
def spec_l05Side_ks2 (S : SatT) (K : KT) : Kont := kSeq (cwp S tab spec_l05Side_M [] (sub [1, 1, 1] (bodyOf Tryz.f125)) (kFun tab (Tryz.f125).results.toList K)) (kFun tab (Tryz.f125).results.toList K)
def spec_l05Side_e0 (s1_ : Sl) (i2_ : Int) (p3_ : Pt) (i7_ i8_ : Int) : Frame := [U, .sl s1_, .int .i64 i2_, .ptr p3_, U, U, U, .int .i64 i7_, .int .i64 i8_, U, U, U, U, U, U, U, U, U, U, U, U, U, U, U, U, U, U, U, U, U, U]
def spec_l05Side_w0 (S : SatT) (K : KT) : (XT) → XT := fun X fr h => cwp S tab spec_l05Side_M (spec_l05Side_M 0) (sub [1, 1, 0, 1, 0, 0] (bodyOf Tryz.f125)) (kSeq (fun fr h => X (mask (spec_l05Side_M 0) fr) h) (kBlk 0 (spec_l05Side_ks2 S K))) fr h
def spec_l05Side_L0 (S : SatT) (K : KT) (s1_ : Sl) (i2_ : Int) (p3_ : Pt) (i7_ i8_ : Int) (h : H) : Prop := loopK (spec_l05Side_w0 S K) (spec_l05Side_e0 s1_ i2_ p3_ i7_ i8_) h
def spec_l05Side_C0 (S : SatT) (K : KT) (i7_ : Int) (h : H) : Prop :=
 K (.int .i64 i7_) h
def spec_l05Side_b0 (S : SatT) (K : KT) (X0 : XT) (s1_ : Sl) (i2_ : Int) (p3_ : Pt) (i7_ i8_ : Int) (h : H) : Prop :=
 bif (decide (i8_ < (s1_.len : Int))) then
 isPt p3_ (
 ldI .i64 (Pt.add p3_ 0) h fun n0 =>
 isPt p3_ (
 ldS (Pt.add p3_ 1) h fun s1 =>
 ixS s1_ 1 i8_ fun p2 =>
 ldI .i64 p2 h fun n3 =>
 ixS s1 4 n3 fun p4 =>
 ixA p4 4 1 i2_ fun p5 =>
 ldI .i64 p5 h fun n6 =>
 X0 (spec_l05Side_e0 s1_ i2_ p3_ (w64 ((w64 (i7_ * n0)) + n6)) (w64 (i8_ + (1)))) h))
 else
 spec_l05Side_C0 S K i7_ h
theorem spec_l05Side_link0 (S : SatT) (K : KT) (X0 : XT) (s1_ : Sl) (i2_ : Int) (p3_ : Pt) (i7_ i8_ : Int) (h : H) : spec_l05Side_w0 S K X0 (spec_l05Side_e0 s1_ i2_ p3_ i7_ i8_) h = spec_l05Side_b0 S K X0 s1_ i2_ p3_ i7_ i8_ h := by kernel_rfl
theorem spec_l05Side_rule0 (S : SatT) (K : KT) (s1_ : Sl) (i2_ : Int) (p3_ : Pt) (I_ : Int → Int → H → Prop) (m_ : Int → Int → H → Nat)
    (hs : ∀ (X0 : XT) (i7_ i8_ : Int) (h : H), I_ i7_ i8_ h → (∀ (i7_' i8_' : Int) (h' : H), I_ i7_' i8_' h' → m_ i7_' i8_' h' < m_ i7_ i8_ h → X0 (spec_l05Side_e0 s1_ i2_ p3_ i7_' i8_') h') → spec_l05Side_b0 S K X0 s1_ i2_ p3_ i7_ i8_ h) (i7_ i8_ : Int) {h : H} (h0 : I_ i7_ i8_ h) : spec_l05Side_L0 S K s1_ i2_ p3_ i7_ i8_ h :=
  loop_rule (σ := (Int) × (Int)) (fun s_ => spec_l05Side_e0 s1_ i2_ p3_ (s_.1) (s_.2)) (fun s_ h => I_ (s_.1) (s_.2) h) (fun s_ h => m_ (s_.1) (s_.2) h)
    (fun X s_ h hi hx => (spec_l05Side_link0 S K X s1_ i2_ p3_ (s_.1) (s_.2) h).mpr (hs X (s_.1) (s_.2) h hi fun i7_' i8_' h' hi' hm' => hx (i7_', i8_') h' hi' hm')) (i7_, i8_) h0
def spec_l05Side_main (S : SatT) (K : KT) (x0 : List AVal) (x1 : Sl) (x2 : Int) (h : H) : Prop :=
 newK 2 x0 h fun p0 h1 =>
 spec_l05Side_L0 S K x1 x2 p0 (0) (0) h1
theorem spec_l05Side_main_link (S : SatT) (K : KT) (x0 : List AVal) (x1 : Sl) (x2 : Int) (h : H) : cwp S tab spec_l05Side_M [] (bodyOf Tryz.f125) (kFun tab Tryz.f125.results.toList K) (fr0 Tryz.f125 [.agg x0, .sl x1, .int .i64 x2]) h = spec_l05Side_main S K x0 x1 x2 h := by kernel_rfl
theorem spec_l05Side_call (x0 : List AVal) (x1 : Sl) (x2 : Int) (h : H) (K : Int → H → Prop) (hm : spec_l05Side_main (Sat Tryz.prog) (fun v h' => ∃ r, v = .int .i64 r ∧ K r h') x0 x1 x2 h) : callI (Sat Tryz.prog) .i64 i_spec_l05Side [.agg x0, .sl x1, .int .i64 x2] h K := by
  have := Sat.ex tok mixed spec_l05Side_M Tryz.func125 (c := bodyOf Tryz.f125) (by kernel_rfl) (calls_of Tryz.func125 (c := bodyOf Tryz.f125) (by kernel_rfl) (by decide)) ((spec_l05Side_main_link _ _ x0 x1 x2 h).mpr hm)
  obtain ⟨v, h2, h3, r, rfl, h4⟩ := this; exact ⟨r, h2, h3, h4⟩

/-! ### loop.example/g01354/spec.l05Cylinder -/
def spec_l05Cylinder_M : Nat → List Nat := fun i => bif i == 0 then [1, 2, 5] else []
def spec_l05Cylinder_ks1 (S : SatT) (K : KT) : Kont := kSeq (cwp S tab spec_l05Cylinder_M [] (sub [1, 1] (bodyOf Tryz.f143)) (kFun tab (Tryz.f143).results.toList K)) (kFun tab (Tryz.f143).results.toList K)
def spec_l05Cylinder_e0 (s1_ : Sl) (p2_ : Pt) (i5_ : Int) : Frame := [U, .sl s1_, .ptr p2_, U, U, .int .i64 i5_, U, U, U, U, U, U, U, U, U, U, U, U, U, U, U, U, U, U, U, U, U, U, U, U, U, U, U, U, U, U, U, U, U, U, U]
def spec_l05Cylinder_w0 (S : SatT) (K : KT) : (XT) → XT := fun X fr h => cwp S tab spec_l05Cylinder_M (spec_l05Cylinder_M 0) (sub [1, 0, 1, 0, 0] (bodyOf Tryz.f143)) (kSeq (fun fr h => X (mask (spec_l05Cylinder_M 0) fr) h) (kBlk 0 (spec_l05Cylinder_ks1 S K))) fr h
def spec_l05Cylinder_L0 (S : SatT) (K : KT) (s1_ : Sl) (p2_ : Pt) (i5_ : Int) (h : H) : Prop := loopK (spec_l05Cylinder_w0 S K) (spec_l05Cylinder_e0 s1_ p2_ i5_) h
def spec_l05Cylinder_C0 (S : SatT) (K : KT) (h : H) : Prop :=
 K (.bool true) h
def spec_l05Cylinder_b0 (S : SatT) (K : KT) (X0 : XT) (s1_ : Sl) (p2_ : Pt) (i5_ : Int) (h : H) : Prop :=
 bif (decide (i5_ < (s1_.len : Int))) then
 isPt p2_ (
 ldS (Pt.add p2_ 1) h fun s0 =>
 ixS s1_ 1 i5_ fun p1 =>
 ldS p1 h fun s2 =>
 ixS s1_ 1 i5_ fun p3 =>
 ldS p3 h fun s4 =>
 ixS s2 1 (w64 ((s4.len : Int) - (1))) fun p5 =>
 ldI .i64 p5 h fun n6 =>
 ixS s0 4 n6 fun p7 =>
 ixA p7 4 1 (2) fun p8 =>
 ldI .i64 p8 h fun n9 =>
 isPt p2_ (
 ldS (Pt.add p2_ 1) h fun s10 =>
 ixS s1_ 1 i5_ fun p11 =>
 ldS p11 h fun s12 =>
 ixS s12 1 (0) fun p13 =>
 ldI .i64 p13 h fun n14 =>
 ixS s10 4 n14 fun p15 =>
 ixA p15 4 1 (0) fun p16 =>
 ldI .i64 p16 h fun n17 =>
 bif (n9 != n17) then
 K (.bool false) h
 else
 X0 (spec_l05Cylinder_e0 s1_ p2_ (w64 (i5_ + (1)))) h))
 else
 spec_l05Cylinder_C0 S K h
theorem spec_l05Cylinder_link0 (S : SatT) (K : KT) (X0 : XT) (s1_ : Sl) (p2_ : Pt) (i5_ : Int) (h : H) : spec_l05Cylinder_w0 S K X0 (spec_l05Cylinder_e0 s1_ p2_ i5_) h = spec_l05Cylinder_b0 S K X0 s1_ p2_ i5_ h := by kernel_rfl
theorem spec_l05Cylinder_rule0 (S : SatT) (K : KT) (s1_ : Sl) (p2_ : Pt) (I_ : Int → H → Prop) (m_ : Int → H → Nat)
    (hs : ∀ (X0 : XT) (i5_ : Int) (h : H), I_ i5_ h → (∀ (i5_' : Int) (h' : H), I_ i5_' h' → m_ i5_' h' < m_ i5_ h → X0 (spec_l05Cylinder_e0 s1_ p2_ i5_') h') → spec_l05Cylinder_b0 S K X0 s1_ p2_ i5_ h) (i5_ : Int) {h : H} (h0 : I_ i5_ h) : spec_l05Cylinder_L0 S K s1_ p2_ i5_ h :=
  loop_rule (σ := (Int)) (fun s_ => spec_l05Cylinder_e0 s1_ p2_ (s_)) (fun s_ h => I_ (s_) h) (fun s_ h => m_ (s_) h)
    (fun X s_ h hi hx => (spec_l05Cylinder_link0 S K X s1_ p2_ (s_) h).mpr (hs X (s_) h hi fun i5_' h' hi' hm' => hx (i5_') h' hi' hm')) (i5_) h0
def spec_l05Cylinder_main (S : SatT) (K : KT) (x0 : List AVal) (x1 : Sl) (h : H) : Prop :=
 newK 2 x0 h fun p0 h1 =>
 spec_l05Cylinder_L0 S K x1 p0 (0) h1
theorem spec_l05Cylinder_main_link (S : SatT) (K : KT) (x0 : List AVal) (x1 : Sl) (h : H) : cwp S tab spec_l05Cylinder_M [] (bodyOf Tryz.f143) (kFun tab Tryz.f143.results.toList K) (fr0 Tryz.f143 [.agg x0, .sl x1]) h = spec_l05Cylinder_main S K x0 x1 h := by kernel_rfl
theorem spec_l05Cylinder_call (x0 : List AVal) (x1 : Sl) (h : H) (K : Bool → H → Prop) (hm : spec_l05Cylinder_main (Sat Tryz.prog) (fun v h' => ∃ r, v = .bool r ∧ K r h') x0 x1 h) : callB (Sat Tryz.prog) i_spec_l05Cylinder [.agg x0, .sl x1] h K := by
  have := Sat.ex tok mixed spec_l05Cylinder_M Tryz.func143 (c := bodyOf Tryz.f143) (by kernel_rfl) (calls_of Tryz.func143 (c := bodyOf Tryz.f143) (by kernel_rfl) (by decide)) ((spec_l05Cylinder_main_link _ _ x0 x1 h).mpr hm)
  obtain ⟨v, h2, h3, r, rfl, h4⟩ := this; exact ⟨r, h2, h3, h4⟩

/-! ### loop.example/g01354/laws.likeInts -/
def laws_likeInts_M : Nat → List Nat := fun i => bif i == 0 then [0, 1, 5] else []
def laws_likeInts_ks4 (S : SatT) (K : KT) : Kont := kSeq (cwp S tab laws_likeInts_M [] (sub [1, 1, 1] (bodyOf Tryz.f9)) (kFun tab (Tryz.f9).results.toList K)) (kFun tab (Tryz.f9).results.toList K)
def laws_likeInts_e0 (s0_ s1_ : Sl) (i5_ : Int) : Frame := [.sl s0_, .sl s1_, U, U, U, .int .i64 i5_, U, U, U, U, U, U, U, U, U, U, U, U, U, U, U, U, U, U, U, U]
def laws_likeInts_w0 (S : SatT) (K : KT) : (XT) → XT := fun X fr h => cwp S tab laws_likeInts_M (laws_likeInts_M 0) (sub [1, 1, 0, 1, 0, 0] (bodyOf Tryz.f9)) (kSeq (fun fr h => X (mask (laws_likeInts_M 0) fr) h) (kBlk 0 (laws_likeInts_ks4 S K))) fr h
def laws_likeInts_L0 (S : SatT) (K : KT) (s0_ s1_ : Sl) (i5_ : Int) (h : H) : Prop := loopK (laws_likeInts_w0 S K) (laws_likeInts_e0 s0_ s1_ i5_) h
def laws_likeInts_C0 (S : SatT) (K : KT) (h : H) : Prop :=
 K (.bool true) h
def laws_likeInts_b0 (S : SatT) (K : KT) (X0 : XT) (s0_ s1_ : Sl) (i5_ : Int) (h : H) : Prop :=
 bif (decide (i5_ < (s0_.len : Int))) then
 ixS s0_ 1 i5_ fun p0 =>
 ldI .i64 p0 h fun n1 =>
 ixS s1_ 1 i5_ fun p2 =>
 ldI .i64 p2 h fun n3 =>
 bif (n1 != n3) then
 K (.bool false) h
 else
 X0 (laws_likeInts_e0 s0_ s1_ (w64 (i5_ + (1)))) h
 else
 laws_likeInts_C0 S K h
theorem laws_likeInts_link0 (S : SatT) (K : KT) (X0 : XT) (s0_ s1_ : Sl) (i5_ : Int) (h : H) : laws_likeInts_w0 S K X0 (laws_likeInts_e0 s0_ s1_ i5_) h = laws_likeInts_b0 S K X0 s0_ s1_ i5_ h := by kernel_rfl
theorem laws_likeInts_rule0 (S : SatT) (K : KT) (s0_ s1_ : Sl) (I_ : Int → H → Prop) (m_ : Int → H → Nat)
    (hs : ∀ (X0 : XT) (i5_ : Int) (h : H), I_ i5_ h → (∀ (i5_' : Int) (h' : H), I_ i5_' h' → m_ i5_' h' < m_ i5_ h → X0 (laws_likeInts_e0 s0_ s1_ i5_') h') → laws_likeInts_b0 S K X0 s0_ s1_ i5_ h) (i5_ : Int) {h : H} (h0 : I_ i5_ h) : laws_likeInts_L0 S K s0_ s1_ i5_ h :=
  loop_rule (σ := (Int)) (fun s_ => laws_likeInts_e0 s0_ s1_ (s_)) (fun s_ h => I_ (s_) h) (fun s_ h => m_ (s_) h)
    (fun X s_ h hi hx => (laws_likeInts_link0 S K X s0_ s1_ (s_) h).mpr (hs X (s_) h hi fun i5_' h' hi' hm' => hx (i5_') h' hi' hm')) (i5_) h0
def laws_likeInts_main (S : SatT) (K : KT) (x0 x1 : Sl) (h : H) : Prop :=
 bif ((x0.len : Int) != (x1.len : Int)) then
 K (.bool false) h
 else
 laws_likeInts_L0 S K x0 x1 (0) h
theorem laws_likeInts_main_link (S : SatT) (K : KT) (x0 x1 : Sl) (h : H) : cwp S tab laws_likeInts_M [] (bodyOf Tryz.f9) (kFun tab Tryz.f9.results.toList K) (fr0 Tryz.f9 [.sl x0, .sl x1]) h = laws_likeInts_main S K x0 x1 h := by kernel_rfl
theorem laws_likeInts_call (x0 x1 : Sl) (h : H) (K : Bool → H → Prop) (hm : laws_likeInts_main (Sat Tryz.prog) (fun v h' => ∃ r, v = .bool r ∧ K r h') x0 x1 h) : callB (Sat Tryz.prog) i_laws_likeInts [.sl x0, .sl x1] h K := by
  have := Sat.ex tok mixed laws_likeInts_M Tryz.func9 (c := bodyOf Tryz.f9) (by kernel_rfl) (calls_of Tryz.func9 (c := bodyOf Tryz.f9) (by kernel_rfl) (by decide)) ((laws_likeInts_main_link _ _ x0 x1 h).mpr hm)
  obtain ⟨v, h2, h3, r, rfl, h4⟩ := this; exact ⟨r, h2, h3, h4⟩

/-! ### loop.example/g01354/spec.l01Tile -/
def spec_l01Tile_M : Nat → List Nat := fun i => bif i == 0 then [0, 3, 5] else []
def spec_l01Tile_ks1 (S : SatT) (K : KT) : Kont := kSeq (cwp S tab spec_l01Tile_M [] (sub [1, 1] (bodyOf Tryz.f98)) (kFun tab (Tryz.f98).results.toList K)) (kFun tab (Tryz.f98).results.toList K)
def spec_l01Tile_e0 (i0_ : Int) (p3_ : Pt) (i5_ : Int) : Frame := [.int .i64 i0_, U, U, .ptr p3_, U, .int .i64 i5_, U, U, U, U, U, U, U, U, U, U, U]
def spec_l01Tile_w0 (S : SatT) (K : KT) : (XT) → XT := fun X fr h => cwp S tab spec_l01Tile_M (spec_l01Tile_M 0) (sub [1, 0, 1, 0, 0] (bodyOf Tryz.f98)) (kSeq (fun fr h => X (mask (spec_l01Tile_M 0) fr) h) (kBlk 0 (spec_l01Tile_ks1 S K))) fr h
def spec_l01Tile_L0 (S : SatT) (K : KT) (i0_ : Int) (p3_ : Pt) (i5_ : Int) (h : H) : Prop := loopK (spec_l01Tile_w0 S K) (spec_l01Tile_e0 i0_ p3_ i5_) h
def spec_l01Tile_C0 (S : SatT) (K : KT) (h : H) : Prop :=
 K (.bool true) h
def spec_l01Tile_b0 (S : SatT) (K : KT) (X0 : XT) (i0_ : Int) (p3_ : Pt) (i5_ : Int) (h : H) : Prop :=
 bif (decide (i5_ < (4))) then
 ixA p3_ 4 1 i5_ fun p0 =>
 ldI .i64 p0 h fun n1 =>
 callB S i_spec_l01In [.int .i64 n1, .int .i64 (0), .int .i64 (w64 (i0_ - (1)))] h fun b3 h2 =>
 bif (!b3) then
 K (.bool false) h2
 else
 X0 (spec_l01Tile_e0 i0_ p3_ (w64 (i5_ + (1)))) h2
 else
 spec_l01Tile_C0 S K h
theorem spec_l01Tile_link0 (S : SatT) (K : KT) (X0 : XT) (i0_ : Int) (p3_ : Pt) (i5_ : Int) (h : H) : spec_l01Tile_w0 S K X0 (spec_l01Tile_e0 i0_ p3_ i5_) h = spec_l01Tile_b0 S K X0 i0_ p3_ i5_ h := by kernel_rfl
theorem spec_l01Tile_rule0 (S : SatT) (K : KT) (i0_ : Int) (p3_ : Pt) (I_ : Int → H → Prop) (m_ : Int → H → Nat)
    (hs : ∀ (X0 : XT) (i5_ : Int) (h : H), I_ i5_ h → (∀ (i5_' : Int) (h' : H), I_ i5_' h' → m_ i5_' h' < m_ i5_ h → X0 (spec_l01Tile_e0 i0_ p3_ i5_') h') → spec_l01Tile_b0 S K X0 i0_ p3_ i5_ h) (i5_ : Int) {h : H} (h0 : I_ i5_ h) : spec_l01Tile_L0 S K i0_ p3_ i5_ h :=
  loop_rule (σ := (Int)) (fun s_ => spec_l01Tile_e0 i0_ p3_ (s_)) (fun s_ h => I_ (s_) h) (fun s_ h => m_ (s_) h)
    (fun X s_ h hi hx => (spec_l01Tile_link0 S K X i0_ p3_ (s_) h).mpr (hs X (s_) h hi fun i5_' h' hi' hm' => hx (i5_') h' hi' hm')) (i5_) h0
def spec_l01Tile_main (S : SatT) (K : KT) (x0 : Int) (x1 : List AVal) (h : H) : Prop :=
 newK 4 x1 h fun p0 h1 =>
 spec_l01Tile_L0 S K x0 p0 (0) h1
theorem spec_l01Tile_main_link (S : SatT) (K : KT) (x0 : Int) (x1 : List AVal) (h : H) : cwp S tab spec_l01Tile_M [] (bodyOf Tryz.f98) (kFun tab Tryz.f98.results.toList K) (fr0 Tryz.f98 [.int .i64 x0, .agg x1]) h = spec_l01Tile_main S K x0 x1 h := by kernel_rfl
theorem spec_l01Tile_call (x0 : Int) (x1 : List AVal) (h : H) (K : Bool → H → Prop) (hm : spec_l01Tile_main (Sat Tryz.prog) (fun v h' => ∃ r, v = .bool r ∧ K r h') x0 x1 h) : callB (Sat Tryz.prog) i_spec_l01Tile [.int .i64 x0, .agg x1] h K := by
  have := Sat.ex tok mixed spec_l01Tile_M Tryz.func98 (c := bodyOf Tryz.f98) (by kernel_rfl) (calls_of Tryz.func98 (c := bodyOf Tryz.f98) (by kernel_rfl) (by decide)) ((spec_l01Tile_main_link _ _ x0 x1 h).mpr hm)
  obtain ⟨v, h2, h3, r, rfl, h4⟩ := this; exact ⟨r, h2, h3, h4⟩

/-! ### loop.example/g01354/spec.l01Bad -/
def spec_l01Bad_M : Nat → List Nat := fun i => []
def spec_l01Bad_main (S : SatT) (K : KT) (x0 : Pt) (x1 : List AVal) (h : H) : Prop :=
 newK 2 x1 h fun p0 h1 =>
 newO [.int .i64 (0), .sl Sl.nil] h1 fun p2 h3 =>
 newS 0 4 [] h3 fun s4 h5 =>
 isPt p0 (
 ldS (Pt.add p0 1) h5 fun s6 =>
 app s4 s6 4 h5 fun s7 h8 =>
 callI S .i64 i_spec_l01Next [.ptr x0, .int .i64 (50)] h8 fun n10 h9 =>
 bif (n10 == (0)) then
 newS 3 1 [.int .i64 (0), .int .i64 (7), .int .i64 (-1)] h9 fun s11 h12 =>
 callI S .i64 i_spec_l01Pick [.ptr x0, .sl s11] h12 fun n14 h13 =>
 stN p2 2 [.int .i64 n14, .sl s7] h13 fun h15 =>
 ldA p2 2 h15 fun cs16 =>
 K (.agg cs16) h15
 else
 bif (n10 == (1)) then
 isPt p0 (
 ldI .i64 (Pt.add p0 0) h9 fun n17 =>
 newS 2 1 [.int .i64 (0), .int .i64 (-1)] h9 fun s18 h19 =>
(cell h19 (Pt.add p0 0) = cell h9 (Pt.add p0 0)) ∧ (
 callI S .i64 i_spec_l01Pick [.ptr x0, .sl s18] h19 fun n21 h20 =>
(cell h20 (Pt.add p0 0) = cell h9 (Pt.add p0 0)) ∧ (
 lenA [.int .i64 n17, .int .i64 (0), .int .i64 (0), .int .i64 n21] 4 (
 newS 1 4 (spl [.int .i64 (0), .int .i64 (0), .int .i64 (0), .int .i64 (0)] 0 4 [.int .i64 n17, .int .i64 (0), .int .i64 (0), .int .i64 n21]) h20 fun s22 h23 =>
 app s7 s22 4 h23 fun s24 h25 =>
 isPt p0 (
 ldI .i64 (Pt.add p0 0) h25 fun n26 =>
 stN p2 2 [.int .i64 n26, .sl s24] h25 fun h27 =>
 ldA p2 2 h27 fun cs28 =>
 K (.agg cs28) h27)))))
 else
 bif (n10 == (2)) then
 isPt p0 (
 ldI .i64 (Pt.add p0 0) h9 fun n29 =>
 callA S i_spec_l01DrawTile [.ptr x0, .int .i64 n29] h9 fun cs31 h30 =>
 lenA cs31 4 (
 newS 1 4 (spl [.int .i64 (0), .int .i64 (0), .int .i64 (0), .int .i64 (0)] 0 4 cs31) h30 fun s32 h33 =>
 app s7 s32 4 h33 fun s34 h35 =>
 isPt p0 (
 ldI .i64 (Pt.add p0 0) h35 fun n36 =>
 stN p2 2 [.int .i64 n36, .sl s34] h35 fun h37 =>
 ldA p2 2 h37 fun cs38 =>
 K (.agg cs38) h37)))
 else
 bif (n10 == (3)) then
 bif (decide ((s7.len : Int) > (1))) then
 ixS s7 4 (0) fun p39 =>
 ldA p39 4 h9 fun cs40 =>
 newO [.int .i64 (0), .int .i64 (0), .int .i64 (0), .int .i64 (0)] h9 fun p41 h42 =>
 stN p41 4 cs40 h42 fun h43 =>
 ixS s7 4 (1) fun p44 =>
 ldA p44 4 h43 fun cs45 =>
 ixS s7 4 (0) fun p46 =>
 stN p46 4 cs45 h43 fun h47 =>
 ldA p41 4 h47 fun cs48 =>
 ixS s7 4 (1) fun p49 =>
 stN p49 4 cs48 h47 fun h50 =>
 isPt p0 (
 ldI .i64 (Pt.add p0 0) h50 fun n51 =>
 stN p2 2 [.int .i64 n51, .sl s7] h50 fun h52 =>
 ldA p2 2 h52 fun cs53 =>
 K (.agg cs53) h52)
 else
 isPt p0 (
 ldI .i64 (Pt.add p0 0) h9 fun n54 =>
 stN p2 2 [.int .i64 n54, .sl s7] h9 fun h55 =>
 ldA p2 2 h55 fun cs56 =>
 K (.agg cs56) h55)
 else
 ldA p0 2 h9 fun cs57 =>
 stN p2 2 cs57 h9 fun h58 =>
 ldA p2 2 h58 fun cs59 =>
 K (.agg cs59) h58)
theorem spec_l01Bad_main_link (S : SatT) (K : KT) (x0 : Pt) (x1 : List AVal) (h : H) : cwp S tab spec_l01Bad_M [] (bodyOf Tryz.f108) (kFun tab Tryz.f108.results.toList K) (fr0 Tryz.f108 [.ptr x0, .agg x1]) h = spec_l01Bad_main S K x0 x1 h := by kernel_rfl
theorem spec_l01Bad_call (x0 : Pt) (x1 : List AVal) (h : H) (K : List AVal → H → Prop) (hm : spec_l01Bad_main (Sat Tryz.prog) (fun v h' => ∃ r, v = .agg r ∧ K r h') x0 x1 h) : callA (Sat Tryz.prog) i_spec_l01Bad [.ptr x0, .agg x1] h K := by
  have := Sat.ex tok mixed spec_l01Bad_M Tryz.func108 (c := bodyOf Tryz.f108) (by kernel_rfl) (calls_of Tryz.func108 (c := bodyOf Tryz.f108) (by kernel_rfl) (by decide)) ((spec_l01Bad_main_link _ _ x0 x1 h).mpr hm)
  obtain ⟨v, h2, h3, r, rfl, h4⟩ := this; exact ⟨r, h2, h3, h4⟩

/-! ### loop.example/g01354/spec.l01Next -/
def spec_l01Next_M : Nat → List Nat := fun i => []
def spec_l01Next_main (S : SatT) (K : KT) (x0 : Pt) (x1 : Int) (h : H) : Prop :=
 bif (decide (x1 < (1))) then
 K (.int .i64 (0)) h
 else
 nilC (.ptr x0) (
 isPt x0 (
 ldI .u64 (Pt.add x0 2) h fun n0 =>
 nilC (.ptr x0) (
 isPt x0 (
 st1 (Pt.add x0 2) (.int .u64 (IntKind.wrap .u64 ((IntKind.wrap .u64 (n0 * (6364136223846793005))) + (1442695040888963407)))) h fun h1 =>
 nilC (.ptr x0) (
 isPt x0 (
 ldI .u64 (Pt.add x0 2) h1 fun n2 =>
 nn (33) (
 nilC (.ptr x0) (
 isPt x0 (
 ldI .i64 (Pt.add x0 1) h1 fun n3 =>
 nilC (.ptr x0) (
 isPt x0 (
 ldS (Pt.add x0 0) h1 fun s4 =>
 bif (decide (n3 < (s4.len : Int))) then
 nilC (.ptr x0) (
 isPt x0 (
 ldS (Pt.add x0 0) h1 fun s5 =>
 nilC (.ptr x0) (
 isPt x0 (
 ldI .i64 (Pt.add x0 1) h1 fun n6 =>
 ixS s5 1 n6 fun p7 =>
 ldI .u8 p7 h1 fun n8 =>
 nilC (.ptr x0) (
 isPt x0 (
 ldI .i64 (Pt.add x0 1) h1 fun n9 =>
 nilC (.ptr x0) (
 isPt x0 (
 st1 (Pt.add x0 1) (.int .i64 (w64 (n9 + (1)))) h1 fun h10 =>
 nz x1 (
 K (.int .i64 (Int.tmod (w64 ((w64 ((bitsOp .and .u64 (shrI .u64 n2 (33)) (16777215)))) + (w64 (n8)))) x1)) h10)))))))))
 else
 nz x1 (
 K (.int .i64 (Int.tmod (w64 ((bitsOp .and .u64 (shrI .u64 n2 (33)) (16777215)))) x1)) h1))))))))))))
theorem spec_l01Next_main_link (S : SatT) (K : KT) (x0 : Pt) (x1 : Int) (h : H) : cwp S tab spec_l01Next_M [] (bodyOf Tryz.f87) (kFun tab Tryz.f87.results.toList K) (fr0 Tryz.f87 [.ptr x0, .int .i64 x1]) h = spec_l01Next_main S K x0 x1 h := by kernel_rfl
theorem spec_l01Next_call (x0 : Pt) (x1 : Int) (h : H) (K : Int → H → Prop) (hm : spec_l01Next_main (Sat Tryz.prog) (fun v h' => ∃ r, v = .int .i64 r ∧ K r h') x0 x1 h) : callI (Sat Tryz.prog) .i64 i_spec_l01Next [.ptr x0, .int .i64 x1] h K := by
  have := Sat.ex tok mixed spec_l01Next_M Tryz.func87 (c := bodyOf Tryz.f87) (by kernel_rfl) (calls_of Tryz.func87 (c := bodyOf Tryz.f87) (by kernel_rfl) (by decide)) ((spec_l01Next_main_link _ _ x0 x1 h).mpr hm)
  obtain ⟨v, h2, h3, r, rfl, h4⟩ := this; exact ⟨r, h2, h3, h4⟩

/-! ### (loop.example/g01354/impl.Set).tori -/
def impl_Set_tori_M : Nat → List Nat := fun i => []
def impl_Set_tori_main (S : SatT) (K : KT) (x0 : List AVal) (x1 x2 : Int) (x3 : AVal) (h : H) : Prop :=
 newK 2 x0 h fun p0 h1 =>
 bif (AVal.isCell x3 && true) then
 newO [x3] h1 fun p2 h3 =>
 mkS (w64 (x1 * x2)) [.int .i64 (0)] h3 fun s4 h5 =>
 newO [.sl Sl.nil] h5 fun p6 h7 =>
 newO [.int .i64 (0)] h7 fun p8 h9 =>
 newO [.int .i64 (0)] h9 fun p10 h11 =>
 st1 p6 (.sl s4) h11 fun h12 =>
 st1 p8 (.int .i64 x1) h12 fun h13 =>
 st1 p10 (.int .i64 x2) h13 fun h14 =>
 newO [.nilFunc] h14 fun p15 h16 =>
 st1 p15 (.func 118 [.ptr p6, .ptr p8, .ptr p10, .ptr p2, .ptr p0, .ptr p15]) h16 fun h17 =>
 ldV p15 h17 fun v18 =>
 viaF v18 [.int .i64 (0)] fun g19 ys20 =>
 callB S g19 ys20 h17 fun b22 h21 =>
 K (.tuple []) h21
 else False
theorem impl_Set_tori_main_link (S : SatT) (K : KT) (x0 : List AVal) (x1 x2 : Int) (x3 : AVal) (h : H) : cwp S tab impl_Set_tori_M [] (bodyOf Tryz.f75) (kFun tab Tryz.f75.results.toList K) (fr0 Tryz.f75 [.agg x0, .int .i64 x1, .int .i64 x2, x3]) h = impl_Set_tori_main S K x0 x1 x2 x3 h := by kernel_rfl
theorem impl_Set_tori_call (x0 : List AVal) (x1 x2 : Int) (x3 : AVal) (h : H) (K : KT) (hm : impl_Set_tori_main (Sat Tryz.prog) (fun v h' => K v h') x0 x1 x2 x3 h) : callV (Sat Tryz.prog) i_impl_Set_tori [.agg x0, .int .i64 x1, .int .i64 x2, x3] h K := by
  have := Sat.ex tok mixed impl_Set_tori_M Tryz.func75 (c := bodyOf Tryz.f75) (by kernel_rfl) (calls_of Tryz.func75 (c := bodyOf Tryz.f75) (by kernel_rfl) (by decide)) ((impl_Set_tori_main_link _ _ x0 x1 x2 x3 h).mpr hm)
  exact this

/-! ### loop.example/g01354/spec.l01DrawTile -/
def spec_l01DrawTile_M : Nat → List Nat := fun i => []
def spec_l01DrawTile_main (S : SatT) (K : KT) (x0 : Pt) (x1 : Int) (h : H) : Prop :=
 newO [.int .i64 (0), .int .i64 (0), .int .i64 (0), .int .i64 (0)] h fun p0 h1 =>
 callI S .i64 i_spec_l01Next [.ptr x0, .int .i64 x1] h1 fun n3 h2 =>
 callI S .i64 i_spec_l01Next [.ptr x0, .int .i64 x1] h2 fun n5 h4 =>
 callI S .i64 i_spec_l01Next [.ptr x0, .int .i64 x1] h4 fun n7 h6 =>
 callI S .i64 i_spec_l01Next [.ptr x0, .int .i64 x1] h6 fun n9 h8 =>
 stN p0 4 [.int .i64 n3, .int .i64 n5, .int .i64 n7, .int .i64 n9] h8 fun h10 =>
 ldA p0 4 h10 fun cs11 =>
 K (.agg cs11) h10
theorem spec_l01DrawTile_main_link (S : SatT) (K : KT) (x0 : Pt) (x1 : Int) (h : H) : cwp S tab spec_l01DrawTile_M [] (bodyOf Tryz.f139) (kFun tab Tryz.f139.results.toList K) (fr0 Tryz.f139 [.ptr x0, .int .i64 x1]) h = spec_l01DrawTile_main S K x0 x1 h := by kernel_rfl
theorem spec_l01DrawTile_call (x0 : Pt) (x1 : Int) (h : H) (K : List AVal → H → Prop) (hm : spec_l01DrawTile_main (Sat Tryz.prog) (fun v h' => ∃ r, v = .agg r ∧ K r h') x0 x1 h) : callA (Sat Tryz.prog) i_spec_l01DrawTile [.ptr x0, .int .i64 x1] h K := by
  have := Sat.ex tok mixed spec_l01DrawTile_M Tryz.func139 (c := bodyOf Tryz.f139) (by kernel_rfl) (calls_of Tryz.func139 (c := bodyOf Tryz.f139) (by kernel_rfl) (by decide)) ((spec_l01DrawTile_main_link _ _ x0 x1 h).mpr hm)
  obtain ⟨v, h2, h3, r, rfl, h4⟩ := this; exact ⟨r, h2, h3, h4⟩

/-! ### loop.example/g01354/impl.keeping$1 -/
def impl_keeping_1_M : Nat → List Nat := fun i => []
def impl_keeping_1_main (S : SatT) (K : KT) (x0 x1 : Int) (x2 : Sl) (x3 x4 : Pt) (h : H) : Prop :=
 ldS x3 h fun s0 =>
 callI S .i64 i_impl_compareRows [.sl x2, .sl s0] h fun n2 h1 =>
 bif (n2 == (0)) then
 ldS x4 h1 fun s3 =>
 newS 2 1 [.int .i64 x0, .int .i64 x1] h1 fun s4 h5 =>
 newS 1 1 [.sl s4] h5 fun s6 h7 =>
 app s3 s6 1 h7 fun s8 h9 =>
 st1 x4 (.sl s8) h9 fun h10 =>
 K (.tuple []) h10
 else
 K (.tuple []) h1
theorem impl_keeping_1_main_link (S : SatT) (K : KT) (x0 x1 : Int) (x2 : Sl) (x3 x4 : Pt) (h : H) : cwp S tab impl_keeping_1_M [] (bodyOf Tryz.f117) (kFun tab Tryz.f117.results.toList K) (fr0 Tryz.f117 [.int .i64 x0, .int .i64 x1, .sl x2, .ptr x3, .ptr x4]) h = impl_keeping_1_main S K x0 x1 x2 x3 x4 h := by kernel_rfl
theorem impl_keeping_1_call (x0 x1 : Int) (x2 : Sl) (x3 x4 : Pt) (h : H) (K : KT) (hm : impl_keeping_1_main (Sat Tryz.prog) (fun v h' => K v h') x0 x1 x2 x3 x4 h) : callV (Sat Tryz.prog) i_impl_keeping_1 [.int .i64 x0, .int .i64 x1, .sl x2, .ptr x3, .ptr x4] h K := by
  have := Sat.ex tok mixed impl_keeping_1_M Tryz.func117 (c := bodyOf Tryz.f117) (by kernel_rfl) (calls_of Tryz.func117 (c := bodyOf Tryz.f117) (by kernel_rfl) (by decide)) ((impl_keeping_1_main_link _ _ x0 x1 x2 x3 x4 h).mpr hm)
  exact this

/-! ### loop.example/g01354/spec.ShiftNumber -/
def spec_ShiftNumber_M : Nat → List Nat := fun i => []
def spec_ShiftNumber_main (S : SatT) (K : KT) (x0 : List AVal) (x1 : Sl) (h : H) : Prop :=
 newK 2 x0 h fun p0 h1 =>
 ldA p0 2 h1 fun cs2 =>
 callI S .i64 i_spec_l05Given [.agg cs2, .sl x1] h1 fun n4 h3 =>
 bif (n4 != (0)) then
 K (.tuple [.int .i64 (0), .int .i64 n4]) h3
 else
 ixS x1 1 (0) fun p5 =>
 ldS p5 h3 fun s6 =>
 callS S i_spec_l05Kept [.sl x1] h3 fun s8 h7 =>
(cell h7 p5 = cell h3 p5) ∧ (
 nz (s8.len : Int) (
 K (.tuple [.int .i64 (w64 (Int.tdiv (w64 ((x1.len : Int) * (s6.len : Int))) (s8.len : Int))), .int .i64 (0)]) h7))
theorem spec_ShiftNumber_main_link (S : SatT) (K : KT) (x0 : List AVal) (x1 : Sl) (h : H) : cwp S tab spec_ShiftNumber_M [] (bodyOf Tryz.f36) (kFun tab Tryz.f36.results.toList K) (fr0 Tryz.f36 [.agg x0, .sl x1]) h = spec_ShiftNumber_main S K x0 x1 h := by kernel_rfl
theorem spec_ShiftNumber_call (x0 : List AVal) (x1 : Sl) (h : H) (K : KT) (hm : spec_ShiftNumber_main (Sat Tryz.prog) (fun v h' => K v h') x0 x1 h) : callV (Sat Tryz.prog) i_spec_ShiftNumber [.agg x0, .sl x1] h K := by
  have := Sat.ex tok mixed spec_ShiftNumber_M Tryz.func36 (c := bodyOf Tryz.f36) (by kernel_rfl) (calls_of Tryz.func36 (c := bodyOf Tryz.f36) (by kernel_rfl) (by decide)) ((spec_ShiftNumber_main_link _ _ x0 x1 h).mpr hm)
  exact this

/-! ### loop.example/g01354/spec.DrawShiftsKept -/
def spec_DrawShiftsKept_M : Nat → List Nat := fun i => []
def spec_DrawShiftsKept_main (S : SatT) (K : KT) (x0 : Sl) (h : H) : Prop :=
 newO [.int .i64 (0), .sl Sl.nil] h fun p0 h1 =>
 callP S i_spec_l01From [.sl x0] h1 fun p3 h2 =>
 callV S i_spec_l05With [.ptr p3] h2 fun v5 h4 =>
 viaT v5 fun vs6 =>
 exA vs6 0 fun cs7 =>
 viaT v5 fun vs8 =>
 exS vs8 1 fun s9 =>
 newO [.int .i64 (0), .sl Sl.nil] h4 fun p10 h11 =>
 stN p10 2 cs7 h11 fun h12 =>
 ldA p10 2 h12 fun cs13 =>
 stN p0 2 cs13 h12 fun h14 =>
 ldA p0 2 h14 fun cs15 =>
 K (.tuple [.agg cs15, .sl s9]) h14
theorem spec_DrawShiftsKept_main_link (S : SatT) (K : KT) (x0 : Sl) (h : H) : cwp S tab spec_DrawShiftsKept_M [] (bodyOf Tryz.f33) (kFun tab Tryz.f33.results.toList K) (fr0 Tryz.f33 [.sl x0]) h = spec_DrawShiftsKept_main S K x0 h := by kernel_rfl
theorem spec_DrawShiftsKept_call (x0 : Sl) (h : H) (K : KT) (hm : spec_DrawShiftsKept_main (Sat Tryz.prog) (fun v h' => K v h') x0 h) : callV (Sat Tryz.prog) i_spec_DrawShiftsKept [.sl x0] h K := by
  have := Sat.ex tok mixed spec_DrawShiftsKept_M Tryz.func33 (c := bodyOf Tryz.f33) (by kernel_rfl) (calls_of Tryz.func33 (c := bodyOf Tryz.f33) (by kernel_rfl) (by decide)) ((spec_DrawShiftsKept_main_link _ _ x0 h).mpr hm)
  exact this

/-! ### slices.ContainsFunc[[]int64,int64] -/
def slices_ContainsFunc_s_int64_int64__M : Nat → List Nat := fun i => []
def slices_ContainsFunc_s_int64_int64__main (S : SatT) (K : KT) (x0 : Sl) (x1 : AVal) (h : H) : Prop :=
 callI S .i64 i_slices_IndexFunc_s_int64_int64_ [.sl x0, x1] h fun n1 h0 =>
 K (.bool (decide (n1 ≥ (0)))) h0
theorem slices_ContainsFunc_s_int64_int64__main_link (S : SatT) (K : KT) (x0 : Sl) (x1 : AVal) (h : H) : cwp S tab slices_ContainsFunc_s_int64_int64__M [] (bodyOf Tryz.f105) (kFun tab Tryz.f105.results.toList K) (fr0 Tryz.f105 [.sl x0, x1]) h = slices_ContainsFunc_s_int64_int64__main S K x0 x1 h := by kernel_rfl
theorem slices_ContainsFunc_s_int64_int64__call (x0 : Sl) (x1 : AVal) (h : H) (K : Bool → H → Prop) (hm : slices_ContainsFunc_s_int64_int64__main (Sat Tryz.prog) (fun v h' => ∃ r, v = .bool r ∧ K r h') x0 x1 h) : callB (Sat Tryz.prog) i_slices_ContainsFunc_s_int64_int64_ [.sl x0, x1] h K := by
  have := Sat.ex tok mixed slices_ContainsFunc_s_int64_int64__M Tryz.func105 (c := bodyOf Tryz.f105) (by kernel_rfl) (calls_of Tryz.func105 (c := bodyOf Tryz.f105) (by kernel_rfl) (by decide)) ((slices_ContainsFunc_s_int64_int64__main_link _ _ x0 x1 h).mpr hm)
  obtain ⟨v, h2, h3, r, rfl, h4⟩ := this; exact ⟨r, h2, h3, h4⟩

/-! ### loop.example/g01354/impl.setCode -/
def impl_setCode_M : Nat → List Nat := fun i => []
def impl_setCode_main (S : SatT) (K : KT) (x0 : List AVal) (x1 : AVal) (h : H) : Prop :=
 newK 2 x0 h fun p0 h1 =>
 ldA p0 2 h1 fun cs2 =>
 callB S i_impl_IsSet [.agg cs2] h1 fun b4 h3 =>
 bif (!b4) then
 K (.int .i64 (1)) h3
 else
 viaF x1 [] fun g5 ys6 =>
 callB S g5 ys6 h3 fun b8 h7 =>
 bif (!b8) then
 K (.int .i64 (2)) h7
 else
 K (.int .i64 (0)) h7
theorem impl_setCode_main_link (S : SatT) (K : KT) (x0 : List AVal) (x1 : AVal) (h : H) : cwp S tab impl_setCode_M [] (bodyOf Tryz.f55) (kFun tab Tryz.f55.results.toList K) (fr0 Tryz.f55 [.agg x0, x1]) h = impl_setCode_main S K x0 x1 h := by kernel_rfl
theorem impl_setCode_call (x0 : List AVal) (x1 : AVal) (h : H) (K : Int → H → Prop) (hm : impl_setCode_main (Sat Tryz.prog) (fun v h' => ∃ r, v = .int .i64 r ∧ K r h') x0 x1 h) : callI (Sat Tryz.prog) .i64 i_impl_setCode [.agg x0, x1] h K := by
  have := Sat.ex tok mixed impl_setCode_M Tryz.func55 (c := bodyOf Tryz.f55) (by kernel_rfl) (calls_of Tryz.func55 (c := bodyOf Tryz.f55) (by kernel_rfl) (by decide)) ((impl_setCode_main_link _ _ x0 x1 h).mpr hm)
  obtain ⟨v, h2, h3, r, rfl, h4⟩ := this; exact ⟨r, h2, h3, h4⟩

/-! ### loop.example/g01354/impl.LeastForm -/
def impl_LeastForm_M : Nat → List Nat := fun i => []
def impl_LeastForm_main (S : SatT) (K : KT) (x0 : List AVal) (x1 : Sl) (h : H) : Prop :=
 newK 2 x0 h fun p0 h1 =>
 ldA p0 2 h1 fun cs2 =>
 callI S .i64 i_impl_torusCode [.agg cs2, .sl x1] h1 fun n4 h3 =>
 bif (n4 != (0)) then
 K (.tuple [.sl Sl.nil, .int .i64 n4]) h3
 else
 callS S i_impl_leastForm [.sl x1] h3 fun s6 h5 =>
 K (.tuple [.sl s6, .int .i64 (0)]) h5
theorem impl_LeastForm_main_link (S : SatT) (K : KT) (x0 : List AVal) (x1 : Sl) (h : H) : cwp S tab impl_LeastForm_M [] (bodyOf Tryz.f24) (kFun tab Tryz.f24.results.toList K) (fr0 Tryz.f24 [.agg x0, .sl x1]) h = impl_LeastForm_main S K x0 x1 h := by kernel_rfl
theorem impl_LeastForm_call (x0 : List AVal) (x1 : Sl) (h : H) (K : KT) (hm : impl_LeastForm_main (Sat Tryz.prog) (fun v h' => K v h') x0 x1 h) : callV (Sat Tryz.prog) i_impl_LeastForm [.agg x0, .sl x1] h K := by
  have := Sat.ex tok mixed impl_LeastForm_M Tryz.func24 (c := bodyOf Tryz.f24) (by kernel_rfl) (calls_of Tryz.func24 (c := bodyOf Tryz.f24) (by kernel_rfl) (by decide)) ((impl_LeastForm_main_link _ _ x0 x1 h).mpr hm)
  exact this

/-! ### loop.example/g01354/spec.l01Made -/
def spec_l01Made_M : Nat → List Nat := fun i => []
def spec_l01Made_main (S : SatT) (K : KT) (x0 : Int) (x1 : Sl) (h : H) : Prop :=
 newO [.int .i64 (0), .sl Sl.nil] h fun p0 h1 =>
 callS S i_spec_l01Sort [.sl x1] h1 fun s3 h2 =>
 stN p0 2 [.int .i64 x0, .sl s3] h2 fun h4 =>
 ldA p0 2 h4 fun cs5 =>
 K (.agg cs5) h4
theorem spec_l01Made_main_link (S : SatT) (K : KT) (x0 : Int) (x1 : Sl) (h : H) : cwp S tab spec_l01Made_M [] (bodyOf Tryz.f101) (kFun tab Tryz.f101.results.toList K) (fr0 Tryz.f101 [.int .i64 x0, .sl x1]) h = spec_l01Made_main S K x0 x1 h := by kernel_rfl
theorem spec_l01Made_call (x0 : Int) (x1 : Sl) (h : H) (K : List AVal → H → Prop) (hm : spec_l01Made_main (Sat Tryz.prog) (fun v h' => ∃ r, v = .agg r ∧ K r h') x0 x1 h) : callA (Sat Tryz.prog) i_spec_l01Made [.int .i64 x0, .sl x1] h K := by
  have := Sat.ex tok mixed spec_l01Made_M Tryz.func101 (c := bodyOf Tryz.f101) (by kernel_rfl) (calls_of Tryz.func101 (c := bodyOf Tryz.f101) (by kernel_rfl) (by decide)) ((spec_l01Made_main_link _ _ x0 x1 h).mpr hm)
  obtain ⟨v, h2, h3, r, rfl, h4⟩ := this; exact ⟨r, h2, h3, h4⟩

/-! ### slices.Clone[[]int64,int64] -/
def slices_Clone_s_int64_int64__M : Nat → List Nat := fun i => []
def slices_Clone_s_int64_int64__main (S : SatT) (K : KT) (x0 : Sl) (h : H) : Prop :=
 bif (isNilS x0) then
 K (.sl Sl.nil) h
 else
 newS 0 1 [] h fun s0 h1 =>
 app s0 x0 1 h1 fun s2 h3 =>
 K (.sl s2) h3
theorem slices_Clone_s_int64_int64__main_link (S : SatT) (K : KT) (x0 : Sl) (h : H) : cwp S tab slices_Clone_s_int64_int64__M [] (bodyOf Tryz.f119) (kFun tab Tryz.f119.results.toList K) (fr0 Tryz.f119 [.sl x0]) h = slices_Clone_s_int64_int64__main S K x0 h := by kernel_rfl
theorem slices_Clone_s_int64_int64__call (x0 : Sl) (h : H) (K : Sl → H → Prop) (hm : slices_Clone_s_int64_int64__main (Sat Tryz.prog) (fun v h' => ∃ r, v = .sl r ∧ K r h') x0 h) : callS (Sat Tryz.prog) i_slices_Clone_s_int64_int64_ [.sl x0] h K := by
  have := Sat.ex tok mixed slices_Clone_s_int64_int64__M Tryz.func119 (c := bodyOf Tryz.f119) (by kernel_rfl) (calls_of Tryz.func119 (c := bodyOf Tryz.f119) (by kernel_rfl) (by decide)) ((slices_Clone_s_int64_int64__main_link _ _ x0 h).mpr hm)
  obtain ⟨v, h2, h3, r, rfl, h4⟩ := this; exact ⟨r, h2, h3, h4⟩

/-! ### loop.example/g01354/impl.compareRows -/
def impl_compareRows_M : Nat → List Nat := fun i => []
def impl_compareRows_main (S : SatT) (K : KT) (x0 x1 : Sl) (h : H) : Prop :=
 callI S .i64 i_slices_CompareFunc_ss_int64_s_s_int64_s_int64_s_int64_ [.sl x0, .sl x1, .func 121 []] h fun n1 h0 =>
 K (.int .i64 n1) h0
theorem impl_compareRows_main_link (S : SatT) (K : KT) (x0 x1 : Sl) (h : H) : cwp S tab impl_compareRows_M [] (bodyOf Tryz.f77) (kFun tab Tryz.f77.results.toList K) (fr0 Tryz.f77 [.sl x0, .sl x1]) h = impl_compareRows_main S K x0 x1 h := by kernel_rfl
theorem impl_compareRows_call (x0 x1 : Sl) (h : H) (K : Int → H → Prop) (hm : impl_compareRows_main (Sat Tryz.prog) (fun v h' => ∃ r, v = .int .i64 r ∧ K r h') x0 x1 h) : callI (Sat Tryz.prog) .i64 i_impl_compareRows [.sl x0, .sl x1] h K := by
  have := Sat.ex tok mixed impl_compareRows_M Tryz.func77 (c := bodyOf Tryz.f77) (by kernel_rfl) (calls_of Tryz.func77 (c := bodyOf Tryz.f77) (by kernel_rfl) (by decide)) ((impl_compareRows_main_link _ _ x0 x1 h).mpr hm)
  obtain ⟨v, h2, h3, r, rfl, h4⟩ := this; exact ⟨r, h2, h3, h4⟩

/-! ### loop.example/g01354/impl.within -/
def impl_within_M : Nat → List Nat := fun i => []
def impl_within_main (S : SatT) (K : KT) (x0 x1 x2 : Int) (h : H) : Prop :=
 bif (decide (x0 ≥ x1)) then
 K (.bool (decide (x0 ≤ x2))) h
 else
 K (.bool false) h
theorem impl_within_main_link (S : SatT) (K : KT) (x0 x1 x2 : Int) (h : H) : cwp S tab impl_within_M [] (bodyOf Tryz.f54) (kFun tab Tryz.f54.results.toList K) (fr0 Tryz.f54 [.int .i64 x0, .int .i64 x1, .int .i64 x2]) h = impl_within_main S K x0 x1 x2 h := by kernel_rfl
theorem impl_within_call (x0 x1 x2 : Int) (h : H) (K : Bool → H → Prop) (hm : impl_within_main (Sat Tryz.prog) (fun v h' => ∃ r, v = .bool r ∧ K r h') x0 x1 x2 h) : callB (Sat Tryz.prog) i_impl_within [.int .i64 x0, .int .i64 x1, .int .i64 x2] h K := by
  have := Sat.ex tok mixed impl_within_M Tryz.func54 (c := bodyOf Tryz.f54) (by kernel_rfl) (calls_of Tryz.func54 (c := bodyOf Tryz.f54) (by kernel_rfl) (by decide)) ((impl_within_main_link _ _ x0 x1 x2 h).mpr hm)
  obtain ⟨v, h2, h3, r, rfl, h4⟩ := this; exact ⟨r, h2, h3, h4⟩

/-! ### loop.example/g01354/laws.big -/
def laws_big_M : Nat → List Nat := fun i => []
def laws_big_main (S : SatT) (K : KT) (x0 : Sl) (h : H) : Prop :=
 K (.bool (decide ((x0.len : Int) > (4096)))) h
theorem laws_big_main_link (S : SatT) (K : KT) (x0 : Sl) (h : H) : cwp S tab laws_big_M [] (bodyOf Tryz.f5) (kFun tab Tryz.f5.results.toList K) (fr0 Tryz.f5 [.sl x0]) h = laws_big_main S K x0 h := by kernel_rfl
theorem laws_big_call (x0 : Sl) (h : H) (K : Bool → H → Prop) (hm : laws_big_main (Sat Tryz.prog) (fun v h' => ∃ r, v = .bool r ∧ K r h') x0 h) : callB (Sat Tryz.prog) i_laws_big [.sl x0] h K := by
  have := Sat.ex tok mixed laws_big_M Tryz.func5 (c := bodyOf Tryz.f5) (by kernel_rfl) (calls_of Tryz.func5 (c := bodyOf Tryz.f5) (by kernel_rfl) (by decide)) ((laws_big_main_link _ _ x0 h).mpr hm)
  obtain ⟨v, h2, h3, r, rfl, h4⟩ := this; exact ⟨r, h2, h3, h4⟩

/-! ### loop.example/g01354/spec.l05Count -/
def spec_l05Count_M : Nat → List Nat := fun i => bif i == 2 then [1, 3, 8, 9, 10, 11, 12, 13, 14] else bif i == 0 then [1, 3, 8, 9, 10, 11, 12] else []
def spec_l05Count_ks3 (S : SatT) (K : KT) : Kont := kSeq (cwp S tab spec_l05Count_M [] (sub [1, 1, 1, 1] (bodyOf Tryz.f79)) (kFun tab (Tryz.f79).results.toList K)) (kFun tab (Tryz.f79).results.toList K)
def spec_l05Count_e0 (i1_ : Int) (p3_ : Pt) (s8_ s9_ : Sl) (i10_ i11_ i12_ : Int) : Frame := [U, .int .i64 i1_, U, .ptr p3_, U, U, U, U, .sl s8_, .sl s9_, .int .i64 i10_, .int .i64 i11_, .int .i64 i12_, U, U, U, U, U, U, U, U, U, U, U, U, U, U, U, U, U, U, U, U, U, U, U, U, U, U, U, U, U, U, U, U, U, U, U, U, U, U, U, U, U, U, U, U, U, U, U]
def spec_l05Count_w0 (S : SatT) (K : KT) : (XT) → XT := fun X fr h => cwp S tab spec_l05Count_M (spec_l05Count_M 0) (sub [1, 1, 1, 0, 1, 0, 0] (bodyOf Tryz.f79)) (kSeq (fun fr h => X (mask (spec_l05Count_M 0) fr) h) (kBlk 0 (spec_l05Count_ks3 S K))) fr h
def spec_l05Count_L0 (S : SatT) (K : KT) (i1_ : Int) (p3_ : Pt) (s8_ s9_ : Sl) (i10_ i11_ i12_ : Int) (h : H) : Prop := loopK (spec_l05Count_w0 S K) (spec_l05Count_e0 i1_ p3_ s8_ s9_ i10_ i11_ i12_) h
def spec_l05Count_ks7 (S : SatT) (K : KT) (X0 : XT) : Kont := kSeq (cwp S tab spec_l05Count_M (spec_l05Count_M 0) (sub [1, 1, 1, 0, 1, 0, 0, 1, 1] (bodyOf Tryz.f79)) (kSeq (fun fr h => X0 (mask (spec_l05Count_M 0) fr) h) (kBlk 0 (spec_l05Count_ks3 S K)))) (kSeq (fun fr h => X0 (mask (spec_l05Count_M 0) fr) h) (kBlk 0 (spec_l05Count_ks3 S K)))
def spec_l05Count_ks9 (S : SatT) (K : KT) (X0 : XT) : Kont := kSeq (cwp S tab spec_l05Count_M (spec_l05Count_M 1) (sub [1, 1, 1, 0, 1, 0, 0, 1, 0, 0, 1, 1] (bodyOf Tryz.f79)) (kBlk 1 (spec_l05Count_ks7 S K X0))) (kBlk 1 (spec_l05Count_ks7 S K X0))
def spec_l05Count_e2 (i1_ : Int) (p3_ : Pt) (s8_ s9_ : Sl) (i10_ i11_ i12_ : Int) (b13_ : Bool) (i14_ : Int) : Frame := [U, .int .i64 i1_, U, .ptr p3_, U, U, U, U, .sl s8_, .sl s9_, .int .i64 i10_, .int .i64 i11_, .int .i64 i12_, .bool b13_, .int .i64 i14_, U, U, U, U, U, U, U, U, U, U, U, U, U, U, U, U, U, U, U, U, U, U, U, U, U, U, U, U, U, U, U, U, U, U, U, U, U, U, U, U, U, U, U, U, U]
def spec_l05Count_w2 (S : SatT) (K : KT) (X0 : XT) : (XT) → XT := fun X fr h => cwp S tab spec_l05Count_M (spec_l05Count_M 2) (sub [1, 1, 1, 0, 1, 0, 0, 1, 0, 0, 1, 0, 1, 0, 0] (bodyOf Tryz.f79)) (kSeq (fun fr h => X (mask (spec_l05Count_M 2) fr) h) (kBlk 2 (spec_l05Count_ks9 S K X0))) fr h
def spec_l05Count_L2 (S : SatT) (K : KT) (X0 : XT) (i1_ : Int) (p3_ : Pt) (s8_ s9_ : Sl) (i10_ i11_ i12_ : Int) (b13_ : Bool) (i14_ : Int) (h : H) : Prop := loopK (spec_l05Count_w2 S K X0) (spec_l05Count_e2 i1_ p3_ s8_ s9_ i10_ i11_ i12_ b13_ i14_) h
def spec_l05Count_C1 (S : SatT) (K : KT) (X0 : XT) (i1_ : Int) (p3_ : Pt) (s8_ s9_ : Sl) (i10_ i11_ i12_ : Int) (h : H) : Prop :=
 X0 (spec_l05Count_e0 i1_ p3_ s8_ s9_ i10_ i11_ (w64 (i12_ + (1)))) h
def spec_l05Count_C2 (S : SatT) (K : KT) (X0 : XT) (i1_ : Int) (p3_ : Pt) (s8_ s9_ : Sl) (i10_ i11_ i12_ : Int) (b13_ : Bool) (h : H) : Prop :=
 bif b13_ then
 ldA p3_ 2 h fun cs0 =>
 callS S i_spec_l05Paths [.agg cs0, .sl s8_, .sl s9_, .int .i64 i10_, .int .i64 i1_, .int .i64 i12_] h fun s2 h1 =>
 ixS s2 1 i12_ fun p3 =>
 ldI .i64 p3 h1 fun n4 =>
 spec_l05Count_C1 S K X0 i1_ p3_ s8_ s9_ i10_ (w64 (i11_ + n4)) i12_ h1
 else
 spec_l05Count_C1 S K X0 i1_ p3_ s8_ s9_ i10_ i11_ i12_ h
def spec_l05Count_b2 (S : SatT) (K : KT) (X0 X2 : XT) (i1_ : Int) (p3_ : Pt) (s8_ s9_ : Sl) (i10_ i11_ i12_ : Int) (b13_ : Bool) (i14_ : Int) (h : H) : Prop :=
 bif (decide (i14_ < (s8_.len : Int))) then
 bif b13_ then
 X2 (spec_l05Count_e2 i1_ p3_ s8_ s9_ i10_ i11_ i12_ true (w64 (i14_ + (1)))) h
 else
 ixS s8_ 1 i14_ fun p0 =>
 ldI .i64 p0 h fun n1 =>
 X2 (spec_l05Count_e2 i1_ p3_ s8_ s9_ i10_ i11_ i12_ (n1 == i12_) (w64 (i14_ + (1)))) h
 else
 spec_l05Count_C2 S K X0 i1_ p3_ s8_ s9_ i10_ i11_ i12_ b13_ h
theorem spec_l05Count_link2 (S : SatT) (K : KT) (X0 X2 : XT) (i1_ : Int) (p3_ : Pt) (s8_ s9_ : Sl) (i10_ i11_ i12_ : Int) (b13_ : Bool) (i14_ : Int) (h : H) : spec_l05Count_w2 S K X0 X2 (spec_l05Count_e2 i1_ p3_ s8_ s9_ i10_ i11_ i12_ b13_ i14_) h = spec_l05Count_b2 S K X0 X2 i1_ p3_ s8_ s9_ i10_ i11_ i12_ b13_ i14_ h := by kernel_rfl
theorem spec_l05Count_rule2 (S : SatT) (K : KT) (X0 : XT) (i1_ : Int) (p3_ : Pt) (s8_ s9_ : Sl) (i10_ i11_ i12_ : Int) (I_ : Bool → Int → H → Prop) (m_ : Bool → Int → H → Nat)
    (hs : ∀ (X2 : XT) (b13_ : Bool) (i14_ : Int) (h : H), I_ b13_ i14_ h → (∀ (b13_' : Bool) (i14_' : Int) (h' : H), I_ b13_' i14_' h' → m_ b13_' i14_' h' < m_ b13_ i14_ h → X2 (spec_l05Count_e2 i1_ p3_ s8_ s9_ i10_ i11_ i12_ b13_' i14_') h') → spec_l05Count_b2 S K X0 X2 i1_ p3_ s8_ s9_ i10_ i11_ i12_ b13_ i14_ h) (b13_ : Bool) (i14_ : Int) {h : H} (h0 : I_ b13_ i14_ h) : spec_l05Count_L2 S K X0 i1_ p3_ s8_ s9_ i10_ i11_ i12_ b13_ i14_ h :=
  loop_rule (σ := (Bool) × (Int)) (fun s_ => spec_l05Count_e2 i1_ p3_ s8_ s9_ i10_ i11_ i12_ (s_.1) (s_.2)) (fun s_ h => I_ (s_.1) (s_.2) h) (fun s_ h => m_ (s_.1) (s_.2) h)
    (fun X s_ h hi hx => (spec_l05Count_link2 S K X0 X i1_ p3_ s8_ s9_ i10_ i11_ i12_ (s_.1) (s_.2) h).mpr (hs X (s_.1) (s_.2) h hi fun b13_' i14_' h' hi' hm' => hx (b13_', i14_') h' hi' hm')) (b13_, i14_) h0
def spec_l05Count_C0 (S : SatT) (K : KT) (i11_ : Int) (h : H) : Prop :=
 K (.int .i64 i11_) h
def spec_l05Count_b0 (S : SatT) (K : KT) (X0 : XT) (i1_ : Int) (p3_ : Pt) (s8_ s9_ : Sl) (i10_ i11_ i12_ : Int) (h : H) : Prop :=
 bif (decide (i12_ < i10_)) then
 spec_l05Count_L2 S K X0 i1_ p3_ s8_ s9_ i10_ i11_ i12_ false (0) h
 else
 spec_l05Count_C0 S K i11_ h
theorem spec_l05Count_link0 (S : SatT) (K : KT) (X0 : XT) (i1_ : Int) (p3_ : Pt) (s8_ s9_ : Sl) (i10_ i11_ i12_ : Int) (h : H) : spec_l05Count_w0 S K X0 (spec_l05Count_e0 i1_ p3_ s8_ s9_ i10_ i11_ i12_) h = spec_l05Count_b0 S K X0 i1_ p3_ s8_ s9_ i10_ i11_ i12_ h := by kernel_rfl
theorem spec_l05Count_rule0 (S : SatT) (K : KT) (i1_ : Int) (p3_ : Pt) (s8_ s9_ : Sl) (i10_ : Int) (I_ : Int → Int → H → Prop) (m_ : Int → Int → H → Nat)
    (hs : ∀ (X0 : XT) (i11_ i12_ : Int) (h : H), I_ i11_ i12_ h → (∀ (i11_' i12_' : Int) (h' : H), I_ i11_' i12_' h' → m_ i11_' i12_' h' < m_ i11_ i12_ h → X0 (spec_l05Count_e0 i1_ p3_ s8_ s9_ i10_ i11_' i12_') h') → spec_l05Count_b0 S K X0 i1_ p3_ s8_ s9_ i10_ i11_ i12_ h) (i11_ i12_ : Int) {h : H} (h0 : I_ i11_ i12_ h) : spec_l05Count_L0 S K i1_ p3_ s8_ s9_ i10_ i11_ i12_ h :=
  loop_rule (σ := (Int) × (Int)) (fun s_ => spec_l05Count_e0 i1_ p3_ s8_ s9_ i10_ (s_.1) (s_.2)) (fun s_ h => I_ (s_.1) (s_.2) h) (fun s_ h => m_ (s_.1) (s_.2) h)
    (fun X s_ h hi hx => (spec_l05Count_link0 S K X i1_ p3_ s8_ s9_ i10_ (s_.1) (s_.2) h).mpr (hs X (s_.1) (s_.2) h hi fun i11_' i12_' h' hi' hm' => hx (i11_', i12_') h' hi' hm')) (i11_, i12_) h0
def spec_l05Count_main (S : SatT) (K : KT) (x0 : List AVal) (x1 x2 : Int) (h : H) : Prop :=
 newK 2 x0 h fun p0 h1 =>
 ldA p0 2 h1 fun cs2 =>
 callV S i_spec_l05Words [.agg cs2, .int .i64 x2] h1 fun v4 h3 =>
 viaT v4 fun vs5 =>
 exS vs5 0 fun s6 =>
 viaT v4 fun vs7 =>
 exS vs7 1 fun s8 =>
 viaT v4 fun vs9 =>
 exS vs9 2 fun s10 =>
 isPt p0 (
 ldI .i64 (Pt.add p0 0) h3 fun n11 =>
 callI S .i64 i_spec_l03Power [.int .i64 n11, .int .i64 x2] h3 fun n13 h12 =>
 spec_l05Count_L0 S K x1 p0 s8 s10 n13 (0) (0) h12)
theorem spec_l05Count_main_link (S : SatT) (K : KT) (x0 : List AVal) (x1 x2 : Int) (h : H) : cwp S tab spec_l05Count_M [] (bodyOf Tryz.f79) (kFun tab Tryz.f79.results.toList K) (fr0 Tryz.f79 [.agg x0, .int .i64 x1, .int .i64 x2]) h = spec_l05Count_main S K x0 x1 x2 h := by kernel_rfl
theorem spec_l05Count_call (x0 : List AVal) (x1 x2 : Int) (h : H) (K : Int → H → Prop) (hm : spec_l05Count_main (Sat Tryz.prog) (fun v h' => ∃ r, v = .int .i64 r ∧ K r h') x0 x1 x2 h) : callI (Sat Tryz.prog) .i64 i_spec_l05Count [.agg x0, .int .i64 x1, .int .i64 x2] h K := by
  have := Sat.ex tok mixed spec_l05Count_M Tryz.func79 (c := bodyOf Tryz.f79) (by kernel_rfl) (calls_of Tryz.func79 (c := bodyOf Tryz.f79) (by kernel_rfl) (by decide)) ((spec_l05Count_main_link _ _ x0 x1 x2 h).mpr hm)
  obtain ⟨v, h2, h3, r, rfl, h4⟩ := this; exact ⟨r, h2, h3, h4⟩

/-! ### loop.example/g01354/spec.l05Shift -/
def spec_l05Shift_M : Nat → List Nat := fun i => bif i == 2 then [0, 1, 2, 7, 8, 9, 10, 11, 12] else bif i == 0 then [0, 1, 2, 7, 8, 9, 10] else []
def spec_l05Shift_ks2 (S : SatT) (K : KT) : Kont := kSeq (cwp S tab spec_l05Shift_M [] (sub [1, 1, 1] (bodyOf Tryz.f67)) (kFun tab (Tryz.f67).results.toList K)) (kFun tab (Tryz.f67).results.toList K)
def spec_l05Shift_e0 (s0_ : Sl) (i1_ i2_ : Int) (i7_ i8_ : Int) (s9_ : Sl) (i10_ : Int) : Frame := [.sl s0_, .int .i64 i1_, .int .i64 i2_, U, U, U, U, .int .i64 i7_, .int .i64 i8_, .sl s9_, .int .i64 i10_, U, U, U, U, U, U, U, U, U, U, U, U, U, U, U, U, U, U, U, U, U, U, U, U, U, U, U, U, U, U, U, U, U, U, U, U, U, U, U, U, U, U, U]
def spec_l05Shift_w0 (S : SatT) (K : KT) : (XT) → XT := fun X fr h => cwp S tab spec_l05Shift_M (spec_l05Shift_M 0) (sub [1, 1, 0, 1, 0, 0] (bodyOf Tryz.f67)) (kSeq (fun fr h => X (mask (spec_l05Shift_M 0) fr) h) (kBlk 0 (spec_l05Shift_ks2 S K))) fr h
def spec_l05Shift_L0 (S : SatT) (K : KT) (s0_ : Sl) (i1_ i2_ : Int) (i7_ i8_ : Int) (s9_ : Sl) (i10_ : Int) (h : H) : Prop := loopK (spec_l05Shift_w0 S K) (spec_l05Shift_e0 s0_ i1_ i2_ i7_ i8_ s9_ i10_) h
def spec_l05Shift_ks6 (S : SatT) (K : KT) (X0 : XT) : Kont := kSeq (cwp S tab spec_l05Shift_M (spec_l05Shift_M 0) (sub [1, 1, 0, 1, 0, 0, 1, 1] (bodyOf Tryz.f67)) (kSeq (fun fr h => X0 (mask (spec_l05Shift_M 0) fr) h) (kBlk 0 (spec_l05Shift_ks2 S K)))) (kSeq (fun fr h => X0 (mask (spec_l05Shift_M 0) fr) h) (kBlk 0 (spec_l05Shift_ks2 S K)))
def spec_l05Shift_ks8 (S : SatT) (K : KT) (X0 : XT) : Kont := kSeq (cwp S tab spec_l05Shift_M (spec_l05Shift_M 1) (sub [1, 1, 0, 1, 0, 0, 1, 0, 0, 1, 1] (bodyOf Tryz.f67)) (kBlk 1 (spec_l05Shift_ks6 S K X0))) (kBlk 1 (spec_l05Shift_ks6 S K X0))
def spec_l05Shift_e2 (s0_ : Sl) (i1_ i2_ : Int) (i7_ i8_ : Int) (s9_ : Sl) (i10_ : Int) (s11_ : Sl) (i12_ : Int) : Frame := [.sl s0_, .int .i64 i1_, .int .i64 i2_, U, U, U, U, .int .i64 i7_, .int .i64 i8_, .sl s9_, .int .i64 i10_, .sl s11_, .int .i64 i12_, U, U, U, U, U, U, U, U, U, U, U, U, U, U, U, U, U, U, U, U, U, U, U, U, U, U, U, U, U, U, U, U, U, U, U, U, U, U, U, U, U]
def spec_l05Shift_w2 (S : SatT) (K : KT) (X0 : XT) : (XT) → XT := fun X fr h => cwp S tab spec_l05Shift_M (spec_l05Shift_M 2) (sub [1, 1, 0, 1, 0, 0, 1, 0, 0, 1, 0, 1, 0, 0] (bodyOf Tryz.f67)) (kSeq (fun fr h => X (mask (spec_l05Shift_M 2) fr) h) (kBlk 2 (spec_l05Shift_ks8 S K X0))) fr h
def spec_l05Shift_L2 (S : SatT) (K : KT) (X0 : XT) (s0_ : Sl) (i1_ i2_ : Int) (i7_ i8_ : Int) (s9_ : Sl) (i10_ : Int) (s11_ : Sl) (i12_ : Int) (h : H) : Prop := loopK (spec_l05Shift_w2 S K X0) (spec_l05Shift_e2 s0_ i1_ i2_ i7_ i8_ s9_ i10_ s11_ i12_) h
def spec_l05Shift_C1 (S : SatT) (K : KT) (X0 : XT) (s0_ : Sl) (i1_ i2_ : Int) (i7_ i8_ : Int) (s9_ : Sl) (i10_ : Int) (h : H) : Prop :=
 X0 (spec_l05Shift_e0 s0_ i1_ i2_ i7_ i8_ s9_ (w64 (i10_ + (1)))) h
def spec_l05Shift_C2 (S : SatT) (K : KT) (X0 : XT) (s0_ : Sl) (i1_ i2_ : Int) (i7_ i8_ : Int) (s9_ : Sl) (i10_ : Int) (s11_ : Sl) (h : H) : Prop :=
 newS 1 1 [.sl s11_] h fun s0 h1 =>
 app s9_ s0 1 h1 fun s2 h3 =>
 spec_l05Shift_C1 S K X0 s0_ i1_ i2_ i7_ i8_ s2 i10_ h3
def spec_l05Shift_b2 (S : SatT) (K : KT) (X0 X2 : XT) (s0_ : Sl) (i1_ i2_ : Int) (i7_ i8_ : Int) (s9_ : Sl) (i10_ : Int) (s11_ : Sl) (i12_ : Int) (h : H) : Prop :=
 bif (decide (i12_ < i8_)) then
 nz i7_ (
 ixS s0_ 1 (Int.tmod (w64 (i10_ + i1_)) i7_) fun p0 =>
 ldS p0 h fun s1 =>
 nz i8_ (
 ixS s1 1 (Int.tmod (w64 (i12_ + i2_)) i8_) fun p2 =>
 ldI .i64 p2 h fun n3 =>
 newS 1 1 [.int .i64 n3] h fun s4 h5 =>
 app s11_ s4 1 h5 fun s6 h7 =>
 X2 (spec_l05Shift_e2 s0_ i1_ i2_ i7_ i8_ s9_ i10_ s6 (w64 (i12_ + (1)))) h7))
 else
 spec_l05Shift_C2 S K X0 s0_ i1_ i2_ i7_ i8_ s9_ i10_ s11_ h
theorem spec_l05Shift_link2 (S : SatT) (K : KT) (X0 X2 : XT) (s0_ : Sl) (i1_ i2_ : Int) (i7_ i8_ : Int) (s9_ : Sl) (i10_ : Int) (s11_ : Sl) (i12_ : Int) (h : H) : spec_l05Shift_w2 S K X0 X2 (spec_l05Shift_e2 s0_ i1_ i2_ i7_ i8_ s9_ i10_ s11_ i12_) h = spec_l05Shift_b2 S K X0 X2 s0_ i1_ i2_ i7_ i8_ s9_ i10_ s11_ i12_ h := by kernel_rfl
theorem spec_l05Shift_rule2 (S : SatT) (K : KT) (X0 : XT) (s0_ : Sl) (i1_ i2_ : Int) (i7_ i8_ : Int) (s9_ : Sl) (i10_ : Int) (I_ : Sl → Int → H → Prop) (m_ : Sl → Int → H → Nat)
    (hs : ∀ (X2 : XT) (s11_ : Sl) (i12_ : Int) (h : H), I_ s11_ i12_ h → (∀ (s11_' : Sl) (i12_' : Int) (h' : H), I_ s11_' i12_' h' → m_ s11_' i12_' h' < m_ s11_ i12_ h → X2 (spec_l05Shift_e2 s0_ i1_ i2_ i7_ i8_ s9_ i10_ s11_' i12_') h') → spec_l05Shift_b2 S K X0 X2 s0_ i1_ i2_ i7_ i8_ s9_ i10_ s11_ i12_ h) (s11_ : Sl) (i12_ : Int) {h : H} (h0 : I_ s11_ i12_ h) : spec_l05Shift_L2 S K X0 s0_ i1_ i2_ i7_ i8_ s9_ i10_ s11_ i12_ h :=
  loop_rule (σ := (Sl) × (Int)) (fun s_ => spec_l05Shift_e2 s0_ i1_ i2_ i7_ i8_ s9_ i10_ (s_.1) (s_.2)) (fun s_ h => I_ (s_.1) (s_.2) h) (fun s_ h => m_ (s_.1) (s_.2) h)
    (fun X s_ h hi hx => (spec_l05Shift_link2 S K X0 X s0_ i1_ i2_ i7_ i8_ s9_ i10_ (s_.1) (s_.2) h).mpr (hs X (s_.1) (s_.2) h hi fun s11_' i12_' h' hi' hm' => hx (s11_', i12_') h' hi' hm')) (s11_, i12_) h0
def spec_l05Shift_C0 (S : SatT) (K : KT) (s9_ : Sl) (h : H) : Prop :=
 K (.sl s9_) h
def spec_l05Shift_b0 (S : SatT) (K : KT) (X0 : XT) (s0_ : Sl) (i1_ i2_ : Int) (i7_ i8_ : Int) (s9_ : Sl) (i10_ : Int) (h : H) : Prop :=
 bif (decide (i10_ < i7_)) then
 newS 0 1 [] h fun s0 h1 =>
 spec_l05Shift_L2 S K X0 s0_ i1_ i2_ i7_ i8_ s9_ i10_ s0 (0) h1
 else
 spec_l05Shift_C0 S K s9_ h
theorem spec_l05Shift_link0 (S : SatT) (K : KT) (X0 : XT) (s0_ : Sl) (i1_ i2_ : Int) (i7_ i8_ : Int) (s9_ : Sl) (i10_ : Int) (h : H) : spec_l05Shift_w0 S K X0 (spec_l05Shift_e0 s0_ i1_ i2_ i7_ i8_ s9_ i10_) h = spec_l05Shift_b0 S K X0 s0_ i1_ i2_ i7_ i8_ s9_ i10_ h := by kernel_rfl
theorem spec_l05Shift_rule0 (S : SatT) (K : KT) (s0_ : Sl) (i1_ i2_ : Int) (i7_ i8_ : Int) (I_ : Sl → Int → H → Prop) (m_ : Sl → Int → H → Nat)
    (hs : ∀ (X0 : XT) (s9_ : Sl) (i10_ : Int) (h : H), I_ s9_ i10_ h → (∀ (s9_' : Sl) (i10_' : Int) (h' : H), I_ s9_' i10_' h' → m_ s9_' i10_' h' < m_ s9_ i10_ h → X0 (spec_l05Shift_e0 s0_ i1_ i2_ i7_ i8_ s9_' i10_') h') → spec_l05Shift_b0 S K X0 s0_ i1_ i2_ i7_ i8_ s9_ i10_ h) (s9_ : Sl) (i10_ : Int) {h : H} (h0 : I_ s9_ i10_ h) : spec_l05Shift_L0 S K s0_ i1_ i2_ i7_ i8_ s9_ i10_ h :=
  loop_rule (σ := (Sl) × (Int)) (fun s_ => spec_l05Shift_e0 s0_ i1_ i2_ i7_ i8_ (s_.1) (s_.2)) (fun s_ h => I_ (s_.1) (s_.2) h) (fun s_ h => m_ (s_.1) (s_.2) h)
    (fun X s_ h hi hx => (spec_l05Shift_link0 S K X s0_ i1_ i2_ i7_ i8_ (s_.1) (s_.2) h).mpr (hs X (s_.1) (s_.2) h hi fun s9_' i10_' h' hi' hm' => hx (s9_', i10_') h' hi' hm')) (s9_, i10_) h0
def spec_l05Shift_main (S : SatT) (K : KT) (x0 : Sl) (x1 x2 : Int) (h : H) : Prop :=
 ixS x0 1 (0) fun p0 =>
 ldS p0 h fun s1 =>
 newS 0 1 [] h fun s2 h3 =>
(cell h3 p0 = cell h p0) ∧ (
 spec_l05Shift_L0 S K x0 x1 x2 (x0.len : Int) (s1.len : Int) s2 (0) h3)
theorem spec_l05Shift_main_link (S : SatT) (K : KT) (x0 : Sl) (x1 x2 : Int) (h : H) : cwp S tab spec_l05Shift_M [] (bodyOf Tryz.f67) (kFun tab Tryz.f67.results.toList K) (fr0 Tryz.f67 [.sl x0, .int .i64 x1, .int .i64 x2]) h = spec_l05Shift_main S K x0 x1 x2 h := by kernel_rfl
theorem spec_l05Shift_call (x0 : Sl) (x1 x2 : Int) (h : H) (K : Sl → H → Prop) (hm : spec_l05Shift_main (Sat Tryz.prog) (fun v h' => ∃ r, v = .sl r ∧ K r h') x0 x1 x2 h) : callS (Sat Tryz.prog) i_spec_l05Shift [.sl x0, .int .i64 x1, .int .i64 x2] h K := by
  have := Sat.ex tok mixed spec_l05Shift_M Tryz.func67 (c := bodyOf Tryz.f67) (by kernel_rfl) (calls_of Tryz.func67 (c := bodyOf Tryz.f67) (by kernel_rfl) (by decide)) ((spec_l05Shift_main_link _ _ x0 x1 x2 h).mpr hm)
  obtain ⟨v, h2, h3, r, rfl, h4⟩ := this; exact ⟨r, h2, h3, h4⟩

/-! ### loop.example/g01354/spec.l01Sort -/
def spec_l01Sort_M : Nat → List Nat := fun i => bif i == 2 then [0, 3, 4, 5] else bif i == 0 then [0, 3, 4] else []
def spec_l01Sort_ks2 (S : SatT) (K : KT) : Kont := kSeq (cwp S tab spec_l01Sort_M [] (sub [1, 1, 1] (bodyOf Tryz.f100)) (kFun tab (Tryz.f100).results.toList K)) (kFun tab (Tryz.f100).results.toList K)
def spec_l01Sort_e0 (s0_ s3_ : Sl) (i4_ : Int) : Frame := [.sl s0_, U, U, .sl s3_, .int .i64 i4_, U, U, U, U, U, U, U, U, U, U, U, U, U, U, U, U, U, U, U, U, U, U, U, U, U, U, U, U, U, U, U, U, U, U, U, U, U, U, U, U, U, U, U, U, U, U, U, U, U, U, U, U, U, U, U, U, U, U]
def spec_l01Sort_w0 (S : SatT) (K : KT) : (XT) → XT := fun X fr h => cwp S tab spec_l01Sort_M (spec_l01Sort_M 0) (sub [1, 1, 0, 1, 0, 0] (bodyOf Tryz.f100)) (kSeq (fun fr h => X (mask (spec_l01Sort_M 0) fr) h) (kBlk 0 (spec_l01Sort_ks2 S K))) fr h
def spec_l01Sort_L0 (S : SatT) (K : KT) (s0_ s3_ : Sl) (i4_ : Int) (h : H) : Prop := loopK (spec_l01Sort_w0 S K) (spec_l01Sort_e0 s0_ s3_ i4_) h
def spec_l01Sort_ks6 (S : SatT) (K : KT) (X0 : XT) : Kont := kSeq (cwp S tab spec_l01Sort_M (spec_l01Sort_M 0) (sub [1, 1, 0, 1, 0, 0, 1, 1] (bodyOf Tryz.f100)) (kSeq (fun fr h => X0 (mask (spec_l01Sort_M 0) fr) h) (kBlk 0 (spec_l01Sort_ks2 S K)))) (kSeq (fun fr h => X0 (mask (spec_l01Sort_M 0) fr) h) (kBlk 0 (spec_l01Sort_ks2 S K)))
def spec_l01Sort_ks8 (S : SatT) (K : KT) (X0 : XT) : Kont := kSeq (cwp S tab spec_l01Sort_M (spec_l01Sort_M 1) (sub [1, 1, 0, 1, 0, 0, 1, 0, 0, 1, 1] (bodyOf Tryz.f100)) (kBlk 1 (spec_l01Sort_ks6 S K X0))) (kBlk 1 (spec_l01Sort_ks6 S K X0))
def spec_l01Sort_e2 (s0_ s3_ : Sl) (i4_ i5_ : Int) : Frame := [.sl s0_, U, U, .sl s3_, .int .i64 i4_, .int .i64 i5_, U, U, U, U, U, U, U, U, U, U, U, U, U, U, U, U, U, U, U, U, U, U, U, U, U, U, U, U, U, U, U, U, U, U, U, U, U, U, U, U, U, U, U, U, U, U, U, U, U, U, U, U, U, U, U, U, U]
def spec_l01Sort_w2 (S : SatT) (K : KT) (X0 : XT) : (XT) → XT := fun X fr h => cwp S tab spec_l01Sort_M (spec_l01Sort_M 2) (sub [1, 1, 0, 1, 0, 0, 1, 0, 0, 1, 0, 0, 0] (bodyOf Tryz.f100)) (kSeq (fun fr h => X (mask (spec_l01Sort_M 2) fr) h) (kBlk 2 (spec_l01Sort_ks8 S K X0))) fr h
def spec_l01Sort_L2 (S : SatT) (K : KT) (X0 : XT) (s0_ s3_ : Sl) (i4_ i5_ : Int) (h : H) : Prop := loopK (spec_l01Sort_w2 S K X0) (spec_l01Sort_e2 s0_ s3_ i4_ i5_) h
def spec_l01Sort_C1 (S : SatT) (K : KT) (X0 : XT) (s0_ s3_ : Sl) (i4_ : Int) (h : H) : Prop :=
 X0 (spec_l01Sort_e0 s0_ s3_ (w64 (i4_ + (1)))) h
def spec_l01Sort_C2 (S : SatT) (K : KT) (X0 : XT) (s0_ s3_ : Sl) (i4_ i5_ : Int) (h : H) : Prop :=
 bif (decide (i5_ > (0))) then
 ixS s3_ 4 (w64 (i5_ - (1))) fun p0 =>
 ldA p0 4 h fun cs1 =>
 ixS s0_ 4 i4_ fun p2 =>
 ldA p2 4 h fun cs3 =>
 eqA .i64 4 cs1 cs3 fun b4 =>
 bif b4 then
 spec_l01Sort_C1 S K X0 s0_ s3_ i4_ h
 else
 ixS s0_ 4 i4_ fun p5 =>
 ldA p5 4 h fun cs6 =>
 lenA cs6 4 (
 newS 1 4 (spl [.int .i64 (0), .int .i64 (0), .int .i64 (0), .int .i64 (0)] 0 4 cs6) h fun s7 h8 =>
 cut s3_ 4 i5_ (s3_.len : Int) h8 fun s9 =>
 okS h s3_ ∧ (
 app s7 s9 4 h8 fun s10 h11 =>
 newS 0 4 [] h11 fun s12 h13 =>
 cut s3_ 4 (0) i5_ h13 fun s14 =>
 app s12 s14 4 h13 fun s15 h16 =>
 app s15 s10 4 h16 fun s17 h18 =>
 spec_l01Sort_C1 S K X0 s0_ s17 i4_ h18))
 else
 ixS s0_ 4 i4_ fun p19 =>
 ldA p19 4 h fun cs20 =>
 lenA cs20 4 (
 newS 1 4 (spl [.int .i64 (0), .int .i64 (0), .int .i64 (0), .int .i64 (0)] 0 4 cs20) h fun s21 h22 =>
 cut s3_ 4 i5_ (s3_.len : Int) h22 fun s23 =>
 okS h s3_ ∧ (
 app s21 s23 4 h22 fun s24 h25 =>
 newS 0 4 [] h25 fun s26 h27 =>
 cut s3_ 4 (0) i5_ h27 fun s28 =>
 app s26 s28 4 h27 fun s29 h30 =>
 app s29 s24 4 h30 fun s31 h32 =>
 spec_l01Sort_C1 S K X0 s0_ s31 i4_ h32))
def spec_l01Sort_b2 (S : SatT) (K : KT) (X0 X2 : XT) (s0_ s3_ : Sl) (i4_ i5_ : Int) (h : H) : Prop :=
 bif (decide (i5_ > (0))) then
 ixS s0_ 4 i4_ fun p0 =>
 ldA p0 4 h fun cs1 =>
 ixS s3_ 4 (w64 (i5_ - (1))) fun p2 =>
 ldA p2 4 h fun cs3 =>
 callB S i_spec_l01Before [.agg cs1, .agg cs3] h fun b5 h4 =>
 bif b5 then
 X2 (spec_l01Sort_e2 s0_ s3_ i4_ (w64 (i5_ - (1)))) h4
 else
 spec_l01Sort_C2 S K X0 s0_ s3_ i4_ i5_ h4
 else
 spec_l01Sort_C2 S K X0 s0_ s3_ i4_ i5_ h
theorem spec_l01Sort_link2 (S : SatT) (K : KT) (X0 X2 : XT) (s0_ s3_ : Sl) (i4_ i5_ : Int) (h : H) : spec_l01Sort_w2 S K X0 X2 (spec_l01Sort_e2 s0_ s3_ i4_ i5_) h = spec_l01Sort_b2 S K X0 X2 s0_ s3_ i4_ i5_ h := by kernel_rfl
theorem spec_l01Sort_rule2 (S : SatT) (K : KT) (X0 : XT) (s0_ s3_ : Sl) (i4_ : Int) (I_ : Int → H → Prop) (m_ : Int → H → Nat)
    (hs : ∀ (X2 : XT) (i5_ : Int) (h : H), I_ i5_ h → (∀ (i5_' : Int) (h' : H), I_ i5_' h' → m_ i5_' h' < m_ i5_ h → X2 (spec_l01Sort_e2 s0_ s3_ i4_ i5_') h') → spec_l01Sort_b2 S K X0 X2 s0_ s3_ i4_ i5_ h) (i5_ : Int) {h : H} (h0 : I_ i5_ h) : spec_l01Sort_L2 S K X0 s0_ s3_ i4_ i5_ h :=
  loop_rule (σ := (Int)) (fun s_ => spec_l01Sort_e2 s0_ s3_ i4_ (s_)) (fun s_ h => I_ (s_) h) (fun s_ h => m_ (s_) h)
    (fun X s_ h hi hx => (spec_l01Sort_link2 S K X0 X s0_ s3_ i4_ (s_) h).mpr (hs X (s_) h hi fun i5_' h' hi' hm' => hx (i5_') h' hi' hm')) (i5_) h0
def spec_l01Sort_C0 (S : SatT) (K : KT) (s3_ : Sl) (h : H) : Prop :=
 K (.sl s3_) h
def spec_l01Sort_b0 (S : SatT) (K : KT) (X0 : XT) (s0_ s3_ : Sl) (i4_ : Int) (h : H) : Prop :=
 bif (decide (i4_ < (s0_.len : Int))) then
 spec_l01Sort_L2 S K X0 s0_ s3_ i4_ (s3_.len : Int) h
 else
 spec_l01Sort_C0 S K s3_ h
theorem spec_l01Sort_link0 (S : SatT) (K : KT) (X0 : XT) (s0_ s3_ : Sl) (i4_ : Int) (h : H) : spec_l01Sort_w0 S K X0 (spec_l01Sort_e0 s0_ s3_ i4_) h = spec_l01Sort_b0 S K X0 s0_ s3_ i4_ h := by kernel_rfl
theorem spec_l01Sort_rule0 (S : SatT) (K : KT) (s0_ : Sl) (I_ : Sl → Int → H → Prop) (m_ : Sl → Int → H → Nat)
    (hs : ∀ (X0 : XT) (s3_ : Sl) (i4_ : Int) (h : H), I_ s3_ i4_ h → (∀ (s3_' : Sl) (i4_' : Int) (h' : H), I_ s3_' i4_' h' → m_ s3_' i4_' h' < m_ s3_ i4_ h → X0 (spec_l01Sort_e0 s0_ s3_' i4_') h') → spec_l01Sort_b0 S K X0 s0_ s3_ i4_ h) (s3_ : Sl) (i4_ : Int) {h : H} (h0 : I_ s3_ i4_ h) : spec_l01Sort_L0 S K s0_ s3_ i4_ h :=
  loop_rule (σ := (Sl) × (Int)) (fun s_ => spec_l01Sort_e0 s0_ (s_.1) (s_.2)) (fun s_ h => I_ (s_.1) (s_.2) h) (fun s_ h => m_ (s_.1) (s_.2) h)
    (fun X s_ h hi hx => (spec_l01Sort_link0 S K X s0_ (s_.1) (s_.2) h).mpr (hs X (s_.1) (s_.2) h hi fun s3_' i4_' h' hi' hm' => hx (s3_', i4_') h' hi' hm')) (s3_, i4_) h0
def spec_l01Sort_main (S : SatT) (K : KT) (x0 : Sl) (h : H) : Prop :=
 newS 0 4 [] h fun s0 h1 =>
 spec_l01Sort_L0 S K x0 s0 (0) h1
theorem spec_l01Sort_main_link (S : SatT) (K : KT) (x0 : Sl) (h : H) : cwp S tab spec_l01Sort_M [] (bodyOf Tryz.f100) (kFun tab Tryz.f100.results.toList K) (fr0 Tryz.f100 [.sl x0]) h = spec_l01Sort_main S K x0 h := by kernel_rfl
theorem spec_l01Sort_call (x0 : Sl) (h : H) (K : Sl → H → Prop) (hm : spec_l01Sort_main (Sat Tryz.prog) (fun v h' => ∃ r, v = .sl r ∧ K r h') x0 h) : callS (Sat Tryz.prog) i_spec_l01Sort [.sl x0] h K := by
  have := Sat.ex tok mixed spec_l01Sort_M Tryz.func100 (c := bodyOf Tryz.f100) (by kernel_rfl) (calls_of Tryz.func100 (c := bodyOf Tryz.f100) (by kernel_rfl) (by decide)) ((spec_l01Sort_main_link _ _ x0 h).mpr hm)
  obtain ⟨v, h2, h3, r, rfl, h4⟩ := this; exact ⟨r, h2, h3, h4⟩

/-! ### loop.example/g01354/spec.l05Least -/
def spec_l05Least_M : Nat → List Nat := fun i => bif i == 2 then [0, 3, 4, 5] else bif i == 0 then [0, 3, 4] else []
def spec_l05Least_ks2 (S : SatT) (K : KT) : Kont := kSeq (cwp S tab spec_l05Least_M [] (sub [1, 1, 1] (bodyOf Tryz.f82)) (kFun tab (Tryz.f82).results.toList K)) (kFun tab (Tryz.f82).results.toList K)
def spec_l05Least_e0 (s0_ s3_ : Sl) (i4_ : Int) : Frame := [.sl s0_, U, U, .sl s3_, .int .i64 i4_, U, U, U, U, U, U, U, U, U, U, U, U, U, U, U, U, U, U, U, U, U, U, U, U, U, U, U]
def spec_l05Least_w0 (S : SatT) (K : KT) : (XT) → XT := fun X fr h => cwp S tab spec_l05Least_M (spec_l05Least_M 0) (sub [1, 1, 0, 1, 0, 0] (bodyOf Tryz.f82)) (kSeq (fun fr h => X (mask (spec_l05Least_M 0) fr) h) (kBlk 0 (spec_l05Least_ks2 S K))) fr h
def spec_l05Least_L0 (S : SatT) (K : KT) (s0_ s3_ : Sl) (i4_ : Int) (h : H) : Prop := loopK (spec_l05Least_w0 S K) (spec_l05Least_e0 s0_ s3_ i4_) h
def spec_l05Least_ks6 (S : SatT) (K : KT) (X0 : XT) : Kont := kSeq (cwp S tab spec_l05Least_M (spec_l05Least_M 0) (sub [1, 1, 0, 1, 0, 0, 1, 1] (bodyOf Tryz.f82)) (kSeq (fun fr h => X0 (mask (spec_l05Least_M 0) fr) h) (kBlk 0 (spec_l05Least_ks2 S K)))) (kSeq (fun fr h => X0 (mask (spec_l05Least_M 0) fr) h) (kBlk 0 (spec_l05Least_ks2 S K)))
def spec_l05Least_e2 (s0_ s3_ : Sl) (i4_ i5_ : Int) : Frame := [.sl s0_, U, U, .sl s3_, .int .i64 i4_, .int .i64 i5_, U, U, U, U, U, U, U, U, U, U, U, U, U, U, U, U, U, U, U, U, U, U, U, U, U, U]
def spec_l05Least_w2 (S : SatT) (K : KT) (X0 : XT) : (XT) → XT := fun X fr h => cwp S tab spec_l05Least_M (spec_l05Least_M 2) (sub [1, 1, 0, 1, 0, 0, 1, 0, 0, 1, 0, 0] (bodyOf Tryz.f82)) (kSeq (fun fr h => X (mask (spec_l05Least_M 2) fr) h) (kBlk 2 (kBlk 1 (spec_l05Least_ks6 S K X0)))) fr h
def spec_l05Least_L2 (S : SatT) (K : KT) (X0 : XT) (s0_ s3_ : Sl) (i4_ i5_ : Int) (h : H) : Prop := loopK (spec_l05Least_w2 S K X0) (spec_l05Least_e2 s0_ s3_ i4_ i5_) h
def spec_l05Least_C1 (S : SatT) (K : KT) (X0 : XT) (s0_ s3_ : Sl) (i4_ : Int) (h : H) : Prop :=
 X0 (spec_l05Least_e0 s0_ s3_ (w64 (i4_ + (1)))) h
def spec_l05Least_C2 (S : SatT) (K : KT) (X0 : XT) (s0_ s3_ : Sl) (i4_ : Int) (h : H) : Prop :=
 spec_l05Least_C1 S K X0 s0_ s3_ i4_ h
def spec_l05Least_b2 (S : SatT) (K : KT) (X0 X2 : XT) (s0_ s3_ : Sl) (i4_ i5_ : Int) (h : H) : Prop :=
 ixS s0_ 1 (0) fun p0 =>
 ldS p0 h fun s1 =>
 bif (decide (i5_ < (s1.len : Int))) then
 callS S i_spec_l05Shift [.sl s0_, .int .i64 i4_, .int .i64 i5_] h fun s3 h2 =>
 callB S i_spec_l05Less [.sl s3, .sl s3_] h2 fun b5 h4 =>
 bif b5 then
 X2 (spec_l05Least_e2 s0_ s3 i4_ (w64 (i5_ + (1)))) h4
 else
 X2 (spec_l05Least_e2 s0_ s3_ i4_ (w64 (i5_ + (1)))) h4
 else
 spec_l05Least_C2 S K X0 s0_ s3_ i4_ h
theorem spec_l05Least_link2 (S : SatT) (K : KT) (X0 X2 : XT) (s0_ s3_ : Sl) (i4_ i5_ : Int) (h : H) : spec_l05Least_w2 S K X0 X2 (spec_l05Least_e2 s0_ s3_ i4_ i5_) h = spec_l05Least_b2 S K X0 X2 s0_ s3_ i4_ i5_ h := by kernel_rfl
theorem spec_l05Least_rule2 (S : SatT) (K : KT) (X0 : XT) (s0_ : Sl) (i4_ : Int) (I_ : Sl → Int → H → Prop) (m_ : Sl → Int → H → Nat)
    (hs : ∀ (X2 : XT) (s3_ : Sl) (i5_ : Int) (h : H), I_ s3_ i5_ h → (∀ (s3_' : Sl) (i5_' : Int) (h' : H), I_ s3_' i5_' h' → m_ s3_' i5_' h' < m_ s3_ i5_ h → X2 (spec_l05Least_e2 s0_ s3_' i4_ i5_') h') → spec_l05Least_b2 S K X0 X2 s0_ s3_ i4_ i5_ h) (s3_ : Sl) (i5_ : Int) {h : H} (h0 : I_ s3_ i5_ h) : spec_l05Least_L2 S K X0 s0_ s3_ i4_ i5_ h :=
  loop_rule (σ := (Sl) × (Int)) (fun s_ => spec_l05Least_e2 s0_ (s_.1) i4_ (s_.2)) (fun s_ h => I_ (s_.1) (s_.2) h) (fun s_ h => m_ (s_.1) (s_.2) h)
    (fun X s_ h hi hx => (spec_l05Least_link2 S K X0 X s0_ (s_.1) i4_ (s_.2) h).mpr (hs X (s_.1) (s_.2) h hi fun s3_' i5_' h' hi' hm' => hx (s3_', i5_') h' hi' hm')) (s3_, i5_) h0
def spec_l05Least_C0 (S : SatT) (K : KT) (s3_ : Sl) (h : H) : Prop :=
 K (.sl s3_) h
def spec_l05Least_b0 (S : SatT) (K : KT) (X0 : XT) (s0_ s3_ : Sl) (i4_ : Int) (h : H) : Prop :=
 bif (decide (i4_ < (s0_.len : Int))) then
 spec_l05Least_L2 S K X0 s0_ s3_ i4_ (0) h
 else
 spec_l05Least_C0 S K s3_ h
theorem spec_l05Least_link0 (S : SatT) (K : KT) (X0 : XT) (s0_ s3_ : Sl) (i4_ : Int) (h : H) : spec_l05Least_w0 S K X0 (spec_l05Least_e0 s0_ s3_ i4_) h = spec_l05Least_b0 S K X0 s0_ s3_ i4_ h := by kernel_rfl
theorem spec_l05Least_rule0 (S : SatT) (K : KT) (s0_ : Sl) (I_ : Sl → Int → H → Prop) (m_ : Sl → Int → H → Nat)
    (hs : ∀ (X0 : XT) (s3_ : Sl) (i4_ : Int) (h : H), I_ s3_ i4_ h → (∀ (s3_' : Sl) (i4_' : Int) (h' : H), I_ s3_' i4_' h' → m_ s3_' i4_' h' < m_ s3_ i4_ h → X0 (spec_l05Least_e0 s0_ s3_' i4_') h') → spec_l05Least_b0 S K X0 s0_ s3_ i4_ h) (s3_ : Sl) (i4_ : Int) {h : H} (h0 : I_ s3_ i4_ h) : spec_l05Least_L0 S K s0_ s3_ i4_ h :=
  loop_rule (σ := (Sl) × (Int)) (fun s_ => spec_l05Least_e0 s0_ (s_.1) (s_.2)) (fun s_ h => I_ (s_.1) (s_.2) h) (fun s_ h => m_ (s_.1) (s_.2) h)
    (fun X s_ h hi hx => (spec_l05Least_link0 S K X s0_ (s_.1) (s_.2) h).mpr (hs X (s_.1) (s_.2) h hi fun s3_' i4_' h' hi' hm' => hx (s3_', i4_') h' hi' hm')) (s3_, i4_) h0
def spec_l05Least_main (S : SatT) (K : KT) (x0 : Sl) (h : H) : Prop :=
 callS S i_spec_l05Shift [.sl x0, .int .i64 (0), .int .i64 (0)] h fun s1 h0 =>
 spec_l05Least_L0 S K x0 s1 (0) h0
theorem spec_l05Least_main_link (S : SatT) (K : KT) (x0 : Sl) (h : H) : cwp S tab spec_l05Least_M [] (bodyOf Tryz.f82) (kFun tab Tryz.f82.results.toList K) (fr0 Tryz.f82 [.sl x0]) h = spec_l05Least_main S K x0 h := by kernel_rfl
theorem spec_l05Least_call (x0 : Sl) (h : H) (K : Sl → H → Prop) (hm : spec_l05Least_main (Sat Tryz.prog) (fun v h' => ∃ r, v = .sl r ∧ K r h') x0 h) : callS (Sat Tryz.prog) i_spec_l05Least [.sl x0] h K := by
  have := Sat.ex tok mixed spec_l05Least_M Tryz.func82 (c := bodyOf Tryz.f82) (by kernel_rfl) (calls_of Tryz.func82 (c := bodyOf Tryz.f82) (by kernel_rfl) (by decide)) ((spec_l05Least_main_link _ _ x0 h).mpr hm)
  obtain ⟨v, h2, h3, r, rfl, h4⟩ := this; exact ⟨r, h2, h3, h4⟩

/-! ### loop.example/g01354/spec.l01Read -/
def spec_l01Read_M : Nat → List Nat := fun i => bif i == 0 then [2, 5, 6, 7] else []
def spec_l01Read_ks6 (S : SatT) (K : KT) : Kont := kSeq (cwp S tab spec_l01Read_M [] (sub [1, 1, 1, 1, 1] (bodyOf Tryz.f144)) (kFun tab (Tryz.f144).results.toList K)) (kFun tab (Tryz.f144).results.toList K)
def spec_l01Read_e0 (p2_ p5_ : Pt) (s6_ : Sl) (i7_ : Int) : Frame := [U, U, .ptr p2_, U, U, .ptr p5_, .sl s6_, .int .i64 i7_, U, U, U, U, U, U, U, U, U, U, U, U, U, U, U, U, U, U, U, U, U, U, U, U, U, U, U, U, U, U, U, U, U, U, U, U, U, U, U, U, U, U, U, U, U, U, U, U, U, U, U, U, U, U, U, U, U, U, U, U, U, U]
def spec_l01Read_w0 (S : SatT) (K : KT) : (XT) → XT := fun X fr h => cwp S tab spec_l01Read_M (spec_l01Read_M 0) (sub [1, 1, 1, 1, 0, 1, 0, 1, 1, 0, 0] (bodyOf Tryz.f144)) (kSeq (fun fr h => X (mask (spec_l01Read_M 0) fr) h) (kBlk 0 (spec_l01Read_ks6 S K))) fr h
def spec_l01Read_L0 (S : SatT) (K : KT) (p2_ p5_ : Pt) (s6_ : Sl) (i7_ : Int) (h : H) : Prop := loopK (spec_l01Read_w0 S K) (spec_l01Read_e0 p2_ p5_ s6_ i7_) h
def spec_l01Read_C0 (S : SatT) (K : KT) (p2_ p5_ : Pt) (h : H) : Prop :=
 ldA p5_ 2 h fun cs0 =>
 callB S i_spec_l01Is [.agg cs0] h fun b2 h1 =>
 bif (!b2) then
 stN p2_ 2 [.int .i64 (0), .sl Sl.nil] h1 fun h3 =>
 ldA p2_ 2 h3 fun cs4 =>
 K (.tuple [.agg cs4, .bool false]) h3
 else
 ldA p5_ 2 h1 fun cs5 =>
 stN p2_ 2 cs5 h1 fun h6 =>
 ldA p2_ 2 h6 fun cs7 =>
 K (.tuple [.agg cs7, .bool true]) h6
def spec_l01Read_b0 (S : SatT) (K : KT) (X0 : XT) (p2_ p5_ : Pt) (s6_ : Sl) (i7_ : Int) (h : H) : Prop :=
 bif (decide (i7_ < (s6_.len : Int))) then
 ixS s6_ 1 i7_ fun p0 =>
 ldV p0 h fun v1 =>
 viaStr v1 fun t2 =>
 bif ((t2.size : Int) != (4)) then
 stN p2_ 2 [.int .i64 (0), .sl Sl.nil] h fun h3 =>
 ldA p2_ 2 h3 fun cs4 =>
 K (.tuple [.agg cs4, .bool false]) h3
 else
 isPt p5_ (
 ldS (Pt.add p5_ 1) h fun s5 =>
 viaStr v1 fun t6 =>
 ixStr t6 (0) fun n7 =>
 viaStr v1 fun t8 =>
 ixStr t8 (1) fun n9 =>
 viaStr v1 fun t10 =>
 ixStr t10 (2) fun n11 =>
 viaStr v1 fun t12 =>
 ixStr t12 (3) fun n13 =>
 lenA [.int .i64 (w64 ((w64 (n7)) - (48))), .int .i64 (w64 ((w64 (n9)) - (48))), .int .i64 (w64 ((w64 (n11)) - (48))), .int .i64 (w64 ((w64 (n13)) - (48)))] 4 (
 newS 1 4 (spl [.int .i64 (0), .int .i64 (0), .int .i64 (0), .int .i64 (0)] 0 4 [.int .i64 (w64 ((w64 (n7)) - (48))), .int .i64 (w64 ((w64 (n9)) - (48))), .int .i64 (w64 ((w64 (n11)) - (48))), .int .i64 (w64 ((w64 (n13)) - (48)))]) h fun s14 h15 =>
(cell h15 (Pt.add p5_ 1) = cell h (Pt.add p5_ 1)) ∧ (
 app s5 s14 4 h15 fun s16 h17 =>
 isPt p5_ (
 st1 (Pt.add p5_ 1) (.sl s16) h17 fun h18 =>
 X0 (spec_l01Read_e0 p2_ p5_ s6_ (w64 (i7_ + (1)))) h18))))
 else
 spec_l01Read_C0 S K p2_ p5_ h
theorem spec_l01Read_link0 (S : SatT) (K : KT) (X0 : XT) (p2_ p5_ : Pt) (s6_ : Sl) (i7_ : Int) (h : H) : spec_l01Read_w0 S K X0 (spec_l01Read_e0 p2_ p5_ s6_ i7_) h = spec_l01Read_b0 S K X0 p2_ p5_ s6_ i7_ h := by kernel_rfl
theorem spec_l01Read_rule0 (S : SatT) (K : KT) (p2_ p5_ : Pt) (s6_ : Sl) (I_ : Int → H → Prop) (m_ : Int → H → Nat)
    (hs : ∀ (X0 : XT) (i7_ : Int) (h : H), I_ i7_ h → (∀ (i7_' : Int) (h' : H), I_ i7_' h' → m_ i7_' h' < m_ i7_ h → X0 (spec_l01Read_e0 p2_ p5_ s6_ i7_') h') → spec_l01Read_b0 S K X0 p2_ p5_ s6_ i7_ h) (i7_ : Int) {h : H} (h0 : I_ i7_ h) : spec_l01Read_L0 S K p2_ p5_ s6_ i7_ h :=
  loop_rule (σ := (Int)) (fun s_ => spec_l01Read_e0 p2_ p5_ s6_ (s_)) (fun s_ h => I_ (s_) h) (fun s_ h => m_ (s_) h)
    (fun X s_ h hi hx => (spec_l01Read_link0 S K X p2_ p5_ s6_ (s_) h).mpr (hs X (s_) h hi fun i7_' h' hi' hm' => hx (i7_') h' hi' hm')) (i7_) h0
def spec_l01Read_main (S : SatT) (K : KT) (x0 : AVal) (h : H) : Prop :=
 newO [.int .i64 (0), .sl Sl.nil] h fun p0 h1 =>
 callS S i_spec_l01Split [x0, .int .u8 (58)] h1 fun s3 h2 =>
 bif ((s3.len : Int) != (2)) then
 stN p0 2 [.int .i64 (0), .sl Sl.nil] h2 fun h4 =>
 ldA p0 2 h4 fun cs5 =>
 K (.tuple [.agg cs5, .bool false]) h4
 else
 ixS s3 1 (0) fun p6 =>
 ldV p6 h2 fun v7 =>
 callI S .i64 i_spec_l01Number [v7] h2 fun n9 h8 =>
 newS 0 4 [] h8 fun s10 h11 =>
 newO [.int .i64 (0), .sl Sl.nil] h11 fun p12 h13 =>
 stN p12 2 [.int .i64 n9, .sl s10] h13 fun h14 =>
 ixS s3 1 (1) fun p15 =>
 ldV p15 h14 fun v16 =>
 strEq v16 (.str ByteArray.empty) fun b17 =>
 bif (!b17) then
 ixS s3 1 (1) fun p18 =>
 ldV p18 h14 fun v19 =>
 callS S i_spec_l01Split [v19, .int .u8 (44)] h14 fun s21 h20 =>
 spec_l01Read_L0 S K p0 p12 s21 (0) h20
 else
 ldA p12 2 h14 fun cs22 =>
 callB S i_spec_l01Is [.agg cs22] h14 fun b24 h23 =>
 bif (!b24) then
 stN p0 2 [.int .i64 (0), .sl Sl.nil] h23 fun h25 =>
 ldA p0 2 h25 fun cs26 =>
 K (.tuple [.agg cs26, .bool false]) h25
 else
 ldA p12 2 h23 fun cs27 =>
 stN p0 2 cs27 h23 fun h28 =>
 ldA p0 2 h28 fun cs29 =>
 K (.tuple [.agg cs29, .bool true]) h28
theorem spec_l01Read_main_link (S : SatT) (K : KT) (x0 : AVal) (h : H) : cwp S tab spec_l01Read_M [] (bodyOf Tryz.f144) (kFun tab Tryz.f144.results.toList K) (fr0 Tryz.f144 [x0]) h = spec_l01Read_main S K x0 h := by kernel_rfl
theorem spec_l01Read_call (x0 : AVal) (h : H) (K : KT) (hm : spec_l01Read_main (Sat Tryz.prog) (fun v h' => K v h') x0 h) : callV (Sat Tryz.prog) i_spec_l01Read [x0] h K := by
  have := Sat.ex tok mixed spec_l01Read_M Tryz.func144 (c := bodyOf Tryz.f144) (by kernel_rfl) (calls_of Tryz.func144 (c := bodyOf Tryz.f144) (by kernel_rfl) (by decide)) ((spec_l01Read_main_link _ _ x0 h).mpr hm)
  exact this

end Go.Proofs.YtcoampecbpiecaaGreat.Cl
