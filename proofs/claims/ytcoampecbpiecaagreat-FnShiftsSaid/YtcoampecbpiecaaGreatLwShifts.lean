/- The law FnShifts holds of all codes. The statement itself stands in another text. -/
import Derived.Test.YtcoampecbpiecaaGreatFb1
import Derived.Test.YtcoampecbpiecaaGreatFb2
set_option linter.unusedVariables false
set_option linter.unusedSimpArgs false
namespace Go.Proofs.YtcoampecbpiecaaGreat.Cl
open Go
def shRest (K : AVal → H → Prop) (s0_ : Sl) (h19 : H) : Prop :=
 callV SP i_spec_DrawLeastForm [.sl s0_] h19 fun v106 h105 =>
 viaT v106 fun vs107 =>
 exA vs107 0 fun cs108 =>
 viaT v106 fun vs109 =>
 exS vs109 1 fun s110 =>
 newO [.int .i64 (0), .sl Sl.nil] h105 fun p111 h112 =>
 stN p111 2 cs108 h112 fun h113 =>
 ldA p111 2 h113 fun cs114 =>
 callV SP i_impl_LeastForm [.agg cs114, .sl s110] h113 fun v116 h115 =>
 viaT v116 fun vs117 =>
 exS vs117 0 fun s118 =>
 viaT v116 fun vs119 =>
 exI .i64 vs119 1 fun n120 =>
 ldA p111 2 h115 fun cs121 =>
 callV SP i_spec_LeastForm [.agg cs121, .sl s110] h115 fun v123 h122 =>
 viaT v123 fun vs124 =>
 exS vs124 0 fun s125 =>
 viaT v123 fun vs126 =>
 exI .i64 vs126 1 fun n127 =>
 callV SP i_spec_DrawShiftsKept [.sl s0_] h122 fun v129 h128 =>
 viaT v129 fun vs130 =>
 exA vs130 0 fun cs131 =>
 viaT v129 fun vs132 =>
 exS vs132 1 fun s133 =>
 newO [.int .i64 (0), .sl Sl.nil] h128 fun p134 h135 =>
 stN p134 2 cs131 h135 fun h136 =>
 ldA p134 2 h136 fun cs137 =>
 callV SP i_impl_ShiftsKept [.agg cs137, .sl s133] h136 fun v139 h138 =>
 viaT v139 fun vs140 =>
 exS vs140 0 fun s141 =>
 viaT v139 fun vs142 =>
 exI .i64 vs142 1 fun n143 =>
 ldA p134 2 h138 fun cs144 =>
 callV SP i_spec_ShiftsKept [.agg cs144, .sl s133] h138 fun v146 h145 =>
 viaT v146 fun vs147 =>
 exS vs147 0 fun s148 =>
 viaT v146 fun vs149 =>
 exI .i64 vs149 1 fun n150 =>
 callV SP i_spec_DrawShiftNumber [.sl s0_] h145 fun v152 h151 =>
 viaT v152 fun vs153 =>
 exA vs153 0 fun cs154 =>
 viaT v152 fun vs155 =>
 exS vs155 1 fun s156 =>
 newO [.int .i64 (0), .sl Sl.nil] h151 fun p157 h158 =>
 stN p157 2 cs154 h158 fun h159 =>
 ldA p157 2 h159 fun cs160 =>
 callV SP i_impl_ShiftNumber [.agg cs160, .sl s156] h159 fun v162 h161 =>
 viaT v162 fun vs163 =>
 exI .i64 vs163 0 fun n164 =>
 viaT v162 fun vs165 =>
 exI .i64 vs165 1 fun n166 =>
 ldA p157 2 h161 fun cs167 =>
 callV SP i_spec_ShiftNumber [.agg cs167, .sl s156] h161 fun v169 h168 =>
 viaT v169 fun vs170 =>
 exI .i64 vs170 0 fun n171 =>
 viaT v169 fun vs172 =>
 exI .i64 vs172 1 fun n173 =>
 bif (n120 == n127) then
 callB SP i_laws_rows5 [.sl s118, .sl s125] h168 fun b175 h174 =>
 bif b175 then
 bif (n143 == n150) then
 callB SP i_laws_rows5 [.sl s141, .sl s148] h174 fun b177 h176 =>
 bif b177 then
 bif (n166 == n173) then
 K (.bool (n164 == n171)) h176
 else
 K (.bool false) h176
 else
 K (.bool false) h176
 else
 K (.bool false) h174
 else
 K (.bool false) h174
 else
 K (.bool false) h168
section
variable {h g : H} {s0 : Sl} {q0 : List Int}
abbrev KB : AVal → H → Prop := fun v _ => ∃ b, v = AVal.bool b ∧ b = true
theorem shRest_c (C : CodeB g s0 q0) : shRest KB s0 g := by
  unfold shRest
  refine (DrawLeastForm_c C).to ?_
  rintro _ g1 ⟨u, c, ts, w, rows, rfl, ru, hl, rw1, hr, hrl, x1⟩
  refine ⟨_, rfl, _, rfl, _, rfl, _, rfl, ?_⟩
  refine newbox fun g2 o2 x2 n2 => ?_
  refine (impl_LeastForm_c (ru.ext x2) (rw1.ext x2) (by omega) (by omega) (fun l hl => by have := hrl l hl; omega)).to ?_
  rintro _ g3 ⟨a, rfl, na, x3⟩
  refine ⟨_, rfl, _, rfl, _, rfl, _, rfl, ?_⟩
  refine (o2.ext x3).ldA rfl ?_
  refine (spec_LeastForm_c (ru.ext (x2.trans x3)) (rw1.ext (x2.trans x3)) (by omega) (by omega) (fun l hl => by have := hrl l hl; omega)).to ?_
  rintro _ g4 ⟨a', rfl, na', x4⟩
  refine ⟨_, rfl, _, rfl, _, rfl, _, rfl, ?_⟩
  have sm1 := LeastForm_small0 (c := c) (ts := ts) (rows := rows) (by omega) (by omega) (fun l hl => by have := hrl l hl; omega)
  have X4 := x1.trans (x2.trans (x3.trans x4))
  refine (DrawShiftsKept_c (C.ext X4)).to ?_
  rintro _ g5 ⟨u2, c2, ts2, w2, rows2, rfl, ru2, hl2, rw2, hr2, hrl2, x5⟩
  refine ⟨_, rfl, _, rfl, _, rfl, _, rfl, ?_⟩
  refine newbox fun g6 o6 x6 n6 => ?_
  refine (impl_ShiftsKept_c (ru2.ext x6) (rw2.ext x6) (by omega) (by omega) (fun l hl => by have := hrl2 l hl; omega)).to ?_
  rintro _ g7 ⟨b, rfl, nb, x7⟩
  refine ⟨_, rfl, _, rfl, _, rfl, _, rfl, ?_⟩
  refine (o6.ext x7).ldA rfl ?_
  refine (spec_ShiftsKept_c (ru2.ext (x6.trans x7)) (rw2.ext (x6.trans x7)) (by omega) (by omega) (fun l hl => by have := hrl2 l hl; omega)).to ?_
  rintro _ g8 ⟨b', rfl, nb', x8⟩
  refine ⟨_, rfl, _, rfl, _, rfl, _, rfl, ?_⟩
  have sm2 := ShiftsKept_small0 (c := c2) (ts := ts2) (rows := rows2) (by omega) (by omega) (fun l hl => by have := hrl2 l hl; omega)
  have X8 := x5.trans (x6.trans (x7.trans x8))
  refine (DrawShiftNumber_c ((C.ext X4).ext X8)).to ?_
  rintro _ g9 ⟨u3, c3, ts3, w3, rows3, rfl, ru3, hl3, rw3, hr3, hrl3, x9⟩
  refine ⟨_, rfl, _, rfl, _, rfl, _, rfl, ?_⟩
  refine newbox fun g10 o10 x10 n10 => ?_
  refine (impl_ShiftNumber_c (ru3.ext x10) (rw3.ext x10) (by omega) (by omega) (fun l hl => by have := hrl3 l hl; omega)).to ?_
  rintro _ g11 ⟨rfl, x11⟩
  refine ⟨_, rfl, _, rfl, _, rfl, _, rfl, ?_⟩
  refine (o10.ext x11).ldA rfl ?_
  refine (spec_ShiftNumber_c (ru3.ext (x10.trans x11)) (rw3.ext (x10.trans x11)) (by omega) (by omega) (fun l hl => by have := hrl3 l hl; omega)).to ?_
  rintro _ g12 ⟨rfl, x12⟩
  refine ⟨_, rfl, _, rfl, _, rfl, _, rfl, ?_⟩
  have X12 := x9.trans (x10.trans (x11.trans x12))
  refine bif_eq (fun _ => ?_) (fun hne => absurd rfl hne)
  refine (rows5_c (na.rd.ext (x4.trans (X8.trans X12))) (na'.rd.ext (X8.trans X12)) (by omega) (fun l hl => by have := sumLen_mem hl; omega)).to ?_
  rintro _ _ ⟨rfl, rfl⟩
  refine bif_b (fun _ => ?_) (fun hf => by simp at hf)
  refine bif_eq (fun _ => ?_) (fun hne => absurd rfl hne)
  refine (rows5_c (nb.rd.ext (x8.trans X12)) (nb'.rd.ext X12) (by omega) (fun l hl => by have := sumLen_mem hl; omega)).to ?_
  rintro _ _ ⟨rfl, rfl⟩
  refine bif_b (fun _ => ?_) (fun hf => by simp at hf)
  refine bif_eq (fun _ => ?_) (fun hne => absurd rfl hne)
  exact ⟨_, rfl, by simp⟩
theorem code3_ok {A B : Prop} {n : Int} (h : code3 A B n = 0) : (A ∧ B) ∧ ¬ n > 4000 := by
  by_cases hc : codeOf A B = 0
  · by_cases t : n > 4000
    · rw [code3_3 hc t] at h; cases h
    · exact ⟨codeOf_zero hc, t⟩
  · rw [code3_no hc] at h; exact absurd h hc
theorem shC0_c (C : CodeB g s0 q0) : laws_FnShifts_C0 SP KB s0 g := by
  unfold laws_FnShifts_C0
  refine (DrawCountForms_c C).to ?_
  rintro _ g1 ⟨u, c, ts, n, m, rfl, ru, hl, bn, bm, fu, x1⟩
  refine ⟨_, rfl, _, rfl, _, rfl, _, rfl, _, rfl, _, rfl, ?_⟩
  refine newbox fun g2 o2 x2 n2 => ?_
  refine (impl_CountForms_c (ru.ext x2) (by omega) bn bm).to ?_
  rintro _ g3 ⟨rfl, x3⟩
  refine ⟨_, rfl, _, rfl, _, rfl, _, rfl, ?_⟩
  refine (o2.ext x3).ldA rfl ?_
  refine (spec_CountForms_c (ru.ext (x2.trans x3)) (by omega) bn bm).to ?_
  rintro _ g4 ⟨rfl, x4⟩
  refine ⟨_, rfl, _, rfl, _, rfl, _, rfl, ?_⟩
  refine bif_ne (fun hq => absurd rfl hq) (fun _ => ?_)
  refine bif_ne (fun hq => absurd rfl hq) (fun _ => ?_)
  have X4 := x1.trans (x2.trans (x3.trans x4))
  refine bif_eq (fun hq => ?_) (fun _ => shRest_c (C.ext X4))
  obtain ⟨⟨hs, hz⟩, hno⟩ := code3_ok hq
  refine (o2.ext (x3.trans x4)).ldA rfl ?_
  refine (impl_CountTori_c (ru.ext (x2.trans (x3.trans x4))) (by omega) bn bm).to ?_
  rintro _ g5 ⟨rfl, x5⟩
  refine ⟨_, rfl, _, rfl, _, rfl, _, rfl, ?_⟩
  refine bif_ne (fun hq => absurd (codeOf_yes hs hz) hq) (fun _ => ?_)
  rw [F_CountForms_0, sel_yes ⟨⟨hs, hz⟩, hno⟩, F_CountTori_0, sel_yes ⟨hs, hz⟩]
  have hz1 := hz.1
  have hz2 := hz.2
  have hle : formsN c ts n m ≤ (toriL c ts m.toNat n.toNat).length := List.countP_le_length
  have hbd := forms_bound (c := c) (ts := ts) (H := n.toNat) (W := m.toNat) hs.sides (by omega) (by omega) (by omega) (by omega)
  change (toriL c ts m.toNat n.toNat).length ≤ formsN c ts n m * (n.toNat * m.toNat) at hbd
  have htc : tcount c ts n m = ((toriL c ts m.toNat n.toNat).length : Int) := rfl
  have hfl : formsN c ts n m ≤ 4000 := by omega
  refine bif_dec (fun hgt => absurd hgt (by rw [htc]; omega)) (fun _ => ?_)
  have e1 : (formsN c ts n m : Int) * n = ((formsN c ts n m * n.toNat : Nat) : Int) := by push_cast; rw [Int.toNat_of_nonneg (by omega)]
  have hb1 : formsN c ts n m * n.toNat ≤ 4000 * 3 := Nat.mul_le_mul hfl (by omega)
  have e2 : ((formsN c ts n m * n.toNat : Nat) : Int) * m = ((formsN c ts n m * n.toNat * m.toNat : Nat) : Int) := by push_cast; rw [Int.toNat_of_nonneg (a := m) (by omega)]
  have hb2 : formsN c ts n m * n.toNat * m.toNat ≤ 4000 * 3 * 3 := Nat.mul_le_mul hb1 (by omega)
  refine bif_dec (fun hlt => absurd hlt ?_) (fun _ => shRest_c (C.ext (X4.trans x5)))
  rw [e1, w64_of (n := ((formsN c ts n m * n.toNat : Nat) : Int)) (by omega) (by omega), e2, w64_of (n := ((formsN c ts n m * n.toNat * m.toNat : Nat) : Int)) (by omega) (by omega), htc, Nat.mul_assoc]
  omega
end
theorem law_Shifts {h : H} {s0 : Sl} {q0 : List Int} (r0 : Rd h s0 1 (bc q0)) (hq0 : ∀ b ∈ q0, 0 ≤ b ∧ b < 256) : callB SP i_laws_FnShifts [.sl s0] h fun b _ => b = true := by
  have hsl := r0.blen
  apply laws_FnShifts_call
  unfold laws_FnShifts_main
  refine (big_c s0).to ?_
  rintro _ _ ⟨rfl, rfl⟩
  refine bif_dec (fun _ => ⟨_, rfl, rfl⟩) (fun hbig => ?_)
  have C0 : CodeB h s0 q0 := ⟨r0, by omega, hq0⟩
  refine (DrawShiftTorus_c C0).to ?_
  rintro _ h2 ⟨u, c, ts, w, rows, a, b, rfl, ru, hl, rw_, hr, hrl, ba, bb, x2⟩
  refine ⟨_, rfl, _, rfl, _, rfl, _, rfl, _, rfl, _, rfl, _, rfl, _, rfl, ?_⟩
  refine newbox fun h3 o3 x3 n3 => ?_
  have ru3 := ru.ext x3
  have rw3 := rw_.ext x3
  have hrb : ∀ l ∈ rows, l.length ≤ 1048576 := fun l hl => by have := hrl l hl; omega
  refine (impl_ShiftTorus_c ru3 rw3 (by omega) (by omega) hrb ba bb).to ?_
  rintro _ h4 ⟨m, rfl, nm, x4⟩
  refine ⟨_, rfl, _, rfl, _, rfl, _, rfl, ?_⟩
  refine (o3.ext x4).ldA rfl ?_
  refine (spec_ShiftTorus_c (ru3.ext x4) (rw3.ext x4) (by omega) (by omega) hrb ba bb).to ?_
  rintro _ h5 ⟨m', rfl, nm', x5⟩
  refine ⟨_, rfl, _, rfl, _, rfl, _, rfl, ?_⟩
  refine bif_ne (fun hq => absurd rfl hq) (fun _ => ?_)
  have sm1 := ShiftTorus_small0 (c := c) (ts := ts) (rows := rows) (a := a) (b := b) (by omega) (by omega) hrb ba bb
  refine rows5_yes (nm.rd.ext x5) nm'.rd (by omega) (fun l hl => by have := sumLen_mem hl; omega) ?_
  have X5 := x4.trans x5
  refine bif_eq (fun hq => ?_) (fun _ => shC0_c (C0.ext (x2.trans (x3.trans X5))))
  obtain ⟨⟨hs, hN, hR⟩, hT⟩ := code5_zero hq
  have hG : Given c ts rows := ⟨⟨hs, hN⟩, hT⟩
  have R := hN.rect
  have R0 := R.h0; have R1 := R.h1; have W0 := R.w0; have W1 := R.w1
  have hRa := hR.1; have hRb := hR.2
  have eM : F_ShiftTorus_0 c ts rows a b = shiftG rows a.toNat b.toNat := by rw [F_ShiftTorus_0, sel_yes ⟨⟨hs, hN, hR⟩, hT⟩]
  have hG2 := hG.shift a.toNat b.toNat
  rw [eM] at nm sm1
  have hMl := shiftG_len rows a.toNat b.toNat
  have hMb : ∀ l ∈ shiftG rows a.toNat b.toNat, l.length ≤ 1048576 := fun l hl => by have := sumLen_mem hl; omega
  have ru5 := ru3.ext X5
  have rw5 := rw3.ext X5
  have nm5 := nm.rd.ext x5
  refine (o3.ext X5).ldA rfl ?_
  refine (impl_IsTorus_c (rows := shiftG rows a.toNat b.toNat) ru5 nm5 (by omega) (by omega) hMb).to ?_
  rintro _ h6 ⟨rfl, x6⟩
  refine ⟨_, rfl, _, rfl, _, rfl, _, rfl, ?_⟩
  have X6 := X5.trans x6
  refine (o3.ext X6).ldA rfl ?_
  refine (impl_LeastForm_c (ru5.ext x6) (rw5.ext x6) (by omega) (by omega) hrb).to ?_
  rintro _ h7 ⟨l1, rfl, nl1, x7⟩
  refine ⟨_, rfl, _, rfl, _, rfl, _, rfl, ?_⟩
  have X7 := X6.trans x7
  have x67 := x6.trans x7
  refine (o3.ext X7).ldA rfl ?_
  refine (impl_LeastForm_c (rows := shiftG rows a.toNat b.toNat) (ru5.ext x67) (nm5.ext x67) (by omega) (by omega) hMb).to ?_
  rintro _ h8 ⟨l2, rfl, nl2, x8⟩
  refine ⟨_, rfl, _, rfl, _, rfl, _, rfl, ?_⟩
  have X8 := X7.trans x8
  have x68 := x67.trans x8
  refine (o3.ext X8).ldA rfl ?_
  refine (impl_ShiftsKept_c (ru5.ext x68) (rw5.ext x68) (by omega) (by omega) hrb).to ?_
  rintro _ h9 ⟨k, rfl, nk, x9⟩
  refine ⟨_, rfl, _, rfl, _, rfl, _, rfl, ?_⟩
  have X9 := X8.trans x9
  have x69 := x68.trans x9
  refine (o3.ext X9).ldA rfl ?_
  refine (impl_ShiftNumber_c (ru5.ext x69) (rw5.ext x69) (by omega) (by omega) hrb).to ?_
  rintro _ h10 ⟨rfl, x10⟩
  refine ⟨_, rfl, _, rfl, _, rfl, _, rfl, ?_⟩
  have X10 := X9.trans x10
  have x610 := x69.trans x10
  have hcG : codeG c ts rows = 0 := code5_0 (codeOf_yes hs hN) hT
  have hcG2 : codeG c ts (shiftG rows a.toNat b.toNat) = 0 := code5_0 (codeOf_yes hG2.1.1 hG2.1.2) hG2.2
  refine bif_ne (fun hne => absurd (codeOf_yes hG2.1.1 hG2.1.2) hne) (fun _ => ?_)
  refine bif_ne (fun hne => absurd hcG hne) (fun _ => ?_)
  refine bif_ne (fun hne => absurd hcG2 hne) (fun _ => ?_)
  refine bif_ne (fun hne => absurd hcG hne) (fun _ => ?_)
  refine bif_ne (fun hne => absurd hcG hne) (fun _ => ?_)
  refine bif_not (fun hf => ?_) (fun _ => ?_)
  · have : F_IsTorus_0 c ts (shiftG rows a.toNat b.toNat) = true := bP_yes ⟨hG2.1, hG2.2⟩
    rw [this] at hf; cases hf
  have eL1 : F_LeastForm_0 c ts rows = leastG rows := by rw [F_LeastForm_0, sel_yes hG]
  have eL2 : F_LeastForm_0 c ts (shiftG rows a.toNat b.toNat) = leastG rows := by rw [F_LeastForm_0, sel_yes hG2]; exact least_of_shift R (by omega) (by omega)
  have sm2 := LeastForm_small0 (c := c) (ts := ts) (rows := rows) (by omega) (by omega) hrb
  rw [eL1] at nl1 sm2
  rw [eL2] at nl2
  refine rows5_yes (nl1.rd.ext (x8.trans (x9.trans x10))) (nl2.rd.ext (x9.trans x10)) (by omega) (fun l hl => by have := sumLen_mem hl; omega) ?_
  have rw10 := rw5.ext x610
  have hwl := rw10.len
  refine rw10.ldG (by omega) (by omega) fun v rv lv => ?_
  have hwd : (Cl.rw_ rows (0 : Int).toNat).length = wide rows := R.w 0 (by omega)
  have eK : F_ShiftsKept_0 c ts rows = keptG rows := by rw [F_ShiftsKept_0, sel_yes hG]
  rw [eK] at nk
  have hkl := nk.rd.len
  have hkp := kept_pos R
  obtain ⟨d, hd⟩ := kept_dvd R
  have hHW : rows.length * wide rows ≤ 8 * 8 := Nat.mul_le_mul R1 W1
  have hkle : (keptG rows).length ≤ rows.length * wide rows := Nat.le_of_dvd (Nat.mul_pos (by omega) (by omega)) ⟨d, hd⟩
  have hdle : d ≤ rows.length * wide rows := by rw [hd]; exact Nat.le_mul_of_pos_left _ (by omega)
  have eHW : (rows.length : Int) * ((wide rows : Nat) : Int) = ((rows.length * wide rows : Nat) : Int) := by push_cast; rfl
  have eN : F_ShiftNumber_0 c ts rows = (d : Int) := by
    rw [F_ShiftNumber_0, sel_yes hG, eHW, w64_of (n := ((rows.length * wide rows : Nat) : Int)) (by omega) (by omega), hd]
    have : Int.tdiv (((keptG rows).length * d : Nat) : Int) ((keptG rows).length : Int) = (d : Int) := by
      rw [Int.natCast_mul, Int.mul_comm, Int.mul_tdiv_cancel _ (by omega)]
    rw [this, w64_of (by omega) (by omega)]
  refine bif_ne (fun hne => absurd ?_ hne) (fun _ => ?_)
  · rw [eN, lv, hwd, hkl, hwl]
    have e1 : (d : Int) * ((keptG rows).length : Int) = ((rows.length * wide rows : Nat) : Int) := by rw [hd]; push_cast; rw [Int.mul_comm]
    rw [e1, eHW]
  refine laws_FnShifts_rule0 _ _ _ _ _ _ (fun i g => ∃ z : Nat, i = z ∧ z ≤ (keptG rows).length ∧ Ext h10 g) (fun i _ => (((keptG rows).length : Int) - i).toNat) ?_ _ ⟨0, rfl, by omega, Ext.refl _⟩
  rintro X _ g ⟨z, rfl, hz, xg⟩ hX
  have C : CodeB g s0 q0 := C0.ext (x2.trans (x3.trans (X10.trans xg)))
  unfold laws_FnShifts_b0
  refine bif_dec (fun hi => ?_) (fun _ => shC0_c C)
  refine bif_dec (fun hi4 => ?_) (fun _ => shC0_c C)
  have nkg := nk.rd.ext (x10.trans xg)
  have hzl : z < (keptG rows).length := by omega
  obtain ⟨a', b', ek, ha', hb', hsh⟩ := kept_at (List.getElem_mem hzl)
  have ekz : (keptG rows)[((z : Nat) : Int).toNat]? = some [(a' : Int), (b' : Int)] := by rw [Int.toNat_natCast, List.getElem?_eq_getElem hzl, ek]
  refine nkg.ld (by omega) (by omega) fun v1 l1' hv1 rv1 lv1 => ?_
  rw [ekz] at hv1
  cases hv1
  refine bif_ne (fun hne => absurd (by rw [lv1]; rfl) hne) (fun _ => ?_)
  refine (o3.ext (X10.trans xg)).ldA rfl ?_
  refine nkg.ld (by omega) (by omega) fun v2 l2' hv2 rv2 lv2 => ?_
  rw [ekz] at hv2
  cases hv2
  refine rv2.ldI (by omega) (by simp) fun y1 hy1 => ?_
  refine nkg.ld (by omega) (by omega) fun v3 l3' hv3 rv3 lv3 => ?_
  rw [ekz] at hv3
  cases hv3
  refine rv3.ldI (by omega) (by simp) fun y2 hy2 => ?_
  have e1 : y1 = (a' : Int) := by simpa using hy1.symm
  have e2 : y2 = (b' : Int) := by simpa using hy2.symm
  subst e1 e2
  have hR' : Rng rows (a' : Int) (b' : Int) := ⟨⟨by omega, by omega⟩, by omega, by omega⟩
  refine (impl_ShiftTorus_c (ru5.ext (x610.trans xg)) (rw10.ext xg) (by omega) (by omega) hrb (by unfold i64ok; omega) (by unfold i64ok; omega)).to ?_
  rintro _ g1 ⟨m2, rfl, nm2, y1⟩
  refine ⟨_, rfl, _, rfl, _, rfl, _, rfl, ?_⟩
  refine bif_ne (fun hne => absurd (code5_0 (codeOf_yes hs ⟨hN, hR'⟩) hT) hne) (fun _ => ?_)
  have eB : F_ShiftTorus_0 c ts rows (a' : Int) (b' : Int) = rows := by rw [F_ShiftTorus_0, sel_yes ⟨⟨hs, hN, hR'⟩, hT⟩, Int.toNat_natCast, Int.toNat_natCast, hsh]
  rw [eB] at nm2
  refine rows5_yes nm2.rd ((rw10.ext xg).ext y1) (by omega) (fun l hl => by have := hrl l hl; omega) ?_
  rw [w64_of (by omega) (by omega)]
  exact hX _ _ ⟨z + 1, by push_cast; rfl, by omega, xg.trans y1⟩ (by omega)
set_option maxRecDepth 100000 in
theorem law_Shifts_in (h : H) (xs : List AVal) (hl : xs.length = Tryz.f4.params.toList.length) (ha : ∀ (i : Nat) t a, Tryz.f4.params.toList[i]? = some t → xs[i]? = some a → ArgIs Tryz.prog h t a) : callB (Sat Tryz.prog) 4 xs h fun b _ => b = true := by
  rw [show Tryz.f4.params.toList.length = 1 by kernel_rfl] at hl
  match xs, hl with
  | [e0], _ =>
    obtain ⟨k0, pd0, dd0, rfl⟩ := ha 0 22 e0 (by kernel_rfl) rfl
    obtain ⟨s0, q0, rfl, r0, hq0⟩ := arg_bytes (u := 5) (by kernel_rfl) (by kernel_rfl) (by kernel_rfl) dd0
    rw [show argV Tryz.prog 22 [.sl s0] = .sl s0 by kernel_rfl]
    exact law_Shifts r0 hq0
end Go.Proofs.YtcoampecbpiecaaGreat.Cl
