/- Contracts of IsCylinder and IsTorus. No claim is stated here. -/
import Derived.Test.YtfmjjpophipfbaaMd
set_option linter.unusedVariables false
set_option linter.unusedSimpArgs false
namespace Go.Proofs.Ytfmjjpophipfbaa.Cl
open Go
noncomputable def F_IsCylinder_0 (c : Int) (ts : List Tile) (rows : List (List Int)) : Bool := bP ((setOK c ts ∧ Nums ts.length rows) ∧ Filling ts rows ∧ CylEnds ts rows)
noncomputable def F_IsTorus_0 (c : Int) (ts : List Tile) (rows : List (List Int)) : Bool := bP ((setOK c ts ∧ Nums ts.length rows) ∧ Filling ts rows ∧ CylEnds ts rows ∧ TorEnds ts rows)
section
variable {h0 : H} {c : Int} {s q : Sl} {ts : List Tile} {rows : List (List Int)}
theorem areNumbers_1 (r : Rd h0 s 4 (tcs ts)) (rr : RdSS h0 q rows) (sz : ts.length ≤ 1048576) (szr : rows.length ≤ 1048576) (sd : ∀ l ∈ rows, l.length ≤ 1048576) : callB SP i_impl_Set_areNumbers [.agg (SetC c s), .sl q] h0 fun b h' => (b = true ↔ Nums ts.length rows) ∧ Ext h0 h' :=
  areNumbers_c r rr (by omega) (by omega) fun l hl => by have := sd l hl; omega
theorem impl_IsCylinder_c (r : Rd h0 s 4 (tcs ts)) (rr : RdSS h0 q rows) (sz : ts.length ≤ 1048576) (szr : rows.length ≤ 1048576) (sd : ∀ l ∈ rows, l.length ≤ 1048576) :
    callV SP i_impl_IsCylinder [.agg (SetC c s), .sl q] h0 fun v h' => v = .tuple [.bool (F_IsCylinder_0 c ts rows), i64 (codeOf (setOK c ts) (Nums ts.length rows))] ∧ Ext h0 h' := by
  apply impl_IsCylinder_call
  unfold impl_IsCylinder_main
  refine newK_obj fun h1 o1 x1 n1 => ?_
  refine newO_var fun h2 v2 x2 n2 => ?_
  have o2 := o1.ext x2
  have x12 := x1.trans x2
  refine o2.ldA rfl ?_
  refine (setCode_c (r.ext x12) (by omega) _ _ (Nums ts.length rows) fun _ h x => ?_).to ?_
  · apply impl_IsCylinder_1_call
    unfold impl_IsCylinder_1_main
    refine (o2.ext x).ldA rfl ?_
    refine (v2.ext x).ldS ?_
    refine (areNumbers_1 (r.ext (x12.trans x)) (rr.ext (x12.trans x)) sz szr sd).to ?_
    exact fun b h' e => ⟨_, rfl, e⟩
  rintro n h3 ⟨rfl, x3⟩
  have X := x12.trans x3
  refine bif_ne (fun hq => ⟨?_, X⟩) (fun hq => ?_)
  · have := codeOf_cond hq
    unfold F_IsCylinder_0
    rw [bP_no fun f => this f.1]
  have hc := codeOf_zero hq
  refine (o2.ext x3).ldA rfl ?_
  refine (v2.ext x3).ldS ?_
  refine (isCylinder_c (r.ext X) (rr.ext X) hc.2).to ?_
  rintro b h4 ⟨hb, x4⟩
  refine ⟨?_, X.trans x4⟩
  rw [hq]
  unfold F_IsCylinder_0
  rw [bP_of (A := (setOK c ts ∧ Nums ts.length rows) ∧ Filling ts rows ∧ CylEnds ts rows) (hb.trans ⟨fun f => ⟨hc, f⟩, fun f => f.2⟩)]
theorem spec_IsCylinder_c (r : Rd h0 s 4 (tcs ts)) (rr : RdSS h0 q rows) (sz : ts.length ≤ 1048576) (szr : rows.length ≤ 1048576) (sd : ∀ l ∈ rows, l.length ≤ 1048576) :
    callV SP i_spec_IsCylinder [.agg (SetC c s), .sl q] h0 fun v h' => v = .tuple [.bool (F_IsCylinder_0 c ts rows), i64 (codeOf (setOK c ts) (Nums ts.length rows))] ∧ Ext h0 h' := by
  apply spec_IsCylinder_call
  unfold spec_IsCylinder_main
  refine newK_obj fun h1 o1 x1 n1 => ?_
  refine o1.ldA rfl ?_
  refine (l01Rows_c (r.ext x1) (rr.ext x1)).to ?_
  rintro n h3 ⟨rfl, x3⟩
  have X := x1.trans x3
  refine bif_ne (fun hq => ⟨?_, X⟩) (fun hq => ?_)
  · have := codeOf_cond hq
    unfold F_IsCylinder_0
    rw [bP_no fun f => this f.1]
  have hc := codeOf_zero hq
  rw [hq]
  have fin : ∀ {b : Bool} {h'}, (b = true ↔ Filling ts rows ∧ CylEnds ts rows) → Ext h0 h' → AVal.tuple [.bool b, i64 0] = .tuple [.bool (F_IsCylinder_0 c ts rows), i64 0] ∧ Ext h0 h' := fun {b h'} hb x => by
    refine ⟨?_, x⟩
    unfold F_IsCylinder_0
    rw [bP_of (A := (setOK c ts ∧ Nums ts.length rows) ∧ Filling ts rows ∧ CylEnds ts rows) (hb.trans ⟨fun f => ⟨hc, f⟩, fun f => f.2⟩)]
  refine (o1.ext x3).ldA rfl ?_
  refine (l01Good_c (r.ext X) (rr.ext X) hc.2).to ?_
  rintro b h4 ⟨hb, x4⟩
  refine bif_b (fun hbt => ?_) (fun hbf => fin ?_ (X.trans x4))
  · refine (o1.ext (x3.trans x4)).ldA rfl ?_
    refine (l05Cylinder_c (r.ext (X.trans x4)) (rr.ext (X.trans x4)) hc.2).to ?_
    rintro b' h5 ⟨hb', x5⟩
    exact fin (hb'.trans ⟨fun f => ⟨hb.1 hbt, f⟩, fun f => f.2⟩) ((X.trans x4).trans x5)
  · simp only [Bool.false_eq_true, false_iff]
    intro f
    rw [hb.2 f.1] at hbf; cases hbf
theorem impl_IsTorus_c (r : Rd h0 s 4 (tcs ts)) (rr : RdSS h0 q rows) (sz : ts.length ≤ 1048576) (szr : rows.length ≤ 1048576) (sd : ∀ l ∈ rows, l.length ≤ 1048576) :
    callV SP i_impl_IsTorus [.agg (SetC c s), .sl q] h0 fun v h' => v = .tuple [.bool (F_IsTorus_0 c ts rows), i64 (codeOf (setOK c ts) (Nums ts.length rows))] ∧ Ext h0 h' := by
  apply impl_IsTorus_call
  unfold impl_IsTorus_main
  refine newK_obj fun h1 o1 x1 n1 => ?_
  refine newO_var fun h2 v2 x2 n2 => ?_
  have o2 := o1.ext x2
  have x12 := x1.trans x2
  refine o2.ldA rfl ?_
  refine (setCode_c (r.ext x12) (by omega) _ _ (Nums ts.length rows) fun _ h x => ?_).to ?_
  · apply impl_IsTorus_1_call
    unfold impl_IsTorus_1_main
    refine (o2.ext x).ldA rfl ?_
    refine (v2.ext x).ldS ?_
    refine (areNumbers_1 (r.ext (x12.trans x)) (rr.ext (x12.trans x)) sz szr sd).to ?_
    exact fun b h' e => ⟨_, rfl, e⟩
  rintro n h3 ⟨rfl, x3⟩
  have X := x12.trans x3
  refine bif_ne (fun hq => ⟨?_, X⟩) (fun hq => ?_)
  · have := codeOf_cond hq
    unfold F_IsTorus_0
    rw [bP_no fun f => this f.1]
  have hc := codeOf_zero hq
  refine (o2.ext x3).ldA rfl ?_
  refine (v2.ext x3).ldS ?_
  refine (isTorus_c (r.ext X) (rr.ext X) hc.2).to ?_
  rintro b h4 ⟨hb, x4⟩
  refine ⟨?_, X.trans x4⟩
  rw [hq]
  unfold F_IsTorus_0
  rw [bP_of (A := (setOK c ts ∧ Nums ts.length rows) ∧ Filling ts rows ∧ CylEnds ts rows ∧ TorEnds ts rows) (hb.trans ⟨fun f => ⟨hc, f⟩, fun f => f.2⟩)]
theorem spec_IsTorus_c (r : Rd h0 s 4 (tcs ts)) (rr : RdSS h0 q rows) (sz : ts.length ≤ 1048576) (szr : rows.length ≤ 1048576) (sd : ∀ l ∈ rows, l.length ≤ 1048576) :
    callV SP i_spec_IsTorus [.agg (SetC c s), .sl q] h0 fun v h' => v = .tuple [.bool (F_IsTorus_0 c ts rows), i64 (codeOf (setOK c ts) (Nums ts.length rows))] ∧ Ext h0 h' := by
  apply spec_IsTorus_call
  unfold spec_IsTorus_main
  refine newK_obj fun h1 o1 x1 n1 => ?_
  refine o1.ldA rfl ?_
  refine (l01Rows_c (r.ext x1) (rr.ext x1)).to ?_
  rintro n h3 ⟨rfl, x3⟩
  have X := x1.trans x3
  refine bif_ne (fun hq => ⟨?_, X⟩) (fun hq => ?_)
  · have := codeOf_cond hq
    unfold F_IsTorus_0
    rw [bP_no fun f => this f.1]
  have hc := codeOf_zero hq
  rw [hq]
  refine (o1.ext x3).ldA rfl ?_
  refine (l05Torus_c (r.ext X) (rr.ext X) hc.2).to ?_
  rintro b h4 ⟨hb, x4⟩
  refine ⟨?_, X.trans x4⟩
  unfold F_IsTorus_0
  rw [bP_of (A := (setOK c ts ∧ Nums ts.length rows) ∧ Filling ts rows ∧ CylEnds ts rows ∧ TorEnds ts rows) (hb.trans ⟨fun f => ⟨hc, f⟩, fun f => f.2⟩)]
end
end Go.Proofs.Ytfmjjpophipfbaa.Cl
