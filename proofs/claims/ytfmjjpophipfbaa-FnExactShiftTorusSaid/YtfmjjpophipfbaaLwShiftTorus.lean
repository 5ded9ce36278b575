/- The law FnExactShiftTorus holds of all arguments. The statement itself stands in another text. -/
import Derived.Test.YtfmjjpophipfbaaMh
import Derived.Test.YtfmjjpophipfbaaMl
import Derived.Test.YtfmjjpophipfbaaMz
set_option linter.unusedVariables false
set_option linter.unusedSimpArgs false
namespace Go.Proofs.Ytfmjjpophipfbaa.Cl
open Go
theorem law_ShiftTorus {h : H} {c0 : Int} {s0 : Sl} {ts0 : List Tile} {q1 : Sl} {rs1 : List (List Int)} {n2 : Int} {n3 : Int} (r0 : Rd h s0 4 (tcs ts0)) (b0 : s0.len ≤ 9223372036854775807) (r1 : RdSS h q1 rs1) (b1 : q1.len ≤ 9223372036854775807) (d1 : ∀ l ∈ rs1, l.length ≤ 9223372036854775807) (b2 : i64ok n2) (b3 : i64ok n3) : callB SP i_laws_FnExactShiftTorus [.agg (SetC c0 s0), .sl q1, i64 n2, i64 n3] h fun b h' => b = true := by
  apply laws_FnExactShiftTorus_call
  unfold laws_FnExactShiftTorus_main
  have E := Ext.refl h
  refine newK_obj fun a0 o0 y0 m0 => ?_
  replace E := E.trans y0
  have hL : (0 : Int) ≤ 1048576 ∧ (1048576 : Int) ≤ 1048576 := ⟨by omega, by omega⟩
  refine o0.ldA rfl ?_
  refine (szSet_k c0 s0 1048576 (by omega) hL.1 hL.2 _).to ?_
  rintro z0 g2 ⟨y1, hz⟩
  refine bif_dec (fun _ => ⟨_, rfl, rfl⟩) (fun hi => ?_)
  replace hz := hz.resolve_left hi
  replace E := E.trans y1
  replace o0 := o0.ext y1
  have u0 := r0.tlen
  have sz0 : ts0.length ≤ 1048576 := by omega
  have hL : 0 ≤ z0 ∧ z0 ≤ 1048576 := ⟨hz.2, by omega⟩
  refine (szInt64SS_k (r1.ext E) z0 hL.1 hL.2 (by omega) d1).to ?_
  rintro z1 g4 ⟨y3, hz⟩
  refine bif_dec (fun _ => ⟨_, rfl, rfl⟩) (fun hi => ?_)
  replace hz := hz.resolve_left hi
  replace E := E.trans y3
  replace o0 := o0.ext y3
  have u1 := r1.len
  have sz1 : rs1.length ≤ 1048576 := by omega
  have sl1 : sumLen rs1 ≤ 1048576 := by omega
  have sd1 : ∀ l ∈ rs1, l.length ≤ 1048576 := fun l hl => Nat.le_trans (sumLen_mem hl) sl1
  have hL : 0 ≤ z1 ∧ z1 ≤ 1048576 := ⟨hz.2, by omega⟩
  refine o0.ldA rfl ?_
  refine (toSet_c (r0.ext E) sz0).to ?_
  rintro _ g6 ⟨t0, rfl, wt0, ft0, y5⟩
  replace E := E.trans y5
  replace o0 := o0.ext y5
  refine (toInt64SS_c (r1.ext E) sz1 sd1).to ?_
  rintro t1 g8 ⟨wt1, y7⟩
  replace E := E.trans y7
  replace o0 := o0.ext y7
  replace wt0 := wt0.ext y7
  refine (spec_ShiftTorus_c wt0.rd wt1.rd sz0 sz1 sd1 b2 b3).to ?_
  rintro _ g10 ⟨w0, rfl, ww0, y9⟩
  refine ⟨_, rfl, _, rfl, ?_⟩
  refine ⟨_, rfl, _, rfl, ?_⟩
  replace E := E.trans y9
  replace o0 := o0.ext y9
  have EW := Ext.refl g10
  have EB := E
  have oB0 := o0
  refine o0.ldA rfl ?_
  refine (toSet_c (r0.ext E) sz0).to ?_
  rintro _ g12 ⟨x0, rfl, wx0, fx0, y11⟩
  refine newO_obj fun g14 ox0 y13 _ => ?_
  refine ox0.stA fun g16 oy0 bb15 _ => ?_
  have yy17 : Ext _ g16 := y13.but_ bb15 (some_le (Nat.le_refl _))
  replace wx0 := wx0.ext yy17
  have y18 := y11.trans yy17
  have lw0 := EW.len
  have ly0 := y18.len
  replace E := E.trans y18
  replace o0 := o0.ext y18
  replace EW := EW.trans y18
  have EX0 := Ext.refl g16
  have vx0 := wx0
  have le0_1 := EX0.len
  refine (toInt64SS_c (r1.ext E) sz1 sd1).to ?_
  rintro x1 g20 ⟨wx1, y19⟩
  have lw1 := EW.len
  have ly1 := y19.len
  replace E := E.trans y19
  replace o0 := o0.ext y19
  replace EW := EW.trans y19
  replace wx0 := wx0.ext y19
  replace oy0 := oy0.ext y19
  replace EX0 := EX0.trans y19
  have EX1 := Ext.refl g20
  have vx1 := wx1
  refine oy0.ldA rfl ?_
  have EX := EW
  have lX0 := EX0.len
  have lX1 := EX1.len
  have oz0 := oy0
  have hs0 : (F_ShiftTorus_0 c0 ts0 rs1 n2 n3).length < 1000000 ∧ sumLen (F_ShiftTorus_0 c0 ts0 rs1 n2 n3) < 1000000 := ShiftTorus_small0 sz0 sz1 sd1 b2 b3
  refine (impl_ShiftTorus_c wx0.rd wx1.rd sz0 sz1 sd1 b2 b3).to ?_
  rintro _ g22 ⟨g0, rfl, wg0, y21⟩
  refine ⟨_, rfl, _, rfl, ?_⟩
  refine ⟨_, rfl, _, rfl, ?_⟩
  have EG := y21
  replace E := E.trans y21
  replace o0 := o0.ext y21
  replace EW := EW.trans y21
  replace wx0 := wx0.ext y21
  replace wx1 := wx1.ext y21
  replace oy0 := oy0.ext y21
  replace EX0 := EX0.trans y21
  replace EX1 := EX1.trans y21
  refine eqSS_yes (wg0.rd) (ww0.rd.ext EW) (by omega) (fun l hl => by have := sumLen_mem hl; omega) ?_
  refine bif_ne (fun hq => absurd rfl hq) (fun _ => ?_)
  refine oy0.ldA rfl ?_
  refine o0.ldA rfl ?_
  refine (toSet_c (r0.ext E) sz0).to ?_
  rintro _ g24 ⟨v0, rfl, wv0, _, y23⟩
  refine ⟨oy0.stays rfl y23, ?_⟩
  replace E := E.trans y23
  replace o0 := o0.ext y23
  replace EW := EW.trans y23
  replace wx0 := wx0.ext y23
  replace wx1 := wx1.ext y23
  replace oy0 := oy0.ext y23
  replace EX0 := EX0.trans y23
  replace EX1 := EX1.trans y23
  replace EG := EG.trans y23
  replace wg0 := wg0.ext y23
  refine eqSet_yes wx0.rd wv0.rd (by omega) fun g26 y25 => ?_
  replace E := E.trans y25
  replace o0 := o0.ext y25
  replace EW := EW.trans y25
  replace wx0 := wx0.ext y25
  replace wx1 := wx1.ext y25
  replace oy0 := oy0.ext y25
  replace EX0 := EX0.trans y25
  replace EX1 := EX1.trans y25
  replace EG := EG.trans y25
  replace wg0 := wg0.ext y25
  refine (toInt64SS_c (r1.ext E) sz1 sd1).to ?_
  rintro v1 g28 ⟨wv1, y27⟩
  replace E := E.trans y27
  replace o0 := o0.ext y27
  replace EW := EW.trans y27
  replace wx0 := wx0.ext y27
  replace wx1 := wx1.ext y27
  replace oy0 := oy0.ext y27
  replace EX0 := EX0.trans y27
  replace EX1 := EX1.trans y27
  replace EG := EG.trans y27
  replace wg0 := wg0.ext y27
  refine eqSS_yes wx1.rd wv1.rd (by omega) (fun l hl => by have := sd1 l hl; omega) ?_
  have nX := EX.len
  refine oy0.ldA rfl ?_
  have lx0 := wx0.rd.tlen
  obtain ⟨ll0, el0⟩ := tcs_ic' ts0
  rw [el0] at wx0
  refine (markSet_c wx0 _ (by omega) (by omega) (by omega)).to ?_
  rintro _ g29 ⟨rfl, _, c30⟩
  replace c30 := c30.to (Q := (fun i => g10.length ≤ i ∧ i < g16.length)) fun i _ e => ⟨fx0 i e, vx0.lt e⟩
  have cT1 : Chg (fun i => i < g16.length) g20 _ := (EX1.chg _).trans (c30.to fun i _ e => by omega)
  replace wx1 := vx1.chg cT1 fun i h1 _ e => by omega
  refine (markInt64SS_c wx1 (vx1.top cT1 fun o h1 e => by omega) _ (by omega) (by omega) (by omega) (by omega)).to ?_
  rintro _ g31 ⟨rfl, _, c32, _⟩
  refine bif_dec (fun hq => by omega) (fun _ => ?_)
  have lz0 : g16.length ≤ g20.length := by first | exact lX0 | omega
  have lz1 : g20.length ≤ g20.length := by first | exact lX1 | omega
  have cM : Chg (fun i => g10.length ≤ i ∧ i < g20.length) _ _ := ((c30.to (Q := fun i => g10.length ≤ i ∧ i < g20.length) fun i _ e => by omega).trans (c32.to (Q := fun i => g10.length ≤ i ∧ i < g20.length) fun i _ e => by omega))
  replace EW := EW.chg_ cM fun i e => e.1
  replace E := EB.trans EW
  replace o0 := oB0.ext EW
  replace wg0 := wg0.chg cM fun i h1 _ e => by omega
  refine eqSS_yes (wg0.rd) (ww0.rd.ext EW) (by omega) (fun l hl => by have := sumLen_mem hl; omega) ?_
  refine bif_ne (fun hq => absurd rfl hq) (fun _ => ?_)
  refine (markInt64SS_c wg0 (wg0.top ((Ext.refl _).chg fun _ => False) fun _ _ f => f) 1 (by omega) (by omega) (by omega) (by omega)).to ?_
  rintro _ g33 ⟨rfl, wm0, c34, _⟩
  replace EW := EW.chg_ c34 fun i e => by omega
  replace E := EB.trans EW
  replace o0 := oB0.ext EW
  refine heldSS_yes 1 (by omega) (by omega) wm0.rd (by omega) (by omega) ?_
  refine bif_ne (fun hq => absurd rfl hq) (fun _ => ?_)
  refine o0.ldA rfl ?_
  refine (toSet_c (r0.ext E) sz0).to ?_
  rintro _ g36 ⟨k0, rfl, wk0, fk0, y35⟩
  replace E := E.trans y35
  replace o0 := o0.ext y35
  replace EW := EW.trans y35
  replace wm0 := wm0.ext y35
  refine (toInt64SS_c (r1.ext E) sz1 sd1).to ?_
  rintro k1 g38 ⟨wk1, y37⟩
  replace E := E.trans y37
  replace o0 := o0.ext y37
  replace EW := EW.trans y37
  replace wm0 := wm0.ext y37
  replace wk0 := wk0.ext y37
  refine (impl_ShiftTorus_c wk0.rd wk1.rd sz0 sz1 sd1 b2 b3).to ?_
  rintro _ g40 ⟨h0, rfl, wh0, y39⟩
  refine ⟨_, rfl, _, rfl, ?_⟩
  refine ⟨_, rfl, _, rfl, ?_⟩
  replace E := E.trans y39
  replace o0 := o0.ext y39
  replace EW := EW.trans y39
  replace wm0 := wm0.ext y39
  refine eqSS_yes (wh0.rd) (ww0.rd.ext EW) (by omega) (fun l hl => by have := sumLen_mem hl; omega) ?_
  refine bif_ne (fun hq => absurd rfl hq) (fun _ => ?_)
  refine heldSS_yes 1 (by omega) (by omega) wm0.rd (by omega) (by omega) ?_
  refine bif_ne (fun hq => absurd rfl hq) (fun _ => ⟨_, rfl, rfl⟩)
set_option maxRecDepth 100000 in
theorem law_ShiftTorus_in (h : H) (xs : List AVal) (hl : xs.length = Try.f11.params.toList.length) (ha : ∀ (i : Nat) t a, Try.f11.params.toList[i]? = some t → xs[i]? = some a → ArgIs Try.prog h t a) : callB (Sat Try.prog) 11 xs h fun b _ => b = true := by
  rw [show Try.f11.params.toList.length = 4 by kernel_rfl] at hl
  match xs, hl with
  | [e0, e1, e2, e3], _ =>
    obtain ⟨k0, pd0, dd0, rfl⟩ := ha 0 24 e0 (by kernel_rfl) rfl
    obtain ⟨c0, s0, ts0, rfl, r0, b0⟩ := arg_set (c := 2) (u := 22) (v := 88) (e := 2) (by kernel_rfl) (by kernel_rfl) (by kernel_rfl) (by kernel_rfl) (by kernel_rfl) (by kernel_rfl) dd0
    obtain ⟨k1, pd1, dd1, rfl⟩ := ha 1 34 e1 (by kernel_rfl) rfl
    obtain ⟨q1, rs1, rfl, r1, b1, d1⟩ := arg_rows (u := 52) (e := 2) (by kernel_rfl) (by kernel_rfl) (by kernel_rfl) (by kernel_rfl) (by kernel_rfl) dd1
    obtain ⟨k2, pd2, dd2, rfl⟩ := ha 2 2 e2 (by kernel_rfl) rfl
    obtain ⟨n2, rfl, b2⟩ := arg_int (by kernel_rfl) dd2
    obtain ⟨k3, pd3, dd3, rfl⟩ := ha 3 2 e3 (by kernel_rfl) rfl
    obtain ⟨n3, rfl, b3⟩ := arg_int (by kernel_rfl) dd3
    rw [show argV Try.prog 24 (SetC c0 s0) = .agg (SetC c0 s0) by kernel_rfl]
    rw [show argV Try.prog 34 [.sl q1] = .sl q1 by kernel_rfl]
    rw [show argV Try.prog 2 [i64 n2] = i64 n2 by kernel_rfl]
    rw [show argV Try.prog 2 [i64 n3] = i64 n3 by kernel_rfl]
    exact law_ShiftTorus r0 b0 r1 b1 d1 b2 b3
end Go.Proofs.Ytfmjjpophipfbaa.Cl
