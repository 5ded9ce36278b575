/- The law FnExactSamePlaces holds of all arguments. The statement itself stands in another text. -/
import Derived.Test.YtgeakkmpohjohaaFb1
set_option linter.unusedVariables false
set_option linter.unusedSimpArgs false
namespace Go.Proofs.Ytgeakkmpohjohaa.Cl
open Go
theorem law_SamePlaces {h : H} {c0 : Int} {s0 : Sl} {ts0 : List Tile} {q1 : Sl} {rs1 : List (List Int)} {q2 : Sl} {rs2 : List (List Int)} (r0 : Rd h s0 4 (tcs ts0)) (b0 : s0.len ≤ 9223372036854775807) (r1 : RdSS h q1 rs1) (b1 : q1.len ≤ 9223372036854775807) (d1 : ∀ l ∈ rs1, l.length ≤ 9223372036854775807) (r2 : RdSS h q2 rs2) (b2 : q2.len ≤ 9223372036854775807) (d2 : ∀ l ∈ rs2, l.length ≤ 9223372036854775807) : callB SP i_laws_FnExactSamePlaces [.agg (SetC c0 s0), .sl q1, .sl q2] h fun b h' => b = true := by
  apply laws_FnExactSamePlaces_call
  unfold laws_FnExactSamePlaces_main
  have E := Ext.refl h
  refine newK_obj fun a0 o0 y0 m0 => ?_
  replace E := E.trans y0
  have hL : (0 : Int) ≤ 1048576 ∧ (1048576 : Int) ≤ 1048576 := ⟨by omega, by omega⟩
  refine o0.ldA rfl ?_
  refine (szSet_k c0 s0 1048576 (by omega) hL.1 hL.2 _).to ?_
  rintro z0 g2 ⟨y1, hz⟩
  refine bif_dec (fun _ => ⟨_, rfl, rfl⟩) (fun hi => ?_)
  replace hz := hz.resolve_left hi
  replace E := E.trans y1
  replace o0 := o0.ext y1
  have u0 := r0.tlen
  have sz0 : ts0.length ≤ 1048576 := by omega
  have hL : 0 ≤ z0 ∧ z0 ≤ 1048576 := ⟨hz.2, by omega⟩
  refine (szInt64SS_k (r1.ext E) z0 hL.1 hL.2 (by omega) d1).to ?_
  rintro z1 g4 ⟨y3, hz⟩
  refine bif_dec (fun _ => ⟨_, rfl, rfl⟩) (fun hi => ?_)
  replace hz := hz.resolve_left hi
  replace E := E.trans y3
  replace o0 := o0.ext y3
  have u1 := r1.len
  have sz1 : rs1.length ≤ 1048576 := by omega
  have sl1 : sumLen rs1 ≤ 1048576 := by omega
  have sd1 : ∀ l ∈ rs1, l.length ≤ 1048576 := fun l hl => Nat.le_trans (sumLen_mem hl) sl1
  have hL : 0 ≤ z1 ∧ z1 ≤ 1048576 := ⟨hz.2, by omega⟩
  refine (szInt64SS_k (r2.ext E) z1 hL.1 hL.2 (by omega) d2).to ?_
  rintro z2 g6 ⟨y5, hz⟩
  refine bif_dec (fun _ => ⟨_, rfl, rfl⟩) (fun hi => ?_)
  replace hz := hz.resolve_left hi
  replace E := E.trans y5
  replace o0 := o0.ext y5
  have u2 := r2.len
  have sz2 : rs2.length ≤ 1048576 := by omega
  have sl2 : sumLen rs2 ≤ 1048576 := by omega
  have sd2 : ∀ l ∈ rs2, l.length ≤ 1048576 := fun l hl => Nat.le_trans (sumLen_mem hl) sl2
  have hL : 0 ≤ z2 ∧ z2 ≤ 1048576 := ⟨hz.2, by omega⟩
  refine o0.ldA rfl ?_
  refine (toSet_c (r0.ext E) sz0).to ?_
  rintro _ g8 ⟨t0, rfl, wt0, ft0, y7⟩
  replace E := E.trans y7
  replace o0 := o0.ext y7
  refine (toInt64SS_c (r1.ext E) sz1 sd1).to ?_
  rintro t1 g10 ⟨wt1, y9⟩
  replace E := E.trans y9
  replace o0 := o0.ext y9
  replace wt0 := wt0.ext y9
  refine (toInt64SS_c (r2.ext E) sz2 sd2).to ?_
  rintro t2 g12 ⟨wt2, y11⟩
  replace E := E.trans y11
  replace o0 := o0.ext y11
  replace wt0 := wt0.ext y11
  replace wt1 := wt1.ext y11
  refine (spec_SamePlaces_c wt0.rd wt1.rd wt2.rd sz0 sz1 sd1 sz2 sd2).to ?_
  rintro _ g14 ⟨w0, rfl, ww0, y13⟩
  refine ⟨_, rfl, _, rfl, ?_⟩
  refine ⟨_, rfl, _, rfl, ?_⟩
  replace E := E.trans y13
  replace o0 := o0.ext y13
  have EW := Ext.refl g14
  have EB := E
  have oB0 := o0
  refine o0.ldA rfl ?_
  refine (toSet_c (r0.ext E) sz0).to ?_
  rintro _ g16 ⟨x0, rfl, wx0, fx0, y15⟩
  refine newO_obj fun g18 ox0 y17 _ => ?_
  refine ox0.stA fun g20 oy0 bb19 _ => ?_
  have yy21 : Ext _ g20 := y17.but_ bb19 (some_le (Nat.le_refl _))
  replace wx0 := wx0.ext yy21
  have y22 := y15.trans yy21
  have lw0 := EW.len
  have ly0 := y22.len
  replace E := E.trans y22
  replace o0 := o0.ext y22
  replace EW := EW.trans y22
  have EX0 := Ext.refl g20
  have vx0 := wx0
  have le0_1 := EX0.len
  refine (toInt64SS_c (r1.ext E) sz1 sd1).to ?_
  rintro x1 g24 ⟨wx1, y23⟩
  have lw1 := EW.len
  have ly1 := y23.len
  replace E := E.trans y23
  replace o0 := o0.ext y23
  replace EW := EW.trans y23
  replace wx0 := wx0.ext y23
  replace oy0 := oy0.ext y23
  replace EX0 := EX0.trans y23
  have EX1 := Ext.refl g24
  have vx1 := wx1
  have le0_2 := EX0.len
  have le1_2 := EX1.len
  refine (toInt64SS_c (r2.ext E) sz2 sd2).to ?_
  rintro x2 g26 ⟨wx2, y25⟩
  have lw2 := EW.len
  have ly2 := y25.len
  replace E := E.trans y25
  replace o0 := o0.ext y25
  replace EW := EW.trans y25
  replace wx0 := wx0.ext y25
  replace wx1 := wx1.ext y25
  replace oy0 := oy0.ext y25
  replace EX0 := EX0.trans y25
  replace EX1 := EX1.trans y25
  have EX2 := Ext.refl g26
  have vx2 := wx2
  refine oy0.ldA rfl ?_
  have EX := EW
  have lX0 := EX0.len
  have lX1 := EX1.len
  have lX2 := EX2.len
  have oz0 := oy0
  have hs0 : (F_SamePlaces_0 c0 ts0 rs1 rs2).length < 1000000 ∧ sumLen (F_SamePlaces_0 c0 ts0 rs1 rs2) < 1000000 := SamePlaces_small0 sz0 sz1 sd1 sz2 sd2
  refine (impl_SamePlaces_c wx0.rd wx1.rd wx2.rd sz0 sz1 sd1 sz2 sd2).to ?_
  rintro _ g28 ⟨g0, rfl, wg0, y27⟩
  refine ⟨_, rfl, _, rfl, ?_⟩
  refine ⟨_, rfl, _, rfl, ?_⟩
  have EG := y27
  replace E := E.trans y27
  replace o0 := o0.ext y27
  replace EW := EW.trans y27
  replace wx0 := wx0.ext y27
  replace wx1 := wx1.ext y27
  replace wx2 := wx2.ext y27
  replace oy0 := oy0.ext y27
  replace EX0 := EX0.trans y27
  replace EX1 := EX1.trans y27
  replace EX2 := EX2.trans y27
  refine eqSS_yes (wg0.rd) (ww0.rd.ext EW) (by omega) (fun l hl => by have := sumLen_mem hl; omega) ?_
  refine bif_ne (fun hq => absurd rfl hq) (fun _ => ?_)
  refine oy0.ldA rfl ?_
  refine o0.ldA rfl ?_
  refine (toSet_c (r0.ext E) sz0).to ?_
  rintro _ g30 ⟨v0, rfl, wv0, _, y29⟩
  refine ⟨oy0.stays rfl y29, ?_⟩
  replace E := E.trans y29
  replace o0 := o0.ext y29
  replace EW := EW.trans y29
  replace wx0 := wx0.ext y29
  replace wx1 := wx1.ext y29
  replace wx2 := wx2.ext y29
  replace oy0 := oy0.ext y29
  replace EX0 := EX0.trans y29
  replace EX1 := EX1.trans y29
  replace EX2 := EX2.trans y29
  replace EG := EG.trans y29
  replace wg0 := wg0.ext y29
  refine eqSet_yes wx0.rd wv0.rd (by omega) fun g32 y31 => ?_
  replace E := E.trans y31
  replace o0 := o0.ext y31
  replace EW := EW.trans y31
  replace wx0 := wx0.ext y31
  replace wx1 := wx1.ext y31
  replace wx2 := wx2.ext y31
  replace oy0 := oy0.ext y31
  replace EX0 := EX0.trans y31
  replace EX1 := EX1.trans y31
  replace EX2 := EX2.trans y31
  replace EG := EG.trans y31
  replace wg0 := wg0.ext y31
  refine (toInt64SS_c (r1.ext E) sz1 sd1).to ?_
  rintro v1 g34 ⟨wv1, y33⟩
  replace E := E.trans y33
  replace o0 := o0.ext y33
  replace EW := EW.trans y33
  replace wx0 := wx0.ext y33
  replace wx1 := wx1.ext y33
  replace wx2 := wx2.ext y33
  replace oy0 := oy0.ext y33
  replace EX0 := EX0.trans y33
  replace EX1 := EX1.trans y33
  replace EX2 := EX2.trans y33
  replace EG := EG.trans y33
  replace wg0 := wg0.ext y33
  refine eqSS_yes wx1.rd wv1.rd (by omega) (fun l hl => by have := sd1 l hl; omega) ?_
  refine (toInt64SS_c (r2.ext E) sz2 sd2).to ?_
  rintro v2 g36 ⟨wv2, y35⟩
  replace E := E.trans y35
  replace o0 := o0.ext y35
  replace EW := EW.trans y35
  replace wx0 := wx0.ext y35
  replace wx1 := wx1.ext y35
  replace wx2 := wx2.ext y35
  replace oy0 := oy0.ext y35
  replace EX0 := EX0.trans y35
  replace EX1 := EX1.trans y35
  replace EX2 := EX2.trans y35
  replace EG := EG.trans y35
  replace wg0 := wg0.ext y35
  refine eqSS_yes wx2.rd wv2.rd (by omega) (fun l hl => by have := sd2 l hl; omega) ?_
  have nX := EX.len
  refine oy0.ldA rfl ?_
  have lx0 := wx0.rd.tlen
  obtain ⟨ll0, el0⟩ := tcs_ic' ts0
  rw [el0] at wx0
  refine (markSet_c wx0 _ (by omega) (by omega) (by omega)).to ?_
  rintro _ g37 ⟨rfl, _, c38⟩
  replace c38 := c38.to (Q := (fun i => g14.length ≤ i ∧ i < g20.length)) fun i _ e => ⟨fx0 i e, vx0.lt e⟩
  have cT1 : Chg (fun i => i < g20.length) g24 _ := ((EX1.chg _).trans (c38.to fun i _ e => by omega))
  replace wx1 := vx1.chg cT1 fun i h1 _ e => by omega
  refine (markInt64SS_c wx1 (vx1.top cT1 fun o h1 e => by omega) _ (by omega) (by omega) (by omega) (by omega)).to ?_
  rintro _ g39 ⟨rfl, _, c40, _⟩
  have cT2 : Chg (fun i => i < g24.length) g26 _ := (((EX2.chg _).trans (c38.to fun i _ e => by omega)).trans (c40.to fun i _ e => by omega))
  replace wx2 := vx2.chg cT2 fun i h1 _ e => by omega
  refine (markInt64SS_c wx2 (vx2.top cT2 fun o h1 e => by omega) _ (by omega) (by omega) (by omega) (by omega)).to ?_
  rintro _ g41 ⟨rfl, _, c42, _⟩
  refine bif_dec (fun hq => by omega) (fun _ => ?_)
  have lz0 : g20.length ≤ g26.length := by first | exact lX0 | omega
  have lz1 : g24.length ≤ g26.length := by first | exact lX1 | omega
  have lz2 : g26.length ≤ g26.length := by first | exact lX2 | omega
  have cM : Chg (fun i => g14.length ≤ i ∧ i < g26.length) _ _ := (((c38.to (Q := fun i => g14.length ≤ i ∧ i < g26.length) fun i _ e => by omega).trans (c40.to (Q := fun i => g14.length ≤ i ∧ i < g26.length) fun i _ e => by omega)).trans (c42.to (Q := fun i => g14.length ≤ i ∧ i < g26.length) fun i _ e => by omega))
  replace EW := EW.chg_ cM fun i e => e.1
  replace E := EB.trans EW
  replace o0 := oB0.ext EW
  replace wg0 := wg0.chg cM fun i h1 _ e => by omega
  refine eqSS_yes (wg0.rd) (ww0.rd.ext EW) (by omega) (fun l hl => by have := sumLen_mem hl; omega) ?_
  refine bif_ne (fun hq => absurd rfl hq) (fun _ => ?_)
  refine (markInt64SS_c wg0 (wg0.top ((Ext.refl _).chg fun _ => False) fun _ _ f => f) 1 (by omega) (by omega) (by omega) (by omega)).to ?_
  rintro _ g43 ⟨rfl, wm0, c44, _⟩
  replace EW := EW.chg_ c44 fun i e => by omega
  replace E := EB.trans EW
  replace o0 := oB0.ext EW
  refine heldSS_yes 1 (by omega) (by omega) wm0.rd (by omega) (by omega) ?_
  refine bif_ne (fun hq => absurd rfl hq) (fun _ => ?_)
  refine o0.ldA rfl ?_
  refine (toSet_c (r0.ext E) sz0).to ?_
  rintro _ g46 ⟨k0, rfl, wk0, fk0, y45⟩
  replace E := E.trans y45
  replace o0 := o0.ext y45
  replace EW := EW.trans y45
  replace wm0 := wm0.ext y45
  refine (toInt64SS_c (r1.ext E) sz1 sd1).to ?_
  rintro k1 g48 ⟨wk1, y47⟩
  replace E := E.trans y47
  replace o0 := o0.ext y47
  replace EW := EW.trans y47
  replace wm0 := wm0.ext y47
  replace wk0 := wk0.ext y47
  refine (toInt64SS_c (r2.ext E) sz2 sd2).to ?_
  rintro k2 g50 ⟨wk2, y49⟩
  replace E := E.trans y49
  replace o0 := o0.ext y49
  replace EW := EW.trans y49
  replace wm0 := wm0.ext y49
  replace wk0 := wk0.ext y49
  replace wk1 := wk1.ext y49
  refine (impl_SamePlaces_c wk0.rd wk1.rd wk2.rd sz0 sz1 sd1 sz2 sd2).to ?_
  rintro _ g52 ⟨h0, rfl, wh0, y51⟩
  refine ⟨_, rfl, _, rfl, ?_⟩
  refine ⟨_, rfl, _, rfl, ?_⟩
  replace E := E.trans y51
  replace o0 := o0.ext y51
  replace EW := EW.trans y51
  replace wm0 := wm0.ext y51
  refine eqSS_yes (wh0.rd) (ww0.rd.ext EW) (by omega) (fun l hl => by have := sumLen_mem hl; omega) ?_
  refine bif_ne (fun hq => absurd rfl hq) (fun _ => ?_)
  refine heldSS_yes 1 (by omega) (by omega) wm0.rd (by omega) (by omega) ?_
  refine bif_ne (fun hq => absurd rfl hq) (fun _ => ⟨_, rfl, rfl⟩)
set_option maxRecDepth 100000 in
theorem law_SamePlaces_in (h : H) (xs : List AVal) (hl : xs.length = Try.f4.params.toList.length) (ha : ∀ (i : Nat) t a, Try.f4.params.toList[i]? = some t → xs[i]? = some a → ArgIs Try.prog h t a) : callB (Sat Try.prog) 4 xs h fun b _ => b = true := by
  rw [show Try.f4.params.toList.length = 3 by kernel_rfl] at hl
  match xs, hl with
  | [e0, e1, e2], _ =>
    obtain ⟨k0, pd0, dd0, rfl⟩ := ha 0 24 e0 (by kernel_rfl) rfl
    obtain ⟨c0, s0, ts0, rfl, r0, b0⟩ := arg_set (c := 2) (u := 22) (v := 67) (e := 2) (by kernel_rfl) (by kernel_rfl) (by kernel_rfl) (by kernel_rfl) (by kernel_rfl) (by kernel_rfl) dd0
    obtain ⟨k1, pd1, dd1, rfl⟩ := ha 1 25 e1 (by kernel_rfl) rfl
    obtain ⟨q1, rs1, rfl, r1, b1, d1⟩ := arg_rows (u := 28) (e := 2) (by kernel_rfl) (by kernel_rfl) (by kernel_rfl) (by kernel_rfl) (by kernel_rfl) dd1
    obtain ⟨k2, pd2, dd2, rfl⟩ := ha 2 25 e2 (by kernel_rfl) rfl
    obtain ⟨q2, rs2, rfl, r2, b2, d2⟩ := arg_rows (u := 28) (e := 2) (by kernel_rfl) (by kernel_rfl) (by kernel_rfl) (by kernel_rfl) (by kernel_rfl) dd2
    rw [show argV Try.prog 24 (SetC c0 s0) = .agg (SetC c0 s0) by kernel_rfl]
    rw [show argV Try.prog 25 [.sl q1] = .sl q1 by kernel_rfl]
    rw [show argV Try.prog 25 [.sl q2] = .sl q2 by kernel_rfl]
    exact law_SamePlaces r0 b0 r1 b1 d1 r2 b2 d2
end Go.Proofs.Ytgeakkmpohjohaa.Cl
