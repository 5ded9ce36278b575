/- The law FnExactSplitRow holds of all arguments. The statement itself stands in another text. -/
import Derived.Test.YtlbglfgienklfaaFb1
import Derived.Test.YtlbglfgienklfaaFb0
set_option linter.unusedVariables false
set_option linter.unusedSimpArgs false
namespace Go.Proofs.Ytlbglfgienklfaa.Cl
open Go
theorem law_SplitRow {h : H} {c0 : Int} {s0 : Sl} {ts0 : List Tile} {c1 : Int} {s1 : Sl} {ts1 : List Tile} {q2 : Sl} {l2 : List Int} (r0 : Rd h s0 4 (tcs ts0)) (b0 : s0.len ≤ 9223372036854775807) (r1 : Rd h s1 4 (tcs ts1)) (b1 : s1.len ≤ 9223372036854775807) (r2 : Rd h q2 1 (ic l2)) (b2 : q2.len ≤ 9223372036854775807) : callB SP i_laws_FnExactSplitRow [.agg (SetC c0 s0), .agg (SetC c1 s1), .sl q2] h fun b h' => b = true := by
  apply laws_FnExactSplitRow_call
  unfold laws_FnExactSplitRow_main
  have E := Ext.refl h
  refine newK_obj fun a0 o0 y0 m0 => ?_
  replace E := E.trans y0
  refine newK_obj fun a1 o1 y1 m1 => ?_
  replace E := E.trans y1
  replace o0 := o0.ext y1
  refine bif_dec (fun _ => ⟨_, rfl, rfl⟩) (fun hi2 => ?_)
  have u2 := r2.ilen
  have sz2 : l2.length ≤ 1048576 := by omega
  have hL : (0 : Int) ≤ 1048576 ∧ (1048576 : Int) ≤ 1048576 := ⟨by omega, by omega⟩
  refine o0.ldA rfl ?_
  refine (szSet_k c0 s0 1048576 (by omega) hL.1 hL.2 _).to ?_
  rintro z0 g2 ⟨y1, hz⟩
  refine bif_dec (fun _ => ⟨_, rfl, rfl⟩) (fun hi => ?_)
  replace hz := hz.resolve_left hi
  replace E := E.trans y1
  replace o0 := o0.ext y1
  replace o1 := o1.ext y1
  have u0 := r0.tlen
  have sz0 : ts0.length ≤ 1048576 := by omega
  have hL : 0 ≤ z0 ∧ z0 ≤ 1048576 := ⟨hz.2, by omega⟩
  refine o1.ldA rfl ?_
  refine (szSet_k c1 s1 z0 (by omega) hL.1 hL.2 _).to ?_
  rintro z1 g4 ⟨y3, hz⟩
  refine bif_dec (fun _ => ⟨_, rfl, rfl⟩) (fun hi => ?_)
  replace hz := hz.resolve_left hi
  replace E := E.trans y3
  replace o0 := o0.ext y3
  replace o1 := o1.ext y3
  have u1 := r1.tlen
  have sz1 : ts1.length ≤ 1048576 := by omega
  have hL : 0 ≤ z1 ∧ z1 ≤ 1048576 := ⟨hz.2, by omega⟩
  have c1' := o1
  refine o0.ldA rfl ?_
  refine (toSet_c (r0.ext E) sz0).to ?_
  rintro _ g8 ⟨t0, rfl, wt0, ft0, y7⟩
  replace E := E.trans y7
  replace o0 := o0.ext y7
  replace o1 := o1.ext y7
  refine o1.ldA rfl ⟨Obj.sameR c1' o1 rfl, ?_⟩
  refine (toSet_c (r1.ext E) sz1).to ?_
  rintro _ g10 ⟨t1, rfl, wt1, ft1, y9⟩
  replace E := E.trans y9
  replace o0 := o0.ext y9
  replace o1 := o1.ext y9
  replace wt0 := wt0.ext y9
  refine (toInt64S_c (r2.ext E) sz2).to ?_
  rintro t2 g12 ⟨wt2, ft2, y11⟩
  replace E := E.trans y11
  replace o0 := o0.ext y11
  replace o1 := o1.ext y11
  replace wt0 := wt0.ext y11
  replace wt1 := wt1.ext y11
  refine (spec_SplitRow_c wt0.rd wt1.rd wt2.rd sz0 sz1 sz2).to ?_
  rintro _ g14 ⟨w0, w1, rfl, ww0, fw0, ww1, fw1, _, y13⟩
  refine ⟨_, rfl, _, rfl, ?_⟩
  refine ⟨_, rfl, _, rfl, ?_⟩
  refine ⟨_, rfl, _, rfl, ?_⟩
  replace E := E.trans y13
  replace o0 := o0.ext y13
  replace o1 := o1.ext y13
  have EW := Ext.refl g14
  have EB := E
  have oB0 := o0
  have oB1 := o1
  refine o0.ldA rfl ?_
  refine (toSet_c (r0.ext E) sz0).to ?_
  rintro _ g16 ⟨x0, rfl, wx0, fx0, y15⟩
  refine newO_obj fun g18 ox0 y17 _ => ?_
  refine ox0.stA fun g20 oy0 bb19 _ => ?_
  have yy21 : Ext _ g20 := y17.but_ bb19 (some_le (Nat.le_refl _))
  replace wx0 := wx0.ext yy21
  have y22 := y15.trans yy21
  have lw0 := EW.len
  have ly0 := y22.len
  replace E := E.trans y22
  replace o0 := o0.ext y22
  replace o1 := o1.ext y22
  replace EW := EW.trans y22
  have EX0 := Ext.refl g20
  have vx0 := wx0
  have le0_1 := EX0.len
  refine o1.ldA rfl ?_
  refine (toSet_c (r1.ext E) sz1).to ?_
  rintro _ g24 ⟨x1, rfl, wx1, fx1, y23⟩
  refine newO_obj fun g26 ox1 y25 _ => ?_
  refine ox1.stA fun g28 oy1 bb27 _ => ?_
  have yy29 : Ext _ g28 := y25.but_ bb27 (some_le (Nat.le_refl _))
  replace wx1 := wx1.ext yy29
  have y30 := y23.trans yy29
  have lw1 := EW.len
  have ly1 := y30.len
  replace E := E.trans y30
  replace o0 := o0.ext y30
  replace o1 := o1.ext y30
  replace EW := EW.trans y30
  replace wx0 := wx0.ext y30
  replace oy0 := oy0.ext y30
  replace EX0 := EX0.trans y30
  have EX1 := Ext.refl g28
  have vx1 := wx1
  have oz1 := oy1
  have le0_2 := EX0.len
  have le1_2 := EX1.len
  refine (toInt64S_c (r2.ext E) sz2).to ?_
  rintro x2 g32 ⟨wx2, fx2, y31⟩
  have lw2 := EW.len
  have ly2 := y31.len
  replace E := E.trans y31
  replace o0 := o0.ext y31
  replace o1 := o1.ext y31
  replace EW := EW.trans y31
  replace wx0 := wx0.ext y31
  replace wx1 := wx1.ext y31
  replace oy0 := oy0.ext y31
  replace oy1 := oy1.ext y31
  replace EX0 := EX0.trans y31
  replace EX1 := EX1.trans y31
  have EX2 := Ext.refl g32
  have vx2 := wx2
  refine oy0.ldA rfl ?_
  refine oy1.ldA rfl ?_
  have EX := EW
  have lX0 := EX0.len
  have lX1 := EX1.len
  have lX2 := EX2.len
  have oz0 := oy0
  have hs0 : (F_SplitRow_0 c0 ts0 c1 ts1 l2).length < 1000000 := SplitRow_small0 sz0 sz1 sz2
  have hs1 : (F_SplitRow_1 c0 ts0 c1 ts1 l2).length < 1000000 := SplitRow_small1 sz0 sz1 sz2
  refine (impl_SplitRow_c wx0.rd wx1.rd wx2.rd sz0 sz1 sz2).to ?_
  rintro _ g34 ⟨g0, g1, rfl, wg0, fg0, wg1, fg1, dg, y33⟩
  refine ⟨_, rfl, _, rfl, ?_⟩
  refine ⟨_, rfl, _, rfl, ?_⟩
  refine ⟨_, rfl, _, rfl, ?_⟩
  have EG := y33
  have dA : g0.o ≠ g1.o ∨ g0.o = none := by
    cases hq : g0.o with
    | none => exact .inr rfl
    | some o => exact .inl fun e => dg o hq e.symm
  have dB : g1.o ≠ g0.o ∨ g1.o = none := by
    cases hq : g1.o with
    | none => exact .inr rfl
    | some o => exact .inl fun e => dg o e.symm hq
  replace E := E.trans y33
  replace o0 := o0.ext y33
  replace o1 := o1.ext y33
  replace EW := EW.trans y33
  replace wx0 := wx0.ext y33
  replace wx1 := wx1.ext y33
  replace wx2 := wx2.ext y33
  replace oy0 := oy0.ext y33
  replace oy1 := oy1.ext y33
  replace EX0 := EX0.trans y33
  replace EX1 := EX1.trans y33
  replace EX2 := EX2.trans y33
  refine eqS_yes (wg0.rd) (ww0.rd.ext EW) (by omega) ?_
  refine eqS_yes (wg1.rd) (ww1.rd.ext EW) (by omega) ?_
  refine bif_ne (fun hq => absurd rfl hq) (fun _ => ?_)
  refine oy0.ldA rfl ?_
  refine o0.ldA rfl ?_
  refine (toSet_c (r0.ext E) sz0).to ?_
  rintro _ g36 ⟨v0, rfl, wv0, _, y35⟩
  refine ⟨oy0.stays rfl y35, ?_⟩
  replace E := E.trans y35
  replace o0 := o0.ext y35
  replace o1 := o1.ext y35
  replace EW := EW.trans y35
  replace wx0 := wx0.ext y35
  replace wx1 := wx1.ext y35
  replace wx2 := wx2.ext y35
  replace oy0 := oy0.ext y35
  replace oy1 := oy1.ext y35
  replace EX0 := EX0.trans y35
  replace EX1 := EX1.trans y35
  replace EX2 := EX2.trans y35
  replace EG := EG.trans y35
  replace wg0 := wg0.ext y35
  replace wg1 := wg1.ext y35
  refine eqSet_yes wx0.rd wv0.rd (by omega) fun g38 y37 => ?_
  replace E := E.trans y37
  replace o0 := o0.ext y37
  replace o1 := o1.ext y37
  replace EW := EW.trans y37
  replace wx0 := wx0.ext y37
  replace wx1 := wx1.ext y37
  replace wx2 := wx2.ext y37
  replace oy0 := oy0.ext y37
  replace oy1 := oy1.ext y37
  replace EX0 := EX0.trans y37
  replace EX1 := EX1.trans y37
  replace EX2 := EX2.trans y37
  replace EG := EG.trans y37
  replace wg0 := wg0.ext y37
  replace wg1 := wg1.ext y37
  refine oy1.ldA rfl ?_
  refine o1.ldA rfl ?_
  refine (toSet_c (r1.ext E) sz1).to ?_
  rintro _ g40 ⟨v1, rfl, wv1, _, y39⟩
  refine ⟨oy1.stays rfl y39, ?_⟩
  replace E := E.trans y39
  replace o0 := o0.ext y39
  replace o1 := o1.ext y39
  replace EW := EW.trans y39
  replace wx0 := wx0.ext y39
  replace wx1 := wx1.ext y39
  replace wx2 := wx2.ext y39
  replace oy0 := oy0.ext y39
  replace oy1 := oy1.ext y39
  replace EX0 := EX0.trans y39
  replace EX1 := EX1.trans y39
  replace EX2 := EX2.trans y39
  replace EG := EG.trans y39
  replace wg0 := wg0.ext y39
  replace wg1 := wg1.ext y39
  refine eqSet_yes wx1.rd wv1.rd (by omega) fun g42 y41 => ?_
  replace E := E.trans y41
  replace o0 := o0.ext y41
  replace o1 := o1.ext y41
  replace EW := EW.trans y41
  replace wx0 := wx0.ext y41
  replace wx1 := wx1.ext y41
  replace wx2 := wx2.ext y41
  replace oy0 := oy0.ext y41
  replace oy1 := oy1.ext y41
  replace EX0 := EX0.trans y41
  replace EX1 := EX1.trans y41
  replace EX2 := EX2.trans y41
  replace EG := EG.trans y41
  replace wg0 := wg0.ext y41
  replace wg1 := wg1.ext y41
  refine (toInt64S_c (r2.ext E) sz2).to ?_
  rintro v2 g44 ⟨wv2, _, y43⟩
  replace E := E.trans y43
  replace o0 := o0.ext y43
  replace o1 := o1.ext y43
  replace EW := EW.trans y43
  replace wx0 := wx0.ext y43
  replace wx1 := wx1.ext y43
  replace wx2 := wx2.ext y43
  replace oy0 := oy0.ext y43
  replace oy1 := oy1.ext y43
  replace EX0 := EX0.trans y43
  replace EX1 := EX1.trans y43
  replace EX2 := EX2.trans y43
  replace EG := EG.trans y43
  replace wg0 := wg0.ext y43
  replace wg1 := wg1.ext y43
  refine eqS_yes wx2.rd wv2.rd (by omega) ?_
  have nX := EX.len
  refine oy0.ldA rfl ?_
  have lx0 := wx0.rd.tlen
  obtain ⟨ll0, el0⟩ := tcs_ic' ts0
  rw [el0] at wx0
  refine (markSet_c wx0 _ (by omega) (by omega) (by omega)).to ?_
  rintro _ g45 ⟨rfl, _, c46⟩
  replace c46 := c46.to (Q := (fun i => g14.length ≤ i ∧ i < g20.length)) fun i _ e => ⟨fx0 i e, vx0.lt e⟩
  have cT1 : Chg (fun i => i < g20.length) g28 _ := ((EX1.chg _).trans (c46.to fun i _ e => by omega))
  replace wx1 := vx1.chg cT1 fun i e1 e => by have := fx1 i e1; omega
  replace oy1 := oz1.chg cT1 (fun hh => by have := y23.len; have h2 : g24.length < g20.length := hh; omega)
  refine oy1.ldA rfl ?_
  have lx1 := wx1.rd.tlen
  obtain ⟨ll1, el1⟩ := tcs_ic' ts1
  rw [el1] at wx1
  refine (markSet_c wx1 _ (by omega) (by omega) (by omega)).to ?_
  rintro _ g47 ⟨rfl, _, c48⟩
  replace c48 := c48.to (Q := (fun i => g20.length ≤ i ∧ i < g28.length)) fun i _ e => ⟨fx1 i e, vx1.lt e⟩
  have cT2 : Chg (fun i => i < g28.length) g32 _ := (((EX2.chg _).trans (c46.to fun i _ e => by omega)).trans (c48.to fun i _ e => by omega))
  replace wx2 := vx2.chg cT2 fun i e1 e => by have := fx2 i e1; omega
  have lx2 := wx2.rd.ilen
  refine (markInt64S_c wx2 _ (by omega) (by omega) (by omega)).to ?_
  rintro _ g49 ⟨rfl, _, b_51, _⟩
  have c50 := b_51.chg (P := (fun i => g28.length ≤ i ∧ i < g32.length)) fun i e => ⟨fx2 i e, vx2.lt e⟩
  refine bif_dec (fun hq => by omega) (fun _ => ?_)
  have lz0 : g20.length ≤ g32.length := by first | exact lX0 | omega
  have lz1 : g28.length ≤ g32.length := by first | exact lX1 | omega
  have lz2 : g32.length ≤ g32.length := by first | exact lX2 | omega
  have cM : Chg (fun i => g14.length ≤ i ∧ i < g32.length) _ _ := (((c46.to (Q := fun i => g14.length ≤ i ∧ i < g32.length) fun i _ e => by omega).trans (c48.to (Q := fun i => g14.length ≤ i ∧ i < g32.length) fun i _ e => by omega)).trans (c50.to (Q := fun i => g14.length ≤ i ∧ i < g32.length) fun i _ e => by omega))
  replace EW := EW.chg_ cM fun i e => e.1
  replace E := EB.trans EW
  replace o0 := oB0.ext EW
  replace o1 := oB1.ext EW
  replace wg0 := wg0.chg cM fun i e1 e => by have := fg0 i e1; omega
  replace wg1 := wg1.chg cM fun i e1 e => by have := fg1 i e1; omega
  refine eqS_yes (wg0.rd) (ww0.rd.ext EW) (by omega) ?_
  refine eqS_yes (wg1.rd) (ww1.rd.ext EW) (by omega) ?_
  refine bif_ne (fun hq => absurd rfl hq) (fun _ => ?_)
  have lg0 := wg0.rd.ilen
  refine (markInt64S_c wg0 1 (by omega) (by omega) (by omega)).to ?_
  rintro _ g52 ⟨rfl, wm0, c53, _⟩
  replace EW := EW.but_ c53 fun i e => by have := fg0 i e; omega
  replace wg1 := wg1.but c53 dA
  have lg1 := wg1.rd.ilen
  refine (markInt64S_c wg1 _ (by omega) (by omega) (by omega)).to ?_
  rintro _ g54 ⟨rfl, wm1, c55, _⟩
  replace EW := EW.but_ c55 fun i e => by have := fg1 i e; omega
  replace wm0 := wm0.but c55 dB
  replace E := EB.trans EW
  replace o0 := oB0.ext EW
  replace o1 := oB1.ext EW
  refine heldS_yes 1 (by omega) (by omega) wm0.rd (by omega) ?_
  refine heldS_yes _ (by omega) (by omega) wm1.rd (by omega) ?_
  refine bif_ne (fun hq => absurd rfl hq) (fun _ => ?_)
  have c1' := o1
  refine o0.ldA rfl ?_
  refine (toSet_c (r0.ext E) sz0).to ?_
  rintro _ g57 ⟨k0, rfl, wk0, fk0, y56⟩
  replace E := E.trans y56
  replace o0 := o0.ext y56
  replace o1 := o1.ext y56
  replace EW := EW.trans y56
  replace wm0 := wm0.ext y56
  replace wm1 := wm1.ext y56
  refine o1.ldA rfl ⟨Obj.sameR c1' o1 rfl, ?_⟩
  refine (toSet_c (r1.ext E) sz1).to ?_
  rintro _ g59 ⟨k1, rfl, wk1, fk1, y58⟩
  replace E := E.trans y58
  replace o0 := o0.ext y58
  replace o1 := o1.ext y58
  replace EW := EW.trans y58
  replace wm0 := wm0.ext y58
  replace wm1 := wm1.ext y58
  replace wk0 := wk0.ext y58
  refine (toInt64S_c (r2.ext E) sz2).to ?_
  rintro k2 g61 ⟨wk2, fk2, y60⟩
  replace E := E.trans y60
  replace o0 := o0.ext y60
  replace o1 := o1.ext y60
  replace EW := EW.trans y60
  replace wm0 := wm0.ext y60
  replace wm1 := wm1.ext y60
  replace wk0 := wk0.ext y60
  replace wk1 := wk1.ext y60
  refine (impl_SplitRow_c wk0.rd wk1.rd wk2.rd sz0 sz1 sz2).to ?_
  rintro _ g63 ⟨h0, h1, rfl, wh0, fh0, wh1, fh1, _, y62⟩
  refine ⟨_, rfl, _, rfl, ?_⟩
  refine ⟨_, rfl, _, rfl, ?_⟩
  refine ⟨_, rfl, _, rfl, ?_⟩
  replace E := E.trans y62
  replace o0 := o0.ext y62
  replace o1 := o1.ext y62
  replace EW := EW.trans y62
  replace wm0 := wm0.ext y62
  replace wm1 := wm1.ext y62
  refine eqS_yes (wh0.rd) (ww0.rd.ext EW) (by omega) ?_
  refine eqS_yes (wh1.rd) (ww1.rd.ext EW) (by omega) ?_
  refine bif_ne (fun hq => absurd rfl hq) (fun _ => ?_)
  refine heldS_yes 1 (by omega) (by omega) wm0.rd (by omega) ?_
  refine heldS_yes _ (by omega) (by omega) wm1.rd (by omega) ?_
  refine bif_ne (fun hq => absurd rfl hq) (fun _ => ⟨_, rfl, rfl⟩)
set_option maxRecDepth 100000 in
theorem law_SplitRow_in (h : H) (xs : List AVal) (hl : xs.length = Try.f4.params.toList.length) (ha : ∀ (i : Nat) t a, Try.f4.params.toList[i]? = some t → xs[i]? = some a → ArgIs Try.prog h t a) : callB (Sat Try.prog) 4 xs h fun b _ => b = true := by
  rw [show Try.f4.params.toList.length = 3 by kernel_rfl] at hl
  match xs, hl with
  | [e0, e1, e2], _ =>
    obtain ⟨k0, pd0, dd0, rfl⟩ := ha 0 24 e0 (by kernel_rfl) rfl
    obtain ⟨c0, s0, ts0, rfl, r0, b0⟩ := arg_set (c := 2) (u := 22) (v := 54) (e := 2) (by kernel_rfl) (by kernel_rfl) (by kernel_rfl) (by kernel_rfl) (by kernel_rfl) (by kernel_rfl) dd0
    obtain ⟨k1, pd1, dd1, rfl⟩ := ha 1 24 e1 (by kernel_rfl) rfl
    obtain ⟨c1, s1, ts1, rfl, r1, b1⟩ := arg_set (c := 2) (u := 22) (v := 54) (e := 2) (by kernel_rfl) (by kernel_rfl) (by kernel_rfl) (by kernel_rfl) (by kernel_rfl) (by kernel_rfl) dd1
    obtain ⟨k2, pd2, dd2, rfl⟩ := ha 2 35 e2 (by kernel_rfl) rfl
    obtain ⟨q2, l2, rfl, r2, b2⟩ := arg_ints (u := 2) (by kernel_rfl) (by kernel_rfl) (by kernel_rfl) dd2
    rw [show argV Try.prog 24 (SetC c0 s0) = .agg (SetC c0 s0) by kernel_rfl]
    rw [show argV Try.prog 24 (SetC c1 s1) = .agg (SetC c1 s1) by kernel_rfl]
    rw [show argV Try.prog 35 [.sl q2] = .sl q2 by kernel_rfl]
    exact law_SplitRow r0 b0 r1 b1 r2 b2
end Go.Proofs.Ytlbglfgienklfaa.Cl
