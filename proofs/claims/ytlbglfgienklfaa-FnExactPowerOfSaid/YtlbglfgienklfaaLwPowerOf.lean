/- The law FnExactPowerOf holds of all arguments. The statement itself stands in another text. -/
import Derived.Test.YtlbglfgienklfaaFb1
import Derived.Test.YtlbglfgienklfaaFb0
set_option linter.unusedVariables false
set_option linter.unusedSimpArgs false
namespace Go.Proofs.Ytlbglfgienklfaa.Cl
open Go
theorem law_PowerOf {h : H} {c0 : Int} {s0 : Sl} {ts0 : List Tile} {n1 : Int} (r0 : Rd h s0 4 (tcs ts0)) (b0 : s0.len ≤ 9223372036854775807) (b1 : i64ok n1) : callB SP i_laws_FnExactPowerOf [.agg (SetC c0 s0), i64 n1] h fun b h' => b = true := by
  apply laws_FnExactPowerOf_call
  unfold laws_FnExactPowerOf_main
  have E := Ext.refl h
  refine newK_obj fun a0 o0 y0 m0 => ?_
  replace E := E.trans y0
  have hL : (0 : Int) ≤ 1048576 ∧ (1048576 : Int) ≤ 1048576 := ⟨by omega, by omega⟩
  refine o0.ldA rfl ?_
  refine (szSet_k c0 s0 1048576 (by omega) hL.1 hL.2 _).to ?_
  rintro z0 g2 ⟨y1, hz⟩
  refine bif_dec (fun _ => ⟨_, rfl, rfl⟩) (fun hi => ?_)
  replace hz := hz.resolve_left hi
  replace E := E.trans y1
  replace o0 := o0.ext y1
  have u0 := r0.tlen
  have sz0 : ts0.length ≤ 1048576 := by omega
  have hL : 0 ≤ z0 ∧ z0 ≤ 1048576 := ⟨hz.2, by omega⟩
  refine o0.ldA rfl ?_
  refine (toSet_c (r0.ext E) sz0).to ?_
  rintro _ g4 ⟨t0, rfl, wt0, ft0, y3⟩
  replace E := E.trans y3
  replace o0 := o0.ext y3
  refine (spec_PowerOf_c wt0.rd sz0 b1).to ?_
  rintro _ g6 ⟨w0, rfl, ww0, fw0, y5⟩
  refine ⟨_, rfl, _, rfl, ?_⟩
  refine ⟨_, rfl, _, rfl, ?_⟩
  replace E := E.trans y5
  replace o0 := o0.ext y5
  refine newO_obj fun gb ob yb _ => ?_
  refine ob.stA fun gc oc bc _ => ?_
  have yc : Ext _ gc := yb.but_ bc (some_le (Nat.le_refl _))
  replace E := E.trans yc
  replace o0 := o0.ext yc
  replace ww0 := ww0.ext yc
  have EW := Ext.refl gc
  have EB := E
  have oB0 := o0
  refine o0.ldA rfl ?_
  refine (toSet_c (r0.ext E) sz0).to ?_
  rintro _ g8 ⟨x0, rfl, wx0, fx0, y7⟩
  refine newO_obj fun g10 ox0 y9 _ => ?_
  refine ox0.stA fun g12 oy0 bb11 _ => ?_
  have yy13 : Ext _ g12 := y9.but_ bb11 (some_le (Nat.le_refl _))
  replace wx0 := wx0.ext yy13
  have y14 := y7.trans yy13
  have lw0 := EW.len
  have ly0 := y14.len
  replace E := E.trans y14
  replace o0 := o0.ext y14
  replace EW := EW.trans y14
  have EX0 := Ext.refl g12
  have vx0 := wx0
  refine oy0.ldA rfl ?_
  have EX := EW
  have lX0 := EX0.len
  have oz0 := oy0
  have hs0 : (powR c0 ts0 n1).2.2.length < 1000000 := PowerOf_small0
  refine (impl_PowerOf_c wx0.rd sz0 b1).to ?_
  rintro _ g16 ⟨g0, rfl, wg0, fg0, y15⟩
  refine ⟨_, rfl, _, rfl, ?_⟩
  refine ⟨_, rfl, _, rfl, ?_⟩
  have ly_ := y15.len
  have gl0 : ∀ i, g0.o = some i → i < g16.length := fun i e => wg0.lt e
  refine newO_obj fun gd od yd _ => ?_
  refine od.stA fun ge oe be _ => ?_
  have yye : Ext _ ge := yd.but_ be (some_le (Nat.le_refl _))
  replace wg0 := wg0.ext yye
  replace y15 := y15.trans yye
  have EG := y15
  replace E := E.trans y15
  replace o0 := o0.ext y15
  replace EW := EW.trans y15
  replace wx0 := wx0.ext y15
  replace oy0 := oy0.ext y15
  replace EX0 := EX0.trans y15
  refine oe.ldA rfl ?_
  refine (oc.ext EW).ldA rfl ?_
  refine eqSet_yes (wg0.rd) (ww0.rd.ext EW) (by omega) fun g18 y17 => ?_
  replace E := E.trans y17
  replace o0 := o0.ext y17
  replace EW := EW.trans y17
  replace wx0 := wx0.ext y17
  replace oy0 := oy0.ext y17
  replace EX0 := EX0.trans y17
  replace EG := EG.trans y17
  replace wg0 := wg0.ext y17
  replace oe := oe.ext y17
  refine bif_ne (fun hq => absurd rfl hq) (fun _ => ?_)
  refine oy0.ldA rfl ?_
  refine o0.ldA rfl ?_
  refine (toSet_c (r0.ext E) sz0).to ?_
  rintro _ g20 ⟨v0, rfl, wv0, _, y19⟩
  refine ⟨oy0.stays rfl y19, ?_⟩
  replace E := E.trans y19
  replace o0 := o0.ext y19
  replace EW := EW.trans y19
  replace wx0 := wx0.ext y19
  replace oy0 := oy0.ext y19
  replace EX0 := EX0.trans y19
  replace EG := EG.trans y19
  replace wg0 := wg0.ext y19
  replace oe := oe.ext y19
  refine eqSet_yes wx0.rd wv0.rd (by omega) fun g22 y21 => ?_
  replace E := E.trans y21
  replace o0 := o0.ext y21
  replace EW := EW.trans y21
  replace wx0 := wx0.ext y21
  replace oy0 := oy0.ext y21
  replace EX0 := EX0.trans y21
  replace EG := EG.trans y21
  replace wg0 := wg0.ext y21
  replace oe := oe.ext y21
  have nX := EX.len
  refine oy0.ldA rfl ?_
  have lx0 := wx0.rd.tlen
  obtain ⟨ll0, el0⟩ := tcs_ic' ts0
  rw [el0] at wx0
  refine (markSet_c wx0 _ (by omega) (by omega) (by omega)).to ?_
  rintro _ g23 ⟨rfl, _, c24⟩
  replace c24 := c24.to (Q := (fun i => gc.length ≤ i ∧ i < g12.length)) fun i _ e => ⟨fx0 i e, vx0.lt e⟩
  refine bif_dec (fun hq => by omega) (fun _ => ?_)
  have lz0 : g12.length ≤ g12.length := by first | exact lX0 | omega
  have cM : Chg (fun i => gc.length ≤ i ∧ i < g12.length) _ _ := (c24.to (Q := fun i => gc.length ≤ i ∧ i < g12.length) fun i _ e => by omega)
  replace EW := EW.chg_ cM fun i e => e.1
  replace E := EB.trans EW
  replace o0 := oB0.ext EW
  replace oe := oe.chg cM (fun hh => by have h2 : g16.length < g12.length := hh.2; omega)
  replace wg0 := wg0.chg cM fun i e1 e => by have := fg0 i e1; omega
  refine oe.ldA rfl ?_
  refine (oc.ext EW).ldA rfl ?_
  refine eqSet_yes (wg0.rd) (ww0.rd.ext EW) (by omega) fun g26 y25 => ?_
  replace E := E.trans y25
  replace o0 := o0.ext y25
  replace EW := EW.trans y25
  replace wg0 := wg0.ext y25
  replace oe := oe.ext y25
  refine bif_ne (fun hq => absurd rfl hq) (fun _ => ?_)
  have lg0 := wg0.rd.tlen
  obtain ⟨lm0, em0⟩ := tcs_ic' (powR c0 ts0 n1).2.2
  rw [em0] at wg0
  refine oe.ldA rfl ?_
  refine (markSet_P wg0 1 (by omega) (by omega) (by omega)).to ?_
  rintro _ g27 ⟨rfl, wm0, c28⟩
  replace oe := oe.chg c28 (fun e => by have := gl0 _ e; omega)
  replace EW := EW.chg_ c28 fun i e => by have := fg0 i e; omega
  replace E := EB.trans EW
  replace o0 := oB0.ext EW
  refine oe.ldA rfl ?_
  refine heldSet_yes 1 (by omega) (by omega) wm0.rd (by omega) fun g30 y29 => ?_
  replace E := E.trans y29
  replace o0 := o0.ext y29
  replace EW := EW.trans y29
  replace wm0 := wm0.ext y29
  replace oe := oe.ext y29
  refine bif_ne (fun hq => absurd rfl hq) (fun _ => ?_)
  refine o0.ldA rfl ?_
  refine (toSet_c (r0.ext E) sz0).to ?_
  rintro _ g32 ⟨k0, rfl, wk0, fk0, y31⟩
  replace E := E.trans y31
  replace o0 := o0.ext y31
  replace EW := EW.trans y31
  replace wm0 := wm0.ext y31
  replace oe := oe.ext y31
  refine (impl_PowerOf_c wk0.rd sz0 b1).to ?_
  rintro _ g34 ⟨h0, rfl, wh0, fh0, y33⟩
  refine ⟨_, rfl, _, rfl, ?_⟩
  refine ⟨_, rfl, _, rfl, ?_⟩
  replace E := E.trans y33
  replace o0 := o0.ext y33
  replace EW := EW.trans y33
  replace wm0 := wm0.ext y33
  replace oe := oe.ext y33
  refine newO_obj fun gq oq yq _ => ?_
  refine oq.stA fun gr op br _ => ?_
  have yr : Ext _ gr := yq.but_ br (some_le (Nat.le_refl _))
  replace E := E.trans yr
  replace o0 := o0.ext yr
  replace EW := EW.trans yr
  replace wm0 := wm0.ext yr
  replace oe := oe.ext yr
  replace wh0 := wh0.ext yr
  refine op.ldA rfl ?_
  refine (oc.ext EW).ldA rfl ?_
  refine eqSet_yes (wh0.rd) (ww0.rd.ext EW) (by omega) fun g36 y35 => ?_
  replace E := E.trans y35
  replace o0 := o0.ext y35
  replace EW := EW.trans y35
  replace wm0 := wm0.ext y35
  replace oe := oe.ext y35
  replace wh0 := wh0.ext y35
  refine bif_ne (fun hq => absurd rfl hq) (fun _ => ?_)
  refine oe.ldA rfl ?_
  refine heldSet_yes 1 (by omega) (by omega) wm0.rd (by omega) fun g38 y37 => ?_
  replace E := E.trans y37
  replace o0 := o0.ext y37
  replace EW := EW.trans y37
  replace wm0 := wm0.ext y37
  replace oe := oe.ext y37
  refine bif_ne (fun hq => absurd rfl hq) (fun _ => ⟨_, rfl, rfl⟩)
set_option maxRecDepth 100000 in
theorem law_PowerOf_in (h : H) (xs : List AVal) (hl : xs.length = Try.f5.params.toList.length) (ha : ∀ (i : Nat) t a, Try.f5.params.toList[i]? = some t → xs[i]? = some a → ArgIs Try.prog h t a) : callB (Sat Try.prog) 5 xs h fun b _ => b = true := by
  rw [show Try.f5.params.toList.length = 2 by kernel_rfl] at hl
  match xs, hl with
  | [e0, e1], _ =>
    obtain ⟨k0, pd0, dd0, rfl⟩ := ha 0 24 e0 (by kernel_rfl) rfl
    obtain ⟨c0, s0, ts0, rfl, r0, b0⟩ := arg_set (c := 2) (u := 22) (v := 54) (e := 2) (by kernel_rfl) (by kernel_rfl) (by kernel_rfl) (by kernel_rfl) (by kernel_rfl) (by kernel_rfl) dd0
    obtain ⟨k1, pd1, dd1, rfl⟩ := ha 1 2 e1 (by kernel_rfl) rfl
    obtain ⟨n1, rfl, b1⟩ := arg_int (by kernel_rfl) dd1
    rw [show argV Try.prog 24 (SetC c0 s0) = .agg (SetC c0 s0) by kernel_rfl]
    rw [show argV Try.prog 2 [i64 n1] = i64 n1 by kernel_rfl]
    exact law_PowerOf r0 b0 b1
end Go.Proofs.Ytlbglfgienklfaa.Cl
