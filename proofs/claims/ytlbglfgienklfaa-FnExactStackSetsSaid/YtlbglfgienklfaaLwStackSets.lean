/- The law FnExactStackSets holds of all arguments. The statement itself stands in another text. -/
import Derived.Test.YtlbglfgienklfaaFb1
import Derived.Test.YtlbglfgienklfaaFb0
set_option linter.unusedVariables false
set_option linter.unusedSimpArgs false
namespace Go.Proofs.Ytlbglfgienklfaa.Cl
open Go
theorem law_StackSets {h : H} {c0 : Int} {s0 : Sl} {ts0 : List Tile} {c1 : Int} {s1 : Sl} {ts1 : List Tile} (r0 : Rd h s0 4 (tcs ts0)) (b0 : s0.len ≤ 9223372036854775807) (r1 : Rd h s1 4 (tcs ts1)) (b1 : s1.len ≤ 9223372036854775807) : callB SP i_laws_FnExactStackSets [.agg (SetC c0 s0), .agg (SetC c1 s1)] h fun b h' => b = true := by
  apply laws_FnExactStackSets_call
  unfold laws_FnExactStackSets_main
  have E := Ext.refl h
  refine newK_obj fun a0 o0 y0 m0 => ?_
  replace E := E.trans y0
  refine newK_obj fun a1 o1 y1 m1 => ?_
  replace E := E.trans y1
  replace o0 := o0.ext y1
  have hL : (0 : Int) ≤ 1048576 ∧ (1048576 : Int) ≤ 1048576 := ⟨by omega, by omega⟩
  refine o0.ldA rfl ?_
  refine (szSet_k c0 s0 1048576 (by omega) hL.1 hL.2 _).to ?_
  rintro z0 g2 ⟨y1, hz⟩
  refine bif_dec (fun _ => ⟨_, rfl, rfl⟩) (fun hi => ?_)
  replace hz := hz.resolve_left hi
  replace E := E.trans y1
  replace o0 := o0.ext y1
  replace o1 := o1.ext y1
  have u0 := r0.tlen
  have sz0 : ts0.length ≤ 1048576 := by omega
  have hL : 0 ≤ z0 ∧ z0 ≤ 1048576 := ⟨hz.2, by omega⟩
  refine o1.ldA rfl ?_
  refine (szSet_k c1 s1 z0 (by omega) hL.1 hL.2 _).to ?_
  rintro z1 g4 ⟨y3, hz⟩
  refine bif_dec (fun _ => ⟨_, rfl, rfl⟩) (fun hi => ?_)
  replace hz := hz.resolve_left hi
  replace E := E.trans y3
  replace o0 := o0.ext y3
  replace o1 := o1.ext y3
  have u1 := r1.tlen
  have sz1 : ts1.length ≤ 1048576 := by omega
  have hL : 0 ≤ z1 ∧ z1 ≤ 1048576 := ⟨hz.2, by omega⟩
  have lE := E.len
  have lo0 := o0.lt
  have lo1 := o1.lt
  refine slotK_in fun ga ya la => ?_
  replace E := E.trans ya
  replace o0 := o0.ext ya
  replace o1 := o1.ext ya
  have q0 := o0
  have q1 := o1
  refine o0.ldA rfl ?_
  refine (toSet_c (r0.ext E) sz0).to ?_
  rintro _ g6 ⟨t0, rfl, wt0, ft0, y5⟩
  replace E := E.trans y5
  replace o0 := o0.ext y5
  replace o1 := o1.ext y5
  have c1' := o1
  refine o1.ldA rfl ⟨Obj.sameR q1 o1 rfl, ?_⟩
  refine (toSet_c (r1.ext E) sz1).to ?_
  rintro _ g8 ⟨t1, rfl, wt1, ft1, y7⟩
  replace E := E.trans y7
  replace o0 := o0.ext y7
  replace o1 := o1.ext y7
  replace wt0 := wt0.ext y7
  refine (spec_StackSets_c wt0.rd wt1.rd sz0 sz1).to ?_
  rintro _ g10 ⟨w0, rfl, ww0, fw0, y9⟩
  refine ⟨_, rfl, _, rfl, ?_⟩
  refine ⟨_, rfl, _, rfl, ?_⟩
  replace E := E.trans y9
  replace o0 := o0.ext y9
  replace o1 := o1.ext y9
  have l5 := y5.len
  have l7 := y7.len
  have l9 := y9.len
  refine newOat_obj (by omega) fun gb ob bb lb => ?_
  have d0 := o0.but bb (fun e => by have := Option.some.inj e; omega)
  have d1 := o1.but bb (fun e => by have := Option.some.inj e; omega)
  refine ⟨Obj.sameR o1 c1' rfl, Obj.sameR o0 q0 rfl, Obj.sameR d1 c1' rfl, Obj.sameR d0 q0 rfl, ?_⟩
  refine ob.stA fun gc oc bc lc => ?_
  replace E := (E.but_ bb (some_le (by omega))).but_ bc (some_le (by omega))
  replace o0 := d0.but bc (fun e => by have := Option.some.inj e; omega)
  replace o1 := d1.but bc (fun e => by have := Option.some.inj e; omega)
  replace ww0 := (ww0.but bb (fun i e e2 => by have := fw0 i e; have := Option.some.inj e2; omega)).but bc (fun i e e2 => by have := fw0 i e; have := Option.some.inj e2; omega)
  have EW := Ext.refl gc
  have EB := E
  have oB0 := o0
  have oB1 := o1
  refine o0.ldA rfl ?_
  refine (toSet_c (r0.ext E) sz0).to ?_
  rintro _ g12 ⟨x0, rfl, wx0, fx0, y11⟩
  refine newO_obj fun g14 ox0 y13 _ => ?_
  refine ox0.stA fun g16 oy0 bb15 _ => ?_
  have yy17 : Ext _ g16 := y13.but_ bb15 (some_le (Nat.le_refl _))
  replace wx0 := wx0.ext yy17
  have y18 := y11.trans yy17
  have lw0 := EW.len
  have ly0 := y18.len
  replace E := E.trans y18
  replace o0 := o0.ext y18
  replace o1 := o1.ext y18
  replace EW := EW.trans y18
  have EX0 := Ext.refl g16
  have vx0 := wx0
  have le0_1 := EX0.len
  refine o1.ldA rfl ?_
  refine (toSet_c (r1.ext E) sz1).to ?_
  rintro _ g20 ⟨x1, rfl, wx1, fx1, y19⟩
  refine newO_obj fun g22 ox1 y21 _ => ?_
  refine ox1.stA fun g24 oy1 bb23 _ => ?_
  have yy25 : Ext _ g24 := y21.but_ bb23 (some_le (Nat.le_refl _))
  replace wx1 := wx1.ext yy25
  have y26 := y19.trans yy25
  have lw1 := EW.len
  have ly1 := y26.len
  replace E := E.trans y26
  replace o0 := o0.ext y26
  replace o1 := o1.ext y26
  replace EW := EW.trans y26
  replace wx0 := wx0.ext y26
  replace oy0 := oy0.ext y26
  replace EX0 := EX0.trans y26
  have EX1 := Ext.refl g24
  have vx1 := wx1
  refine oy0.ldA rfl ?_
  refine oy1.ldA rfl ?_
  have EX := EW
  have lX0 := EX0.len
  have lX1 := EX1.len
  have oz0 := oy0
  have oz1 := oy1
  have hs0 : (F_StackSets_0 c0 ts0 c1 ts1).2.length < 1000000 := StackSets_small0
  refine (impl_StackSets_c wx0.rd wx1.rd sz0 sz1).to ?_
  rintro _ g28 ⟨g0, rfl, wg0, fg0, y27⟩
  refine ⟨_, rfl, _, rfl, ?_⟩
  refine ⟨_, rfl, _, rfl, ?_⟩
  have l27 := y27.len
  have gl0 : ∀ i, g0.o = some i → i < g28.length := fun i e => wg0.lt e
  refine newO_obj fun gd od yd _ => ?_
  refine od.stA fun ge oe be _ => ?_
  have yye : Ext _ ge := yd.but_ be (some_le (Nat.le_refl _))
  replace wg0 := wg0.ext yye
  replace y27 := y27.trans yye
  have EG := y27
  replace E := E.trans y27
  replace o0 := o0.ext y27
  replace o1 := o1.ext y27
  replace EW := EW.trans y27
  replace wx0 := wx0.ext y27
  replace wx1 := wx1.ext y27
  replace oy0 := oy0.ext y27
  replace oy1 := oy1.ext y27
  replace EX0 := EX0.trans y27
  replace EX1 := EX1.trans y27
  refine oe.ldA rfl ?_
  refine (oc.ext EW).ldA rfl ?_
  refine eqSet_yes (wg0.rd) (ww0.rd.ext EW) (by omega) fun g30 y29 => ?_
  replace E := E.trans y29
  replace o0 := o0.ext y29
  replace o1 := o1.ext y29
  replace EW := EW.trans y29
  replace wx0 := wx0.ext y29
  replace wx1 := wx1.ext y29
  replace oy0 := oy0.ext y29
  replace oy1 := oy1.ext y29
  replace EX0 := EX0.trans y29
  replace EX1 := EX1.trans y29
  replace EG := EG.trans y29
  replace wg0 := wg0.ext y29
  replace oe := oe.ext y29
  refine bif_ne (fun hq => absurd rfl hq) (fun _ => ?_)
  refine oy0.ldA rfl ?_
  refine o0.ldA rfl ?_
  refine (toSet_c (r0.ext E) sz0).to ?_
  rintro _ g32 ⟨v0, rfl, wv0, _, y31⟩
  refine ⟨oy0.stays rfl y31, ?_⟩
  replace E := E.trans y31
  replace o0 := o0.ext y31
  replace o1 := o1.ext y31
  replace EW := EW.trans y31
  replace wx0 := wx0.ext y31
  replace wx1 := wx1.ext y31
  replace oy0 := oy0.ext y31
  replace oy1 := oy1.ext y31
  replace EX0 := EX0.trans y31
  replace EX1 := EX1.trans y31
  replace EG := EG.trans y31
  replace wg0 := wg0.ext y31
  replace oe := oe.ext y31
  refine eqSet_yes wx0.rd wv0.rd (by omega) fun g34 y33 => ?_
  replace E := E.trans y33
  replace o0 := o0.ext y33
  replace o1 := o1.ext y33
  replace EW := EW.trans y33
  replace wx0 := wx0.ext y33
  replace wx1 := wx1.ext y33
  replace oy0 := oy0.ext y33
  replace oy1 := oy1.ext y33
  replace EX0 := EX0.trans y33
  replace EX1 := EX1.trans y33
  replace EG := EG.trans y33
  replace wg0 := wg0.ext y33
  replace oe := oe.ext y33
  refine oy1.ldA rfl ?_
  refine o1.ldA rfl ?_
  refine (toSet_c (r1.ext E) sz1).to ?_
  rintro _ g36 ⟨v1, rfl, wv1, _, y35⟩
  refine ⟨oy1.stays rfl y35, ?_⟩
  replace E := E.trans y35
  replace o0 := o0.ext y35
  replace o1 := o1.ext y35
  replace EW := EW.trans y35
  replace wx0 := wx0.ext y35
  replace wx1 := wx1.ext y35
  replace oy0 := oy0.ext y35
  replace oy1 := oy1.ext y35
  replace EX0 := EX0.trans y35
  replace EX1 := EX1.trans y35
  replace EG := EG.trans y35
  replace wg0 := wg0.ext y35
  replace oe := oe.ext y35
  refine eqSet_yes wx1.rd wv1.rd (by omega) fun g38 y37 => ?_
  replace E := E.trans y37
  replace o0 := o0.ext y37
  replace o1 := o1.ext y37
  replace EW := EW.trans y37
  replace wx0 := wx0.ext y37
  replace wx1 := wx1.ext y37
  replace oy0 := oy0.ext y37
  replace oy1 := oy1.ext y37
  replace EX0 := EX0.trans y37
  replace EX1 := EX1.trans y37
  replace EG := EG.trans y37
  replace wg0 := wg0.ext y37
  replace oe := oe.ext y37
  have nX := EX.len
  refine oy0.ldA rfl ?_
  have lx0 := wx0.rd.tlen
  obtain ⟨ll0, el0⟩ := tcs_ic' ts0
  rw [el0] at wx0
  refine (markSet_c wx0 _ (by omega) (by omega) (by omega)).to ?_
  rintro _ g39 ⟨rfl, _, c40⟩
  replace c40 := c40.to (Q := (fun i => gc.length ≤ i ∧ i < g16.length)) fun i _ e => ⟨fx0 i e, vx0.lt e⟩
  have cT1 : Chg (fun i => i < g16.length) g24 _ := (EX1.chg _).trans (c40.to fun i _ e => by omega)
  replace wx1 := vx1.chg cT1 fun i e1 e => by have := fx1 i e1; omega
  replace oy1 := oz1.chg cT1 (fun hh => by have := y19.len; have h2 : g20.length < g16.length := hh; omega)
  refine oy1.ldA rfl ?_
  have lx1 := wx1.rd.tlen
  obtain ⟨ll1, el1⟩ := tcs_ic' ts1
  rw [el1] at wx1
  refine (markSet_c wx1 _ (by omega) (by omega) (by omega)).to ?_
  rintro _ g41 ⟨rfl, _, c42⟩
  replace c42 := c42.to (Q := (fun i => g16.length ≤ i ∧ i < g24.length)) fun i _ e => ⟨fx1 i e, vx1.lt e⟩
  refine bif_dec (fun hq => by omega) (fun _ => ?_)
  have lz0 : g16.length ≤ g24.length := by first | exact lX0 | omega
  have lz1 : g24.length ≤ g24.length := by first | exact lX1 | omega
  have cM : Chg (fun i => gc.length ≤ i ∧ i < g24.length) _ _ := ((c40.to (Q := fun i => gc.length ≤ i ∧ i < g24.length) fun i _ e => by omega).trans (c42.to (Q := fun i => gc.length ≤ i ∧ i < g24.length) fun i _ e => by omega))
  replace EW := EW.chg_ cM fun i e => e.1
  replace E := EB.trans EW
  replace o0 := oB0.ext EW
  replace o1 := oB1.ext EW
  replace oe := oe.chg cM (fun hh => by have h2 : g28.length < g24.length := hh.2; omega)
  replace wg0 := wg0.chg cM fun i e1 e => by have := fg0 i e1; omega
  refine oe.ldA rfl ?_
  refine (oc.ext EW).ldA rfl ?_
  refine eqSet_yes (wg0.rd) (ww0.rd.ext EW) (by omega) fun g44 y43 => ?_
  replace E := E.trans y43
  replace o0 := o0.ext y43
  replace o1 := o1.ext y43
  replace EW := EW.trans y43
  replace wg0 := wg0.ext y43
  replace oe := oe.ext y43
  refine bif_ne (fun hq => absurd rfl hq) (fun _ => ?_)
  have lg0 := wg0.rd.tlen
  obtain ⟨lm0, em0⟩ := tcs_ic' (F_StackSets_0 c0 ts0 c1 ts1).2
  rw [em0] at wg0
  refine oe.ldA rfl ?_
  refine (markSet_P wg0 1 (by omega) (by omega) (by omega)).to ?_
  rintro _ g45 ⟨rfl, wm0, c46⟩
  replace oe := oe.chg c46 (fun e => by have := gl0 _ e; omega)
  replace EW := EW.chg_ c46 fun i e => by have := fg0 i e; omega
  replace E := EB.trans EW
  replace o0 := oB0.ext EW
  replace o1 := oB1.ext EW
  refine oe.ldA rfl ?_
  refine heldSet_yes 1 (by omega) (by omega) wm0.rd (by omega) fun g48 y47 => ?_
  replace E := E.trans y47
  replace o0 := o0.ext y47
  replace o1 := o1.ext y47
  replace EW := EW.trans y47
  replace wm0 := wm0.ext y47
  replace oe := oe.ext y47
  refine bif_ne (fun hq => absurd rfl hq) (fun _ => ?_)
  have mE := E.len
  have mEW := EW.len
  have mo0 := o0.lt
  have mo1 := o1.lt
  have moe := oe.lt
  have ml0 : ∀ i, g0.o = some i → i < g48.length := fun i e => wm0.lt e
  refine slotK_in fun gp yp lp => ?_
  replace E := E.trans yp
  replace o0 := o0.ext yp
  replace o1 := o1.ext yp
  replace EW := EW.trans yp
  replace wm0 := wm0.ext yp
  replace oe := oe.ext yp
  have q0 := o0
  have q1 := o1
  refine o0.ldA rfl ?_
  refine (toSet_c (r0.ext E) sz0).to ?_
  rintro _ g50 ⟨k0, rfl, wk0, fk0, y49⟩
  replace E := E.trans y49
  replace o0 := o0.ext y49
  replace o1 := o1.ext y49
  replace EW := EW.trans y49
  replace wm0 := wm0.ext y49
  replace oe := oe.ext y49
  have c1' := o1
  refine o1.ldA rfl ⟨Obj.sameR q1 o1 rfl, ?_⟩
  refine (toSet_c (r1.ext E) sz1).to ?_
  rintro _ g52 ⟨k1, rfl, wk1, fk1, y51⟩
  replace E := E.trans y51
  replace o0 := o0.ext y51
  replace o1 := o1.ext y51
  replace EW := EW.trans y51
  replace wm0 := wm0.ext y51
  replace oe := oe.ext y51
  replace wk0 := wk0.ext y51
  refine (impl_StackSets_c wk0.rd wk1.rd sz0 sz1).to ?_
  rintro _ g54 ⟨h0, rfl, wh0, fh0, y53⟩
  refine ⟨_, rfl, _, rfl, ?_⟩
  refine ⟨_, rfl, _, rfl, ?_⟩
  replace E := E.trans y53
  replace o0 := o0.ext y53
  replace o1 := o1.ext y53
  replace EW := EW.trans y53
  replace wm0 := wm0.ext y53
  replace oe := oe.ext y53
  have l49 := y49.len
  have l51 := y51.len
  have l53 := y53.len
  refine newOat_obj (by omega) fun gq oq bq lq => ?_
  have d0 := o0.but bq (fun e => by have := Option.some.inj e; omega)
  have d1 := o1.but bq (fun e => by have := Option.some.inj e; omega)
  refine ⟨Obj.sameR o1 c1' rfl, Obj.sameR o0 q0 rfl, Obj.sameR d1 c1' rfl, Obj.sameR d0 q0 rfl, ?_⟩
  refine oq.stA fun gr op br lr => ?_
  replace E := (E.but_ bq (some_le (by omega))).but_ br (some_le (by omega))
  replace EW := (EW.but_ bq (some_le (by omega))).but_ br (some_le (by omega))
  replace o0 := d0.but br (fun e => by have := Option.some.inj e; omega)
  replace o1 := d1.but br (fun e => by have := Option.some.inj e; omega)
  replace oe := (oe.but bq (fun e => by have := Option.some.inj e; omega)).but br (fun e => by have := Option.some.inj e; omega)
  replace wh0 := (wh0.but bq (fun i e e2 => by have := fh0 i e; have := Option.some.inj e2; omega)).but br (fun i e e2 => by have := fh0 i e; have := Option.some.inj e2; omega)
  replace wm0 := (wm0.but bq (fun i e e2 => by have := ml0 i e; have := Option.some.inj e2; omega)).but br (fun i e e2 => by have := ml0 i e; have := Option.some.inj e2; omega)
  refine op.ldA rfl ?_
  refine (oc.ext EW).ldA rfl ?_
  refine eqSet_yes (wh0.rd) (ww0.rd.ext EW) (by omega) fun g56 y55 => ?_
  replace E := E.trans y55
  replace o0 := o0.ext y55
  replace o1 := o1.ext y55
  replace EW := EW.trans y55
  replace wm0 := wm0.ext y55
  replace oe := oe.ext y55
  replace wh0 := wh0.ext y55
  refine bif_ne (fun hq => absurd rfl hq) (fun _ => ?_)
  refine oe.ldA rfl ?_
  refine heldSet_yes 1 (by omega) (by omega) wm0.rd (by omega) fun g58 y57 => ?_
  replace E := E.trans y57
  replace o0 := o0.ext y57
  replace o1 := o1.ext y57
  replace EW := EW.trans y57
  replace wm0 := wm0.ext y57
  replace oe := oe.ext y57
  refine bif_ne (fun hq => absurd rfl hq) (fun _ => ⟨_, rfl, rfl⟩)
set_option maxRecDepth 100000 in
theorem law_StackSets_in (h : H) (xs : List AVal) (hl : xs.length = Try.f3.params.toList.length) (ha : ∀ (i : Nat) t a, Try.f3.params.toList[i]? = some t → xs[i]? = some a → ArgIs Try.prog h t a) : callB (Sat Try.prog) 3 xs h fun b _ => b = true := by
  rw [show Try.f3.params.toList.length = 2 by kernel_rfl] at hl
  match xs, hl with
  | [e0, e1], _ =>
    obtain ⟨k0, pd0, dd0, rfl⟩ := ha 0 24 e0 (by kernel_rfl) rfl
    obtain ⟨c0, s0, ts0, rfl, r0, b0⟩ := arg_set (c := 2) (u := 22) (v := 54) (e := 2) (by kernel_rfl) (by kernel_rfl) (by kernel_rfl) (by kernel_rfl) (by kernel_rfl) (by kernel_rfl) dd0
    obtain ⟨k1, pd1, dd1, rfl⟩ := ha 1 24 e1 (by kernel_rfl) rfl
    obtain ⟨c1, s1, ts1, rfl, r1, b1⟩ := arg_set (c := 2) (u := 22) (v := 54) (e := 2) (by kernel_rfl) (by kernel_rfl) (by kernel_rfl) (by kernel_rfl) (by kernel_rfl) (by kernel_rfl) dd1
    rw [show argV Try.prog 24 (SetC c0 s0) = .agg (SetC c0 s0) by kernel_rfl]
    rw [show argV Try.prog 24 (SetC c1 s1) = .agg (SetC c1 s1) by kernel_rfl]
    exact law_StackSets r0 b0 r1 b1
end Go.Proofs.Ytlbglfgienklfaa.Cl
