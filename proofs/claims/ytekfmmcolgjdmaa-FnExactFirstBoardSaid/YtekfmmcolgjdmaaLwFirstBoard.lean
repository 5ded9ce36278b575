/- The law FnExactFirstBoard holds of all arguments. The statement itself stands in another text. -/
import Derived.Test.YtekfmmcolgjdmaaFb1
import Derived.Test.YtekfmmcolgjdmaaFb0
set_option linter.unusedVariables false
set_option linter.unusedSimpArgs false
namespace Go.Proofs.Ytekfmmcolgjdmaa.Cl
open Go
theorem law_FirstBoard {h : H} {s0 : Sl} {ts0 : List Tile} {n1 : Int} {n2 : Int} {n3 : Int} (r0 : Rd h s0 4 (tcs ts0)) (b0 : s0.len ≤ 9223372036854775807) (b1 : i64ok n1) (b2 : i64ok n2) (b3 : i64ok n3) : callB SP i_laws_FnExactFirstBoard [.sl s0, i64 n1, i64 n2, i64 n3] h fun b h' => b = true := by
  apply laws_FnExactFirstBoard_call
  unfold laws_FnExactFirstBoard_main
  have E := Ext.refl h
  have hL : (0 : Int) ≤ 1048576 ∧ (1048576 : Int) ≤ 1048576 := ⟨by omega, by omega⟩
  refine (szTileS_k s0 1048576 (by omega) hL.1 hL.2 _).to ?_
  rintro z0 g2 ⟨y1, hz⟩
  refine bif_dec (fun _ => ⟨_, rfl, rfl⟩) (fun hi => ?_)
  replace hz := hz.resolve_left hi
  replace E := E.trans y1
  have u0 := r0.tlen
  have sz0 : ts0.length ≤ 1048576 := by omega
  have hL : 0 ≤ z0 ∧ z0 ≤ 1048576 := ⟨hz.2, by omega⟩
  refine (toTileS_c (r0.ext E) sz0).to ?_
  rintro t0 g4 ⟨wt0, ft0, y3⟩
  replace E := E.trans y3
  refine (spec_FirstBoard_c wt0.rd sz0 b1 b2 b3).to ?_
  rintro _ g6 ⟨w0, rfl, ww0, y5⟩
  refine ⟨_, rfl, _, rfl, ?_⟩
  refine ⟨_, rfl, _, rfl, ?_⟩
  replace E := E.trans y5
  have EW := Ext.refl g6
  have EB := E
  refine (toTileS_c (r0.ext E) sz0).to ?_
  rintro x0 g8 ⟨wx0, fx0, y7⟩
  have lw0 := EW.len
  have ly0 := y7.len
  replace E := E.trans y7
  replace EW := EW.trans y7
  have EX0 := Ext.refl g8
  have vx0 := wx0
  have EX := EW
  have lX0 := EX0.len
  have hs0 : (F_FirstBoard_0 ts0 n1 n2 n3).length < 1000000 ∧ sumLen (F_FirstBoard_0 ts0 n1 n2 n3) < 1000000 := FirstBoard_small0 sz0 b1 b2 b3
  refine (impl_FirstBoard_c wx0.rd sz0 b1 b2 b3).to ?_
  rintro _ g10 ⟨g0, rfl, wg0, y9⟩
  refine ⟨_, rfl, _, rfl, ?_⟩
  refine ⟨_, rfl, _, rfl, ?_⟩
  have EG := y9
  replace E := E.trans y9
  replace EW := EW.trans y9
  replace wx0 := wx0.ext y9
  replace EX0 := EX0.trans y9
  refine eqPP_yes (wg0.rd) (ww0.rd.ext EW) (by omega) (fun l hl => by have := sumLen_mem hl; omega) fun g12 y11 => ?_
  replace E := E.trans y11
  replace EW := EW.trans y11
  replace wx0 := wx0.ext y11
  replace EX0 := EX0.trans y11
  replace EG := EG.trans y11
  replace wg0 := wg0.ext y11
  refine bif_ne (fun hq => absurd rfl hq) (fun _ => ?_)
  refine (toTileS_c (r0.ext E) sz0).to ?_
  rintro v0 g14 ⟨wv0, _, y13⟩
  replace E := E.trans y13
  replace EW := EW.trans y13
  replace wx0 := wx0.ext y13
  replace EX0 := EX0.trans y13
  replace EG := EG.trans y13
  replace wg0 := wg0.ext y13
  refine eqTiles_yes wx0.rd wv0.rd (by omega) fun g16 y15 => ?_
  replace E := E.trans y15
  replace EW := EW.trans y15
  replace wx0 := wx0.ext y15
  replace EX0 := EX0.trans y15
  replace EG := EG.trans y15
  replace wg0 := wg0.ext y15
  have nX := EX.len
  have lx0 := wx0.rd.tlen
  obtain ⟨ll0, el0⟩ := tcs_ic' ts0
  rw [el0] at wx0
  refine (markTileS_k wx0 _ (by omega) (by omega) (by omega)).to ?_
  rintro _ g17 ⟨rfl, _, b_19, _⟩
  have c18 := b_19.chg (P := (fun i => g6.length ≤ i ∧ i < g8.length)) fun i e => ⟨fx0 i e, vx0.lt e⟩
  refine bif_dec (fun hq => by omega) (fun _ => ?_)
  have lz0 : g8.length ≤ g8.length := by first | exact lX0 | omega
  have cM : Chg (fun i => g6.length ≤ i ∧ i < g8.length) _ _ := (c18.to (Q := fun i => g6.length ≤ i ∧ i < g8.length) fun i _ e => by omega)
  replace EW := EW.chg_ cM fun i e => e.1
  replace E := EB.trans EW
  replace wg0 := wg0.chg cM fun i h1 _ e => by omega
  refine eqPP_yes (wg0.rd) (ww0.rd.ext EW) (by omega) (fun l hl => by have := sumLen_mem hl; omega) fun g21 y20 => ?_
  replace E := E.trans y20
  replace EW := EW.trans y20
  replace wg0 := wg0.ext y20
  refine bif_ne (fun hq => absurd rfl hq) (fun _ => ?_)
  refine (markPlacedSS_c wg0 (wg0.top ((Ext.refl _).chg fun _ => False) fun _ _ f => f) 1 (by omega) (by omega) (by omega) (by omega)).to ?_
  rintro _ g22 ⟨rfl, wm0, c23, _⟩
  replace EW := EW.chg_ c23 fun i e => by omega
  replace E := EB.trans EW
  refine heldPP_yes 1 (by omega) (by omega) wm0.rd (by omega) (by omega) ?_
  refine bif_ne (fun hq => absurd rfl hq) (fun _ => ?_)
  refine (toTileS_c (r0.ext E) sz0).to ?_
  rintro k0 g25 ⟨wk0, fk0, y24⟩
  replace E := E.trans y24
  replace EW := EW.trans y24
  replace wm0 := wm0.ext y24
  refine (impl_FirstBoard_c wk0.rd sz0 b1 b2 b3).to ?_
  rintro _ g27 ⟨h0, rfl, wh0, y26⟩
  refine ⟨_, rfl, _, rfl, ?_⟩
  refine ⟨_, rfl, _, rfl, ?_⟩
  replace E := E.trans y26
  replace EW := EW.trans y26
  replace wm0 := wm0.ext y26
  refine eqPP_yes (wh0.rd) (ww0.rd.ext EW) (by omega) (fun l hl => by have := sumLen_mem hl; omega) fun g29 y28 => ?_
  replace E := E.trans y28
  replace EW := EW.trans y28
  replace wm0 := wm0.ext y28
  replace wh0 := wh0.ext y28
  refine bif_ne (fun hq => absurd rfl hq) (fun _ => ?_)
  refine heldPP_yes 1 (by omega) (by omega) wm0.rd (by omega) (by omega) ?_
  refine bif_ne (fun hq => absurd rfl hq) (fun _ => ⟨_, rfl, rfl⟩)
set_option maxRecDepth 100000 in
theorem law_FirstBoard_in (h : H) (xs : List AVal) (hl : xs.length = Try.f11.params.toList.length) (ha : ∀ (i : Nat) t a, Try.f11.params.toList[i]? = some t → xs[i]? = some a → ArgIs Try.prog h t a) : callB (Sat Try.prog) 11 xs h fun b _ => b = true := by
  rw [show Try.f11.params.toList.length = 4 by kernel_rfl] at hl
  match xs, hl with
  | [e0, e1, e2, e3], _ =>
    obtain ⟨k0, pd0, dd0, rfl⟩ := ha 0 34 e0 (by kernel_rfl) rfl
    obtain ⟨s0, ts0, rfl, r0, b0⟩ := arg_tiles (u := 25) (e := 2) (by kernel_rfl) (by kernel_rfl) (by kernel_rfl) (by kernel_rfl) dd0
    obtain ⟨k1, pd1, dd1, rfl⟩ := ha 1 2 e1 (by kernel_rfl) rfl
    obtain ⟨n1, rfl, b1⟩ := arg_int (by kernel_rfl) dd1
    obtain ⟨k2, pd2, dd2, rfl⟩ := ha 2 2 e2 (by kernel_rfl) rfl
    obtain ⟨n2, rfl, b2⟩ := arg_int (by kernel_rfl) dd2
    obtain ⟨k3, pd3, dd3, rfl⟩ := ha 3 2 e3 (by kernel_rfl) rfl
    obtain ⟨n3, rfl, b3⟩ := arg_int (by kernel_rfl) dd3
    rw [show argV Try.prog 34 [.sl s0] = .sl s0 by kernel_rfl]
    rw [show argV Try.prog 2 [i64 n1] = i64 n1 by kernel_rfl]
    rw [show argV Try.prog 2 [i64 n2] = i64 n2 by kernel_rfl]
    rw [show argV Try.prog 2 [i64 n3] = i64 n3 by kernel_rfl]
    exact law_FirstBoard r0 b0 b1 b2 b3
end Go.Proofs.Ytekfmmcolgjdmaa.Cl
