/- The law FnExactFailingWidth holds of all arguments. The statement itself stands in another text. -/
import Derived.Test.YtlbglfgienklfaaFb1
import Derived.Test.YtlbglfgienklfaaFb0
set_option linter.unusedVariables false
set_option linter.unusedSimpArgs false
namespace Go.Proofs.Ytlbglfgienklfaa.Cl
open Go
theorem law_FailingWidth {h : H} {c0 : Int} {s0 : Sl} {ts0 : List Tile} {n1 : Int} (r0 : Rd h s0 4 (tcs ts0)) (b0 : s0.len ≤ 9223372036854775807) (b1 : i64ok n1) : callB SP i_laws_FnExactFailingWidth [.agg (SetC c0 s0), i64 n1] h fun b h' => b = true := by
  apply laws_FnExactFailingWidth_call
  unfold laws_FnExactFailingWidth_main
  have E := Ext.refl h
  refine newK_obj fun a0 o0 y0 m0 => ?_
  replace E := E.trans y0
  have hL : (0 : Int) ≤ 1048576 ∧ (1048576 : Int) ≤ 1048576 := ⟨by omega, by omega⟩
  refine o0.ldA rfl ?_
  refine (szSet_k c0 s0 1048576 (by omega) hL.1 hL.2 _).to ?_
  rintro z0 g2 ⟨y1, hz⟩
  refine bif_dec (fun _ => ⟨_, rfl, rfl⟩) (fun hi => ?_)
  replace hz := hz.resolve_left hi
  replace E := E.trans y1
  replace o0 := o0.ext y1
  have u0 := r0.tlen
  have sz0 : ts0.length ≤ 1048576 := by omega
  have hL : 0 ≤ z0 ∧ z0 ≤ 1048576 := ⟨hz.2, by omega⟩
  refine o0.ldA rfl ?_
  refine (toSet_c (r0.ext E) sz0).to ?_
  rintro _ g4 ⟨t0, rfl, wt0, ft0, y3⟩
  replace E := E.trans y3
  replace o0 := o0.ext y3
  refine (spec_FailingWidth_c wt0.rd sz0 b1).to ?_
  rintro _ g6 ⟨rfl, y5⟩
  refine ⟨_, rfl, _, rfl, ?_⟩
  refine ⟨_, rfl, _, rfl, ?_⟩
  replace E := E.trans y5
  replace o0 := o0.ext y5
  have EW := Ext.refl g6
  have EB := E
  have oB0 := o0
  refine o0.ldA rfl ?_
  refine (toSet_c (r0.ext E) sz0).to ?_
  rintro _ g8 ⟨x0, rfl, wx0, fx0, y7⟩
  refine newO_obj fun g10 ox0 y9 _ => ?_
  refine ox0.stA fun g12 oy0 bb11 _ => ?_
  have yy13 : Ext _ g12 := y9.but_ bb11 (some_le (Nat.le_refl _))
  replace wx0 := wx0.ext yy13
  have y14 := y7.trans yy13
  have lw0 := EW.len
  have ly0 := y14.len
  replace E := E.trans y14
  replace o0 := o0.ext y14
  replace EW := EW.trans y14
  have EX0 := Ext.refl g12
  have vx0 := wx0
  refine oy0.ldA rfl ?_
  have EX := EW
  have lX0 := EX0.len
  have oz0 := oy0
  refine (impl_FailingWidth_c wx0.rd sz0 b1).to ?_
  rintro _ g16 ⟨rfl, y15⟩
  refine ⟨_, rfl, _, rfl, ?_⟩
  refine ⟨_, rfl, _, rfl, ?_⟩
  have EG := y15
  replace E := E.trans y15
  replace o0 := o0.ext y15
  replace EW := EW.trans y15
  replace wx0 := wx0.ext y15
  replace oy0 := oy0.ext y15
  replace EX0 := EX0.trans y15
  refine bif_ne (fun hq => absurd rfl hq) (fun _ => ?_)
  refine bif_ne (fun hq => absurd rfl hq) (fun _ => ?_)
  refine oy0.ldA rfl ?_
  refine o0.ldA rfl ?_
  refine (toSet_c (r0.ext E) sz0).to ?_
  rintro _ g18 ⟨v0, rfl, wv0, _, y17⟩
  refine ⟨oy0.stays rfl y17, ?_⟩
  replace E := E.trans y17
  replace o0 := o0.ext y17
  replace EW := EW.trans y17
  replace wx0 := wx0.ext y17
  replace oy0 := oy0.ext y17
  replace EX0 := EX0.trans y17
  replace EG := EG.trans y17
  refine eqSet_yes wx0.rd wv0.rd (by omega) fun g20 y19 => ?_
  replace E := E.trans y19
  replace o0 := o0.ext y19
  replace EW := EW.trans y19
  replace wx0 := wx0.ext y19
  replace oy0 := oy0.ext y19
  replace EX0 := EX0.trans y19
  replace EG := EG.trans y19
  exact ⟨_, rfl, rfl⟩
set_option maxRecDepth 100000 in
theorem law_FailingWidth_in (h : H) (xs : List AVal) (hl : xs.length = Try.f7.params.toList.length) (ha : ∀ (i : Nat) t a, Try.f7.params.toList[i]? = some t → xs[i]? = some a → ArgIs Try.prog h t a) : callB (Sat Try.prog) 7 xs h fun b _ => b = true := by
  rw [show Try.f7.params.toList.length = 2 by kernel_rfl] at hl
  match xs, hl with
  | [e0, e1], _ =>
    obtain ⟨k0, pd0, dd0, rfl⟩ := ha 0 24 e0 (by kernel_rfl) rfl
    obtain ⟨c0, s0, ts0, rfl, r0, b0⟩ := arg_set (c := 2) (u := 22) (v := 54) (e := 2) (by kernel_rfl) (by kernel_rfl) (by kernel_rfl) (by kernel_rfl) (by kernel_rfl) (by kernel_rfl) dd0
    obtain ⟨k1, pd1, dd1, rfl⟩ := ha 1 2 e1 (by kernel_rfl) rfl
    obtain ⟨n1, rfl, b1⟩ := arg_int (by kernel_rfl) dd1
    rw [show argV Try.prog 24 (SetC c0 s0) = .agg (SetC c0 s0) by kernel_rfl]
    rw [show argV Try.prog 2 [i64 n1] = i64 n1 by kernel_rfl]
    exact law_FailingWidth r0 b0 b1
end Go.Proofs.Ytlbglfgienklfaa.Cl
