/- The law FnExactIsBoard holds of all arguments. The statement itself stands in another text. -/
import Derived.Test.YtekfmmcolgjdmaaFb0
set_option linter.unusedVariables false
set_option linter.unusedSimpArgs false
namespace Go.Proofs.Ytekfmmcolgjdmaa.Cl
open Go
theorem law_IsBoard {h : H} {s0 : Sl} {ts : List Tile} {n1 : Int} {q2 : Sl} {rows : List (List Plc)} (r0 : Rd h s0 4 (tcs ts)) (b0 : s0.len ≤ 9223372036854775807) (b1 : i64ok n1) (r2 : RdR h q2 2 (rows.map pcs)) (b2 : q2.len ≤ 9223372036854775807) (d2 : ∀ l ∈ rows, l.length ≤ 9223372036854775807) :
    callB SP i_laws_FnExactIsBoard [.sl s0, i64 n1, .sl q2] h fun b h' => b = true := by
  apply laws_FnExactIsBoard_call
  unfold laws_FnExactIsBoard_main
  have u0 := r0.tlen
  refine (szTileS_k s0 1048576 (by omega) (by omega) (by omega) _).to ?_
  rintro z0 g1 ⟨x1, hz⟩
  refine bif_dec (fun _ => ⟨_, rfl, rfl⟩) (fun hi => ?_)
  replace hz := hz.resolve_left hi
  refine (szPlacedSS_k (r2.ext x1) z0 (by omega) (by omega) b2 d2).to ?_
  rintro z1 g2 ⟨x2, hz2⟩
  refine bif_dec (fun _ => ⟨_, rfl, rfl⟩) (fun hi2 => ?_)
  obtain ⟨m1, m2, _, _⟩ := hz2.resolve_left hi2
  have m0 : ts.length ≤ 1048576 := by omega
  have E := x1.trans x2
  refine (toTileS_c (r0.ext E) m0).to ?_
  rintro t0 g3 ⟨wt0, _, x3⟩
  replace E := E.trans x3
  refine (toPlacedSS_c (r2.ext E) m1 m2).to ?_
  rintro t2 g4 ⟨wt2, x4⟩
  replace E := E.trans x4
  refine (spec_IsBoard_c ((wt0.ext x4).rd) m0 b1 wt2.rd m1 m2).to ?_
  rintro _ g5 ⟨rfl, x5⟩
  replace E := E.trans x5
  refine ⟨_, rfl, _, rfl, _, rfl, _, rfl, ?_⟩
  refine (toTileS_c (r0.ext E) m0).to ?_
  rintro y0 g6 ⟨wy0, _, x6⟩
  replace E := E.trans x6
  refine (toPlacedSS_c (r2.ext E) m1 m2).to ?_
  rintro y2 g7 ⟨wy2, x7⟩
  replace E := E.trans x7
  refine (impl_IsBoard_c ((wy0.ext x7).rd) m0 b1 wy2.rd m1 m2).to ?_
  rintro _ g8 ⟨rfl, x8⟩
  replace E := E.trans x8
  refine ⟨_, rfl, _, rfl, _, rfl, _, rfl, ?_⟩
  refine bif_neb (fun hq => absurd rfl hq) (fun _ => ?_)
  refine bif_ne (fun hq => absurd rfl hq) (fun _ => ?_)
  refine (toTileS_c (r0.ext E) m0).to ?_
  rintro v0 g9 ⟨wv0, _, x9⟩
  replace E := E.trans x9
  have X := (x7.trans x8).trans x9
  refine eqTiles_yes (wy0.ext X).rd wv0.rd (by omega) fun g10 x10 => ?_
  replace E := E.trans x10
  refine (toPlacedSS_c (r2.ext E) m1 m2).to ?_
  rintro v2 g11 ⟨wv2, x11⟩
  refine (eqPlacedSS_c (wy2.rd.ext (((x8.trans x9).trans x10).trans x11)) wv2.rd (by omega) (fun l hl => by have := m2 l hl; omega)).to ?_
  rintro _ g12 ⟨rfl, x12⟩
  refine bif_not (fun hq => by cases hq) (fun _ => ⟨_, rfl, rfl⟩)
set_option maxRecDepth 100000 in
theorem law_IsBoard_in (h : H) (xs : List AVal) (hl : xs.length = Try.f10.params.toList.length) (ha : ∀ (i : Nat) t a, Try.f10.params.toList[i]? = some t → xs[i]? = some a → ArgIs Try.prog h t a) : callB (Sat Try.prog) 10 xs h fun b _ => b = true := by
  rw [show Try.f10.params.toList.length = 3 by kernel_rfl] at hl
  match xs, hl with
  | [e0, e1, e2], _ =>
    obtain ⟨k0, pd0, dd0, rfl⟩ := ha 0 34 e0 (by kernel_rfl) rfl
    obtain ⟨s0, ts0, rfl, r0, b0⟩ := arg_tiles (u := 25) (e := 2) (by kernel_rfl) (by kernel_rfl) (by kernel_rfl) (by kernel_rfl) dd0
    obtain ⟨k1, pd1, dd1, rfl⟩ := ha 1 2 e1 (by kernel_rfl) rfl
    obtain ⟨n1, rfl, b1⟩ := arg_int (by kernel_rfl) dd1
    obtain ⟨k2, pd2, dd2, rfl⟩ := ha 2 52 e2 (by kernel_rfl) rfl
    obtain ⟨q2, rs2, rfl, r2, b2, d2⟩ := arg_rowsP (u := 79) (e := 106) (c := 2) (by kernel_rfl) (by kernel_rfl) (by kernel_rfl) (by kernel_rfl) (by kernel_rfl) (by kernel_rfl) dd2
    rw [show argV Try.prog 34 [.sl s0] = .sl s0 by kernel_rfl]
    rw [show argV Try.prog 2 [i64 n1] = i64 n1 by kernel_rfl]
    rw [show argV Try.prog 52 [.sl q2] = .sl q2 by kernel_rfl]
    exact law_IsBoard r0 b0 b1 r2 b2 d2
end Go.Proofs.Ytekfmmcolgjdmaa.Cl
