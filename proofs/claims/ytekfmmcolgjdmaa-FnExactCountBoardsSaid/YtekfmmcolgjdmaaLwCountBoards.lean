/- The law FnExactCountBoards holds of all arguments. The statement itself stands in another text. -/
import Derived.Test.YtekfmmcolgjdmaaFb1
import Derived.Test.YtekfmmcolgjdmaaFb0
set_option linter.unusedVariables false
set_option linter.unusedSimpArgs false
namespace Go.Proofs.Ytekfmmcolgjdmaa.Cl
open Go
theorem law_CountBoards {h : H} {s0 : Sl} {ts0 : List Tile} {n1 : Int} {n2 : Int} {n3 : Int} (r0 : Rd h s0 4 (tcs ts0)) (b0 : s0.len ≤ 9223372036854775807) (b1 : i64ok n1) (b2 : i64ok n2) (b3 : i64ok n3) : callB SP i_laws_FnExactCountBoards [.sl s0, i64 n1, i64 n2, i64 n3] h fun b h' => b = true := by
  apply laws_FnExactCountBoards_call
  unfold laws_FnExactCountBoards_main
  have E := Ext.refl h
  have hL : (0 : Int) ≤ 1048576 ∧ (1048576 : Int) ≤ 1048576 := ⟨by omega, by omega⟩
  refine (szTileS_k s0 1048576 (by omega) hL.1 hL.2 _).to ?_
  rintro z0 g2 ⟨y1, hz⟩
  refine bif_dec (fun _ => ⟨_, rfl, rfl⟩) (fun hi => ?_)
  replace hz := hz.resolve_left hi
  replace E := E.trans y1
  have u0 := r0.tlen
  have sz0 : ts0.length ≤ 1048576 := by omega
  have hL : 0 ≤ z0 ∧ z0 ≤ 1048576 := ⟨hz.2, by omega⟩
  refine (toTileS_c (r0.ext E) sz0).to ?_
  rintro t0 g4 ⟨wt0, ft0, y3⟩
  replace E := E.trans y3
  refine (spec_CountBoards_c wt0.rd sz0 b1 b2 b3).to ?_
  rintro _ g6 ⟨rfl, y5⟩
  refine ⟨_, rfl, _, rfl, ?_⟩
  refine ⟨_, rfl, _, rfl, ?_⟩
  replace E := E.trans y5
  have EW := Ext.refl g6
  have EB := E
  refine (toTileS_c (r0.ext E) sz0).to ?_
  rintro x0 g8 ⟨wx0, fx0, y7⟩
  have lw0 := EW.len
  have ly0 := y7.len
  replace E := E.trans y7
  replace EW := EW.trans y7
  have EX0 := Ext.refl g8
  have vx0 := wx0
  have EX := EW
  have lX0 := EX0.len
  refine (impl_CountBoards_c wx0.rd sz0 b1 b2 b3).to ?_
  rintro _ g10 ⟨rfl, y9⟩
  refine ⟨_, rfl, _, rfl, ?_⟩
  refine ⟨_, rfl, _, rfl, ?_⟩
  have EG := y9
  replace E := E.trans y9
  replace EW := EW.trans y9
  replace wx0 := wx0.ext y9
  replace EX0 := EX0.trans y9
  refine bif_ne (fun hq => absurd rfl hq) (fun _ => ?_)
  refine bif_ne (fun hq => absurd rfl hq) (fun _ => ?_)
  refine (toTileS_c (r0.ext E) sz0).to ?_
  rintro v0 g12 ⟨wv0, _, y11⟩
  replace E := E.trans y11
  replace EW := EW.trans y11
  replace wx0 := wx0.ext y11
  replace EX0 := EX0.trans y11
  replace EG := EG.trans y11
  refine eqTiles_yes wx0.rd wv0.rd (by omega) fun g14 y13 => ?_
  replace E := E.trans y13
  replace EW := EW.trans y13
  replace wx0 := wx0.ext y13
  replace EX0 := EX0.trans y13
  replace EG := EG.trans y13
  exact ⟨_, rfl, rfl⟩
set_option maxRecDepth 100000 in
theorem law_CountBoards_in (h : H) (xs : List AVal) (hl : xs.length = Try.f9.params.toList.length) (ha : ∀ (i : Nat) t a, Try.f9.params.toList[i]? = some t → xs[i]? = some a → ArgIs Try.prog h t a) : callB (Sat Try.prog) 9 xs h fun b _ => b = true := by
  rw [show Try.f9.params.toList.length = 4 by kernel_rfl] at hl
  match xs, hl with
  | [e0, e1, e2, e3], _ =>
    obtain ⟨k0, pd0, dd0, rfl⟩ := ha 0 34 e0 (by kernel_rfl) rfl
    obtain ⟨s0, ts0, rfl, r0, b0⟩ := arg_tiles (u := 25) (e := 2) (by kernel_rfl) (by kernel_rfl) (by kernel_rfl) (by kernel_rfl) dd0
    obtain ⟨k1, pd1, dd1, rfl⟩ := ha 1 2 e1 (by kernel_rfl) rfl
    obtain ⟨n1, rfl, b1⟩ := arg_int (by kernel_rfl) dd1
    obtain ⟨k2, pd2, dd2, rfl⟩ := ha 2 2 e2 (by kernel_rfl) rfl
    obtain ⟨n2, rfl, b2⟩ := arg_int (by kernel_rfl) dd2
    obtain ⟨k3, pd3, dd3, rfl⟩ := ha 3 2 e3 (by kernel_rfl) rfl
    obtain ⟨n3, rfl, b3⟩ := arg_int (by kernel_rfl) dd3
    rw [show argV Try.prog 34 [.sl s0] = .sl s0 by kernel_rfl]
    rw [show argV Try.prog 2 [i64 n1] = i64 n1 by kernel_rfl]
    rw [show argV Try.prog 2 [i64 n2] = i64 n2 by kernel_rfl]
    rw [show argV Try.prog 2 [i64 n3] = i64 n3 by kernel_rfl]
    exact law_CountBoards r0 b0 b1 b2 b3
end Go.Proofs.Ytekfmmcolgjdmaa.Cl
