/- The law FnExactTurnsOf holds of the program's own text (clean machine). No claim is stated here. -/
import Derived.Test.YtekfmmcolgjdmaaLa
import Derived.Test.YtekfmmcolgjdmaaClP
set_option linter.unusedVariables false
set_option linter.unusedSimpArgs false
namespace Go.Proofs.Ytekfmmcolgjdmaa.Cl
open Go
theorem turnsOf_len (t : Tile) : (turnsOf t).1.length ≤ 4 := by
  unfold turnsOf
  split
  · simp [turnsN_len]
  · simp
theorem law_TurnsOf (t : Tile) (h : H) : callB SP i_laws_FnExactTurnsOf [.agg (tc t)] h fun b h' => b = true ∧ Ext h h' := by
  apply laws_FnExactTurnsOf_call
  simp only [laws_FnExactTurnsOf_main, newK]
  have hlen := turnsOf_len t
  refine ⟨rfl, ?_⟩
  generalize hh : h ++ [AObj.own (tc t)] = g0
  have e0 : g0[h.length]? = some (.own (tc t)) := by subst hh; simp
  have x0 : Ext h g0 := by subst hh; exact Ext.app _ _
  refine ld_own e0 rfl ((toTile_c t g0).to ?_)
  rintro _ g1 ⟨rfl, x1⟩
  refine (spec_TurnsOf_c t g1).to ?_
  rintro _ g2 ⟨w, rfl, ow, fw, x2⟩
  refine ⟨_, rfl, _, rfl, _, rfl, _, rfl, ?_⟩
  have e2 := (x1.trans x2).own e0
  refine ld_own e2 rfl ((toTile_c t g2).to ?_)
  rintro _ g3 ⟨rfl, x3⟩
  refine (impl_TurnsOf_c t g3).to ?_
  rintro _ g4 ⟨s, rfl, os, fs, x4⟩
  refine ⟨_, rfl, _, rfl, _, rfl, _, rfl, ?_⟩
  have ow4 := ow.ext (x3.trans x4)
  refine (eqTileS_c os.rd ow4.rd (by omega)).to ?_
  rintro _ g5 ⟨rfl, x5⟩
  refine bif_not (fun hq => by simp at hq) (fun _ => bif_ne (fun hq => absurd rfl hq) (fun _ => ?_))
  have os5 := os.ext x5
  have hsl : s.len ≤ 4 := by have := os.rd.tlen; omega
  have hsep : s.o ≠ w.o ∨ s.o = none := by
    cases hs : s.o with
    | none => exact .inr rfl
    | some o =>
      refine .inl fun e => ?_
      have h1 := fs o hs
      have h2 := (ow.ext x3).lt e.symm
      omega
  refine (markTileS_c (l := ((turnsOf t).1.map tl).flatten) (by
    have : ic ((turnsOf t).1.map tl).flatten = tcs (turnsOf t).1 := by unfold ic tcs; rw [List.map_flatten, List.map_map]; rfl
    rw [this]; exact os5) (by omega)).to ?_
  rintro _ g6 ⟨rfl, o6, b6, n6⟩
  refine (heldTileS_c o6.rd (by omega)).to ?_
  rintro _ _ ⟨rfl, rfl⟩
  refine bif_dec (fun hq => by omega) (fun _ => bif_ne (fun hq => absurd rfl hq) (fun _ => ?_))
  have e6 := b6.get ((x3.trans (x4.trans x5)).own e2) (fun e => by
    have h1 := fs _ e
    have h2 : h.length < g3.length := by have := (List.getElem?_eq_some_iff.1 (x3.own e2)).1; exact this
    omega)
  refine ld_own e6 rfl ((toTile_c t _).to ?_)
  rintro _ g7 ⟨rfl, x7⟩
  refine (impl_TurnsOf_c t g7).to ?_
  rintro _ g8 ⟨s', rfl, os', fs', x8⟩
  refine ⟨_, rfl, _, rfl, _, rfl, _, rfl, ?_⟩
  have ow8 := ((ow4.ext x5).but b6 hsep).ext (x7.trans x8)
  refine (eqTileS_c os'.rd ow8.rd (by omega)).to ?_
  rintro _ g9 ⟨rfl, x9⟩
  refine bif_not (fun hq => by simp at hq) (fun _ => bif_ne (fun hq => absurd rfl hq) (fun _ => ?_))
  refine (heldTileS_c (o6.ext (x7.trans (x8.trans x9))).rd (by omega)).to ?_
  rintro _ _ ⟨rfl, rfl⟩
  refine bif_dec (fun hq => by omega) (fun _ => bif_ne (fun hq => absurd rfl hq) (fun _ => ?_))
  have xa : Ext h g5 := x0.trans (x1.trans (x2.trans (x3.trans (x4.trans x5))))
  refine ⟨_, rfl, rfl, (xa.but_ b6 fun i e => ?_).trans (x7.trans (x8.trans x9))⟩
  have := fs i e
  have := (x0.trans (x1.trans (x2.trans x3))).len
  omega
theorem den_int {P : Program} {h : H} {t : TypeId} {xs : List AVal} {pd : PD} {k : IntKind} (hu : P.underlying t = some (.int k)) (d : Den P h t xs pd) : ∃ n, xs = [.int k n] ∧ (Lit.int k n).wf = true := by
  cases d with
  | int a b => rw [hu] at a; cases a; exact ⟨_, rfl, b⟩
  | bool a => rw [hu] at a; cases a
  | arr a => rw [hu] at a; cases a
  | struct a => rw [hu] at a; cases a
  | sl a => rw [hu] at a; cases a
theorem den_tile {P : Program} {h : H} {t e : TypeId} {xs : List AVal} {pd : PD} (hu : P.underlying t = some (.array 4 e)) (he : P.underlying e = some (.int .i64)) (d : Den P h t xs pd) : ∃ t : Tile, xs = tc t := by
  cases d with
  | int a b => rw [hu] at a; cases a
  | bool a => rw [hu] at a; cases a
  | @arr t n e' ass ds a b c d =>
    rw [hu] at a; cases a
    match ass, ds, b, c, d with
    | [a0, a1, a2, a3], [d0, d1, d2, d3], _, _, d =>
      obtain ⟨n0, rfl, _⟩ := den_int he (d 0 a0 d0 rfl rfl)
      obtain ⟨n1, rfl, _⟩ := den_int he (d 1 a1 d1 rfl rfl)
      obtain ⟨n2, rfl, _⟩ := den_int he (d 2 a2 d2 rfl rfl)
      obtain ⟨n3, rfl, _⟩ := den_int he (d 3 a3 d3 rfl rfl)
      exact ⟨(n0, n1, n2, n3), rfl⟩
  | struct a => rw [hu] at a; cases a
  | sl a => rw [hu] at a; cases a
set_option maxRecDepth 100000 in
theorem law_TurnsOf_in (h : H) (xs : List AVal) (hl : xs.length = Try.f4.params.toList.length) (ha : ∀ (i : Nat) t a, Try.f4.params.toList[i]? = some t → xs[i]? = some a → ArgIs Try.prog h t a) : callB (Sat Try.prog) 4 xs h fun b _ => b = true := by
  rw [show Try.f4.params.toList.length = 1 by kernel_rfl] at hl
  obtain ⟨a, rfl⟩ := List.length_eq_one_iff.1 hl
  obtain ⟨c, pd, d, rfl⟩ := ha 0 25 a (by kernel_rfl) rfl
  obtain ⟨t, rfl⟩ := den_tile (e := 2) (by kernel_rfl) (by kernel_rfl) d
  refine (show callB _ _ [argV Try.prog 25 (tc t)] _ _ from ?_)
  rw [show argV Try.prog 25 (tc t) = .agg (tc t) by kernel_rfl]
  exact (law_TurnsOf t h).to fun b h' x => x.1
end Go.Proofs.Ytekfmmcolgjdmaa.Cl
