/- The laws FnExactClassOf and FnExactAreAlike hold of the program's own text (clean machine). No claim is stated here. -/
import Derived.Test.YtekfmmcolgjdmaaLb
import Derived.Test.YtekfmmcolgjdmaaLTurnsOf
set_option linter.unusedVariables false
set_option linter.unusedSimpArgs false
namespace Go.Proofs.Ytekfmmcolgjdmaa.Cl
open Go
attribute [local simp] newK newO ixA ldI ldA stN st1 Cl.range cell Cl.cells putN put1 owned get_app get_app0 set_app set_app0 Pt.add splice Ext.app Ext.refl cutA isPt
def classOf (t : Tile) : Tile × Int := if tileok 6 t then (cls t, 0) else ((0, 0, 0, 0), 2)
theorem impl_ClassOf_c (t : Tile) (h : H) : callV SP i_impl_ClassOf [.agg (tc t)] h fun v h' => v = .tuple [.agg (tc (classOf t).1), i64 (classOf t).2] ∧ Ext h h' := by
  apply impl_ClassOf_call
  simp only [impl_ClassOf_main, newK, newO]
  refine ⟨rfl, ld_own (cs := tc t) (by simp) rfl ⟨rfl, newS_ow rfl fun sx hx ox lx sox hex => ?_⟩⟩
  subst hex
  refine (areTiles_c (l := [t]) (by rw [tcs_one]; exact ox.rd) (by simp)).to ?_
  rintro _ h1 ⟨rfl, l1, rfl⟩
  refine bif_not (fun hq => ?_) (fun hq => ?_)
  · have : tileok 6 t = false := by simpa using hq
    simp [classOf, this, tc]
  · have : tileok 6 t = true := by simpa using hq
    simp only [classOf, this]
    refine ld_own (cs := tc t) (by simp) rfl ?_
    refine (class_c t _).to ?_
    rintro _ h2 ⟨rfl, l2, rfl⟩
    simp [tc]
theorem spec_ClassOf_c (t : Tile) (h : H) : callV SP i_spec_ClassOf [.agg (tc t)] h fun v h' => v = .tuple [.agg (tc (classOf t).1), i64 (classOf t).2] ∧ Ext h h' := by
  apply spec_ClassOf_call
  simp only [spec_ClassOf_main, newK, newO]
  refine ⟨rfl, ld_own (cs := tc t) (by simp) rfl ⟨rfl, newS_ow rfl fun sx hx ox lx sox hex => ?_⟩⟩
  subst hex
  refine (l07Tiles_c (l := [t]) (by rw [tcs_one]; exact ox.rd) (by simp)).to ?_
  rintro _ h1 ⟨rfl, l1, rfl⟩
  unfold tilesCode
  refine bif_ne (fun hq => ?_) (fun hq => ?_)
  · have : tileok 6 t = false := by
      cases ht : tileok 6 t with
      | false => rfl
      | true => simp [ht] at hq
    simp [classOf, this, tc]
  · have : tileok 6 t = true := by
      cases ht : tileok 6 t with
      | false => simp [ht] at hq
      | true => rfl
    simp only [classOf, this]
    refine ld_own (cs := tc t) (by simp) rfl ?_
    refine (l07Class_c t _).to ?_
    rintro _ h2 ⟨rfl, l2, rfl⟩
    simp [tc]
theorem law_ClassOf (t : Tile) (h : H) : callB SP i_laws_FnExactClassOf [.agg (tc t)] h fun b h' => b = true := by
  apply laws_FnExactClassOf_call
  simp only [laws_FnExactClassOf_main, newK, newO]
  refine ⟨rfl, ?_⟩
  generalize hh : h ++ [AObj.own (tc t)] = g0
  have e0 : g0[h.length]? = some (.own (tc t)) := by subst hh; simp
  refine ld_own e0 rfl ((toTile_c t g0).to ?_)
  rintro _ g1 ⟨rfl, x1⟩
  refine (spec_ClassOf_c t g1).to ?_
  rintro _ g2 ⟨rfl, x2⟩
  refine ⟨_, rfl, _, rfl, _, rfl, _, rfl, ?_⟩
  have e2 := (x1.trans x2).own e0
  refine st_own (k := 4) (cs := [.int .i64 0, .int .i64 0, .int .i64 0, .int .i64 0]) (by simp) rfl rfl fun b3 g3 => ?_
  have x3 := (Ext.app g2 [AObj.own [.int .i64 0, .int .i64 0, .int .i64 0, .int .i64 0]]).but_ b3 (some_le (Nat.le_refl _))
  revert b3 g3 x3
  generalize List.set (g2 ++ [AObj.own [.int .i64 0, .int .i64 0, .int .i64 0, .int .i64 0]]) g2.length (AObj.own (tc (classOf t).1)) = g3
  intro b3 e3 x3
  refine ld_own (x3.own e2) rfl ((toTile_c t g3).to ?_)
  rintro _ g4 ⟨rfl, x4⟩
  refine (impl_ClassOf_c t g4).to ?_
  rintro _ g5 ⟨rfl, x5⟩
  refine ⟨_, rfl, _, rfl, _, rfl, _, rfl, ?_⟩
  refine st_own (k := 4) (cs := [.int .i64 0, .int .i64 0, .int .i64 0, .int .i64 0]) (by simp) rfl rfl fun b6 g6 => ?_
  have x6 := (Ext.app g5 [AObj.own [.int .i64 0, .int .i64 0, .int .i64 0, .int .i64 0]]).but_ b6 (some_le (Nat.le_refl _))
  refine ld_own g6 rfl (ld_own (x6.own ((x4.trans x5).own e3)) rfl ?_)
  refine (eqTile_c _ _ _).to ?_
  rintro _ g7 ⟨rfl, x7⟩
  refine bif_not (fun hq => by simp at hq) (fun _ => bif_ne (fun hq => absurd rfl hq) (fun _ => ⟨_, rfl, rfl⟩))
set_option maxRecDepth 100000 in
theorem law_ClassOf_in (h : H) (xs : List AVal) (hl : xs.length = Try.f7.params.toList.length) (ha : ∀ (i : Nat) t a, Try.f7.params.toList[i]? = some t → xs[i]? = some a → ArgIs Try.prog h t a) : callB (Sat Try.prog) 7 xs h fun b _ => b = true := by
  rw [show Try.f7.params.toList.length = 1 by kernel_rfl] at hl
  obtain ⟨a, rfl⟩ := List.length_eq_one_iff.1 hl
  obtain ⟨c, pd, d, rfl⟩ := ha 0 25 a (by kernel_rfl) rfl
  obtain ⟨t, rfl⟩ := den_tile (e := 2) (by kernel_rfl) (by kernel_rfl) d
  refine (show callB _ _ [argV Try.prog 25 (tc t)] _ _ from ?_)
  rw [show argV Try.prog 25 (tc t) = .agg (tc t) by kernel_rfl]
  exact law_ClassOf t h
end Go.Proofs.Ytekfmmcolgjdmaa.Cl
