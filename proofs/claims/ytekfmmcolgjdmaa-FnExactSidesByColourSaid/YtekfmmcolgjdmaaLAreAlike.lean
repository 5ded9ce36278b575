/- The law FnExactAreAlike holds of the program's own text (clean machine). No claim is stated here. -/
import Derived.Test.YtekfmmcolgjdmaaLClassOf
set_option linter.unusedVariables false
set_option linter.unusedSimpArgs false
namespace Go.Proofs.Ytekfmmcolgjdmaa.Cl
open Go
attribute [local simp] newK newO ixA ldI ldA stN st1 Cl.range cell Cl.cells putN put1 owned get_app get_app0 set_app set_app0 Pt.add splice Ext.app Ext.refl cutA isPt
theorem len_two {α : Type} : ∀ {l : List α}, l.length = 2 → ∃ a b, l = [a, b]
  | [a, b], _ => ⟨a, b, rfl⟩
theorem len_three {α : Type} : ∀ {l : List α}, l.length = 3 → ∃ a b c, l = [a, b, c]
  | [a, b, c], _ => ⟨a, b, c, rfl⟩
theorem len_four {α : Type} : ∀ {l : List α}, l.length = 4 → ∃ a b c d, l = [a, b, c, d]
  | [a, b, c, d], _ => ⟨a, b, c, d, rfl⟩
theorem eqA_tc (a b : Tile) {K : Bool → Prop} (k : K (a == b)) : eqA .i64 4 (tc a) (tc b) K := by
  refine ⟨tl a, tl b, ints_ic (tl a), ints_ic (tl b), rfl, rfl, ?_⟩
  have : (tl a == tl b) = (a == b) := by
    by_cases h : a = b
    · subst h; simp
    · rw [beq_eq_false_iff_ne.2 h, beq_eq_false_iff_ne.2 (fun e => h (tl_inj e))]
  rw [this]; exact k
def mirror (t : Tile) : Tile := (t.2.2.1, t.2.1, t.1, t.2.2.2)
theorem sidesM_c (t : Tile) (h : H) : callA SP i_impl_Tile_sides [.agg (tc t), i64 2, i64 1, i64 0, i64 3] h fun r h' => r = tc (mirror t) ∧ Ext h h' := by
  apply impl_Tile_sides_call
  simp [impl_Tile_sides_main, tc, mirror]
def areAlike (a b : Tile) : Bool × Bool × Int := if tileok 6 a && tileok 6 b then (cls a == cls b, cls a == cls (mirror b), 0) else (false, false, 2)
theorem tcs_two (a b : Tile) : tcs [a, b] = spl (spl [.int .i64 0, .int .i64 0, .int .i64 0, .int .i64 0, .int .i64 0, .int .i64 0, .int .i64 0, .int .i64 0] 0 4 (tc a)) 4 4 (tc b) := rfl
theorem impl_AreAlike_c (a b : Tile) (h : H) : callV SP i_impl_AreAlike [.agg (tc a), .agg (tc b)] h fun v h' => v = .tuple [.bool (areAlike a b).1, .bool (areAlike a b).2.1, i64 (areAlike a b).2.2] ∧ Ext h h' := by
  apply impl_AreAlike_call
  simp only [impl_AreAlike_main, newK, newO]
  refine ⟨rfl, rfl, ld_own (cs := tc a) (by simp) rfl (ld_own (cs := tc b) (by simp) rfl ⟨rfl, rfl, newS_ow rfl fun sx hx ox lx sox hex => ?_⟩)⟩
  subst hex
  rw [← tcs_two] at ox ⊢
  refine (areTiles_c (l := [a, b]) ox.rd (by simp)).to ?_
  rintro _ h1 ⟨rfl, l1, rfl⟩
  refine bif_not (fun hq => ?_) (fun hq => ?_)
  · have : (tileok 6 a && tileok 6 b) = false := by simpa using hq
    unfold areAlike
    rw [this]
    exact ⟨rfl, by simp⟩
  · have : (tileok 6 a && tileok 6 b) = true := by simpa using hq
    unfold areAlike
    rw [this]
    generalize hh : h ++ [AObj.own (tc a)] ++ [AObj.own (tc b)] ++ [AObj.own (tcs [a, b])] ++ l1 = g
    have ea : g[h.length]? = some (.own (tc a)) := by subst hh; simp
    have eb : g[(h ++ [AObj.own (tc a)]).length]? = some (.own (tc b)) := by subst hh; simp
    have x0 : Ext h g := by subst hh; simp
    refine ld_own eb rfl ((sidesM_c b g).to ?_)
    rintro _ g1 ⟨rfl, x1⟩
    refine st_own (k := 4) (cs := [.int .i64 0, .int .i64 0, .int .i64 0, .int .i64 0]) (by simp) rfl rfl fun b2 em => ?_
    have x2 := (Ext.app g1 [AObj.own [.int .i64 0, .int .i64 0, .int .i64 0, .int .i64 0]]).but_ b2 (some_le (Nat.le_refl _))
    revert b2 em x2
    generalize List.set (g1 ++ [AObj.own [.int .i64 0, .int .i64 0, .int .i64 0, .int .i64 0]]) g1.length (AObj.own (tc (mirror b))) = g2
    intro b2 em x2
    have x12 := x1.trans x2
    have rg : ∀ {o : Nat} {t : Tile} {q q' : H}, q[o]? = some (.own (tc t)) → Ext q q' → Cl.range q' (some o) 4 0 4 = some (tc t) := fun e x => by
      have e1 := x.own e
      simp [e1, tc]
    have ea2 := x12.own ea
    have eb2 := x12.own eb
    refine ld_own ea2 rfl ((class_c a g2).to ?_)
    rintro _ g3 ⟨rfl, x3⟩
    refine ld_own (x3.own eb2) rfl ⟨by rw [rg eb2 (Ext.refl _), rg eb2 x3], (class_c b g3).to ?_⟩
    rintro _ g4 ⟨rfl, x4⟩
    have x34 := x3.trans x4
    refine eqA_tc _ _ (ld_own (x34.own ea2) rfl ⟨by rw [rg ea2 x3, rg ea2 x34], by rw [rg ea2 (Ext.refl _), rg ea2 x34], (class_c a g4).to ?_⟩)
    rintro _ g5 ⟨rfl, x5⟩
    have x35 := x34.trans x5
    refine ld_own (x35.own em) rfl ⟨(rg em x34).trans (rg em x35).symm, (rg em x3).trans (rg em x35).symm, (rg em (Ext.refl _)).trans (rg em x35).symm, (class_c (mirror b) g5).to ?_⟩
    rintro _ g6 ⟨rfl, x6⟩
    exact eqA_tc _ _ ⟨rfl, x0.trans (x12.trans (x35.trans x6))⟩
theorem spec_AreAlike_c (a b : Tile) (h : H) : callV SP i_spec_AreAlike [.agg (tc a), .agg (tc b)] h fun v h' => v = .tuple [.bool (areAlike a b).1, .bool (areAlike a b).2.1, i64 (areAlike a b).2.2] ∧ Ext h h' := by
  apply spec_AreAlike_call
  simp only [spec_AreAlike_main, newK, newO]
  refine ⟨rfl, rfl, ld_own (cs := tc a) (by simp) rfl (ld_own (cs := tc b) (by simp) rfl ⟨rfl, rfl, newS_ow rfl fun sx hx ox lx sox hex => ?_⟩)⟩
  subst hex
  rw [← tcs_two] at ox ⊢
  refine (l07Tiles_c (l := [a, b]) ox.rd (by simp)).to ?_
  rintro _ h1 ⟨rfl, l1, rfl⟩
  have hall : [a, b].all (tileok 6) = (tileok 6 a && tileok 6 b) := by simp
  unfold tilesCode areAlike
  rw [hall]
  refine bif_ne (fun hq => ?_) (fun hq => ?_)
  · have : (tileok 6 a && tileok 6 b) = false := by
      cases hc : tileok 6 a && tileok 6 b with
      | false => rfl
      | true => rw [hc] at hq; simp at hq
    rw [this]
    exact ⟨rfl, by simp⟩
  · have : (tileok 6 a && tileok 6 b) = true := by
      cases hc : tileok 6 a && tileok 6 b with
      | false => rw [hc] at hq; simp at hq
      | true => rfl
    rw [this]
    generalize hh : h ++ [AObj.own (tc a)] ++ [AObj.own (tc b)] ++ [AObj.own (tcs [a, b])] ++ l1 = g
    have ea : g[h.length]? = some (.own (tc a)) := by subst hh; simp
    have eb : g[(h ++ [AObj.own (tc a)]).length]? = some (.own (tc b)) := by subst hh; simp
    have x0 : Ext h g := by subst hh; simp
    have rg : ∀ {o : Nat} {t : Tile} {q q' : H}, q[o]? = some (.own (tc t)) → Ext q q' → Cl.range q' (some o) 4 0 4 = some (tc t) := fun e x => by
      have e1 := x.own e
      simp [e1, tc]
    have rc : ∀ {o : Nat} {t : Tile} {q q' : H} {i : Nat}, q[o]? = some (.own (tc t)) → Ext q q' → cell q' ⟨some o, 4, i⟩ = (tc t)[i]? := fun e x => by
      have e1 := x.own e
      simp [e1, tc_len]
    refine ld_own ea rfl ((l07Class_c a g).to ?_)
    rintro _ g3 ⟨rfl, x3⟩
    refine ld_own (x3.own eb) rfl ⟨by rw [rg eb (Ext.refl _), rg eb x3], (l07Class_c b g3).to ?_⟩
    rintro _ g4 ⟨rfl, x4⟩
    have x34 := x3.trans x4
    refine eqA_tc _ _ (ld_own (x34.own ea) rfl ⟨by rw [rg ea x3, rg ea x34], by rw [rg ea (Ext.refl _), rg ea x34], (l07Class_c a g4).to ?_⟩)
    rintro _ g5 ⟨rfl, x5⟩
    have x35 := x34.trans x5
    have e5 := x35.own eb
    refine ⟨⟨by omega, by omega⟩, rfl, b.2.2.1, ?_, ?_⟩
    · exact (rc eb x35).trans rfl
    refine ⟨(rc eb x34).trans (rc eb x35).symm, (rc eb x3).trans (rc eb x35).symm, (rc eb (Ext.refl _)).trans (rc eb x35).symm, ⟨by omega, by omega⟩, rfl, b.2.1, ?_, ?_⟩
    · exact (rc eb x35).trans rfl
    refine ⟨(rc eb x34).trans (rc eb x35).symm, (rc eb x3).trans (rc eb x35).symm, (rc eb (Ext.refl _)).trans (rc eb x35).symm, ⟨by omega, by omega⟩, rfl, b.1, ?_, ?_⟩
    · exact (rc eb x35).trans rfl
    refine ⟨(rc eb x34).trans (rc eb x35).symm, (rc eb x3).trans (rc eb x35).symm, (rc eb (Ext.refl _)).trans (rc eb x35).symm, ⟨by omega, by omega⟩, rfl, b.2.2.2, ?_, ?_⟩
    · exact (rc eb x35).trans rfl
    refine ⟨(rc eb x34).trans (rc eb x35).symm, (rc eb x3).trans (rc eb x35).symm, (rc eb (Ext.refl _)).trans (rc eb x35).symm, (l07Class_c (mirror b) g5).to ?_⟩
    rintro _ g6 ⟨rfl, x6⟩
    exact eqA_tc _ _ ⟨rfl, x0.trans (x35.trans x6)⟩
theorem law_AreAlike (a b : Tile) (h : H) : callB SP i_laws_FnExactAreAlike [.agg (tc a), .agg (tc b)] h fun r h' => r = true := by
  apply laws_FnExactAreAlike_call
  simp only [laws_FnExactAreAlike_main, newK, newO]
  refine ⟨rfl, rfl, ?_⟩
  generalize hh : h ++ [AObj.own (tc a)] ++ [AObj.own (tc b)] = g
  have ea : g[h.length]? = some (.own (tc a)) := by subst hh; simp
  have eb : g[(h ++ [AObj.own (tc a)]).length]? = some (.own (tc b)) := by subst hh; simp
  have rg : ∀ {o : Nat} {t : Tile} {q q' : H}, q[o]? = some (.own (tc t)) → Ext q q' → Cl.range q' (some o) 4 0 4 = some (tc t) := fun e x => by
    have e1 := x.own e
    simp [e1, tc]
  refine ld_own ea rfl ((toTile_c a g).to ?_)
  rintro _ g1 ⟨rfl, x1⟩
  refine ld_own (x1.own eb) rfl ⟨by rw [rg eb (Ext.refl _), rg eb x1], (toTile_c b g1).to ?_⟩
  rintro _ g2 ⟨rfl, x2⟩
  refine (spec_AreAlike_c a b g2).to ?_
  rintro _ g3 ⟨rfl, x3⟩
  refine ⟨_, rfl, _, rfl, _, rfl, _, rfl, _, rfl, _, rfl, ?_⟩
  have x13 := x1.trans (x2.trans x3)
  refine ld_own (x13.own ea) rfl ((toTile_c a g3).to ?_)
  rintro _ g4 ⟨rfl, x4⟩
  have x14 := x13.trans x4
  refine ld_own (x14.own eb) rfl ⟨by rw [rg eb x13, rg eb x14], (toTile_c b g4).to ?_⟩
  rintro _ g5 ⟨rfl, x5⟩
  refine (impl_AreAlike_c a b g5).to ?_
  rintro _ g6 ⟨rfl, x6⟩
  refine ⟨_, rfl, _, rfl, _, rfl, _, rfl, _, rfl, _, rfl, ?_⟩
  refine bif_b (fun hq => by simp at hq) (fun _ => bif_b (fun hq => by simp at hq) (fun _ => bif_ne (fun hq => absurd rfl hq) (fun _ => ⟨_, rfl, rfl⟩)))
set_option maxRecDepth 100000 in
theorem law_AreAlike_in (h : H) (xs : List AVal) (hl : xs.length = Try.f6.params.toList.length) (ha : ∀ (i : Nat) t a, Try.f6.params.toList[i]? = some t → xs[i]? = some a → ArgIs Try.prog h t a) : callB (Sat Try.prog) 6 xs h fun b _ => b = true := by
  rw [show Try.f6.params.toList.length = 2 by kernel_rfl] at hl
  obtain ⟨a, b, rfl⟩ := len_two hl
  obtain ⟨c, pd, d, rfl⟩ := ha 0 25 a (by kernel_rfl) rfl
  obtain ⟨t, rfl⟩ := den_tile (e := 2) (by kernel_rfl) (by kernel_rfl) d
  obtain ⟨c, pd, d, rfl⟩ := ha 1 25 b (by kernel_rfl) rfl
  obtain ⟨t', rfl⟩ := den_tile (e := 2) (by kernel_rfl) (by kernel_rfl) d
  refine (show callB _ _ [argV Try.prog 25 (tc t), argV Try.prog 25 (tc t')] _ _ from ?_)
  rw [show argV Try.prog 25 (tc t) = .agg (tc t) by kernel_rfl, show argV Try.prog 25 (tc t') = .agg (tc t') by kernel_rfl]
  exact law_AreAlike t t' h
end Go.Proofs.Ytekfmmcolgjdmaa.Cl
