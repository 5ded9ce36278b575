/- Contracts of the functions that compare tiles and find the class of a tile. No claim is stated here. -/
import Derived.Test.YtekfmmcolgjdmaaLa
import Derived.Test.YtekfmmcolgjdmaaGB
set_option linter.unusedVariables false
set_option linter.unusedSimpArgs false
namespace Go.Proofs.Ytekfmmcolgjdmaa.Cl
open Go
attribute [local simp] newK newO ixA ldI ldA stN st1 Cl.range cell Cl.cells putN put1 owned get_app get_app0 set_app set_app0 Pt.add splice Ext.app Ext.refl cutA isPt
/-! ### comparing -/
def cmpL : List Int → List Int → Int
  | [], [] => 0
  | [], _ :: _ => -1
  | _ :: _, [] => 1
  | a :: l, b :: m => if a < b then -1 else if a > b then 1 else cmpL l m
theorem isNaN_c (x : Int) (h : H) : callB SP i_cmp_isNaN_int64_ [i64 x] h fun b h' => b = false ∧ h' = h := by
  apply cmp_isNaN_int64__call
  unfold cmp_isNaN_int64__main
  exact ⟨_, rfl, by simp, rfl⟩
theorem cmpCompare_c (x y : Int) (h : H) : callI SP .i64 i_cmp_Compare_int64_ [i64 x, i64 y] h fun n h' => n = (if x < y then -1 else if x > y then 1 else 0) ∧ h' = h := by
  apply cmp_Compare_int64__call
  unfold cmp_Compare_int64__main
  refine (isNaN_c x h).to ?_
  rintro _ _ ⟨rfl, rfl⟩
  refine (isNaN_c y _).to ?_
  rintro _ _ ⟨rfl, rfl⟩
  refine bif_dec (fun h1 => ⟨_, rfl, by simp [h1], rfl⟩) (fun h1 => bif_dec (fun h2 => ⟨_, rfl, by simp [h1, h2], rfl⟩) (fun h2 => ⟨_, rfl, by simp [h1, h2], rfl⟩))
theorem drop_cons {α : Type} {l : List α} {i : Nat} {x : α} (e : l[i]? = some x) : l.drop i = x :: l.drop (i + 1) := by
  obtain ⟨h, rfl⟩ := List.getElem?_eq_some_iff.1 e
  exact List.drop_eq_getElem_cons h
theorem sCompare_c {h0 : H} {s s' : Sl} {l l' : List Int} (r : Rd h0 s 1 (ic l)) (r' : Rd h0 s' 1 (ic l')) (hl : l.length < 4000000000000000000) : callI SP .i64 i_slices_Compare_s_int64_int64_ [.sl s, .sl s'] h0 fun n h' => n = cmpL l l' ∧ h' = h0 := by
  have hlen : s.len = l.length := by have := r.len; rw [ic_len] at this; omega
  have hlen' : s'.len = l'.length := by have := r'.len; rw [ic_len] at this; omega
  apply slices_Compare_s_int64_int64__call
  unfold slices_Compare_s_int64_int64__main
  refine slices_Compare_s_int64_int64__rule0 _ _ s s' s _ (fun i h => 0 ≤ i ∧ i ≤ l.length ∧ i ≤ l'.length ∧ h = h0 ∧ cmpL l l' = cmpL (l.drop i.toNat) (l'.drop i.toNat)) (fun i _ => (l.length - i).toNat) ?_ _ ⟨by omega, by omega, by omega, rfl, by simp⟩
  rintro X i _ ⟨i0, i1, i2, rfl, he⟩ hX
  unfold slices_Compare_s_int64_int64__b0 slices_Compare_s_int64_int64__C0
  refine bif_dec (fun hi => ?_) (fun hi => ?_)
  · refine r.ldI i0 (by omega) fun x hx => bif_dec (fun hj => ?_) (fun hj => ?_)
    · refine ⟨_, rfl, ?_, rfl⟩
      rw [he, drop_cons hx, List.drop_eq_nil_of_le (show l'.length ≤ i.toNat by omega)]; rfl
    · refine r'.ldI i0 (by omega) fun y hy => ?_
      refine (cmpCompare_c x y _).to ?_
      rintro _ _ ⟨rfl, rfl⟩
      rw [drop_cons hx, drop_cons hy, cmpL] at he
      refine bif_ne (fun hq => ⟨_, rfl, ?_, rfl⟩) (fun hq => ?_)
      · rw [he]
        split
        · rfl
        · split
          · rfl
          · next h1 h2 => simp [h1, h2] at hq
      · rw [w64_of (by omega) (by omega)]
        refine hX _ _ ⟨by omega, by omega, by omega, rfl, ?_⟩ (by omega)
        rw [he, show (i + 1).toNat = i.toNat + 1 by omega]
        split
        · next h1 => simp [h1] at hq
        · split
          · next h1 h2 => simp [h1, h2] at hq
          · rfl
  · have e1 : l.drop i.toNat = [] := List.drop_eq_nil_of_le (by omega)
    refine bif_dec (fun hj => ⟨_, rfl, ?_, rfl⟩) (fun hj => ⟨_, rfl, ?_, rfl⟩)
    · have hy : l'[i.toNat]? = some _ := List.getElem?_eq_getElem (by omega)
      rw [he, e1, drop_cons hy]; rfl
    · rw [he, e1, List.drop_eq_nil_of_le (show l'.length ≤ i.toNat by omega)]; rfl
def cmpT (a b : Tile) : Int := cmpL (tl a) (tl b)
theorem compare_c (a b : Tile) (h : H) : callI SP .i64 i_impl_compare [.agg (tc a), .agg (tc b)] h fun n h' => n = cmpT a b ∧ Ext h h' := by
  apply impl_compare_call
  simp only [impl_compare_main, newK]
  refine ⟨rfl, rfl, ⟨by omega, by omega, by omega⟩, rfl, rfl, ⟨by omega, by omega, by omega⟩, rfl, rfl, ?_⟩
  refine (sCompare_c (l := tl a) (l' := tl b) ⟨rfl, .inr ⟨rfl, rfl, ?_⟩⟩ ⟨rfl, .inr ⟨rfl, rfl, ?_⟩⟩ (by simp [tl])).to ?_
  · simp [tc, tl, ic]
  · simp [tc, tl, ic]
  · rintro _ _ ⟨rfl, rfl⟩
    exact ⟨_, rfl, rfl, by simp⟩
/-- The less of two tiles; the first, if they are alike. -/
def lessT (m x : Tile) : Tile := if cmpT x m < 0 then x else m
theorem minFunc_c {h0 : H} {s : Sl} {a : Tile} {l : List Tile} (r : Rd h0 s 4 (tcs (a :: l))) (hl : l.length < 4000000000000000000) : callA SP i_slices_MinFunc_s_impl_Tile_impl_Tile_ [.sl s, .func i_impl_compare []] h0 fun v h' => v = tc (l.foldl lessT a) ∧ Ext h0 h' := by
  have hlen : s.len = l.length + 1 := by rw [r.tlen]; rfl
  apply slices_MinFunc_s_impl_Tile_impl_Tile__call
  simp only [slices_MinFunc_s_impl_Tile_impl_Tile__main, newO]
  refine bif_dec (fun h => by omega) (fun _ => ?_)
  refine (r.ext (Ext.app _ _)).ldT (by omega) (by simp) fun t ht => ?_
  simp at ht
  subst ht
  refine st_own (k := 4) (cs := [.int .i64 0, .int .i64 0, .int .i64 0, .int .i64 0]) (by simp) rfl rfl fun b g => ?_
  refine slices_MinFunc_s_impl_Tile_impl_Tile__rule0 _ _ s _ _ _ (fun i h => 1 ≤ i ∧ i ≤ l.length + 1 ∧ Ext h0 h ∧ ∃ m c, h[h0.length]? = some (.own c) ∧ c.length = 4 ∧ h[h0.length + 1]? = some (.own (tc m)) ∧ ((a :: l).drop i.toNat).foldl lessT m = l.foldl lessT a) (fun i _ => (l.length + 1 - i).toNat) ?_ _ ⟨by omega, by omega, by simp, a, [i64 0, i64 0, i64 0, i64 0], by simp [i64], rfl, by simp, rfl⟩
  rintro X i h ⟨i0, i1, x, m, c, g0, gc, g1, he⟩ hX
  unfold slices_MinFunc_s_impl_Tile_impl_Tile__b0 slices_MinFunc_s_impl_Tile_impl_Tile__C0
  have ep : (h0 ++ [AObj.own [.int .i64 0, .int .i64 0, .int .i64 0, .int .i64 0]]).length = h0.length + 1 := by simp
  rw [ep] at hX ⊢
  refine bif_dec (fun hi => ?_) (fun hi => ?_)
  · refine (r.ext x).ldT (by omega) (by simp; omega) fun t ht => ld_own g1 rfl (via_func ?_)
    refine (compare_c t m h).to ?_
    rintro _ h1 ⟨rfl, x1⟩
    have ed : (a :: l).drop i.toNat = t :: (a :: l).drop (i.toNat + 1) := drop_cons ht
    have e1 : (i + 1).toNat = i.toNat + 1 := by omega
    rw [ed, List.foldl_cons] at he
    rw [w64_of (by omega) (by omega)]
    refine bif_dec (fun hq => ?_) (fun hq => ?_)
    · refine ((r.ext x).ext x1).ldT (by omega) (by simp; omega) fun t' ht' => ?_
      rw [ht] at ht'
      cases ht'
      refine st_own (k := 4) (x1.own g1) rfl rfl fun b2 g2 => hX _ _ ⟨by omega, by omega, (x.trans x1).but_ b2 (some_le (by omega)), t, c, b2.get (x1.own g0) (by simp), gc, g2, ?_⟩ (by omega)
      rw [e1, ← he]
      unfold lessT
      rw [if_pos hq]
    · refine hX _ _ ⟨by omega, by omega, x.trans x1, m, c, x1.own g0, gc, x1.own g1, ?_⟩ (by omega)
      rw [e1, ← he]
      unfold lessT
      rw [if_neg hq]
  · rw [List.drop_eq_nil_of_le (by simp; omega)] at he
    refine ld_own g1 rfl (st_own (k := 4) g0 gc rfl fun b2 g2 => ld_own g2 rfl ⟨_, rfl, by rw [← he]; rfl, x.but_ b2 (some_le (Nat.le_refl _))⟩)
/-- The class: the least turn. -/
def cls (t : Tile) : Tile := (turnsN 3 (turn t)).foldl lessT t
theorem class_c (t : Tile) (h : H) : callA SP i_impl_Tile_class [.agg (tc t)] h fun r h' => r = tc (cls t) ∧ Ext h h' := by
  apply impl_Tile_class_call
  simp only [impl_Tile_class_main, newK, newO]
  refine ⟨rfl, ld_own (cs := tc t) (by simp) rfl ?_⟩
  refine (turns_c t _).to ?_
  rintro s _ ⟨o, f, l, rfl⟩
  refine (minFunc_c (a := t) (l := turnsN 3 (turn t)) o.rd (by rw [turnsN_len]; omega)).to ?_
  rintro _ _ ⟨rfl, l2, rfl⟩
  simp [cls]
  simp [tc]
theorem l01Before_c (a b : Tile) (h : H) : callB SP i_spec_l01Before [.agg (tc a), .agg (tc b)] h fun r h' => r = decide (cmpT a b < 0) ∧ Ext h h' := by
  apply spec_l01Before_call
  simp only [spec_l01Before_main, newK]
  refine ⟨rfl, rfl, ?_⟩
  refine spec_l01Before_rule0 _ _ _ _ (fun i h' => 0 ≤ i ∧ i ≤ 4 ∧ h' = h ++ [.own (tc a)] ++ [.own (tc b)] ∧ cmpT a b = cmpL ((tl a).drop i.toNat) ((tl b).drop i.toNat)) (fun i _ => (4 - i).toNat) ?_ _ ⟨by omega, by omega, rfl, by simp [cmpT]⟩
  rintro X i _ ⟨i0, i1, rfl, he⟩ hX
  unfold spec_l01Before_b0 spec_l01Before_C0
  refine bif_dec (fun hi => ?_) (fun hi => ?_)
  · have hx : (tl a)[i.toNat]? = some _ := List.getElem?_eq_getElem (by simp [tl]; omega)
    have hy : (tl b)[i.toNat]? = some _ := List.getElem?_eq_getElem (by simp [tl]; omega)
    rw [drop_cons hx, drop_cons hy, cmpL] at he
    have gx := ic_at hx
    have gy := ic_at hy
    refine ixA_ldI (cs := tc a) (by simp) rfl i0 hi gx (ixA_ldI (cs := tc b) (by simp) rfl i0 hi gy (bif_ne (fun hq => ?_) (fun hq => ?_)))
    · refine ixA_ldI (cs := tc a) (by simp) rfl i0 hi gx (ixA_ldI (cs := tc b) (by simp) rfl i0 hi gy ⟨_, rfl, ?_, by simp⟩)
      rw [he]
      by_cases h1 : (tl a)[i.toNat]'(by simp [tl]; omega) < (tl b)[i.toNat]'(by simp [tl]; omega)
      · simp [h1]
      · have h2 : (tl a)[i.toNat]'(by simp [tl]; omega) > (tl b)[i.toNat]'(by simp [tl]; omega) := by omega
        simp [h1, h2]
    · rw [w64_of (by omega) (by omega)]
      refine hX _ _ ⟨by omega, by omega, rfl, ?_⟩ (by omega)
      rw [he, if_neg (by omega), if_neg (by omega), show (i + 1).toNat = i.toNat + 1 by omega]
  · refine ⟨_, rfl, ?_, by simp⟩
    rw [he, List.drop_eq_nil_of_le (by simp [tl]; omega), List.drop_eq_nil_of_le (by simp [tl]; omega)]
    rfl
theorem l07Class_c (t : Tile) (h : H) : callA SP i_spec_l07Class [.agg (tc t)] h fun r h' => r = tc (cls t) ∧ Ext h h' := by
  apply spec_l07Class_call
  simp only [spec_l07Class_main, newK, newO]
  refine ⟨rfl, ld_own (cs := tc t) (by simp) rfl ?_⟩
  refine st_own (k := 4) (cs := [.int .i64 0, .int .i64 0, .int .i64 0, .int .i64 0]) (by simp) rfl rfl fun b g => ?_
  refine spec_l07Class_rule0 _ _ _ _ _ (fun i h' => 1 ≤ i ∧ i ≤ 4 ∧ Ext h h' ∧ ∃ m c, h'[h.length]? = some (.own (tc t)) ∧ h'[h.length + 1]? = some (.own c) ∧ c.length = 4 ∧ h'[h.length + 2]? = some (.own (tc m)) ∧ ((turnsN 4 t).drop i.toNat).foldl lessT m = cls t) (fun i _ => (4 - i).toNat) ?_ _ ⟨by omega, by omega, by simp, t, [i64 0, i64 0, i64 0, i64 0], by simp, by simp [i64], rfl, by simp, rfl⟩
  rintro X i h1 ⟨i0, i1, x, m, c, g0, g1, gc, g2, he⟩ hX
  have ep : (h ++ [AObj.own (tc t)]).length = h.length + 1 := by simp
  have ep2 : (h ++ [AObj.own (tc t)] ++ [AObj.own [.int .i64 0, .int .i64 0, .int .i64 0, .int .i64 0]]).length = h.length + 2 := by simp
  rw [ep, ep2] at hX ⊢
  unfold spec_l07Class_b0 spec_l07Class_C0
  refine bif_dec (fun hi => ?_) (fun hi => ?_)
  · refine ld_own g0 rfl ?_
    refine (l07Turn_c t i (by omega) (by omega) h1).to ?_
    rintro _ h2 ⟨rfl, x2⟩
    have gt : (turnsN 4 t)[i.toNat]? = some (turnN i.toNat t) := by
      have : i = 1 ∨ i = 2 ∨ i = 3 := by omega
      rcases this with rfl | rfl | rfl <;> rfl
    have ed := drop_cons gt
    rw [ed, List.foldl_cons] at he
    have e1 : (i + 1).toNat = i.toNat + 1 := by omega
    have hlt : h.length ≤ h1.length := x.len
    have hlt2 := x2.len
    have hk2 : h.length + 2 < h1.length := (List.getElem?_eq_some_iff.1 g2).1
    simp only [newO]
    have x3 : Ext h2 (h2 ++ [AObj.own [.int .i64 0, .int .i64 0, .int .i64 0, .int .i64 0]]) := Ext.app _ _
    refine st_own (k := 4) (cs := [.int .i64 0, .int .i64 0, .int .i64 0, .int .i64 0]) (by simp) rfl rfl fun b4 g4 => ?_
    have x4 : Ext h2 (List.set (h2 ++ [AObj.own [.int .i64 0, .int .i64 0, .int .i64 0, .int .i64 0]]) h2.length (AObj.own (tc (turnN i.toNat t)))) := x3.but_ b4 (some_le (Nat.le_refl _))
    revert g4 b4 x4
    generalize List.set (h2 ++ [AObj.own [.int .i64 0, .int .i64 0, .int .i64 0, .int .i64 0]]) h2.length (AObj.own (tc (turnN i.toNat t))) = h4
    intro b4 g4 x4
    have x24 := x2.trans x4
    refine ld_own g4 rfl (ld_own (x24.own g2) rfl ?_)
    refine (l01Before_c _ _ _).to ?_
    rintro _ h5 ⟨rfl, x5⟩
    have x25 := x24.trans x5
    rw [w64_of (by omega) (by omega)]
    refine bif_dec (fun hq => ?_) (fun hq => ?_)
    · refine ld_own (x5.own g4) rfl (st_own (k := 4) (x25.own g2) rfl rfl fun b6 g6 => hX _ _ ⟨by omega, by omega, (x.trans x25).but_ b6 (some_le (by omega)), turnN i.toNat t, c, b6.get (x25.own g0) (by simp), b6.get (x25.own g1) (by simp), gc, g6, ?_⟩ (by omega))
      rw [e1, ← he]
      unfold lessT
      rw [if_pos hq]
    · refine hX _ _ ⟨by omega, by omega, x.trans x25, m, c, x25.own g0, x25.own g1, gc, x25.own g2, ?_⟩ (by omega)
      rw [e1, ← he]
      unfold lessT
      rw [if_neg hq]
  · rw [List.drop_eq_nil_of_le (by rw [turnsN_len]; omega)] at he
    refine ld_own g2 rfl (st_own (k := 4) g1 gc rfl fun b2 g2 => ld_own g2 rfl ⟨_, rfl, by rw [← he]; rfl, x.but_ b2 (some_le (by omega))⟩)
end Go.Proofs.Ytekfmmcolgjdmaa.Cl
