/- Contracts of the functions that tell fillings, cylinders and tori. No claim is stated here. -/
import Derived.Test.YtfmjjpophipfbaaMc
set_option linter.unusedVariables false
set_option linter.unusedSimpArgs false
namespace Go.Proofs.Ytfmjjpophipfbaa.Cl
open Go
section
variable {h : H} {a : Nat} {c : Int} {s q : Sl} {ts : List Tile} {rows : List (List Int)}
theorem side_of (o : Obj h a (SetC c s)) (r : Rd h s 4 (tcs ts)) {n k : Int} (n0 : 0 ≤ n) (n1 : n < ts.length) (k0 : 0 ≤ k) (k1 : k < 4) {K : Int → Prop} (hk : K (sd (tat ts n) k.toNat)) :
    isPt ⟨some a, 2, 0⟩ (ldS (Pt.add ⟨some a, 2, 0⟩ 1) h fun s2 => ixS s2 4 n fun p => ixA p 4 1 k fun p => ldI .i64 p h K) :=
  isPt_in (o.ldS rfl rfl (r.sideG n0 n1 k0 k1 hk))
theorem side_in (o : Obj h a (SetC c s)) (r : Rd h s 4 (tcs ts)) {v : Sl} {y : Nat} (rv : Rd h v 1 (ic (rw_ rows y))) {x k : Int} (x0 : 0 ≤ x) (x1 : x < (rw_ rows y).length) (hn : 0 ≤ G rows y x.toNat ∧ G rows y x.toNat < ts.length) (k0 : 0 ≤ k) (k1 : k < 4) {K : Int → Prop} (hk : K (sd (tat ts (G rows y x.toNat)) k.toNat)) :
    isPt ⟨some a, 2, 0⟩ (ldS (Pt.add ⟨some a, 2, 0⟩ 1) h fun s2 => ixS v 1 x fun p => ldI .i64 p h fun n => ixS s2 4 n fun p => ixA p 4 1 k fun p => ldI .i64 p h K) :=
  isPt_in (o.ldS rfl rfl (rv.ldG x0 x1 (r.sideG hn.1 hn.2 k0 k1 hk)))
theorem side_at (o : Obj h a (SetC c s)) (r : Rd h s 4 (tcs ts)) (rr : RdSS h q rows) {y x k : Int} (y0 : 0 ≤ y) (y1 : y < rows.length) (x0 : 0 ≤ x) (x1 : x < (rw_ rows y.toNat).length) (hn : 0 ≤ G rows y.toNat x.toNat ∧ G rows y.toNat x.toNat < ts.length) (k0 : 0 ≤ k) (k1 : k < 4) {K : Int → Prop} (hk : K (sd (tat ts (G rows y.toNat x.toNat)) k.toNat)) :
    isPt ⟨some a, 2, 0⟩ (ldS (Pt.add ⟨some a, 2, 0⟩ 1) h fun s2 => ixS q 1 y fun p => ldS p h fun v => ixS v 1 x fun p => ldI .i64 p h fun n => ixS s2 4 n fun p => ixA p 4 1 k fun p => ldI .i64 p h K) :=
  isPt_in (o.ldS rfl rfl (rr.ldG y0 y1 fun v rv lv => rv.ldG x0 x1 (r.sideG hn.1 hn.2 k0 k1 hk)))
end
/-- The side k of the tile at a place. -/
abbrev S_ (ts : List Tile) (rows : List (List Int)) (y x k : Nat) : Int := sd (tat ts (G rows y x)) k
def CellOK (ts : List Tile) (rows : List (List Int)) (y x : Nat) : Prop := (0 < x → S_ ts rows y (x - 1) 2 = S_ ts rows y x 0) ∧ (0 < y → S_ ts rows (y - 1) x 3 = S_ ts rows y x 1)
def Filling (ts : List Tile) (rows : List (List Int)) : Prop := ∀ y x, y < rows.length → x < (rw_ rows y).length → CellOK ts rows y x
def CylEnds (ts : List Tile) (rows : List (List Int)) : Prop := ∀ y, y < rows.length → S_ ts rows y ((rw_ rows y).length - 1) 2 = S_ ts rows y 0 0
def TorEnds (ts : List Tile) (rows : List (List Int)) : Prop := ∀ x, x < (rw_ rows 0).length → S_ ts rows (rows.length - 1) x 3 = S_ ts rows 0 x 1
section
variable {h0 : H} {c : Int} {s q : Sl} {ts : List Tile} {rows : List (List Int)}
theorem l01Good_c (r : Rd h0 s 4 (tcs ts)) (rr : RdSS h0 q rows) (hN : Nums ts.length rows) : callB SP i_spec_l01Good [.agg (SetC c s), .sl q] h0 fun b h' => (b = true ↔ Filling ts rows) ∧ Ext h0 h' := by
  have hl := r.tlen
  have hq := rr.len
  have hT := hN.2
  apply spec_l01Good_call
  unfold spec_l01Good_main
  refine newK_obj fun h1 o1 x1 n1 => ?_
  refine spec_l01Good_rule0 _ _ _ _ (fun i h => 0 ≤ i ∧ i ≤ rows.length ∧ Ext h1 h ∧ ∀ y x, y < i.toNat → x < (rw_ rows y).length → CellOK ts rows y x) (fun i _ => (rows.length - i).toNat) ?_ _ ⟨by omega, by omega, Ext.refl _, fun y x hy => by omega⟩
  rintro X i h ⟨i0, i1, x, hj⟩ hX
  unfold spec_l01Good_b0 spec_l01Good_C0
  refine bif_dec (fun hi => ?_) (fun hi => ⟨_, rfl, ⟨fun _ y z hy hz => hj y z (by omega) hz, fun _ => rfl⟩, x1.trans x⟩)
  refine spec_l01Good_rule2 _ _ X _ _ _ (fun k h' => 0 ≤ k ∧ k ≤ (rw_ rows i.toNat).length ∧ Ext h h' ∧ ∀ x, x < k.toNat → CellOK ts rows i.toNat x) (fun k _ => ((rw_ rows i.toNat).length - k).toNat) ?_ _ ⟨by omega, by omega, Ext.refl _, fun x hx => by omega⟩
  rintro Y k h' ⟨k0, k1, x', hk⟩ hY
  unfold spec_l01Good_b2 spec_l01Good_C2 spec_l01Good_C1
  have XX := (x1.trans x).trans x'
  refine (rr.ext XX).ldG i0 (by omega) fun v rv lv => ?_
  have hrow := hT.2 i.toNat (by omega)
  have h8 := hT.1
  refine bif_dec (fun hki => ?_) (fun hki => ?_)
  · have no : ∀ {h''}, Ext h' h'' → ¬ CellOK ts rows i.toNat k.toNat → ∃ b, AVal.bool false = .bool b ∧ (b = true ↔ Filling ts rows) ∧ Ext h0 h'' := fun {h''} x2 hn =>
      ⟨_, rfl, by simp only [Bool.false_eq_true, false_iff]; exact fun f => hn (f _ _ (by omega) (by omega)), XX.trans x2⟩
    have hc := hN.1 i.toNat k.toNat (by omega) (by omega)
    have o := o1.ext (x.trans x')
    refine isPt_in (o.ldS rfl rfl ?_)
    refine (rr.ext XX).ixC i0 (by omega) fun p3 v2 e3 rv2 lv2 => ⟨v2, e3, ?_⟩
    refine rv2.ixC k0 (by omega) fun p5 e5 => ⟨_, e5, ?_⟩
    refine (r.ext XX).ixT hc.1 hc.2 fun p7 po e7 => ⟨_, e7, ?_⟩
    refine newO_obj fun h2 o2 x2 n2 => ?_
    refine ⟨x2.rangeE e7, x2.cellE e5, x2.cellE e3, x2.cellE (o.cellE rfl), ?_⟩
    refine o2.stA fun h3 o3 b3 n3 => ?_
    have x3 : Ext h' h3 := x2.but_ b3 (some_le (Nat.le_refl _))
    have o' := o.ext x3
    have r' := r.ext (XX.trans x3)
    have rr' := rr.ext (XX.trans x3)
    have hcG : G rows i.toNat k.toNat = (rw_ rows i.toNat).getD k.toNat 0 := rfl
    have next : CellOK ts rows i.toNat k.toNat → Y (spec_l01Good_e2 q ⟨some h0.length, 2, 0⟩ i (w64 (k + 1))) h3 := fun hok => by
      rw [w64_of (by omega) (by omega)]
      refine hY _ _ ⟨by omega, by omega, x'.trans x3, fun z hz => ?_⟩ (by omega)
      by_cases e : z = k.toNat
      · subst e; exact hok
      · exact hk z (by omega)
    have up : (0 < k → S_ ts rows i.toNat (k.toNat - 1) 2 = S_ ts rows i.toNat k.toNat 0) → bif (decide (i > 0)) then
        isPt ⟨some h0.length, 2, 0⟩ (ldS (Pt.add ⟨some h0.length, 2, 0⟩ 1) h3 fun s2 => ixS q 1 (w64 (i - 1)) fun p => ldS p h3 fun u => ixS u 1 k fun p => ldI .i64 p h3 fun n => ixS s2 4 n fun p => ixA p 4 1 3 fun p => ldI .i64 p h3 fun n29 =>
          ixA ⟨some h'.length, 4, 0⟩ 4 1 1 fun p => ldI .i64 p h3 fun n31 => bif (n29 != n31) then ∃ r, AVal.bool false = .bool r ∧ (r = true ↔ Filling ts rows) ∧ Ext h0 h3 else Y (spec_l01Good_e2 q ⟨some h0.length, 2, 0⟩ i (w64 (k + 1))) h3)
        else Y (spec_l01Good_e2 q ⟨some h0.length, 2, 0⟩ i (w64 (k + 1))) h3 := fun hw => by
      refine bif_dec (fun hp => ?_) (fun hp => next ⟨fun h => hw (by omega), fun h => by omega⟩)
      rw [w64_of (n := i - 1) (by omega) (by omega)]
      have hrow' := hT.2 (i - 1).toNat (by omega)
      refine side_at o' r' rr' (by omega) (by omega) k0 (by omega) (hN.1 _ _ (by omega) (by omega)) (by omega) (by omega) ?_
      refine o3.sdI (by omega) (by omega) ?_
      rw [show (i - 1).toNat = i.toNat - 1 by omega]
      refine bif_ne (fun hq => no x3 fun t => hq (t.2 (by omega))) (fun hq => next ⟨fun h => hw (by omega), fun _ => hq⟩)
    refine bif_dec (fun hp => ?_) (fun hp => up fun h => by omega)
    rw [w64_of (n := k - 1) (by omega) (by omega)]
    refine side_at o' r' rr' i0 (by omega) (by omega) (by omega) (hN.1 _ _ (by omega) (by omega)) (by omega) (by omega) ?_
    refine o3.sdI (by omega) (by omega) ?_
    rw [show (k - 1).toNat = k.toNat - 1 by omega]
    exact bif_ne (fun hq => no x3 fun t => hq (t.1 (by omega))) (fun hq => up fun _ => hq)
  · rw [w64_of (by omega) (by omega)]
    refine hX _ _ ⟨by omega, by omega, x.trans x', fun y z hy hz => ?_⟩ (by omega)
    by_cases e : y = i.toNat
    · subst e; exact hk z (by omega)
    · exact hj y z (by omega) hz
theorem isFilling_c (r : Rd h0 s 4 (tcs ts)) (rr : RdSS h0 q rows) (hN : Nums ts.length rows) : callB SP i_impl_Set_isFilling [.agg (SetC c s), .sl q] h0 fun b h' => (b = true ↔ Filling ts rows) ∧ Ext h0 h' := by
  have hl := r.tlen
  have hq := rr.len
  have hT := hN.2
  apply impl_Set_isFilling_call
  unfold impl_Set_isFilling_main
  refine newK_obj fun h1 o1 x1 n1 => ?_
  refine impl_Set_isFilling_rule0 _ _ _ _ _ _ (fun i h => 0 ≤ i ∧ i ≤ rows.length ∧ h = h1 ∧ ∀ y x, y < i.toNat → x < (rw_ rows y).length → CellOK ts rows y x) (fun i _ => (rows.length - i).toNat) ?_ _ ⟨by omega, by omega, rfl, fun y x hy => by omega⟩
  rintro X i h ⟨i0, i1, e, hj⟩ hX
  rw [e]
  unfold impl_Set_isFilling_b0 impl_Set_isFilling_C0
  refine bif_dec (fun hi => ?_) (fun hi => ⟨_, rfl, ⟨fun _ y z hy hz => hj y z (by omega) hz, fun _ => rfl⟩, x1⟩)
  have r1 := r.ext x1
  have rr1 := rr.ext x1
  refine rr1.ldG i0 (by omega) fun v rv lv => ?_
  have hrow := hT.2 i.toNat (by omega)
  have h8 := hT.1
  refine impl_Set_isFilling_rule2 _ _ X _ _ _ _ _ _ _ _ _ (fun k h' => 0 ≤ k ∧ k ≤ (rw_ rows i.toNat).length ∧ h' = h1 ∧ ∀ x, x < k.toNat → CellOK ts rows i.toNat x) (fun k _ => ((rw_ rows i.toNat).length - k).toNat) ?_ _ ⟨by omega, by omega, rfl, fun x hx => by omega⟩
  rintro Y k h' ⟨k0, k1, e', hk⟩ hY
  rw [e']
  unfold impl_Set_isFilling_b2 impl_Set_isFilling_C2 impl_Set_isFilling_C1
  refine bif_dec (fun hki => ?_) (fun hki => ?_)
  · have no : ¬ CellOK ts rows i.toNat k.toNat → ∃ b, AVal.bool false = .bool b ∧ (b = true ↔ Filling ts rows) ∧ Ext h0 h1 := fun hn =>
      ⟨_, rfl, by simp only [Bool.false_eq_true, false_iff]; exact fun f => hn (f _ _ (by omega) (by omega)), x1⟩
    have hc := hN.1 i.toNat k.toNat (by omega) (by omega)
    refine rv.ldG k0 (by omega) ?_
    have next : CellOK ts rows i.toNat k.toNat → Y (impl_Set_isFilling_e2 q ⟨some h0.length, 2, 0⟩ i v q q.len i v v.len (w64 (k + 1))) h1 := fun hok => by
      rw [w64_of (by omega) (by omega)]
      refine hY _ _ ⟨by omega, by omega, rfl, fun z hz => ?_⟩ (by omega)
      by_cases e : z = k.toNat
      · subst e; exact hok
      · exact hk z (by omega)
    have up : (0 < k → S_ ts rows i.toNat (k.toNat - 1) 2 = S_ ts rows i.toNat k.toNat 0) → bif (decide (i > 0)) then
        isPt ⟨some h0.length, 2, 0⟩ (ldS (Pt.add ⟨some h0.length, 2, 0⟩ 1) h1 fun s2 => ixS q 1 (w64 (i - 1)) fun p => ldS p h1 fun u => ixS u 1 k fun p => ldI .i64 p h1 fun n => ixS s2 4 n fun p => ixA p 4 1 3 fun p => ldI .i64 p h1 fun n29 =>
          isPt ⟨some h0.length, 2, 0⟩ (ldS (Pt.add ⟨some h0.length, 2, 0⟩ 1) h1 fun s2 => ixS s2 4 ((rw_ rows i.toNat).getD k.toNat 0) fun p => ixA p 4 1 1 fun p => ldI .i64 p h1 fun n31 => bif (n29 != n31) then ∃ r, AVal.bool false = .bool r ∧ (r = true ↔ Filling ts rows) ∧ Ext h0 h1 else Y (impl_Set_isFilling_e2 q ⟨some h0.length, 2, 0⟩ i v q q.len i v v.len (w64 (k + 1))) h1))
        else Y (impl_Set_isFilling_e2 q ⟨some h0.length, 2, 0⟩ i v q q.len i v v.len (w64 (k + 1))) h1 := fun hw => by
      refine bif_dec (fun hp => ?_) (fun hp => next ⟨fun h => hw (by omega), fun h => by omega⟩)
      rw [w64_of (n := i - 1) (by omega) (by omega)]
      have hrow' := hT.2 (i - 1).toNat (by omega)
      refine side_at o1 r1 rr1 (by omega) (by omega) k0 (by omega) (hN.1 _ _ (by omega) (by omega)) (by omega) (by omega) ?_
      refine side_of o1 r1 hc.1 hc.2 (by omega) (by omega) ?_
      rw [show (i - 1).toNat = i.toNat - 1 by omega]
      refine bif_ne (fun hq => no fun t => hq (t.2 (by omega))) (fun hq => next ⟨fun h => hw (by omega), fun _ => hq⟩)
    refine bif_dec (fun hp => ?_) (fun hp => up fun h => by omega)
    rw [w64_of (n := k - 1) (by omega) (by omega)]
    refine side_in o1 r1 rv (by omega) (by omega) (hN.1 _ _ (by omega) (by omega)) (by omega) (by omega) ?_
    refine side_of o1 r1 hc.1 hc.2 (by omega) (by omega) ?_
    rw [show (k - 1).toNat = k.toNat - 1 by omega]
    exact bif_ne (fun hq => no fun t => hq (t.1 (by omega))) (fun hq => up fun _ => hq)
  · rw [w64_of (by omega) (by omega)]
    refine hX _ _ ⟨by omega, by omega, rfl, fun y z hy hz => ?_⟩ (by omega)
    by_cases e : y = i.toNat
    · subst e; exact hk z (by omega)
    · exact hj y z (by omega) hz
theorem l05Cylinder_c (r : Rd h0 s 4 (tcs ts)) (rr : RdSS h0 q rows) (hN : Nums ts.length rows) : callB SP i_spec_l05Cylinder [.agg (SetC c s), .sl q] h0 fun b h' => (b = true ↔ CylEnds ts rows) ∧ Ext h0 h' := by
  have hl := r.tlen
  have hq := rr.len
  have hT := hN.2
  apply spec_l05Cylinder_call
  unfold spec_l05Cylinder_main
  refine newK_obj fun h1 o1 x1 n1 => ?_
  refine spec_l05Cylinder_rule0 _ _ _ _ (fun i h => 0 ≤ i ∧ i ≤ rows.length ∧ h = h1 ∧ ∀ y, y < i.toNat → S_ ts rows y ((rw_ rows y).length - 1) 2 = S_ ts rows y 0 0) (fun i _ => (rows.length - i).toNat) ?_ _ ⟨by omega, by omega, rfl, fun y hy => by omega⟩
  rintro X i h ⟨i0, i1, e, hj⟩ hX
  rw [e]
  unfold spec_l05Cylinder_b0 spec_l05Cylinder_C0
  have r1 := r.ext x1
  have rr1 := rr.ext x1
  refine bif_dec (fun hi => ?_) (fun hi => ⟨_, rfl, ⟨fun _ y hy => hj y (by omega), fun _ => rfl⟩, x1⟩)
  have hrow := hT.2 i.toNat (by omega)
  have h8 := hT.1
  refine isPt_in (o1.ldS rfl rfl ?_)
  refine rr1.ldG i0 (by omega) fun v rv lv => ?_
  refine rr1.ldG i0 (by omega) fun v' rv' lv' => ?_
  rw [w64_of (n := (v'.len : Int) - 1) (by omega) (by omega)]
  have hx : ((v'.len : Int) - 1).toNat = (rw_ rows i.toNat).length - 1 := by omega
  have hg := hN.1 i.toNat ((rw_ rows i.toNat).length - 1) (by omega) (by omega)
  refine rv.ldG (by omega) (by omega) ?_
  rw [hx]
  refine r1.sideG hg.1 hg.2 (by omega) (by omega) ?_
  refine side_at o1 r1 rr1 i0 (by omega) (by omega) (by omega) (hN.1 _ _ (by omega) (by omega)) (by omega) (by omega) ?_
  refine bif_ne (fun hq => ⟨_, rfl, ?_, x1⟩) (fun hq => ?_)
  · simp only [Bool.false_eq_true, false_iff]
    exact fun f => hq (f _ (by omega))
  rw [w64_of (by omega) (by omega)]
  refine hX _ _ ⟨by omega, by omega, rfl, fun y hy => ?_⟩ (by omega)
  by_cases e : y = i.toNat
  · subst e; exact hq
  · exact hj y (by omega)
theorem isCylinder_c (r : Rd h0 s 4 (tcs ts)) (rr : RdSS h0 q rows) (hN : Nums ts.length rows) : callB SP i_impl_Set_isCylinder [.agg (SetC c s), .sl q] h0 fun b h' => (b = true ↔ Filling ts rows ∧ CylEnds ts rows) ∧ Ext h0 h' := by
  have hl := r.tlen
  have hq := rr.len
  have hT := hN.2
  apply impl_Set_isCylinder_call
  unfold impl_Set_isCylinder_main
  refine newK_obj fun h1 o1 x1 n1 => ?_
  refine impl_Set_isCylinder_rule0 _ _ _ _ _ _ (fun i h => 0 ≤ i ∧ i ≤ rows.length ∧ h = h1 ∧ ∀ y, y < i.toNat → S_ ts rows y ((rw_ rows y).length - 1) 2 = S_ ts rows y 0 0) (fun i _ => (rows.length - i).toNat) ?_ _ ⟨by omega, by omega, rfl, fun y hy => by omega⟩
  rintro X i h ⟨i0, i1, e, hj⟩ hX
  rw [e]
  unfold impl_Set_isCylinder_b0 impl_Set_isCylinder_C0
  have r1 := r.ext x1
  have rr1 := rr.ext x1
  refine bif_dec (fun hi => ?_) (fun hi => ?_)
  · have hrow := hT.2 i.toNat (by omega)
    have h8 := hT.1
    refine rr1.ldG i0 (by omega) fun v rv lv => ?_
    rw [w64_of (n := (v.len : Int) - 1) (by omega) (by omega)]
    have hx : ((v.len : Int) - 1).toNat = (rw_ rows i.toNat).length - 1 := by omega
    have hg := hN.1 i.toNat ((rw_ rows i.toNat).length - 1) (by omega) (by omega)
    refine side_in o1 r1 rv (by omega) (by omega) (by rw [hx]; exact hg) (by omega) (by omega) ?_
    rw [hx]
    refine side_in o1 r1 rv (by omega) (by omega) (hN.1 _ _ (by omega) (by omega)) (by omega) (by omega) ?_
    refine bif_ne (fun hq => ⟨_, rfl, ?_, x1⟩) (fun hq => ?_)
    · simp only [Bool.false_eq_true, false_iff]
      exact fun f => hq (f.2 _ (by omega))
    rw [w64_of (by omega) (by omega)]
    refine hX _ _ ⟨by omega, by omega, rfl, fun y hy => ?_⟩ (by omega)
    by_cases e : y = i.toNat
    · subst e; exact hq
    · exact hj y (by omega)
  · refine o1.ldA rfl ?_
    refine (isFilling_c r1 rr1 hN).to ?_
    rintro b h2 ⟨hb, x2⟩
    exact ⟨_, rfl, by rw [hb]; exact ⟨fun f => ⟨f, fun y hy => hj y (by omega)⟩, fun f => f.1⟩, x1.trans x2⟩
theorem l05Torus_c (r : Rd h0 s 4 (tcs ts)) (rr : RdSS h0 q rows) (hN : Nums ts.length rows) : callB SP i_spec_l05Torus [.agg (SetC c s), .sl q] h0 fun b h' => (b = true ↔ Filling ts rows ∧ CylEnds ts rows ∧ TorEnds ts rows) ∧ Ext h0 h' := by
  have hl := r.tlen
  have hq := rr.len
  have hT := hN.2
  have hrow := hT.2 0 (by have := hT.1; omega)
  have hlast := hT.2 (rows.length - 1) (by have := hT.1; omega)
  have h8 := hT.1
  apply spec_l05Torus_call
  unfold spec_l05Torus_main
  refine newK_obj fun h1 o1 x1 n1 => ?_
  refine spec_l05Torus_rule0 _ _ _ _ (fun i h => 0 ≤ i ∧ i ≤ (rw_ rows 0).length ∧ h = h1 ∧ ∀ x, x < i.toNat → S_ ts rows (rows.length - 1) x 3 = S_ ts rows 0 x 1) (fun i _ => ((rw_ rows 0).length - i).toNat) ?_ _ ⟨by omega, by omega, rfl, fun y hy => by omega⟩
  rintro X i h ⟨i0, i1, e, hj⟩ hX
  rw [e]
  unfold spec_l05Torus_b0 spec_l05Torus_C0
  have r1 := r.ext x1
  have rr1 := rr.ext x1
  refine rr1.ldG (by omega) (by omega) fun v rv lv => ?_
  have lv0 : v.len = (rw_ rows 0).length := lv
  refine bif_dec (fun hi => ?_) (fun hi => ?_)
  · rw [w64_of (n := (q.len : Int) - 1) (by omega) (by omega)]
    have hx : ((q.len : Int) - 1).toNat = rows.length - 1 := by omega
    refine side_at o1 r1 rr1 (by omega) (by omega) i0 (by rw [hx]; omega) (by rw [hx]; exact hN.1 _ _ (by omega) (by omega)) (by omega) (by omega) ?_
    refine side_at o1 r1 rr1 (by omega) (by omega) i0 (by simpa using (by omega)) (hN.1 _ _ (by simpa using (by omega)) (by simpa using (by omega))) (by omega) (by omega) ?_
    rw [hx]
    refine bif_ne (fun hq => ⟨_, rfl, ?_, x1⟩) (fun hq => ?_)
    · simp only [Bool.false_eq_true, false_iff]
      exact fun f => hq (f.2.2 _ (by omega))
    rw [w64_of (by omega) (by omega)]
    refine hX _ _ ⟨by omega, by omega, rfl, fun y hy => ?_⟩ (by omega)
    by_cases e : y = i.toNat
    · subst e; exact hq
    · exact hj y (by omega)
  · refine o1.ldA rfl ?_
    refine (l01Good_c r1 rr1 hN).to ?_
    rintro b h2 ⟨hb, x2⟩
    refine bif_b (fun hbt => ?_) (fun hbf => ⟨_, rfl, ?_, x1.trans x2⟩)
    · refine (o1.ext x2).ldA rfl ?_
      refine (l05Cylinder_c (r1.ext x2) (rr1.ext x2) hN).to ?_
      rintro b' h3 ⟨hb', x3⟩
      exact ⟨_, rfl, by rw [hb']; exact ⟨fun f => ⟨hb.1 hbt, f, fun y hy => hj y (by omega)⟩, fun f => f.2.1⟩, (x1.trans x2).trans x3⟩
    · simp only [Bool.false_eq_true, false_iff]
      intro f
      rw [hb.2 f.1] at hbf; cases hbf
theorem isTorus_c (r : Rd h0 s 4 (tcs ts)) (rr : RdSS h0 q rows) (hN : Nums ts.length rows) : callB SP i_impl_Set_isTorus [.agg (SetC c s), .sl q] h0 fun b h' => (b = true ↔ Filling ts rows ∧ CylEnds ts rows ∧ TorEnds ts rows) ∧ Ext h0 h' := by
  have hl := r.tlen
  have hq := rr.len
  have hT := hN.2
  have hrow := hT.2 0 (by have := hT.1; omega)
  have hlast := hT.2 (rows.length - 1) (by have := hT.1; omega)
  have h8 := hT.1
  apply impl_Set_isTorus_call
  unfold impl_Set_isTorus_main
  refine newK_obj fun h1 o1 x1 n1 => ?_
  have r1 := r.ext x1
  have rr1 := rr.ext x1
  refine rr1.ldG (by omega) (by omega) fun v rv lv => ?_
  have lv0 : v.len = (rw_ rows 0).length := lv
  refine impl_Set_isTorus_rule0 _ _ _ _ _ _ (fun i h => 0 ≤ i ∧ i ≤ (rw_ rows 0).length ∧ h = h1 ∧ ∀ x, x < i.toNat → S_ ts rows (rows.length - 1) x 3 = S_ ts rows 0 x 1) (fun i _ => ((rw_ rows 0).length - i).toNat) ?_ _ ⟨by omega, by omega, rfl, fun y hy => by omega⟩
  rintro X i h ⟨i0, i1, e, hj⟩ hX
  rw [e]
  unfold impl_Set_isTorus_b0 impl_Set_isTorus_C0
  refine bif_dec (fun hi => ?_) (fun hi => ?_)
  · have rv0 : Rd h1 v 1 (ic (rw_ rows 0)) := rv
    refine rv0.ldG i0 (by omega) ?_
    rw [w64_of (n := (q.len : Int) - 1) (by omega) (by omega)]
    have hx : ((q.len : Int) - 1).toNat = rows.length - 1 := by omega
    have hg := hN.1 0 i.toNat (by omega) (by omega)
    refine side_at o1 r1 rr1 (by omega) (by omega) i0 (by rw [hx]; omega) (by rw [hx]; exact hN.1 _ _ (by omega) (by omega)) (by omega) (by omega) ?_
    refine side_of o1 r1 hg.1 hg.2 (by omega) (by omega) ?_
    rw [hx]
    refine bif_ne (fun hq => ⟨_, rfl, ?_, x1⟩) (fun hq => ?_)
    · simp only [Bool.false_eq_true, false_iff]
      exact fun f => hq (f.2.2 _ (by omega))
    rw [w64_of (by omega) (by omega)]
    refine hX _ _ ⟨by omega, by omega, rfl, fun y hy => ?_⟩ (by omega)
    by_cases e : y = i.toNat
    · subst e; exact hq
    · exact hj y (by omega)
  · refine o1.ldA rfl ?_
    refine (isCylinder_c r1 rr1 hN).to ?_
    rintro b h2 ⟨hb, x2⟩
    exact ⟨_, rfl, by rw [hb]; exact ⟨fun f => ⟨f.1, f.2, fun y hy => hj y (by omega)⟩, fun f => ⟨f.1, f.2.1⟩⟩, x1.trans x2⟩
end
end Go.Proofs.Ytfmjjpophipfbaa.Cl
