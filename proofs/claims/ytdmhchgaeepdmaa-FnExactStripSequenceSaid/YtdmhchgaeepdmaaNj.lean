/- Contracts of the reference's columns. No claim is stated here. -/
import Derived.Test.YtdmhchgaeepdmaaNi
set_option linter.unusedVariables false
set_option linter.unusedSimpArgs false
namespace Go.Proofs.Ytdmhchgaeepdmaa.Cl
open Go
def col3 (l : List (Int × Int × Int)) : List (List Int) := l.map fun x => [x.1, x.2.1, x.2.2]
theorem col3_len (l) : (col3 l).length = l.length := by simp [col3]
theorem col3_app (l m) : col3 (l ++ m) = col3 l ++ col3 m := by simp [col3]
theorem col3_row {l : List (Int × Int × Int)} {i : Nat} (h : i < l.length) : rw_ (col3 l) i = [l[i].1, l[i].2.1, l[i].2.2] := by
  unfold rw_ col3
  rw [List.getD_eq_getElem?_getD, List.getElem?_map, List.getElem?_eq_getElem h]; rfl
theorem NewSS.one {n : Nat} {h h' : H} {v u : Sl} {l : List Int} (ov : Ow h v 1 (ic l)) (fv : Fr n v) (x : Ext h h') (ou : Ow h' u 1 [.sl v]) (fu : ∀ o, u.o = some o → h.length ≤ o) (hn : n ≤ h.length) : NewSS n h' u [l] := by
  refine ⟨[v], rfl, ou, (fun o e => Nat.le_trans hn (fu o e)), fun i w l' a b => ?_, fun i j w w' hne a b => ?_, fun i w a o e e2 => ?_⟩
  · have hi : i = 0 := by have := (List.getElem?_eq_some_iff.1 a).1; simpa using this
    subst hi
    simp at a b
    subst a b
    exact ⟨ov.ext x, fv⟩
  · have hi : i = 0 := by have := (List.getElem?_eq_some_iff.1 a).1; simpa using this
    have hj : j = 0 := by have := (List.getElem?_eq_some_iff.1 b).1; simpa using this
    omega
  · have hi : i = 0 := by have := (List.getElem?_eq_some_iff.1 a).1; simpa using this
    subst hi
    simp at a
    subst a
    have := ov.lt e
    have := fu o e2
    omega
theorem fm_piece {α β : Type} (l : List α) (f : α → List β) {i : Nat} (hi : i < l.length) : l.flatMap f = (l.take i).flatMap f ++ (f l[i] ++ (l.drop (i + 1)).flatMap f) := by
  have e : l = l.take i ++ (l[i] :: l.drop (i + 1)) := by rw [← List.drop_eq_getElem_cons hi, List.take_append_drop]
  conv => lhs; rw [e]
  rw [List.flatMap_append, List.flatMap_cons]
theorem fm_take {α β : Type} (l : List α) (f : α → List β) {i : Nat} (hi : i < l.length) : (l.take (i + 1)).flatMap f = (l.take i).flatMap f ++ f l[i] := by
  rw [List.take_succ_eq_append_getElem hi, List.flatMap_append]; simp
abbrev lay0 : List (Int × Int × Int) := [(0, 0, -1)]
theorem lay_bound {c : Int} {ts : List Tile} (T : TS c ts) (k : Nat) : ∀ x ∈ layN c ts k lay0, (0 ≤ x.1 ∧ x.1 < c ^ k) ∧ 0 ≤ x.2.1 ∧ x.2.1 < c ^ k := fun x hx => by
  have : pr x ∈ colP c ts k (-1) 0 0 := by rw [← lay_pr]; exact List.mem_map.2 ⟨x, hx, rfl⟩
  have := colP_bound T k (-1) 0 0 1 (by omega) (by omega) _ this
  rw [Int.one_mul] at this
  exact this
section
variable {h0 : H} {c : Int} {s : Sl} {ts : List Tile} {H_ : Nat}
theorem l06Size_c (hc : 1 ≤ c) (hc6 : c ≤ 6) (hH : H_ ≤ 4) : callI SP .i64 i_spec_l06Size [.agg (SetC c s), i64 H_] h0 fun n h' => n = c ^ H_ ∧ Ext h0 h' := by
  apply spec_l06Size_call
  unfold spec_l06Size_main
  refine newK_obj fun h1 o1 x1 l1 => ?_
  refine spec_l06Size_rule0 _ _ _ _ (fun a i h => ∃ k : Nat, i = k ∧ k ≤ H_ ∧ a = c ^ k ∧ h1 = h) (fun _ i _ => (H_ - i).toNat) ?_ _ _ ⟨0, rfl, by omega, by simp, rfl⟩
  rintro X _ _ _ ⟨k, rfl, hk, rfl, rfl⟩ hX
  unfold spec_l06Size_b0 spec_l06Size_C0
  refine bif_dec (fun hi => ?_) (fun hi => ⟨_, rfl, by rw [show k = H_ by omega], x1⟩)
  refine isPt_in (o1.ldI rfl rfl ?_)
  have hp2 := pow_small4 (n := k + 1) hc hc6 (by omega)
  have e2 : c ^ k * c = c ^ (k + 1) := (Int.pow_succ c k).symm
  rw [w64_of (n := (k : Int) + 1) (by omega) (by omega)]
  refine hX _ _ _ ⟨k + 1, by push_cast; rfl, by omega, by rw [e2]; exact w64_of (by omega) (by omega), rfl⟩ (by omega)
theorem l06Columns_c (r : Rd h0 s 4 (tcs ts)) (T : TS c ts) (hc : c ≤ 6) (hN : ts.length ≤ 16) (hH : 1 ≤ H_ ∧ H_ ≤ 4) :
    callV SP i_spec_l06Columns [.agg (SetC c s), i64 H_] h0 fun v h' => ∃ u b, v = .tuple [.sl u, .bool b] ∧ (b = true ↔ (layN c ts H_ lay0).length ≤ 5000) ∧ (b = true → RdSS h' u (col3 (layN c ts H_ lay0))) ∧ Ext h0 h' := by
  have htl := r.tlen
  apply spec_l06Columns_call
  unfold spec_l06Columns_main
  refine newK_obj fun h1 o1 x1 l1 => ?_
  refine newS_ow (by rfl) fun v h3 ov lv vo e3 => ?_
  have x3 : Ext h1 h3 := by rw [e3]; exact Ext.app _ _
  have l3 : h3.length = h1.length + 1 := by rw [e3]; simp
  refine newS_ow (by rfl) fun u h5 ou lu uo e5 => ?_
  have x5 : Ext h3 h5 := by rw [e5]; exact Ext.app _ _
  have rd0 : RdSS h5 u (col3 lay0) := (NewSS.one (n := 0) (l := [0, 0, -1]) ov (fun o _ => Nat.zero_le _) x5 ou (fun o e => by rw [uo] at e; cases e; exact Nat.le_refl _) (Nat.zero_le _)).rd
  refine spec_l06Columns_rule0 _ _ _ _ (fun u i h => ∃ k : Nat, i = k ∧ k ≤ H_ ∧ RdSS h u (col3 (layN c ts k lay0)) ∧ (k = H_ → (layN c ts k lay0).length ≤ 5000) ∧ Ext h1 h) (fun _ i _ => (H_ - i).toNat) ?_ _ _ ⟨0, rfl, by omega, rd0, (fun _ => by simp [layN]), x3.trans x5⟩
  rintro X u _ h ⟨k, rfl, hk, rd, hkl, x⟩ hX
  unfold spec_l06Columns_b0 spec_l06Columns_C0
  refine bif_dec (fun hi => ?_) (fun hi => ?_)
  rotate_left
  · have : k = H_ := by omega
    subst this
    exact ⟨_, _, rfl, ⟨fun _ => hkl rfl, fun _ => rfl⟩, fun _ => rd, x1.trans x⟩
  have hul := rd.len
  rw [col3_len] at hul
  have hB := lay_bound T k
  have hpk := pow_small4 (n := k) T.1 hc (by omega)
  have hlk : (layN c ts k lay0).length ≤ 4096 := by
    rw [lay_len]
    refine Nat.le_trans (colP_len _ _ _ _) (Nat.le_trans (Nat.pow_le_pow_left hN _) (Nat.le_trans (Nat.pow_le_pow_right (by omega) (show k ≤ 3 by omega)) (by decide)))
  have hlk1 : k + 1 ≠ H_ → (layN c ts (k + 1) lay0).length ≤ 4096 := fun f => by
    rw [lay_len]
    refine Nat.le_trans (colP_len _ _ _ _) (Nat.le_trans (Nat.pow_le_pow_left hN _) (Nat.le_trans (Nat.pow_le_pow_right (by omega) (show k + 1 ≤ 3 by omega)) (by decide)))
  have hsucc : layN c ts (k + 1) lay0 = (layN c ts k lay0).flatMap (layS c ts) := layN_succ k lay0
  generalize hnow : layN c ts k lay0 = now at *
  have fail : 5000 < (layN c ts (k + 1) lay0).length → ∀ {h' : H}, Ext h0 h' → ∃ u b, AVal.tuple [.sl Sl.nil, .bool false] = .tuple [.sl u, .bool b] ∧ (b = true ↔ (layN c ts H_ lay0).length ≤ 5000) ∧ (b = true → RdSS h' u (col3 (layN c ts H_ lay0))) ∧ Ext h0 h' := fun f {h'} e => by
    have hkH : k + 1 = H_ := by
      refine Classical.byContradiction fun g => ?_
      have := hlk1 g
      omega
    refine ⟨_, _, rfl, ⟨(fun f => by cases f), fun g => ?_⟩, (fun f => by cases f), e⟩
    rw [hkH] at f
    omega
  refine newS_ow (by rfl) fun z h6 oz lz zo e6 => ?_
  have x6 : Ext h h6 := by rw [e6]; exact Ext.app _ _
  refine spec_l06Columns_rule2 _ _ X _ _ _ _ (fun z i g => ∃ p : Nat, i = p ∧ p ≤ now.length ∧ NewSS h.length g z (col3 ((now.take p).flatMap (layS c ts))) ∧ ((now.take p).flatMap (layS c ts)).length ≤ 5000 ∧ Ext h g) (fun _ i _ => (now.length - i).toNat) ?_ _ _ ⟨0, rfl, by omega, NewSS.mk0 oz (fun o e => by rw [zo] at e; cases e; exact Nat.le_refl _), by simp, x6⟩
  rintro Y z _ g ⟨p, rfl, hp, nz, hpl, xg⟩ hY
  unfold spec_l06Columns_b2 spec_l06Columns_C2 spec_l06Columns_C1
  refine bif_dec (fun hpi => ?_) (fun hpi => ?_)
  rotate_left
  · rw [show p = now.length by omega, List.take_length] at nz hpl
    rw [← hsucc] at nz hpl
    rw [w64_of (by omega) (by omega)]
    exact hX _ _ _ ⟨k + 1, by push_cast; rfl, by omega, nz.rd, fun _ => hpl, x.trans xg⟩ (by omega)
  have hp' : p < now.length := by omega
  have hx := hB now[p] (List.getElem_mem hp')
  obtain ⟨a, b, d, hxe⟩ : ∃ a b d, now[p] = (a, b, d) := ⟨_, _, _, rfl⟩
  rw [hxe] at hx
  simp only at hx
  have hpiece := fm_piece now (layS c ts) hp'
  have htake := fm_take now (layS c ts) hp'
  rw [hxe] at hpiece htake
  have hlayS : layS c ts (a, b, d) = ts.flatMap fun t => if 0 ≤ d ∧ d ≠ sd t 1 then [] else [(a * c + sd t 0, b * c + sd t 2, sd t 3)] := rfl
  generalize hgs : (fun t : Tile => if 0 ≤ d ∧ d ≠ sd t 1 then [] else [(a * c + sd t 0, b * c + sd t 2, sd t 3)]) = gs at *
  have hgv : ∀ t, gs t = if 0 ≤ d ∧ d ≠ sd t 1 then [] else [(a * c + sd t 0, b * c + sd t 2, sd t 3)] := fun t => by rw [← hgs]
  rw [hlayS] at hpiece htake
  refine spec_l06Columns_rule4 _ _ X Y _ _ _ _ _ (fun z i g' => ∃ j : Nat, i = j ∧ j ≤ ts.length ∧ NewSS h.length g' z (col3 ((now.take p).flatMap (layS c ts) ++ (ts.take j).flatMap gs)) ∧ ((now.take p).flatMap (layS c ts) ++ (ts.take j).flatMap gs).length ≤ 5000 ∧ Ext h g') (fun _ i _ => (ts.length - i).toNat) ?_ _ _ ⟨0, rfl, by omega, by simpa using nz, by simpa using hpl, xg⟩
  rintro Z z _ g' ⟨j, rfl, hj, nz, hpl, xg'⟩ hZ
  unfold spec_l06Columns_b4 spec_l06Columns_C4 spec_l06Columns_C3
  have o := o1.ext (x.trans xg')
  refine isPt_in (o.ldS rfl rfl ?_)
  refine bif_dec (fun hji => ?_) (fun hji => ?_)
  rotate_left
  · rw [show j = ts.length by omega, List.take_length, ← htake] at nz hpl
    rw [w64_of (by omega) (by omega)]
    exact hY _ _ _ ⟨p + 1, by push_cast; rfl, by omega, nz, hpl, xg'⟩ (by omega)
  have hj' : j < ts.length := by omega
  have E : Ext h0 g' := (x1.trans x).trans xg'
  refine isPt_in (o.ldS rfl rfl ?_)
  refine (r.ext E).ldT (by omega) (by omega) fun t ht => ?_
  rw [Int.toNat_natCast] at ht
  have htm : t ∈ ts := List.mem_of_getElem? ht
  have htk : ts[j] = t := (List.getElem?_eq_some_iff.1 ht).2
  have hpiece2 := fm_piece ts gs hj'
  have htake2 := fm_take ts gs hj'
  rw [htk] at hpiece2 htake2
  have b0 := T.2 t htm 0 (by omega)
  have b2 := T.2 t htm 2 (by omega)
  refine newO_obj fun g3 og3 y3 m3 => ?_
  refine og3.stA fun g4 og4 bb4 m4 => ?_
  have y4 : Ext g' g4 := y3.but_ bb4 (some_le (Nat.le_refl _))
  have o4 := o.ext y4
  have rd4 := rd.ext (xg'.trans y4)
  have rd3 : ∀ {q : Nat} {K : Int → Prop}, q < 3 → K ([a, b, d].getD q 0) → ixS u 1 (p : Int) fun p => Cl.ldS p g4 fun v => ixS v 1 (q : Int) fun p => Cl.ldI .i64 p g4 K := fun {q K} hq hk => by
    refine rd4.ldG (by omega) (by rw [col3_len]; omega) fun v rv lv => ?_
    rw [Int.toNat_natCast, col3_row hp', hxe] at rv
    exact rv.ldG (by omega) (by simp; omega) (by rw [Int.toNat_natCast]; exact hk)
  have nz4 := nz.ext y4
  have hzl := nz.rd.len
  rw [col3_len] at hzl
  have skip : 0 ≤ d ∧ d ≠ sd t 1 → Z (spec_l06Columns_e4 (H_ : Int) ⟨some h0.length, 2, 0⟩ u (k : Int) z (p : Int) (w64 ((j : Int) + 1))) g4 := fun hs => by
    have hg : gs t = [] := by rw [hgv, if_pos hs]
    rw [hg, List.append_nil] at htake2
    rw [w64_of (by omega) (by omega)]
    refine hZ _ _ _ ⟨j + 1, by push_cast; rfl, by omega, ?_, ?_, xg'.trans y4⟩ (by omega)
    · rw [htake2]; exact nz4
    · rw [htake2]; exact hpl
  have a0 : 0 ≤ a * c := Int.mul_nonneg hx.1.1 (by have := T.1; omega)
  have a1 : (a + 1) * c ≤ 1296 * 6 := Int.mul_le_mul (by omega) hc (by have := T.1; omega) (by decide)
  have c0 : 0 ≤ b * c := Int.mul_nonneg hx.2.1 (by have := T.1; omega)
  have c1 : (b + 1) * c ≤ 1296 * 6 := Int.mul_le_mul (by omega) hc (by have := T.1; omega) (by decide)
  rw [Int.add_mul, Int.one_mul] at a1 c1
  have hc1 := T.1
  have ew1 : w64 (w64 (a * c) + sd t 0) = a * c + sd t 0 := by rw [w64_of (n := a * c) (by omega) (by omega), w64_of (by omega) (by omega)]
  have ew2 : w64 (w64 (b * c) + sd t 2) = b * c + sd t 2 := by rw [w64_of (n := b * c) (by omega) (by omega), w64_of (by omega) (by omega)]
  have take : ¬ (0 ≤ d ∧ d ≠ sd t 1) → bif ((z.len : Int) == 5000) then (∃ u b, AVal.tuple [.sl Sl.nil, .bool false] = .tuple [.sl u, .bool b] ∧ (b = true ↔ (layN c ts H_ lay0).length ≤ 5000) ∧ (b = true → RdSS g4 u (col3 (layN c ts H_ lay0))) ∧ Ext h0 g4) else
      ixS u 1 (p : Int) fun p17 => Cl.ldS p17 g4 fun s18 => ixS s18 1 0 fun p19 => Cl.ldI .i64 p19 g4 fun n20 => isPt ⟨some h0.length, 2, 0⟩ (Cl.ldI .i64 (Pt.add ⟨some h0.length, 2, 0⟩ 0) g4 fun n21 => ixA ⟨some g'.length, 4, 0⟩ 4 1 0 fun p22 => Cl.ldI .i64 p22 g4 fun n23 =>
      ixS u 1 (p : Int) fun p24 => Cl.ldS p24 g4 fun s25 => ixS s25 1 1 fun p26 => Cl.ldI .i64 p26 g4 fun n27 => isPt ⟨some h0.length, 2, 0⟩ (Cl.ldI .i64 (Pt.add ⟨some h0.length, 2, 0⟩ 0) g4 fun n28 => ixA ⟨some g'.length, 4, 0⟩ 4 1 2 fun p29 => Cl.ldI .i64 p29 g4 fun n30 => ixA ⟨some g'.length, 4, 0⟩ 4 1 3 fun p31 => Cl.ldI .i64 p31 g4 fun n32 =>
      newS 3 1 [i64 (w64 (w64 (n20 * n21) + n23)), i64 (w64 (w64 (n27 * n28) + n30)), i64 n32] g4 fun s33 h34 => newS 1 1 [.sl s33] h34 fun s35 h36 => Cl.app z s35 1 h36 fun s37 h38 => Z (spec_l06Columns_e4 (H_ : Int) ⟨some h0.length, 2, 0⟩ u (k : Int) s37 (p : Int) (w64 ((j : Int) + 1))) h38)) := fun hno => by
    have hg : gs t = [(a * c + sd t 0, b * c + sd t 2, sd t 3)] := by rw [hgv, if_neg hno]
    refine bif_eq (fun hfull => fail ?_ (E.trans y4)) (fun hfull => ?_)
    · rw [hsucc, hpiece, hpiece2, hg]
      rw [hzl] at hfull
      simp only [List.length_append, List.length_cons, List.length_nil] at hfull ⊢
      omega
    refine rd3 (q := 0) (by omega) (isPt_in (o4.ldI rfl rfl ?_))
    refine og4.sdI (by omega) (by omega) ?_
    refine rd3 (q := 1) (by omega) (isPt_in (o4.ldI rfl rfl ?_))
    refine og4.sdI (by omega) (by omega) ?_
    refine og4.sdI (by omega) (by omega) ?_
    show newS 3 1 [i64 (w64 (w64 (a * c) + sd t 0)), i64 (w64 (w64 (b * c) + sd t 2)), i64 (sd t 3)] g4 _
    rw [ew1, ew2]
    refine newS_ow (by rfl) fun v g6 ov lv vo e6 => ?_
    have y6 : Ext g4 g6 := by rw [e6]; exact Ext.app _ _
    have gl := xg.len
    have gl' := xg'.len
    have gl4 := y4.len
    refine (nz4.ext y6).push (l := [a * c + sd t 0, b * c + sd t 2, sd t 3]) ov (m := g4.length) (fun o e => by rw [vo] at e; cases e; exact Nat.le_refl _) (by omega) ⟨g4, nz4, Nat.le_refl _, y6⟩ (by rw [col3_len]; unfold lim; omega) (by have := y6.len; omega) fun z' g8 nz' bz => ?_
    rw [w64_of (by omega) (by omega)]
    refine hZ _ _ _ ⟨j + 1, by push_cast; rfl, by omega, ?_, ?_, (xg'.trans (y4.trans y6)).but_ bz fun o e => nz.fr o e⟩ (by omega)
    · rw [htake2, hg, ← List.append_assoc, col3_app]; exact nz'
    · rw [htake2, hg, ← List.append_assoc, List.length_append, List.length_singleton]; rw [hzl] at hfull; omega
  refine rd3 (q := 2) (by omega) ?_
  refine bif_dec (fun hd0 => ?_) (fun hd0 => ?_)
  · refine rd3 (q := 2) (by omega) ?_
    refine og4.sdI (by omega) (by omega) ?_
    refine bif_ne (fun hq => skip ⟨hd0, hq⟩) (fun hq => take fun f => f.2 hq)
  · exact take fun f => hd0 f.1
end
end Go.Proofs.Ytdmhchgaeepdmaa.Cl
