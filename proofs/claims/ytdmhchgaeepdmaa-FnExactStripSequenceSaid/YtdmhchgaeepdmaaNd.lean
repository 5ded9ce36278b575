/- Contracts of LastingTiles. No claim is stated here. -/
import Derived.Test.YtdmhchgaeepdmaaMg
import Derived.Test.YtdmhchgaeepdmaaMl
import Derived.Test.YtdmhchgaeepdmaaNc
import Derived.Test.YtdmhchgaeepdmaaNg
set_option linter.unusedVariables false
set_option linter.unusedSimpArgs false
namespace Go.Proofs.Ytdmhchgaeepdmaa.Cl
open Go
noncomputable def sel0 {α : Type} (A : Prop) (l : List α) : List α := open Classical in if A then l else []
theorem sel0_yes {α : Type} {A : Prop} {l : List α} (h : A) : sel0 A l = l := by unfold sel0; rw [if_pos h]
theorem sel0_no {α : Type} {A : Prop} {l : List α} (h : ¬ A) : sel0 A l = [] := by unfold sel0; rw [if_neg h]
theorem pushI2 {h : H} {s : Sl} {l : List Int} {x : Int} (r : Ow h s 1 (ic l)) (hl : (l.length : Int) + 1 ≤ lim) {K : Sl → H → Prop}
    (hk : ∀ s' h', Ow h' s' 1 (ic (l ++ [x])) → But s.o h h' → (∀ o, s'.o = some o → s.o = some o ∨ h.length ≤ o) → K s' h') : newS 1 1 [.int .i64 x] h fun t h1 => app s t 1 h1 K := by
  refine newS_ow (by rfl) fun t h1 ot tl to e1 => ?_
  have e1' : Ext h h1 := by rw [e1]; exact Ext.app _ _
  have := e1'.len
  have hsl := r.rd.ilen
  refine app_ow (by omega) (r.ext e1') ot.rd (by rw [tl, hsl]; exact_mod_cast hl) fun s' h' o' ln b k1 k2 => hk s' h' (by rw [ic_app]; exact o') ((e1'.but _).trans b) fun o e => ?_
  cases hq : s.o with
  | none => have := k2 hq o e; exact .inr (by omega)
  | some p => rw [k1 p hq] at e; exact .inl e
theorem Obj.same {h h' o cs} (x : Obj h o cs) (y : Obj h' o cs) {n : Nat} (hn : cs.length = n) : Cl.range h (some o) n 0 n = Cl.range h' (some o) n 0 n := (x.rangeE hn).trans (y.rangeE hn).symm
/-! ### lists of truth values -/
def bl (n : Nat) (A : Nat → Bool) : List Bool := (List.range n).map A
theorem bl_len (n A) : (bl n A).length = n := by simp [bl]
theorem bl_get {n : Nat} {A : Nat → Bool} {i : Nat} (h : i < n) : (bl n A)[i]? = some (A i) := by unfold bl; rw [List.getElem?_map, List.getElem?_range h]; rfl
theorem bl_congr {n : Nat} {A B : Nat → Bool} (h : ∀ w, w < n → A w = B w) : bl n A = bl n B := by
  unfold bl
  exact List.map_congr_left fun w hw => h w (List.mem_range.1 hw)
theorem bl_set {n : Nat} {A : Nat → Bool} {k : Nat} {v : Bool} : ((bl n A).map AVal.bool).set k (.bool v) = (bl n fun w => if w = k then v else A w).map .bool := by
  rw [← List.map_set]
  congr 1
  apply List.ext_getElem (by simp [bl])
  intro i h1 h2
  rw [List.getElem_set]
  simp only [bl, List.getElem_map, List.getElem_range]
  by_cases e : k = i
  · rw [if_pos e, if_pos e.symm]
  · rw [if_neg e, if_neg fun f => e f.symm]
theorem bl_false (n : Nat) : (List.replicate n [AVal.bool false]).flatten = (bl n fun _ => false).map .bool := by
  induction n with
  | zero => rfl
  | succ n ih =>
    unfold bl at *
    rw [List.replicate_succ', List.flatten_append, ih, List.range_succ, List.map_append, List.map_append]
    rfl
theorem bl_rep (n : Nat) (b : Bool) : List.replicate n (AVal.bool b) = (bl n fun _ => b).map .bool := by
  unfold bl
  apply List.ext_getElem (by simp)
  intro i h1 h2
  simp
theorem Rd.ldBl {h : H} {s : Sl} {n : Nat} {A : Nat → Bool} (r : Rd h s 1 ((bl n A).map .bool)) {i : Int} (h0 : 0 ≤ i) (h1 : i < n) {K : Bool → Prop} (hk : K (A i.toNat)) : ixS s 1 i fun p => Cl.ldB p h K :=
  r.ldB h0 (by rw [bl_len]; exact h1) fun x hx => by rw [bl_get (by omega)] at hx; cases hx; exact hk
theorem Ow.blen {h : H} {s : Sl} {n : Nat} {A : Nat → Bool} (r : Ow h s 1 ((bl n A).map .bool)) : s.len = n := by have := r.len; rw [List.length_map, bl_len] at this; omega
theorem Ow.stBl {h : H} {s : Sl} {n : Nat} {A : Nat → Bool} (r : Ow h s 1 ((bl n A).map .bool)) {i : Int} (h0 : 0 ≤ i) (h1 : i < n) (v : Bool) {K : H → Prop}
    (hk : ∀ h', Ow h' s 1 ((bl n fun w => if w = i.toNat then v else A w).map .bool) → But s.o h h' → h'.length = h.length → K h') : ixS s 1 i fun p => Cl.st1 p (.bool v) h K :=
  r.stC h0 (by rw [r.blen]; exact h1) _ fun h' o b l => hk h' (by rw [← bl_set]; exact o) b l
/-! ### ways without end over tiles -/
def edT (ts : List Tile) (f g : Nat) : List Edge := ts.map fun t => ((sd t f).toNat, (sd t g).toNat)
theorem stepB_take {es : List Edge} {A : Nat → Bool} {j : Nat} (h : j < es.length) (w : Nat) : stepB (es.take (j + 1)) A w = (stepB (es.take j) A w || (es[j].1 == w && A es[j].2)) := by
  unfold stepB
  rw [List.take_succ_eq_append_getElem h, List.any_append]
  simp
theorem edT_lt {c : Int} {ts : List Tile} (T : TS c ts) {f g : Nat} (hf : f < 4) (hg : g < 4) : ∀ e ∈ edT ts f g, e.1 < c.toNat ∧ e.2 < c.toNat := fun e he => by
  obtain ⟨t, ht, rfl⟩ := List.mem_map.1 he
  have h1 := T.2 t ht f hf
  have h2 := T.2 t ht g hg
  exact ⟨by simp only []; omega, by simp only []; omega⟩
section
variable {h0 : H} {c : Int} {s : Sl} {ts : List Tile}
theorem endlessT_c (r : Rd h0 s 4 (tcs ts)) (T : TS c ts) (hc : c ≤ 6) (hN : ts.length ≤ 16) {f g : Nat} (hf : f < 4) (hg : g < 4) :
    callS SP i_impl_Set_endless [.agg (SetC c s), i64 (f : Int), i64 (g : Int)] h0 fun u h' => Ow h' u 1 ((bl c.toNat (itB (edT ts f g) c.toNat)).map .bool) ∧ Fr h0.length u ∧ Ext h0 h' := by
  have hc1 := T.1
  have htl := r.tlen
  apply impl_Set_endless_call
  unfold impl_Set_endless_main
  refine newK_obj fun h1 o1 x1 n1 => ?_
  refine newS_ow (by rfl) fun q h3 oq lq qo e3 => ?_
  have x3 : Ext h1 h3 := by rw [e3]; exact Ext.app _ _
  have o3 := o1.ext x3
  refine isPt_in (o3.ldI rfl rfl ?_)
  refine (repeatB_c oq.rd (by omega) (by omega)).to ?_
  rintro u h5 ⟨ou, fu, x5⟩
  refine isPt_in ((o3.ext x5).ldI rfl rfl ?_)
  rw [bl_rep] at ou
  have l3 := x3.len
  refine impl_Set_endless_rule0 _ _ _ _ _ _ (fun u i h => ∃ k : Nat, i = k ∧ k ≤ c.toNat ∧ Ow h u 1 ((bl c.toNat (itB (edT ts f g) k)).map .bool) ∧ Fr h1.length u ∧ Ext h1 h) (fun _ i _ => (c - i).toNat) ?_ _ _ ⟨0, rfl, by omega, ou, fu.le x3.len, x3.trans x5⟩
  rintro X u _ h ⟨k, rfl, hk, ou, fu, x⟩ hX
  unfold impl_Set_endless_b0 impl_Set_endless_C0
  refine bif_dec (fun hi => ?_) (fun hi => ⟨_, rfl, (by have e : c.toNat = k := (by omega); rw [e] at ou ⊢; exact ou), fu.le (by omega), x1.trans x⟩)
  have o := o1.ext x
  refine isPt_in (o.ldI rfl rfl ?_)
  refine mkS_ow (by omega) (by unfold lim; omega) fun v h2 ov lv vo e2 => ?_
  have x2 : Ext h h2 := by rw [e2]; exact Ext.app _ _
  rw [bl_false] at ov
  refine isPt_in ((o.ext x2).ldS rfl rfl ?_)
  have hel : (edT ts f g).length = ts.length := by simp [edT]
  have hhl := x.len
  refine impl_Set_endless_rule2 _ _ X _ _ _ _ _ _ _ _ _ (fun i g' => ∃ j : Nat, i = j ∧ j ≤ ts.length ∧ Ow g' v 1 ((bl c.toNat (stepB ((edT ts f g).take j) (itB (edT ts f g) k))).map .bool) ∧ Ext h g') (fun i _ => (ts.length - i).toNat) ?_ _ ⟨0, rfl, by omega, by rw [List.take_zero]; exact ov, x2⟩
  rintro Y _ g' ⟨j, rfl, hj, ov, e⟩ hY
  unfold impl_Set_endless_b2 impl_Set_endless_C2 impl_Set_endless_C1
  refine bif_dec (fun hi2 => ?_) (fun hi2 => ?_)
  rotate_left
  · rw [w64_of (by omega) (by omega)]
    refine hX _ _ _ ⟨k + 1, by push_cast; rfl, by omega, ?_, (fun o' e' => by rw [vo] at e'; cases e'; omega), x.trans e⟩ (by omega)
    rw [show j = ts.length by omega, ← hel, List.take_length] at ov
    exact ov
  have hj' : j < ts.length := by omega
  have E := (x1.trans x).trans e
  refine (r.ext E).ldT (by omega) (by omega) fun t ht => ?_
  rw [Int.toNat_natCast] at ht
  have htm : t ∈ ts := List.mem_of_getElem? ht
  have hedge : (edT ts f g)[j]'(by omega) = ((sd t f).toNat, (sd t g).toNat) := by
    have : ts[j] = t := (List.getElem?_eq_some_iff.1 ht).2
    simp only [edT, List.getElem_map, this]
  have bf := T.2 t htm f hf
  have bg := T.2 t htm g hg
  refine newO_obj fun g3 og3 y3 m3 => ?_
  refine og3.stA fun g4 og4 b4 m4 => ?_
  have y4 : Ext g' g4 := y3.but_ b4 (some_le (Nat.le_refl _))
  refine og4.sdI (by omega) (by omega) ?_
  refine og4.sdI (by omega) (by omega) ?_
  rw [Int.toNat_natCast]
  have ov4 := ov.ext y4
  have ou4 := ou.ext (e.trans y4)
  have hst := fun w => stepB_take (A := itB (edT ts f g) k) (j := j) (by omega : j < (edT ts f g).length) w
  rw [hedge] at hst
  simp only at hst
  have hv : v.o = some h.length := vo
  have next : ∀ (b : Bool), b = stepB ((edT ts f g).take (j + 1)) (itB (edT ts f g) k) (sd t f).toNat → ixS v 1 (sd t f) fun p => Cl.st1 p (.bool b) g4 fun h12 => Y (impl_Set_endless_e2 (f : Int) (g : Int) ⟨some h0.length, 2, 0⟩ u v c (k : Int) s (s.len : Int) (w64 ((j : Int) + 1))) h12 := fun b hb => by
    refine ov4.stBl bf.1 (by omega) b fun g5 o5 b5 l5 => ?_
    rw [w64_of (by omega) (by omega)]
    refine hY _ _ ⟨j + 1, by push_cast; rfl, by omega, ?_, (e.trans y4).but_ b5 (fun i hi => by rw [hv] at hi; cases hi; exact Nat.le_refl _)⟩ (by omega)
    rw [show bl c.toNat (stepB ((edT ts f g).take (j + 1)) (itB (edT ts f g) k)) = bl c.toNat (fun w => if w = (sd t f).toNat then b else stepB ((edT ts f g).take j) (itB (edT ts f g) k) w) from bl_congr fun w _ => ?_]
    · exact o5
    · split
      · next e => rw [hb, e]
      · next e => rw [hst w, show ((sd t f).toNat == w) = false by simp; exact fun f => e f.symm]; simp
  refine ov4.rd.ldBl bf.1 (by omega) ?_
  refine bif_b (fun hb => ?_) (fun hb => ?_)
  · refine next _ ?_
    rw [hst, hb]; rfl
  · refine og4.sdI (by omega) (by omega) ?_
    rw [Int.toNat_natCast]
    refine ou4.rd.ldBl bg.1 (by omega) ?_
    refine next _ ?_
    rw [hst, hb]
    simp
/-! ### the lasting tiles -/
def lastT (c : Int) (ts : List Tile) (i : Nat) : Bool := lastE (itB (edT ts 2 0) c.toNat) (itB (edT ts 0 2) c.toNat) ((sd (tat ts i) 0).toNat, (sd (tat ts i) 2).toNat)
def lastL (c : Int) (ts : List Tile) (n : Nat) : List Int := ((List.range n).filter (lastT c ts)).map fun (i : Nat) => (i : Int)
theorem flip_edT (ts : List Tile) : flipE (edT ts 0 2) = edT ts 2 0 := by unfold flipE edT; rw [List.map_map]; rfl
theorem lst_tiles (T : TS c ts) : Lst c.toNat (edT ts 0 2) (itB (edT ts 2 0) c.toNat) (itB (edT ts 0 2) c.toNat) := by
  have a := edT_lt T (f := 0) (g := 2) (by omega) (by omega)
  have b := edT_lt T (f := 2) (g := 0) (by omega) (by omega)
  refine ⟨a, ?_, endless_it (fun w hw => itB_end (fun e he => (a e he).2) w hw)⟩
  rw [flip_edT]
  exact endless_it (fun w hw => itB_end (fun e he => (b e he).2) w hw)
theorem lastL_len (n : Nat) : (lastL c ts n).length ≤ n := by
  unfold lastL
  rw [List.length_map]
  have := List.length_filter_le (lastT c ts) (List.range n)
  rwa [List.length_range] at this
theorem lastL_succ (n : Nat) : lastL c ts (n + 1) = if lastT c ts n then lastL c ts n ++ [(n : Int)] else lastL c ts n := by
  unfold lastL
  rw [List.range_succ, List.filter_append, List.map_append]
  by_cases h : lastT c ts n = true
  · rw [if_pos h, List.filter_cons_of_pos h]; rfl
  · rw [if_neg h, List.filter_cons_of_neg h]; simp
noncomputable def F_LastingTiles_0 (c : Int) (ts : List Tile) : List Int := sel0 (setOK c ts) (lastL c ts ts.length)
theorem impl_LastingTiles_c (r : Rd h0 s 4 (tcs ts)) (sz : ts.length ≤ 1048576) :
    callV SP i_impl_LastingTiles [.agg (SetC c s)] h0 fun v h' => ∃ w, v = .tuple [.sl w, i64 (codeOf (setOK c ts) True)] ∧ Ow h' w 1 (ic (F_LastingTiles_0 c ts)) ∧ Fr h0.length w ∧ Ext h0 h' := by
  apply impl_LastingTiles_call
  unfold impl_LastingTiles_main
  refine newK_obj fun h1 o1 x1 n1 => ?_
  refine o1.ldA rfl ?_
  refine (IsSet_c (r.ext x1) (by omega)).to ?_
  rintro e h2 ⟨he, x2⟩
  have X := x1.trans x2
  refine bif_not (fun hq => ⟨Sl.nil, ?_, ?_, Fr.nil _, X⟩) (fun hq => ?_)
  · rw [codeOf_no fun hs => by rw [he.2 hs] at hq; cases hq]
  · rw [F_LastingTiles_0, sel0_no fun hs => by rw [he.2 hs] at hq; cases hq]; exact Ow.nil _ _
  have hs := he.1 hq
  have T := hs.ts
  have hN := hs.2.1
  have htl := r.tlen
  refine slotK_in fun h5 x5 l5 => ?_
  have o2 := o1.ext x2
  have o5 := o2.ext x5
  refine o5.ldA rfl ?_
  refine (endlessT_c (r.ext (X.trans x5)) T hs.1.2 hN (f := 2) (g := 0) (by omega) (by omega)).to ?_
  rintro a h7 ⟨oa, fa, x7⟩
  have o7 := o5.ext x7
  refine o7.ldA rfl ?_
  refine ⟨o5.same o7 rfl, ?_⟩
  refine (endlessT_c (r.ext ((X.trans x5).trans x7)) T hs.1.2 hN (f := 0) (g := 2) (by omega) (by omega)).to ?_
  rintro b h10 ⟨ob, fb, x10⟩
  have o10 := o7.ext x10
  have l7 := x7.len
  have l10 := x10.len
  refine newSat_ow (by omega) (by rfl) fun u h13 ou lu uo bu lu' => ?_
  have X10 := ((X.trans x5).trans x7).trans x10
  have x13 : Ext h2 h13 := ((x5.trans x7).trans x10).but_ bu (some_le (by omega))
  have o13 := o2.ext x13
  refine ⟨o10.same o7 rfl, o10.same o5 rfl, o13.same o7 rfl, o13.same o5 rfl, ?_⟩
  refine isPt_in (o13.ldS rfl rfl ?_)
  have oa13 : Ow h13 a 1 _ := (oa.ext x10).but bu (.inl fun e => by have := fa _ e.symm; omega)
  have ob13 : Ow h13 b 1 _ := ob.but bu (.inl fun e => by have := fb _ e.symm; omega)
  have l2 := X.len
  refine impl_LastingTiles_rule0 _ _ _ _ _ _ (fun u i h => ∃ k : Nat, i = k ∧ k ≤ ts.length ∧ Ow h u 1 (ic (lastL c ts k)) ∧ (∀ o, u.o = some o → o = h2.length ∨ h13.length ≤ o) ∧ Chg (fun i => i = h2.length) h13 h) (fun _ i _ => (ts.length - i).toNat) ?_ _ _ ⟨0, rfl, by omega, ou, (fun o e => by rw [uo] at e; cases e; exact .inl (by omega)), Chg.refl _ _⟩
  rintro Y u _ h ⟨k, rfl, hk, ou, fu, cg⟩ hY
  have hX : Ext h2 h := x13.chg_ cg fun i e => by omega
  have clen := cg.1
  have l13 := x13.len
  unfold impl_LastingTiles_b0 impl_LastingTiles_C0
  refine bif_dec (fun hi => ?_) (fun hi => ⟨u, by rw [codeOf_yes hs trivial], ?_, (fun o e => by rcases fu o e with h | h <;> omega), X.trans hX⟩)
  rotate_left
  · rw [F_LastingTiles_0, sel0_yes hs, show ts.length = k by omega]; exact ou
  have hk' : k < ts.length := by omega
  refine (r.ext (X.trans hX)).ldT (by omega) (by omega) fun t ht => ?_
  rw [Int.toNat_natCast] at ht
  have htm : t ∈ ts := List.mem_of_getElem? ht
  have hta : tat ts (k : Int) = t := tat_at (by rw [Int.toNat_natCast]; exact ht)
  have b0 := T.2 t htm 0 (by omega)
  have b2 := T.2 t htm 2 (by omega)
  refine newO_obj fun g3 og3 y3 m3 => ?_
  refine og3.stA fun g4 og4 b4 m4 => ?_
  have y4 : Ext h g4 := y3.but_ b4 (some_le (Nat.le_refl _))
  have hsuc := lastL_succ (c := c) (ts := ts) k
  have hlt : lastT c ts k = (itB (edT ts 2 0) c.toNat (sd t 0).toNat && itB (edT ts 0 2) c.toNat (sd t 2).toNat) := by unfold lastT lastE; rw [hta]
  have skip : lastT c ts k = false → Y (impl_LastingTiles_e0 u a b s (s.len : Int) (w64 ((k : Int) + 1))) g4 := fun hq => by
    rw [w64_of (by omega) (by omega)]
    refine hY _ _ _ ⟨k + 1, by push_cast; rfl, by omega, ?_, fu, cg.trans (y4.chg _)⟩ (by omega)
    rw [hsuc, hq]
    exact ou.ext y4
  have oa4 : Ow g4 a 1 _ := (oa13.chg cg fun i e f => by have := fa i e; omega).ext y4
  have ob4 : Ow g4 b 1 _ := (ob13.chg cg fun i e f => by have := fb i e; omega).ext y4
  refine og4.sdI (by omega) (by omega) ?_
  refine oa4.rd.ldBl b0.1 (by show sd t 0 < _; omega) ?_
  refine bif_b (fun hb => ?_) (fun hb => skip (by rw [hlt, show itB (edT ts 2 0) c.toNat (sd t 0).toNat = false from hb]; rfl))
  refine og4.sdI (by omega) (by omega) ?_
  refine ob4.rd.ldBl b2.1 (by show sd t 2 < _; omega) ?_
  refine bif_b (fun hb2 => ?_) (fun hb2 => skip (by rw [hlt, show itB (edT ts 0 2) c.toNat (sd t 2).toNat = false from hb2]; simp))
  have hll := lastL_len (c := c) (ts := ts) k
  have y4l := y4.len
  refine pushI2 (ou.ext y4) (by unfold lim; omega) fun u' g16 ou' bu' fu' => ?_
  rw [w64_of (by omega) (by omega)]
  refine hY _ _ _ ⟨k + 1, by push_cast; rfl, by omega, ?_, (fun o e => ?_), ?_⟩ (by omega)
  · rw [hsuc, hlt, show itB (edT ts 2 0) c.toNat (sd t 0).toNat = true from hb, show itB (edT ts 0 2) c.toNat (sd t 2).toNat = true from hb2]
    exact ou'
  · rcases fu' o e with h | h
    · exact fu o h
    · exact .inr (by omega)
  · have hne : Chg (fun i => u.o = some i) g4 g16 := bu'.chg fun i e => e
    have cg4 := cg.trans (y4.chg (fun i => i = h2.length))
    refine ⟨Nat.le_trans cg4.1 hne.1, fun i hi hn => ?_⟩
    rw [hne.2 i (by omega) fun e => by rcases fu i e with h | h <;> omega]
    exact cg4.2 i hi hn
end
end Go.Proofs.Ytdmhchgaeepdmaa.Cl
