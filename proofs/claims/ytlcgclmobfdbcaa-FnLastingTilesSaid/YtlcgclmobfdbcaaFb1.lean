/- Contracts of functions, joined. No claim is stated here. -/
import Derived.Test.YtlcgclmobfdbcaaFb0
import Derived.Test.YtlcgclmobfdbcaaFa2
import Derived.RangeFuncNested
import Derived.RangeFuncLeaves
import Derived.RangeFuncCalls
import Derived.LoopNIn
import Derived.Shelf.SlSortCmp.InsertionK
import Derived.Shelf.SlSortCmp.NoneTotal
import Derived.Ground.SlsfProg
/- Contracts of LastingTiles. No claim is stated here. -/
set_option linter.unusedVariables false
set_option linter.unusedSimpArgs false
namespace Go.Proofs.Ytlcgclmobfdbcaa.Cl
open Go
noncomputable def sel0 {α : Type} (A : Prop) (l : List α) : List α := open Classical in if A then l else []
theorem sel0_yes {α : Type} {A : Prop} {l : List α} (h : A) : sel0 A l = l := by unfold sel0; rw [if_pos h]
theorem sel0_no {α : Type} {A : Prop} {l : List α} (h : ¬ A) : sel0 A l = [] := by unfold sel0; rw [if_neg h]
theorem pushI2 {h : H} {s : Sl} {l : List Int} {x : Int} (r : Ow h s 1 (ic l)) (hl : (l.length : Int) + 1 ≤ lim) {K : Sl → H → Prop}
    (hk : ∀ s' h', Ow h' s' 1 (ic (l ++ [x])) → But s.o h h' → (∀ o, s'.o = some o → s.o = some o ∨ h.length ≤ o) → K s' h') : newS 1 1 [.int .i64 x] h fun t h1 => app s t 1 h1 K := by
  refine newS_ow (by rfl) fun t h1 ot tl to e1 => ?_
  have e1' : Ext h h1 := by rw [e1]; exact Ext.app _ _
  have := e1'.len
  have hsl := r.rd.ilen
  refine app_ow (by omega) (r.ext e1') ot.rd (by rw [tl, hsl]; exact_mod_cast hl) fun s' h' o' ln b k1 k2 => hk s' h' (by rw [ic_app]; exact o') ((e1'.but _).trans b) fun o e => ?_
  cases hq : s.o with
  | none => have := k2 hq o e; exact .inr (by omega)
  | some p => rw [k1 p hq] at e; exact .inl e
theorem Obj.same {h h' o cs} (x : Obj h o cs) (y : Obj h' o cs) {n : Nat} (hn : cs.length = n) : Cl.range h (some o) n 0 n = Cl.range h' (some o) n 0 n := (x.rangeE hn).trans (y.rangeE hn).symm
/-! ### lists of truth values -/
def bl (n : Nat) (A : Nat → Bool) : List Bool := (List.range n).map A
theorem bl_len (n A) : (bl n A).length = n := by simp [bl]
theorem bl_get {n : Nat} {A : Nat → Bool} {i : Nat} (h : i < n) : (bl n A)[i]? = some (A i) := by unfold bl; rw [List.getElem?_map, List.getElem?_range h]; rfl
theorem bl_congr {n : Nat} {A B : Nat → Bool} (h : ∀ w, w < n → A w = B w) : bl n A = bl n B := by
  unfold bl
  exact List.map_congr_left fun w hw => h w (List.mem_range.1 hw)
theorem bl_set {n : Nat} {A : Nat → Bool} {k : Nat} {v : Bool} : ((bl n A).map AVal.bool).set k (.bool v) = (bl n fun w => if w = k then v else A w).map .bool := by
  rw [← List.map_set]
  congr 1
  apply List.ext_getElem (by simp [bl])
  intro i h1 h2
  rw [List.getElem_set]
  simp only [bl, List.getElem_map, List.getElem_range]
  by_cases e : k = i
  · rw [if_pos e, if_pos e.symm]
  · rw [if_neg e, if_neg fun f => e f.symm]
theorem bl_false (n : Nat) : (List.replicate n [AVal.bool false]).flatten = (bl n fun _ => false).map .bool := by
  induction n with
  | zero => rfl
  | succ n ih =>
    unfold bl at *
    rw [List.replicate_succ', List.flatten_append, ih, List.range_succ, List.map_append, List.map_append]
    rfl
theorem bl_rep (n : Nat) (b : Bool) : List.replicate n (AVal.bool b) = (bl n fun _ => b).map .bool := by
  unfold bl
  apply List.ext_getElem (by simp)
  intro i h1 h2
  simp
theorem Rd.ldBl {h : H} {s : Sl} {n : Nat} {A : Nat → Bool} (r : Rd h s 1 ((bl n A).map .bool)) {i : Int} (h0 : 0 ≤ i) (h1 : i < n) {K : Bool → Prop} (hk : K (A i.toNat)) : ixS s 1 i fun p => Cl.ldB p h K :=
  r.ldB h0 (by rw [bl_len]; exact h1) fun x hx => by rw [bl_get (by omega)] at hx; cases hx; exact hk
theorem Ow.blen {h : H} {s : Sl} {n : Nat} {A : Nat → Bool} (r : Ow h s 1 ((bl n A).map .bool)) : s.len = n := by have := r.len; rw [List.length_map, bl_len] at this; omega
theorem Ow.stBl {h : H} {s : Sl} {n : Nat} {A : Nat → Bool} (r : Ow h s 1 ((bl n A).map .bool)) {i : Int} (h0 : 0 ≤ i) (h1 : i < n) (v : Bool) {K : H → Prop}
    (hk : ∀ h', Ow h' s 1 ((bl n fun w => if w = i.toNat then v else A w).map .bool) → But s.o h h' → h'.length = h.length → K h') : ixS s 1 i fun p => Cl.st1 p (.bool v) h K :=
  r.stC h0 (by rw [r.blen]; exact h1) _ fun h' o b l => hk h' (by rw [← bl_set]; exact o) b l
/-! ### ways without end over tiles -/
def edT (ts : List Tile) (f g : Nat) : List Edge := ts.map fun t => ((sd t f).toNat, (sd t g).toNat)
theorem stepB_take {es : List Edge} {A : Nat → Bool} {j : Nat} (h : j < es.length) (w : Nat) : stepB (es.take (j + 1)) A w = (stepB (es.take j) A w || (es[j].1 == w && A es[j].2)) := by
  unfold stepB
  rw [List.take_succ_eq_append_getElem h, List.any_append]
  simp
theorem edT_lt {c : Int} {ts : List Tile} (T : TS c ts) {f g : Nat} (hf : f < 4) (hg : g < 4) : ∀ e ∈ edT ts f g, e.1 < c.toNat ∧ e.2 < c.toNat := fun e he => by
  obtain ⟨t, ht, rfl⟩ := List.mem_map.1 he
  have h1 := T.2 t ht f hf
  have h2 := T.2 t ht g hg
  exact ⟨by simp only []; omega, by simp only []; omega⟩
section
variable {h0 : H} {c : Int} {s : Sl} {ts : List Tile}
theorem endlessT_c (r : Rd h0 s 4 (tcs ts)) (T : TS c ts) (hc : c ≤ 6) (hN : ts.length ≤ 16) {f g : Nat} (hf : f < 4) (hg : g < 4) :
    callS SP i_impl_Set_endless [.agg (SetC c s), i64 (f : Int), i64 (g : Int)] h0 fun u h' => Ow h' u 1 ((bl c.toNat (itB (edT ts f g) c.toNat)).map .bool) ∧ Fr h0.length u ∧ Ext h0 h' := by
  have hc1 := T.1
  have htl := r.tlen
  apply impl_Set_endless_call
  unfold impl_Set_endless_main
  refine newK_obj fun h1 o1 x1 n1 => ?_
  refine newS_ow (by rfl) fun q h3 oq lq qo e3 => ?_
  have x3 : Ext h1 h3 := by rw [e3]; exact Ext.app _ _
  have o3 := o1.ext x3
  refine isPt_in (o3.ldI rfl rfl ?_)
  refine (repeatB_c oq.rd (by omega) (by omega)).to ?_
  rintro u h5 ⟨ou, fu, x5⟩
  refine isPt_in ((o3.ext x5).ldI rfl rfl ?_)
  rw [bl_rep] at ou
  have l3 := x3.len
  refine impl_Set_endless_rule0 _ _ _ _ _ _ (fun u i h => ∃ k : Nat, i = k ∧ k ≤ c.toNat ∧ Ow h u 1 ((bl c.toNat (itB (edT ts f g) k)).map .bool) ∧ Fr h1.length u ∧ Ext h1 h) (fun _ i _ => (c - i).toNat) ?_ _ _ ⟨0, rfl, by omega, ou, fu.le x3.len, x3.trans x5⟩
  rintro X u _ h ⟨k, rfl, hk, ou, fu, x⟩ hX
  unfold impl_Set_endless_b0 impl_Set_endless_C0
  refine bif_dec (fun hi => ?_) (fun hi => ⟨_, rfl, (by have e : c.toNat = k := (by omega); rw [e] at ou ⊢; exact ou), fu.le (by omega), x1.trans x⟩)
  have o := o1.ext x
  refine isPt_in (o.ldI rfl rfl ?_)
  refine mkS_ow (by omega) (by unfold lim; omega) fun v h2 ov lv vo e2 => ?_
  have x2 : Ext h h2 := by rw [e2]; exact Ext.app _ _
  rw [bl_false] at ov
  refine isPt_in ((o.ext x2).ldS rfl rfl ?_)
  have hel : (edT ts f g).length = ts.length := by simp [edT]
  have hhl := x.len
  refine impl_Set_endless_rule2 _ _ X _ _ _ _ _ _ _ _ _ (fun i g' => ∃ j : Nat, i = j ∧ j ≤ ts.length ∧ Ow g' v 1 ((bl c.toNat (stepB ((edT ts f g).take j) (itB (edT ts f g) k))).map .bool) ∧ Ext h g') (fun i _ => (ts.length - i).toNat) ?_ _ ⟨0, rfl, by omega, by rw [List.take_zero]; exact ov, x2⟩
  rintro Y _ g' ⟨j, rfl, hj, ov, e⟩ hY
  unfold impl_Set_endless_b2 impl_Set_endless_C2 impl_Set_endless_C1
  refine bif_dec (fun hi2 => ?_) (fun hi2 => ?_)
  rotate_left
  · rw [w64_of (by omega) (by omega)]
    refine hX _ _ _ ⟨k + 1, by push_cast; rfl, by omega, ?_, (fun o' e' => by rw [vo] at e'; cases e'; omega), x.trans e⟩ (by omega)
    rw [show j = ts.length by omega, ← hel, List.take_length] at ov
    exact ov
  have hj' : j < ts.length := by omega
  have E := (x1.trans x).trans e
  refine (r.ext E).ldT (by omega) (by omega) fun t ht => ?_
  rw [Int.toNat_natCast] at ht
  have htm : t ∈ ts := List.mem_of_getElem? ht
  have hedge : (edT ts f g)[j]'(by omega) = ((sd t f).toNat, (sd t g).toNat) := by
    have : ts[j] = t := (List.getElem?_eq_some_iff.1 ht).2
    simp only [edT, List.getElem_map, this]
  have bf := T.2 t htm f hf
  have bg := T.2 t htm g hg
  refine newO_obj fun g3 og3 y3 m3 => ?_
  refine og3.stA fun g4 og4 b4 m4 => ?_
  have y4 : Ext g' g4 := y3.but_ b4 (some_le (Nat.le_refl _))
  refine og4.sdI (by omega) (by omega) ?_
  refine og4.sdI (by omega) (by omega) ?_
  rw [Int.toNat_natCast]
  have ov4 := ov.ext y4
  have ou4 := ou.ext (e.trans y4)
  have hst := fun w => stepB_take (A := itB (edT ts f g) k) (j := j) (by omega : j < (edT ts f g).length) w
  rw [hedge] at hst
  simp only at hst
  have hv : v.o = some h.length := vo
  have next : ∀ (b : Bool), b = stepB ((edT ts f g).take (j + 1)) (itB (edT ts f g) k) (sd t f).toNat → ixS v 1 (sd t f) fun p => Cl.st1 p (.bool b) g4 fun h12 => Y (impl_Set_endless_e2 (f : Int) (g : Int) ⟨some h0.length, 2, 0⟩ u v c (k : Int) s (s.len : Int) (w64 ((j : Int) + 1))) h12 := fun b hb => by
    refine ov4.stBl bf.1 (by omega) b fun g5 o5 b5 l5 => ?_
    rw [w64_of (by omega) (by omega)]
    refine hY _ _ ⟨j + 1, by push_cast; rfl, by omega, ?_, (e.trans y4).but_ b5 (fun i hi => by rw [hv] at hi; cases hi; exact Nat.le_refl _)⟩ (by omega)
    rw [show bl c.toNat (stepB ((edT ts f g).take (j + 1)) (itB (edT ts f g) k)) = bl c.toNat (fun w => if w = (sd t f).toNat then b else stepB ((edT ts f g).take j) (itB (edT ts f g) k) w) from bl_congr fun w _ => ?_]
    · exact o5
    · split
      · next e => rw [hb, e]
      · next e => rw [hst w, show ((sd t f).toNat == w) = false by simp; exact fun f => e f.symm]; simp
  refine ov4.rd.ldBl bf.1 (by omega) ?_
  refine bif_b (fun hb => ?_) (fun hb => ?_)
  · refine next _ ?_
    rw [hst, hb]; rfl
  · refine og4.sdI (by omega) (by omega) ?_
    rw [Int.toNat_natCast]
    refine ou4.rd.ldBl bg.1 (by omega) ?_
    refine next _ ?_
    rw [hst, hb]
    simp
/-! ### the lasting tiles -/
def lastT (c : Int) (ts : List Tile) (i : Nat) : Bool := lastE (itB (edT ts 2 0) c.toNat) (itB (edT ts 0 2) c.toNat) ((sd (tat ts i) 0).toNat, (sd (tat ts i) 2).toNat)
def lastL (c : Int) (ts : List Tile) (n : Nat) : List Int := ((List.range n).filter (lastT c ts)).map fun (i : Nat) => (i : Int)
theorem flip_edT (ts : List Tile) : flipE (edT ts 0 2) = edT ts 2 0 := by unfold flipE edT; rw [List.map_map]; rfl
theorem lst_tiles (T : TS c ts) : Lst c.toNat (edT ts 0 2) (itB (edT ts 2 0) c.toNat) (itB (edT ts 0 2) c.toNat) := by
  have a := edT_lt T (f := 0) (g := 2) (by omega) (by omega)
  have b := edT_lt T (f := 2) (g := 0) (by omega) (by omega)
  refine ⟨a, ?_, endless_it (fun w hw => itB_end (fun e he => (a e he).2) w hw)⟩
  rw [flip_edT]
  exact endless_it (fun w hw => itB_end (fun e he => (b e he).2) w hw)
theorem lastL_len (n : Nat) : (lastL c ts n).length ≤ n := by
  unfold lastL
  rw [List.length_map]
  have := List.length_filter_le (lastT c ts) (List.range n)
  rwa [List.length_range] at this
theorem lastL_succ (n : Nat) : lastL c ts (n + 1) = if lastT c ts n then lastL c ts n ++ [(n : Int)] else lastL c ts n := by
  unfold lastL
  rw [List.range_succ, List.filter_append, List.map_append]
  by_cases h : lastT c ts n = true
  · rw [if_pos h, List.filter_cons_of_pos h]; rfl
  · rw [if_neg h, List.filter_cons_of_neg h]; simp
noncomputable def F_LastingTiles_0 (c : Int) (ts : List Tile) : List Int := sel0 (setOK c ts) (lastL c ts ts.length)
theorem impl_LastingTiles_c (r : Rd h0 s 4 (tcs ts)) (sz : ts.length ≤ 1048576) :
    callV SP i_impl_LastingTiles [.agg (SetC c s)] h0 fun v h' => ∃ w, v = .tuple [.sl w, i64 (codeOf (setOK c ts) True)] ∧ Ow h' w 1 (ic (F_LastingTiles_0 c ts)) ∧ Fr h0.length w ∧ Ext h0 h' := by
  apply impl_LastingTiles_call
  unfold impl_LastingTiles_main
  refine newK_obj fun h1 o1 x1 n1 => ?_
  refine o1.ldA rfl ?_
  refine (IsSet_c (r.ext x1) (by omega)).to ?_
  rintro e h2 ⟨he, x2⟩
  have X := x1.trans x2
  refine bif_not (fun hq => ⟨Sl.nil, ?_, ?_, Fr.nil _, X⟩) (fun hq => ?_)
  · rw [codeOf_no fun hs => by rw [he.2 hs] at hq; cases hq]
  · rw [F_LastingTiles_0, sel0_no fun hs => by rw [he.2 hs] at hq; cases hq]; exact Ow.nil _ _
  have hs := he.1 hq
  have T := hs.ts
  have hN := hs.2.1
  have htl := r.tlen
  refine slotK_in fun h5 x5 l5 => ?_
  have o2 := o1.ext x2
  have o5 := o2.ext x5
  refine o5.ldA rfl ?_
  refine (endlessT_c (r.ext (X.trans x5)) T hs.1.2 hN (f := 2) (g := 0) (by omega) (by omega)).to ?_
  rintro a h7 ⟨oa, fa, x7⟩
  have o7 := o5.ext x7
  refine o7.ldA rfl ?_
  refine ⟨o5.same o7 rfl, ?_⟩
  refine (endlessT_c (r.ext ((X.trans x5).trans x7)) T hs.1.2 hN (f := 0) (g := 2) (by omega) (by omega)).to ?_
  rintro b h10 ⟨ob, fb, x10⟩
  have o10 := o7.ext x10
  have l7 := x7.len
  have l10 := x10.len
  refine newSat_ow (by omega) (by rfl) fun u h13 ou lu uo bu lu' => ?_
  have X10 := ((X.trans x5).trans x7).trans x10
  have x13 : Ext h2 h13 := ((x5.trans x7).trans x10).but_ bu (some_le (by omega))
  have o13 := o2.ext x13
  refine ⟨o10.same o7 rfl, o10.same o5 rfl, o13.same o7 rfl, o13.same o5 rfl, ?_⟩
  refine isPt_in (o13.ldS rfl rfl ?_)
  have oa13 : Ow h13 a 1 _ := (oa.ext x10).but bu (.inl fun e => by have := fa _ e.symm; omega)
  have ob13 : Ow h13 b 1 _ := ob.but bu (.inl fun e => by have := fb _ e.symm; omega)
  have l2 := X.len
  refine impl_LastingTiles_rule0 _ _ _ _ _ _ (fun u i h => ∃ k : Nat, i = k ∧ k ≤ ts.length ∧ Ow h u 1 (ic (lastL c ts k)) ∧ (∀ o, u.o = some o → o = h2.length ∨ h13.length ≤ o) ∧ Chg (fun i => i = h2.length) h13 h) (fun _ i _ => (ts.length - i).toNat) ?_ _ _ ⟨0, rfl, by omega, ou, (fun o e => by rw [uo] at e; cases e; exact .inl (by omega)), Chg.refl _ _⟩
  rintro Y u _ h ⟨k, rfl, hk, ou, fu, cg⟩ hY
  have hX : Ext h2 h := x13.chg_ cg fun i e => by omega
  have clen := cg.1
  have l13 := x13.len
  unfold impl_LastingTiles_b0 impl_LastingTiles_C0
  refine bif_dec (fun hi => ?_) (fun hi => ⟨u, by rw [codeOf_yes hs trivial], ?_, (fun o e => by rcases fu o e with h | h <;> omega), X.trans hX⟩)
  rotate_left
  · rw [F_LastingTiles_0, sel0_yes hs, show ts.length = k by omega]; exact ou
  have hk' : k < ts.length := by omega
  refine (r.ext (X.trans hX)).ldT (by omega) (by omega) fun t ht => ?_
  rw [Int.toNat_natCast] at ht
  have htm : t ∈ ts := List.mem_of_getElem? ht
  have hta : tat ts (k : Int) = t := tat_at (by rw [Int.toNat_natCast]; exact ht)
  have b0 := T.2 t htm 0 (by omega)
  have b2 := T.2 t htm 2 (by omega)
  refine newO_obj fun g3 og3 y3 m3 => ?_
  refine og3.stA fun g4 og4 b4 m4 => ?_
  have y4 : Ext h g4 := y3.but_ b4 (some_le (Nat.le_refl _))
  have hsuc := lastL_succ (c := c) (ts := ts) k
  have hlt : lastT c ts k = (itB (edT ts 2 0) c.toNat (sd t 0).toNat && itB (edT ts 0 2) c.toNat (sd t 2).toNat) := by unfold lastT lastE; rw [hta]
  have skip : lastT c ts k = false → Y (impl_LastingTiles_e0 u a b s (s.len : Int) (w64 ((k : Int) + 1))) g4 := fun hq => by
    rw [w64_of (by omega) (by omega)]
    refine hY _ _ _ ⟨k + 1, by push_cast; rfl, by omega, ?_, fu, cg.trans (y4.chg _)⟩ (by omega)
    rw [hsuc, hq]
    exact ou.ext y4
  have oa4 : Ow g4 a 1 _ := (oa13.chg cg fun i e f => by have := fa i e; omega).ext y4
  have ob4 : Ow g4 b 1 _ := (ob13.chg cg fun i e f => by have := fb i e; omega).ext y4
  refine og4.sdI (by omega) (by omega) ?_
  refine oa4.rd.ldBl b0.1 (by show sd t 0 < _; omega) ?_
  refine bif_b (fun hb => ?_) (fun hb => skip (by rw [hlt, show itB (edT ts 2 0) c.toNat (sd t 0).toNat = false from hb]; rfl))
  refine og4.sdI (by omega) (by omega) ?_
  refine ob4.rd.ldBl b2.1 (by show sd t 2 < _; omega) ?_
  refine bif_b (fun hb2 => ?_) (fun hb2 => skip (by rw [hlt, show itB (edT ts 0 2) c.toNat (sd t 2).toNat = false from hb2]; simp))
  have hll := lastL_len (c := c) (ts := ts) k
  have y4l := y4.len
  refine pushI2 (ou.ext y4) (by unfold lim; omega) fun u' g16 ou' bu' fu' => ?_
  rw [w64_of (by omega) (by omega)]
  refine hY _ _ _ ⟨k + 1, by push_cast; rfl, by omega, ?_, (fun o e => ?_), ?_⟩ (by omega)
  · rw [hsuc, hlt, show itB (edT ts 2 0) c.toNat (sd t 0).toNat = true from hb, show itB (edT ts 0 2) c.toNat (sd t 2).toNat = true from hb2]
    exact ou'
  · rcases fu' o e with h | h
    · exact fu o h
    · exact .inr (by omega)
  · have hne : Chg (fun i => u.o = some i) g4 g16 := bu'.chg fun i e => e
    have cg4 := cg.trans (y4.chg (fun i => i = h2.length))
    refine ⟨Nat.le_trans cg4.1 hne.1, fun i hi hn => ?_⟩
    rw [hne.2 i (by omega) fun e => by rcases fu i e with h | h <;> omega]
    exact cg4.2 i hi hn
end
end Go.Proofs.Ytlcgclmobfdbcaa.Cl

/- Contracts of the reference's LastingTiles. No claim is stated here. -/
set_option linter.unusedVariables false
set_option linter.unusedSimpArgs false
namespace Go.Proofs.Ytlcgclmobfdbcaa.Cl
open Go
def isT : AVal → Bool | .bool b => b | _ => false
/-- How many truths a view's object has. -/
def trues (h : H) (s : Sl) : Nat := match s.o with
  | some o => (match h[o]? with | some (.own cs) => cs.countP isT | _ => 0)
  | none => 0
theorem trues_ow {h : H} {s : Sl} {n : Nat} {A : Nat → Bool} (r : Ow h s 1 ((bl n A).map .bool)) (hs : s.o.isSome = true) : trues h s = cntB n A := by
  obtain ⟨a, b⟩ | ⟨o, a, b, c, d, e⟩ := r.at_
  · rw [a] at hs; cases hs
  · unfold trues
    rw [a]
    simp only [e]
    unfold cntB bl
    rw [List.countP_map, List.countP_map]
    rfl
section
variable (ts : List Tile) (Q : Nat → Bool)
def prB (i j : Nat) : Bool := (List.range j).any fun k => Q k && (sd (tat ts (k : Nat)) 2 == sd (tat ts (i : Nat)) 0)
def suB (i j : Nat) : Bool := (List.range j).any fun k => Q k && (sd (tat ts (k : Nat)) 0 == sd (tat ts (i : Nat)) 2)
end
theorem prB_succ {ts Q i j} : prB ts Q i (j + 1) = (prB ts Q i j || (Q j && (sd (tat ts (j : Nat)) 2 == sd (tat ts (i : Nat)) 0))) := by
  unfold prB; rw [List.range_succ, List.any_append]; simp
theorem suB_succ {ts Q i j} : suB ts Q i (j + 1) = (suB ts Q i j || (Q j && (sd (tat ts (j : Nat)) 0 == sd (tat ts (i : Nat)) 2))) := by
  unfold suB; rw [List.range_succ, List.any_append]; simp
theorem range_any {n : Nat} {p : Nat → Bool} : (List.range n).any p = true ↔ ∃ k, k < n ∧ p k = true := by
  rw [List.any_eq_true]
  exact ⟨fun ⟨k, hk, h⟩ => ⟨k, List.mem_range.1 hk, h⟩, fun ⟨k, hk, h⟩ => ⟨k, List.mem_range.2 hk, h⟩⟩
section
variable {c : Int} {ts : List Tile}
theorem ed_at {f g i : Nat} (h : i < ts.length) : ((sd (tat ts (i : Nat)) f).toNat, (sd (tat ts (i : Nat)) g).toNat) ∈ edT ts f g := by
  refine List.mem_map.2 ⟨tat ts (i : Nat), ?_, rfl⟩
  have := at_tat (ts := ts) (n := (i : Int)) (by rw [Int.toNat_natCast]; exact h)
  exact List.mem_of_getElem? this
theorem ed_of {f g : Nat} {e : Edge} (h : e ∈ edT ts f g) : ∃ i, i < ts.length ∧ e = ((sd (tat ts (i : Nat)) f).toNat, (sd (tat ts (i : Nat)) g).toNat) := by
  obtain ⟨t, ht, rfl⟩ := List.mem_map.1 h
  obtain ⟨i, hi, rfl⟩ := List.getElem_of_mem ht
  refine ⟨i, hi, ?_⟩
  rw [tat_at (n := (i : Int)) (t := ts[i]) (by rw [Int.toNat_natCast]; exact List.getElem?_eq_getElem hi)]
theorem sd_at (T : TS c ts) {i k : Nat} (h : i < ts.length) (hk : k < 4) : 0 ≤ sd (tat ts (i : Nat)) k ∧ sd (tat ts (i : Nat)) k < c := by
  have := at_tat (ts := ts) (n := (i : Int)) (by rw [Int.toNat_natCast]; exact h)
  exact T.2 _ (List.mem_of_getElem? this) k hk
/-- A lasting tile has lasting ones on both sides, in each set with all lasting ones. -/
theorem last_keeps (T : TS c ts) {Q : Nat → Bool} (hQ : ∀ i, i < ts.length → lastT c ts i = true → Q i = true) {i : Nat} (hi : i < ts.length) (h : lastT c ts i = true) : prB ts Q i ts.length = true ∧ suB ts Q i ts.length = true := by
  have L := lst_tiles T
  constructor
  · obtain ⟨e, he, h1, h2⟩ := L.pred (ed_at (f := 0) (g := 2) hi) h
    obtain ⟨k, hk, rfl⟩ := ed_of he
    refine range_any.2 ⟨k, hk, ?_⟩
    rw [hQ k hk h1, Bool.true_and]
    have a := sd_at T hk (k := 2) (by omega)
    have b := sd_at T hi (k := 0) (by omega)
    have h2' : (sd (tat ts (k : Nat)) 2).toNat = (sd (tat ts (i : Nat)) 0).toNat := h2
    have : sd (tat ts (k : Nat)) 2 = sd (tat ts (i : Nat)) 0 := by omega
    rw [this]; simp
  · obtain ⟨e, he, h1, h2⟩ := L.succ (ed_at (f := 0) (g := 2) hi) h
    obtain ⟨k, hk, rfl⟩ := ed_of he
    refine range_any.2 ⟨k, hk, ?_⟩
    rw [hQ k hk h1, Bool.true_and]
    have a := sd_at T hk (k := 0) (by omega)
    have b := sd_at T hi (k := 2) (by omega)
    have h2' : (sd (tat ts (k : Nat)) 0).toNat = (sd (tat ts (i : Nat)) 2).toNat := h2
    have : sd (tat ts (k : Nat)) 0 = sd (tat ts (i : Nat)) 2 := by omega
    rw [this]; simp
/-- A stable set has lasting tiles alone. -/
theorem last_top (T : TS c ts) {Q : Nat → Bool} (hQ : ∀ i, i < ts.length → Q i = true → prB ts Q i ts.length = true ∧ suB ts Q i ts.length = true) {i : Nat} (hi : i < ts.length) (h : Q i = true) : lastT c ts i = true := by
  have L := lst_tiles T
  let E : Nat → Edge := fun i => ((sd (tat ts (i : Nat)) 0).toNat, (sd (tat ts (i : Nat)) 2).toNat)
  have QE : ∀ e, ((List.range ts.length).any fun i => Q i && (E i == e)) = true ↔ ∃ i, i < ts.length ∧ Q i = true ∧ E i = e := fun e => by
    rw [range_any]
    constructor
    · rintro ⟨k, hk, h⟩
      rw [Bool.and_eq_true, beq_iff_eq] at h
      exact ⟨k, hk, h.1, h.2⟩
    · rintro ⟨k, hk, h1, h2⟩
      exact ⟨k, hk, by rw [Bool.and_eq_true, beq_iff_eq]; exact ⟨h1, h2⟩⟩
  refine L.top (Q := fun e => (List.range ts.length).any fun i => Q i && (E i == e)) (fun e he h => ?_) (fun e he h => ?_) (ed_at (f := 0) (g := 2) hi) ((QE _).2 ⟨i, hi, h, rfl⟩)
  · obtain ⟨i, hi, hq, rfl⟩ := (QE e).1 h
    obtain ⟨k, hk, h2⟩ := range_any.1 (hQ i hi hq).1
    rw [Bool.and_eq_true, beq_iff_eq] at h2
    exact ⟨E k, ed_at (f := 0) (g := 2) hk, (QE _).2 ⟨k, hk, h2.1, rfl⟩, by show (sd _ 2).toNat = _; rw [h2.2]⟩
  · obtain ⟨i, hi, hq, rfl⟩ := (QE e).1 h
    obtain ⟨k, hk, h2⟩ := range_any.1 (hQ i hi hq).2
    rw [Bool.and_eq_true, beq_iff_eq] at h2
    exact ⟨E k, ed_at (f := 0) (g := 2) hk, (QE _).2 ⟨k, hk, h2.1, rfl⟩, by show (sd _ 0).toNat = _; rw [h2.2]⟩
end
section
variable {h0 : H} {c : Int} {s : Sl} {ts : List Tile}
theorem l02Lasting_c (r : Rd h0 s 4 (tcs ts)) (T : TS c ts) (hN : ts.length ≤ 16) :
    callS SP i_spec_l02Lasting [.agg (SetC c s)] h0 fun u h' => Ow h' u 1 ((bl ts.length (lastT c ts)).map .bool) ∧ Fr h0.length u ∧ Ext h0 h' := by
  have htl := r.tlen
  apply spec_l02Lasting_call
  unfold spec_l02Lasting_main
  refine newK_obj fun h1 o1 x1 n1 => ?_
  refine isPt_in (o1.ldS rfl rfl ?_)
  refine mkS_ow (by omega) (by unfold lim; omega) fun v h2 ov lv vo e2 => ?_
  have x2 : Ext h1 h2 := by rw [e2]; exact Ext.app _ _
  rw [bl_false, Int.toNat_natCast, htl] at ov
  rw [Int.toNat_natCast, htl] at lv
  have hvs : v.o.isSome = true := by rw [vo]; rfl
  have fv : Fr h1.length v := fun o e => by rw [vo] at e; cases e; exact Nat.le_refl _
  refine spec_l02Lasting_rule0 _ _ _ _ (fun i h => ∃ k : Nat, i = k ∧ k ≤ ts.length ∧ Ow h v 1 ((bl ts.length fun j => decide (j < k)).map .bool) ∧ Ext h1 h) (fun i _ => (ts.length - i).toNat) ?_ _ ⟨0, rfl, by omega, by simpa using ov, x2⟩
  rintro X _ h ⟨k, rfl, hk, ok, x⟩ hX
  unfold spec_l02Lasting_b0 spec_l02Lasting_C0
  refine bif_dec (fun hi => ?_) (fun hi => ?_)
  · refine ok.stBl (by omega) (by omega) _ fun h' o' b' l' => ?_
    rw [w64_of (by omega) (by omega)]
    refine hX _ _ ⟨k + 1, by push_cast; rfl, by omega, ?_, x.but_ b' fun o e => fv o e⟩ (by omega)
    rw [show bl ts.length (fun j => decide (j < k + 1)) = bl ts.length (fun w => if w = (k : Int).toNat then true else decide (w < k)) from bl_congr fun w _ => ?_]
    · exact o'
    · rw [Int.toNat_natCast]
      split
      · next e => simp [e]
      · next e => by_cases q : w < k <;> simp [q] <;> omega
  clear hX
  have hkn : k = ts.length := by omega
  subst hkn
  have ok1 : Ow h v 1 ((bl ts.length fun _ => true).map .bool) := by
    rw [show bl ts.length (fun _ => true) = bl ts.length (fun j => decide (j < ts.length)) from bl_congr fun w hw => by simp [hw]]
    exact ok
  refine spec_l02Lasting_rule2 _ _ _ _ (fun b h => Ext h1 h ∧ ∃ Q, Ow h v 1 ((bl ts.length Q).map .bool) ∧ (∀ i, i < ts.length → lastT c ts i = true → Q i = true) ∧ (b = false → ∀ i, i < ts.length → Q i = true → prB ts Q i ts.length = true ∧ suB ts Q i ts.length = true)) (fun b h => 2 * trues h v + if b then 1 else 0) ?_ _ ⟨x, fun _ => true, ok1, fun _ _ _ => rfl, fun f => by cases f⟩
  clear ok ok1 hi x
  rintro X more h ⟨x, Q, oq, hQ, hst⟩ hX
  unfold spec_l02Lasting_b2 spec_l02Lasting_C2
  refine bif_b (fun hm => ?_) (fun hm => ⟨_, rfl, ?_, fv.le (by omega), x1.trans x⟩)
  rotate_left
  · have e : bl ts.length (lastT c ts) = bl ts.length Q := bl_congr fun w hw => by
      have a := hQ w hw
      have b : Q w = true → lastT c ts w = true := fun q => last_top T (hst hm) hw q
      revert a b
      cases lastT c ts w <;> cases Q w <;> simp
    rw [e]; exact oq
  subst hm
  have hN0 := trues_ow oq hvs
  refine spec_l02Lasting_rule4 _ _ X _ _ (fun b i g => Ext h1 g ∧ ∃ k : Nat, i = k ∧ k ≤ ts.length ∧ ∃ Q', Ow g v 1 ((bl ts.length Q').map .bool) ∧ (∀ i, i < ts.length → lastT c ts i = true → Q' i = true) ∧ cntB ts.length Q' ≤ cntB ts.length Q ∧ (b = true → cntB ts.length Q' < cntB ts.length Q) ∧ (b = false → ∀ i, i < k → Q' i = true → prB ts Q' i ts.length = true ∧ suB ts Q' i ts.length = true)) (fun _ i _ => (ts.length - i).toNat) ?_ _ _ ⟨x, 0, rfl, by omega, Q, oq, hQ, Nat.le_refl _, (fun f => by cases f), fun _ i hi => by omega⟩
  rintro Y b _ g ⟨xg, i, rfl, hi, P, op, hP, hle, hlt, hdone⟩ hY
  unfold spec_l02Lasting_b4 spec_l02Lasting_C4
  refine bif_dec (fun hin => ?_) (fun hin => ?_)
  rotate_left
  · refine hX _ _ ⟨xg, P, op, hP, fun hb j hj => ?_⟩ ?_
    · rw [show i = ts.length by omega] at hdone
      exact hdone hb j hj
    · rw [trues_ow op hvs, hN0]
      cases b
      · simp only [Bool.false_eq_true, if_false, if_true]; omega
      · have := hlt rfl
        simp only [if_true]; omega
  have hin' : i < ts.length := by omega
  refine spec_l02Lasting_rule6 _ _ X Y _ _ _ _ (fun w e j g' => g = g' ∧ ∃ k : Nat, j = k ∧ k ≤ ts.length ∧ w = prB ts P i k ∧ e = suB ts P i k) (fun _ _ j _ => (ts.length - j).toNat) ?_ _ _ _ ⟨rfl, 0, rfl, by omega, rfl, rfl⟩
  rintro Z w e _ _ ⟨rfl, k, rfl, hk, rfl, rfl⟩ hZ
  have o := o1.ext xg
  have rg := r.ext (x1.trans xg)
  unfold spec_l02Lasting_b6 spec_l02Lasting_C6 spec_l02Lasting_C5
  refine bif_dec (fun hkn => ?_) (fun hkn => ?_)
  · have hk' : k < ts.length := by omega
    have next : ∀ (w e : Bool), w = prB ts P i (k + 1) → e = suB ts P i (k + 1) → Z (spec_l02Lasting_e6 ⟨some h0.length, 2, 0⟩ v b (i : Int) w e (w64 ((k : Int) + 1))) g := fun w e hw he => by
      rw [w64_of (by omega) (by omega)]
      exact hZ _ _ _ _ ⟨rfl, k + 1, by push_cast; rfl, by omega, hw, he⟩ (by omega)
    have hpr := prB_succ (ts := ts) (Q := P) (i := i) (j := k)
    have hsu := suB_succ (ts := ts) (Q := P) (i := i) (j := k)
    have rdP : ∀ {K : Bool → Prop}, K (P k) → ixS v 1 (k : Int) fun p => Cl.ldB p g K := fun hk => op.rd.ldBl (by omega) (by omega) (by rw [Int.toNat_natCast]; exact hk)
    have rdS : ∀ {m q : Nat} {K : Int → Prop}, m < ts.length → q < 4 → K (sd (tat ts (m : Nat)) q) → isPt ⟨some h0.length, 2, 0⟩ (Cl.ldS (Pt.add ⟨some h0.length, 2, 0⟩ 1) g fun s2 => ixS s2 4 (m : Int) fun p => ixA p 4 1 (q : Int) fun p => Cl.ldI .i64 p g K) := fun hm hq hk => side_of o rg (by omega) (by omega) (by omega) (by omega) hk
    generalize prB ts P i k = W at *
    generalize suB ts P i k = U at *
    refine bif_b (fun hw => ?_) (fun hw => ?_)
    · refine bif_b (fun he => ?_) (fun he => ?_)
      · exact next _ _ (by rw [hpr, hw]; rfl) (by rw [hsu, he]; rfl)
      · refine rdP (bif_b (fun hp => ?_) (fun hp => ?_))
        · refine rdS (q := 0) hk' (by omega) (rdS (q := 2) hin' (by omega) ?_)
          exact next _ _ (by rw [hpr, hw]; rfl) (by rw [hsu, he, hp]; rfl)
        · exact next _ _ (by rw [hpr, hw]; rfl) (by rw [hsu, he, hp]; rfl)
    · refine rdP (bif_b (fun hp => ?_) (fun hp => ?_))
      · refine rdS (q := 2) hk' (by omega) (rdS (q := 0) hin' (by omega) ?_)
        refine bif_b (fun he => ?_) (fun he => ?_)
        · exact next _ _ (by rw [hpr, hw, hp]; rfl) (by rw [hsu, he]; rfl)
        · refine rdP (bif_b (fun hp => ?_) (fun hp' => absurd hp (by rw [hp']; decide)))
          refine rdS (q := 0) hk' (by omega) (rdS (q := 2) hin' (by omega) ?_)
          exact next _ _ (by rw [hpr, hw, hp]; rfl) (by rw [hsu, he, hp]; rfl)
      · refine bif_b (fun he => ?_) (fun he => ?_)
        · exact next _ _ (by rw [hpr, hw, hp]; rfl) (by rw [hsu, he]; rfl)
        · refine rdP (bif_b (fun hp' => absurd hp' (by rw [hp]; decide)) (fun hp => ?_))
          exact next _ _ (by rw [hpr, hw, hp]; rfl) (by rw [hsu, he, hp]; rfl)
  · have : k = ts.length := by omega
    subst this
    have rdP : ∀ {K : Bool → Prop}, K (P i) → ixS v 1 (i : Int) fun p => Cl.ldB p g K := fun hk => op.rd.ldBl (by omega) (by omega) (by rw [Int.toNat_natCast]; exact hk)
    -- the tile stays
    have stay : (P i = true → prB ts P i ts.length = true ∧ suB ts P i ts.length = true) → Y (spec_l02Lasting_e4 ⟨some h0.length, 2, 0⟩ v b (w64 ((i : Int) + 1))) g := fun hs => by
      rw [w64_of (by omega) (by omega)]
      refine hY _ _ _ ⟨xg, i + 1, by push_cast; rfl, by omega, P, op, hP, hle, hlt, fun hb j hj hpj => ?_⟩ (by omega)
      by_cases e : j = i
      · subst e; exact hs hpj
      · exact hdone hb j (by omega) hpj
    -- the tile goes
    have go : P i = true → ¬ (prB ts P i ts.length = true ∧ suB ts P i ts.length = true) → ixS v 1 (i : Int) fun p => Cl.st1 p (.bool false) g fun g' => Y (spec_l02Lasting_e4 ⟨some h0.length, 2, 0⟩ v true (w64 ((i : Int) + 1))) g' := fun hp hn => by
      refine op.stBl (by omega) (by omega) _ fun g' o' b' l' => ?_
      rw [w64_of (by omega) (by omega)]
      rw [Int.toNat_natCast] at o'
      have hcl : cntB ts.length (fun w => if w = i then false else P w) < cntB ts.length P := cntB_lt (fun w hw hq => by
        have hq' : (if w = i then false else P w) = true := hq
        split at hq'
        · cases hq'
        · exact hq') ⟨i, hin', by simp [hp]⟩
      refine hY _ _ _ ⟨xg.but_ b' (fun o e => fv o e), i + 1, by push_cast; rfl, by omega, _, o', fun j hj hlj => ?_, by omega, fun _ => by omega, fun f => by cases f⟩ (by omega)
      by_cases e : j = i
      · subst e; exact absurd (last_keeps T hP hj hlj) hn
      · simp only [if_neg e]; exact hP j hj hlj
    refine rdP (bif_b (fun hp => ?_) (fun hp => stay fun q => by rw [hp] at q; cases q))
    refine bif_b (fun hw => ?_) (fun hw => ?_)
    · refine bif_not (fun he => go hp fun f => by rw [he] at f; cases f.2) (fun he => stay fun _ => ⟨hw, he⟩)
    · exact go hp fun f => by rw [hw] at f; cases f.1
theorem spec_LastingTiles_c (r : Rd h0 s 4 (tcs ts)) (sz : ts.length ≤ 1048576) :
    callV SP i_spec_LastingTiles [.agg (SetC c s)] h0 fun v h' => ∃ w, v = .tuple [.sl w, i64 (codeOf (setOK c ts) True)] ∧ Ow h' w 1 (ic (F_LastingTiles_0 c ts)) ∧ Fr h0.length w ∧ Ext h0 h' := by
  apply spec_LastingTiles_call
  unfold spec_LastingTiles_main
  refine newK_obj fun h1 o1 x1 n1 => ?_
  refine o1.ldA rfl ?_
  refine (l01Is_c (r.ext x1)).to ?_
  rintro e h2 ⟨he, x2⟩
  have X := x1.trans x2
  refine bif_not (fun hq => ⟨Sl.nil, ?_, ?_, Fr.nil _, X⟩) (fun hq => ?_)
  · rw [codeOf_no fun hs => by rw [he.2 hs] at hq; cases hq]
  · rw [F_LastingTiles_0, sel0_no fun hs => by rw [he.2 hs] at hq; cases hq]; exact Ow.nil _ _
  have hs := he.1 hq
  refine (o1.ext x2).ldA rfl ?_
  refine (l02Lasting_c (r.ext X) hs.ts hs.2.1).to ?_
  rintro a h6 ⟨oa, fa, x6⟩
  have hN := hs.2.1
  have hal := oa.blen
  refine newS_ow (by rfl) fun u h9 ou lu uo e9 => ?_
  have x9 : Ext h6 h9 := by rw [e9]; exact Ext.app _ _
  have oa9 := oa.ext x9
  have l2 := X.len
  have l6 := x6.len
  have hlt : ∀ o, a.o = some o → o < h6.length := fun o e => oa.lt e
  refine spec_LastingTiles_rule0 _ _ _ (fun u i h => ∃ k : Nat, i = k ∧ k ≤ ts.length ∧ Ow h u 1 (ic (lastL c ts k)) ∧ Fr h6.length u ∧ Ext h6 h) (fun _ i _ => (ts.length - i).toNat) ?_ _ _ ⟨0, rfl, by omega, ou, (fun o e => by rw [uo] at e; cases e; exact Nat.le_refl _), x9⟩
  rintro Y u _ h ⟨k, rfl, hk, ou, fu, x⟩ hY
  unfold spec_LastingTiles_b0 spec_LastingTiles_C0
  refine bif_dec (fun hi => ?_) (fun hi => ⟨u, by rw [codeOf_yes hs trivial], ?_, fu.le (by omega), (X.trans x6).trans x⟩)
  rotate_left
  · rw [F_LastingTiles_0, sel0_yes hs, show ts.length = k by omega]; exact ou
  have hsuc := lastL_succ (c := c) (ts := ts) k
  have hll := lastL_len (c := c) (ts := ts) k
  refine (oa.ext x).rd.ldBl (by omega) (by omega) ?_
  rw [Int.toNat_natCast]
  refine bif_b (fun hb => ?_) (fun hb => ?_)
  · refine pushI ou (by unfold lim; omega) fun u' g ou' bu fu' => ?_
    rw [w64_of (by omega) (by omega)]
    refine hY _ _ _ ⟨k + 1, by push_cast; rfl, by omega, ?_, fu' _ fu x.len, x.but_ bu (fun o e => fu o e)⟩ (by omega)
    rw [hsuc, hb]; exact ou'
  · rw [w64_of (by omega) (by omega)]
    refine hY _ _ _ ⟨k + 1, by push_cast; rfl, by omega, ?_, fu, x⟩ (by omega)
    rw [hsuc, hb]; exact ou
theorem LastingTiles_small0 (sz : ts.length ≤ 1048576) : (F_LastingTiles_0 c ts).length < 1000000 := by
  by_cases hs : setOK c ts
  · rw [F_LastingTiles_0, sel0_yes hs]
    have := lastL_len (c := c) (ts := ts) ts.length
    have := hs.2.1
    omega
  · rw [F_LastingTiles_0, sel0_no hs]; decide
end
end Go.Proofs.Ytlcgclmobfdbcaa.Cl

/- Views of the first part of an object. No claim is stated here. -/
set_option linter.unusedVariables false
set_option linter.unusedSimpArgs false
namespace Go.Proofs.Ytlcgclmobfdbcaa.Cl
open Go
/-- The view s is the first part of an own object (or of none). -/
structure Pre (h : H) (s : Sl) (z : Nat) (cs : List AVal) : Prop where
  len : cs.length = s.len * z
  at_ : (s.o = none ∧ s.len = 0) ∨ (∃ o xs m, s.o = some o ∧ s.sz = z ∧ s.off = 0 ∧ s.n = m * z ∧ xs.length = m * z ∧ s.len ≤ m ∧ h[o]? = some (.own xs) ∧ xs.take (s.len * z) = cs)
theorem Pre.nil (h : H) (z : Nat) : Pre h Sl.nil z [] := ⟨by simp [Sl.nil], .inl ⟨rfl, rfl⟩⟩
theorem Ow.pre {h s z cs} (r : Ow h s z cs) : Pre h s z cs := by
  refine ⟨r.len, ?_⟩
  obtain ⟨a, b⟩ | ⟨o, a, b, c, d, e⟩ := r.at_
  · exact .inl ⟨a, b⟩
  · refine .inr ⟨o, cs, s.len, a, b, c, d, r.len, Nat.le_refl _, e, ?_⟩
    rw [← r.len, List.take_length]
theorem Pre.rd {h s z cs} (r : Pre h s z cs) : Rd h s z cs := by
  refine ⟨r.len, ?_⟩
  obtain ⟨a, b⟩ | ⟨o, xs, m, a, b, c, d, e, f, g, k⟩ := r.at_
  · exact .inl b
  · have hm : s.len * z ≤ m * z := Nat.mul_le_mul_right _ f
    refine .inr ⟨b, by simp [a], ?_⟩
    rw [a, range_of (xs := xs) (by unfold cells; simp [g, d, e]) (by omega), c, List.drop_zero, k]
theorem Pre.chg {P} {h h' : H} {s z cs} (r : Pre h s z cs) (b : Chg P h h') (hn : ∀ i, s.o = some i → ¬ P i) : Pre h' s z cs :=
  ⟨r.len, r.at_.imp id fun ⟨o, xs, m, a, b', c, d, e, f, g, k⟩ => ⟨o, xs, m, a, b', c, d, e, f, b.get g (hn o a), k⟩⟩
theorem Pre.ext {h h' : H} {s z cs} (r : Pre h s z cs) (x : Ext h h') : Pre h' s z cs := r.chg (x.chg fun _ => False) fun _ _ f => f
theorem Pre.but {o : Option Nat} {h h' : H} {s z cs} (r : Pre h s z cs) (b : But o h h') (hn : ∀ i, s.o = some i → o ≠ some i) : Pre h' s z cs :=
  r.chg (b.chg (P := fun i => o = some i) fun i e => e) hn
theorem Pre.lt {h s z cs} (r : Pre h s z cs) {o : Nat} (e : s.o = some o) : o < h.length := by
  obtain ⟨a, _⟩ | ⟨i, xs, m, a, _, _, _, _, _, g, _⟩ := r.at_
  · rw [a] at e; cases e
  · rw [a] at e; cases e; exact (List.getElem?_eq_some_iff.1 g).1
theorem Pre.ok {h s z cs} (r : Pre h s z cs) : okS h s := by
  unfold okS
  obtain ⟨a, _⟩ | ⟨i, xs, m, a, _, _, d, e, _, g, _⟩ := r.at_
  · rw [a]; trivial
  · rw [a]; unfold cells; simp [g, d, e]
end Go.Proofs.Ytlcgclmobfdbcaa.Cl

/- The reference's order of tiles. No claim is stated here. -/
set_option linter.unusedVariables false
set_option linter.unusedSimpArgs false
namespace Go.Proofs.Ytlcgclmobfdbcaa.Cl
open Go
section
variable {h0 : H} {s : Sl} {l : List Tile}
theorem ins_pw {A : List Tile} {x : Tile} {q : Nat} (hp : A.Pairwise ltT) (hq : q ≤ A.length) (hgt : ∀ j (hj : j < A.length), q ≤ j → ltT x A[j]) (hlt : ∀ (h : 0 < q), ltT (A[q - 1]'(by omega)) x) : (A.take q ++ x :: A.drop q).Pairwise ltT := by
  rw [List.pairwise_append]
  refine ⟨hp.sublist (List.take_sublist _ _), ?_, fun a ha b hb => ?_⟩
  · refine List.pairwise_cons.2 ⟨fun b hb => ?_, hp.sublist (List.drop_sublist _ _)⟩
    obtain ⟨j, hj, rfl⟩ := List.getElem_of_mem hb
    rw [List.getElem_drop]
    exact hgt _ _ (by omega)
  · obtain ⟨j, hj, rfl⟩ := List.getElem_of_mem ha
    have hj' : j < q := by rw [List.length_take] at hj; omega
    rw [List.getElem_take]
    have hax : ltT A[j] x := by
      by_cases e : j = q - 1
      · subst e; exact hlt (by omega)
      · exact ltT_sto.trans _ _ _ (List.pairwise_iff_getElem.1 hp j (q - 1) (by omega) (by omega) (by omega)) (hlt (by omega))
    rcases List.mem_cons.1 hb with rfl | hb
    · exact hax
    · obtain ⟨k, hk, rfl⟩ := List.getElem_of_mem hb
      rw [List.getElem_drop]
      exact ltT_sto.trans _ _ _ hax (hgt _ _ (by omega))
theorem ins_heap {h : H} {s3 : Sl} {A : List Tile} {x : Tile} {q n : Nat} (o : Ow h s3 4 (tcs A)) (f : Fr n s3) (hn : n ≤ h.length) (so : s3.o.isSome = true) (hq : q ≤ A.length) (hA : A.length ≤ 1000000) {K : Sl → H → Prop}
    (hk : ∀ u h', Ow h' u 4 (tcs (A.take q ++ x :: A.drop q)) → Fr n u → u.o.isSome = true → Ext h h' → K u h') :
    newS 1 4 (tc x) h fun s7 h8 => cut s3 4 (q : Int) (s3.len : Int) h8 fun s9 => okS h s3 ∧ (app s7 s9 4 h8 fun s10 h11 => newS 0 4 [] h11 fun s12 h13 => cut s3 4 0 (q : Int) h13 fun s14 => app s12 s14 4 h13 fun s15 h16 => app s15 s10 4 h16 fun s17 h18 => K s17 h18) := by
  obtain ⟨p, hp⟩ := Option.isSome_iff_exists.1 so
  have hl := o.rd.tlen
  refine newS_ow (by rfl) fun s7 h8 o7 l7 e7 y8 => ?_
  have x8 : Ext h h8 := by rw [y8]; exact Ext.app _ _
  have n8 : h8.length = h.length + 1 := by rw [y8]; simp
  refine (o.ext x8).cutV hp (by omega) (by omega) (by omega) ?_
  refine ⟨o.pre.ok, ?_⟩
  rw [Int.toNat_natCast, show ((s3.len : Int) - (q : Int)).toNat = A.length - q by omega]
  have v9 := (o.ext x8).viewT hp (lo := q) (n := A.length - q) (by omega)
  rw [List.take_of_length_le (by rw [List.length_drop]; omega)] at v9
  refine app_ow (by omega) o7 v9 (by rw [l7]; show ((1 + (A.length - q) : Nat) : Int) ≤ lim; unfold lim; omega) fun s10 h11 o10 l10 b11 k1 k2 => ?_
  have hs7 : s7.o = some h.length := e7
  have hs10 := k1 _ hs7
  have x11 : Ext h h11 := x8.but_ b11 fun i e => by rw [hs7] at e; have := Option.some.inj e; omega
  have n11 := b11.1
  refine newS_ow (by rfl) fun s12 h13 o12 l12 e12 y13 => ?_
  have x13 : Ext h11 h13 := by rw [y13]; exact Ext.app _ _
  have n13 : h13.length = h11.length + 1 := by rw [y13]; simp
  have x113 := x11.trans x13
  refine (o.ext x113).cutV hp (by omega) (by omega) (by omega) ?_
  rw [show (0 : Int).toNat = 0 from rfl, show ((q : Int) - 0).toNat = q by omega]
  have v14 := (o.ext x113).viewT hp (lo := 0) (n := q) (by omega)
  rw [List.drop_zero] at v14
  refine app_ow (by omega) o12 v14 (by rw [l12]; show ((0 + q : Nat) : Int) ≤ lim; unfold lim; omega) fun s15 h16 o15 l15 b16 k3 k4 => ?_
  have hs15 := k3 _ e12
  have o10' : Ow h16 s10 4 (tc x ++ tcs (A.drop q)) := (o10.ext x13).but b16 (.inl (by rw [e12, hs10]; intro e; have := Option.some.inj e; omega))
  have hl10 : s10.len = 1 + (A.length - q) := by rw [l10, l7]
  have hl15 : s15.len = 0 + q := by rw [l15, l12]
  refine app_ow (by omega) o15 o10'.rd (by rw [hl15, hl10]; unfold lim; omega) fun s17 h18 o17 l17 b18 k5 k6 => ?_
  have hs17 := k5 _ hs15
  refine hk s17 h18 ?_ (fun i e => by rw [hs17] at e; have := Option.some.inj e; omega) (by rw [hs17]; rfl) ((x113.but_ b16 fun i e => by rw [e12] at e; have := Option.some.inj e; omega).but_ b18 fun i e => by rw [hs15] at e; have := Option.some.inj e; omega)
  rw [tcs_app, tcs_cons]
  simpa using o17
theorem l01Sort_c (r : Rd h0 s 4 (tcs l)) (hl : l.length ≤ 1000000) :
    callS SP i_spec_l01Sort [.sl s] h0 fun u h' => Ow h' u 4 (tcs (dsT l)) ∧ Fr h0.length u ∧ Ext h0 h' := by
  have hsl := r.tlen
  apply spec_l01Sort_call
  unfold spec_l01Sort_main
  refine newS_ow (by rfl) fun u h1 ou lu uo e1 => ?_
  have x1 : Ext h0 h1 := by rw [e1]; exact Ext.app _ _
  refine spec_l01Sort_rule0 _ _ _ (fun u i h => ∃ (z : Nat) (A : List Tile), i = z ∧ z ≤ l.length ∧ Ow h u 4 (tcs A) ∧ Fr h0.length u ∧ u.o.isSome = true ∧ Ext h0 h ∧ A.Pairwise ltT ∧ (∀ x, x ∈ A ↔ x ∈ l.take z) ∧ A.length ≤ z) (fun _ i _ => (l.length - i).toNat) ?_ _ _
    ⟨0, [], rfl, by omega, by simpa [tcs] using ou, fun o e => by rw [uo] at e; cases e; exact Nat.le_refl _, by rw [uo]; rfl, x1, List.Pairwise.nil, fun x => by simp, Nat.le_refl _⟩
  rintro X0 u _ h ⟨z, A, rfl, hz, ou, fu, so, x, hp, hm, hAl⟩ hX
  unfold spec_l01Sort_b0 spec_l01Sort_C0
  refine bif_dec (fun hi => ?_) (fun hi => ?_)
  rotate_left
  · rw [show z = l.length by omega, List.take_length] at hm
    exact ⟨u, rfl, by rw [show dsT l = A from (dsort_eq ltT_sto hp hm).symm]; exact ou, fu, x⟩
  have hz' : z < l.length := by omega
  have hul := ou.rd.tlen
  have tz : tat l (z : Int) = l[z] := tat_at (by rw [Int.toNat_natCast, List.getElem?_eq_getElem hz'])
  have hst : ((z : Int) + 1) = ((z + 1 : Nat) : Int) := by push_cast; rfl
  have hxl := x.len
  have memz : ∀ y, y ∈ l.take (z + 1) ↔ y ∈ l.take z ∨ y = l[z] := fun y => by rw [List.take_succ_eq_append_getElem hz', List.mem_append, List.mem_singleton]
  refine spec_l01Sort_rule2 _ _ X0 _ _ _ (fun j g => ∃ q : Nat, j = q ∧ q ≤ A.length ∧ Ext h g ∧ ∀ k (hk : k < A.length), q ≤ k → ltT l[z] A[k]) (fun j _ => j.toNat) ?_ _ ⟨A.length, by rw [hul], Nat.le_refl _, Ext.refl _, fun k hk h => by omega⟩
  rintro X2 _ g ⟨q, rfl, hq, xg, hgt⟩ hY
  have rl := r.ext (x.trans xg)
  have og := ou.ext xg
  have fin : ∀ {g' : H}, Ext h g' → (∀ (h : 0 < q), ltT (A[q - 1]'(by omega)) l[z]) → newS 1 4 (tc l[z]) g' (fun s7 h8 => cut u 4 (q : Int) (u.len : Int) h8 fun s9 => okS g' u ∧ (app s7 s9 4 h8 fun s10 h11 => newS 0 4 [] h11 fun s12 h13 => cut u 4 0 (q : Int) h13 fun s14 => app s12 s14 4 h13 fun s15 h16 => app s15 s10 4 h16 fun s17 h18 => X0 (spec_l01Sort_e0 s s17 (w64 ((z : Int) + 1))) h18)) := fun {g'} xg' hlt => by
    rw [w64_of (n := (z : Int) + 1) (by omega) (by omega)]
    refine ins_heap (ou.ext xg') fu (by have := xg'.len; omega) so hq (by omega) fun v h' ov fv sv xv => ?_
    refine hX _ _ _ ⟨z + 1, _, hst, hz', ov, fv, sv, (x.trans xg').trans xv, ins_pw hp hq hgt hlt, fun y => ?_, by rw [List.length_append, List.length_take, List.length_cons, List.length_drop]; omega⟩ (by omega)
    rw [memz, ← hm, List.mem_append, List.mem_cons]
    have : y ∈ A ↔ y ∈ A.take q ∨ y ∈ A.drop q := by rw [← List.mem_append, List.take_append_drop]
    rw [this]
    constructor
    · rintro (h | h | h)
      · exact .inl (.inl h)
      · exact .inr h
      · exact .inl (.inr h)
    · rintro ((h | h) | h)
      · exact .inl h
      · exact .inr (.inr h)
      · exact .inr (.inl h)
  unfold spec_l01Sort_b2
  refine bif_dec (fun hj => ?_) (fun hj => ?_)
  · have hqA : q - 1 < A.length := by omega
    have tq : tat A ((q - 1 : Nat) : Int) = A[q - 1] := tat_at (by rw [Int.toNat_natCast, List.getElem?_eq_getElem hqA])
    refine rl.tileG (by omega) (by omega) ?_
    rw [w64_of (n := (q : Int) - 1) (by omega) (by omega), show (q : Int) - 1 = ((q - 1 : Nat) : Int) by omega]
    refine og.rd.tileG (by omega) (by omega) ?_
    rw [tz, tq]
    refine (l01Before_c l[z] A[q - 1] g).to ?_
    rintro b g2 ⟨rfl, y2⟩
    have xg2 := xg.trans y2
    refine bif_dec (fun hb => ?_) (fun hb => ?_)
    · refine hY _ _ ⟨q - 1, rfl, by omega, xg2, fun k hk h => ?_⟩ (by omega)
      by_cases e : k = q - 1
      · subst e; exact hb
      · exact hgt k hk (by omega)
    · unfold spec_l01Sort_C2
      refine bif_dec (fun _ => ?_) (fun h => absurd hj h)
      rw [w64_of (n := (q : Int) - 1) (by omega) (by omega), show (q : Int) - 1 = ((q - 1 : Nat) : Int) by omega]
      refine (ou.ext xg2).rd.tileG (by omega) (by omega) ?_
      refine (r.ext (x.trans xg2)).tileG (by omega) (by omega) (eqA_tc ?_)
      rw [tz, tq]
      refine bif_dec (fun he => ?_) (fun he => ?_)
      · unfold spec_l01Sort_C1
        rw [w64_of (n := (z : Int) + 1) (by omega) (by omega)]
        refine hX _ _ _ ⟨z + 1, A, hst, hz', ou.ext xg2, fu, so, x.trans xg2, hp, fun y => ?_, by omega⟩ (by omega)
        rw [memz, ← hm]
        exact ⟨.inl, fun h => h.elim id fun h => by rw [h, ← he]; exact List.getElem_mem hqA⟩
      · refine (r.ext (x.trans xg2)).tileG (by omega) (by omega) ⟨rfl, ?_⟩
        rw [tz]
        refine fin xg2 fun _ => ?_
        exact (ltT_sto.tri _ _ he).resolve_right hb
  · unfold spec_l01Sort_C2
    refine bif_dec (fun h => absurd h hj) (fun _ => ?_)
    refine rl.tileG (by omega) (by omega) ⟨rfl, ?_⟩
    rw [tz]
    exact fin xg fun h => by omega
theorem l01Made_c (r : Rd h0 s 4 (tcs l)) (hl : l.length ≤ 1000000) (c : Int) :
    callA SP i_spec_l01Made [i64 c, .sl s] h0 fun cs h' => ∃ u, cs = SetC c u ∧ Ow h' u 4 (tcs (dsT l)) ∧ Fr h0.length u ∧ Ext h0 h' := by
  apply spec_l01Made_call
  unfold spec_l01Made_main
  refine newO_obj fun h1 o1 x1 n1 => ?_
  refine (l01Sort_c (r.ext x1) hl).to ?_
  rintro u h2 ⟨ou, fu, x2⟩
  refine (o1.ext x2).stA fun h3 o3 b3 n3 => ?_
  refine o3.ldA rfl ⟨_, rfl, u, rfl, ou.but b3 (.inl fun e => by have := fu _ e.symm; omega), fu.le (by omega), (x1.trans x2).but_ b3 (some_le (Nat.le_refl _))⟩
end
end Go.Proofs.Ytlcgclmobfdbcaa.Cl

/- Sets of stacks and of lasting tiles are sets; the reference's l04Kept; PowerOf. No claim is stated here. -/
set_option linter.unusedVariables false
set_option linter.unusedSimpArgs false
namespace Go.Proofs.Ytlcgclmobfdbcaa.Cl
open Go
/-! ### plain -/
section
variable {c d : Int} {ts S T : List Tile}
theorem setOK.kept (h : setOK c ts) : setOK c (kpL ts) := by
  have hsub : (kpL ts).Sublist ts := List.filter_sublist
  have hle := kpL_len ts
  refine setOK_of h.1.1 h.1.2 (by have := h.2.1; omega) (h.pw.sublist hsub) fun t ht k hk => h.ts.2 t (hsub.subset ht) k hk
theorem lastT_iff (hT : TS c ts) {i : Nat} (hi : i < ts.length) : lastT c ts i = true ↔ LastP ts ts[i] := by
  constructor
  · intro h
    refine ⟨fun t => ∃ (j : Nat) (hj : j < ts.length), t = ts[j] ∧ lastT c ts j = true, ⟨i, hi, rfl, h⟩, ?_⟩
    rintro a ⟨j, hj, rfl, h2⟩
    obtain ⟨a1, a2⟩ := last_keeps hT (Q := lastT c ts) (fun _ _ h => h) hj h2
    obtain ⟨k, hk, b1⟩ := range_any.1 a1
    obtain ⟨m, hm, b2⟩ := range_any.1 a2
    rw [Bool.and_eq_true, beq_iff_eq, tat_nat hj] at b1 b2
    rw [tat_nat hk] at b1
    rw [tat_nat hm] at b2
    exact ⟨List.getElem_mem hj, ⟨ts[k], ⟨k, hk, rfl, b1.1⟩, b1.2⟩, ⟨ts[m], ⟨m, hm, rfl, b2.1⟩, b2.2⟩⟩
  · intro h
    refine last_top hT (Q := fun j => lastB ts (tat ts (j : Nat))) (fun j hj hq => ?_) hi (by rw [tat_nat hi]; exact lastB_iff.2 h)
    rw [tat_nat hj] at hq
    obtain ⟨⟨b, b1, b2⟩, ⟨e, e1, e2⟩⟩ := (lastB_iff.1 hq).sup
    obtain ⟨k, hk, rfl⟩ := List.getElem_of_mem b1.mem
    obtain ⟨m, hm, rfl⟩ := List.getElem_of_mem e1.mem
    refine ⟨range_any.2 ⟨k, hk, ?_⟩, range_any.2 ⟨m, hm, ?_⟩⟩
    · rw [Bool.and_eq_true, beq_iff_eq, tat_nat hk, tat_nat hj]
      exact ⟨by rw [lastB_iff, tat_nat hk]; exact b1, b2⟩
    · rw [Bool.and_eq_true, beq_iff_eq, tat_nat hm, tat_nat hj]
      exact ⟨by rw [lastB_iff, tat_nat hm]; exact e1, e2⟩
end
section
variable {h0 : H} {s : Sl} {c : Int} {ts : List Tile}
theorem l04Kept_c (r : Rd h0 s 4 (tcs ts)) (hs : setOK c ts) : callA SP i_spec_l04Kept [.agg (SetC c s)] h0 fun cs h' => ∃ u, cs = SetC c u ∧ Ow h' u 4 (tcs (kpL ts)) ∧ Fr h0.length u ∧ Ext h0 h' := by
  have hsl := r.tlen
  have hT := hs.ts
  have h16 := hs.2.1
  apply spec_l04Kept_call
  unfold spec_l04Kept_main
  refine newK_obj fun h1 o1 x1 n1 => ?_
  refine newO_obj fun h2 o2 x2 n2 => ?_
  have p1 := o1.ext x2
  have X := x1.trans x2
  refine p1.ldA rfl ?_
  refine (l02Lasting_c (r.ext X) hT h16).to ?_
  rintro b h3 ⟨ob, fb, x3⟩
  have hbl := ob.blen
  refine newS_ow (by rfl) fun u h4 ou lu uo e4 => ?_
  have x4 : Ext h3 h4 := by rw [e4]; exact Ext.app _ _
  have y4 := x3.trans x4
  have Xl := X.len
  have x3l := x3.len
  refine spec_l04Kept_rule0 _ _ _ _ _ (fun u i g => ∃ z : Nat, i = z ∧ z ≤ ts.length ∧ Ow g u 4 (tcs ((ts.take z).filter (lastB ts))) ∧ Fr h3.length u ∧ Ext h3 g) (fun _ i _ => ((ts.length : Int) - i).toNat) ?_ _ _ ⟨0, rfl, by omega, by simpa [tcs] using ou, fun o e => by rw [uo] at e; cases e; omega, x4⟩
  rintro X0 u _ g ⟨z, rfl, hz, ou, fu, y⟩ hX
  unfold spec_l04Kept_b0
  have YY := X.trans (x3.trans y)
  have pg := p1.ext (x3.trans y)
  refine bif_dec (fun hi => ?_) (fun hi => ?_)
  · have hzl : z < ts.length := by omega
    refine (ob.rd.ext y).ldBl (by omega) (by omega) ?_
    rw [Int.toNat_natCast]
    have htk : (ts.take (z + 1)).filter (lastB ts) = (ts.take z).filter (lastB ts) ++ if lastB ts ts[z] then [ts[z]] else [] := by
      rw [List.take_succ_eq_append_getElem hzl, List.filter_append]
      simp only [List.filter_cons, List.filter_nil]
    have hul := ou.rd.tlen
    have hfl := List.length_filter_le (lastB ts) (ts.take z)
    have htl : (ts.take z).length = z := by rw [List.length_take]; omega
    rw [w64_of (by omega) (by omega)]
    refine bif_b (fun hb => ?_) (fun hb => ?_)
    · have hb3 : lastB ts ts[z] = true := lastB_iff.2 ((lastT_iff hT hzl).1 hb)
      refine isPt_in (pg.ldS rfl rfl ?_)
      refine (r.ext YY).tileG (by omega) (by omega) ⟨rfl, ?_⟩
      rw [tat_nat hzl]
      have hy := y.len
      refine push_tc (t := ts[z]) ou (by unfold lim; omega) fun u' q3 ou3 b3 hu3 l3 => ?_
      refine hX _ _ _ ⟨z + 1, by push_cast; rfl, by omega, ?_, fu.push (h := g) (by omega) hu3, y.but_ b3 fun o e => fu o e⟩ (by omega)
      rw [htk, hb3]
      exact ou3
    · have hb3 : lastB ts ts[z] = false := by
        cases hq : lastB ts ts[z]
        · rfl
        · have := (lastT_iff hT hzl).2 (lastB_iff.1 hq)
          rw [hb] at this; cases this
      refine hX _ _ _ ⟨z + 1, by push_cast; rfl, by omega, ?_, fu, y⟩ (by omega)
      rw [htk, hb3]
      simpa using ou
  · have hzU : z = ts.length := by omega
    rw [hzU, List.take_length] at ou
    unfold spec_l04Kept_C0
    refine isPt_in (pg.ldI rfl rfl ?_)
    have hle := kpL_len ts
    refine (l01Made_c (l := kpL ts) ou.rd (by omega) c).to ?_
    rintro _ h5 ⟨v, rfl, ov, fv, x5⟩
    rw [dsT_self hs.kept.pw] at ov
    have hy := y.len
    refine (((o2.ext (x3.trans y)).ext x5)).stA fun h6 o6 b6 n6 => ?_
    refine o6.ldA rfl ⟨_, rfl, v, rfl, ov.but b6 (.inl fun e => by have := fv _ e.symm; omega), fv.le (by omega), (YY.trans x5).but_ b6 (some_le (by omega))⟩
end
end Go.Proofs.Ytlcgclmobfdbcaa.Cl

/- The program's strips: what the search of columns does. No claim is stated here. -/
set_option linter.unusedVariables false
set_option linter.unusedSimpArgs false
namespace Go.Proofs.Ytlcgclmobfdbcaa.Cl
open Go
def c3 (l : List (Int × Int × Int)) : List AVal := (l.map fun x => [i64 x.1, i64 x.2.1, i64 x.2.2]).flatten
theorem c3_len : ∀ l, (c3 l).length = l.length * 3
  | [] => rfl
  | a :: l => by
    have := c3_len l
    unfold c3 at *
    rw [List.map_cons, List.flatten_cons, List.length_append, this, List.length_cons]
    simp; omega
def StripC (c : Int) (s : Sl) (H w : Int) (q : Sl) : List AVal := [i64 c, .sl s, i64 H, i64 w, .sl q]
section
variable {hb : H} {c w : Int} {s : Sl} {ts : List Tile} {H_ : Nat} {op ot oh oe os n1 : Nat}
end
end Go.Proofs.Ytlcgclmobfdbcaa.Cl

/- Contracts of the program's strips and of CountColumns. No claim is stated here. -/
set_option linter.unusedVariables false
set_option linter.unusedSimpArgs false
namespace Go.Proofs.Ytlcgclmobfdbcaa.Cl
open Go
def colsI (c : Int) (ts : List Tile) (H_ : Nat) : List (Int × Int × Int) := colI c ts H_ H_ 0 0 0 0
open Classical in
noncomputable def codeS (c : Int) (ts : List Tile) (h : Int) : Int := if codeOf (setOK c ts) (1 ≤ h ∧ h ≤ 4) = 0 then (if c ^ h.toNat > 700 ∨ 5000 < (colsOf c ts h).length then 3 else 0) else codeOf (setOK c ts) (1 ≤ h ∧ h ≤ 4)
theorem codeS_0 {c : Int} {ts : List Tile} {h : Int} (q : codeOf (setOK c ts) (1 ≤ h ∧ h ≤ 4) = 0) (t : ¬ (c ^ h.toNat > 700 ∨ 5000 < (colsOf c ts h).length)) : codeS c ts h = 0 := by unfold codeS; rw [if_pos q, if_neg t]
/-- What holds of a set and a height without an error. -/
structure StripOK (c : Int) (ts : List Tile) (h : Int) : Prop where
  set : setOK c ts
  hh : 1 ≤ h ∧ h ≤ 4
  pw : c ^ h.toNat ≤ 700
  ln : (colsOf c ts h).length ≤ 5000
theorem StripOK.code {c : Int} {ts : List Tile} {h : Int} (k : StripOK c ts h) : codeS c ts h = 0 := codeS_0 (codeOf_yes k.set k.hh) fun f => by
  have := k.pw
  have := k.ln
  omega
/-- A strip in the heap. -/
structure Strip (h : H) (n : Nat) (c : Int) (s : Sl) (ts : List Tile) (H_ : Nat) (os : Nat) (q : Sl) : Prop where
  o : Obj h os (StripC c s H_ (c ^ H_) q)
  cols : Ow h q 3 (c3 (colsI c ts H_))
  fr : Fr n q
  os_ : n ≤ os
  ne : q.o ≠ some os
theorem Strip.ext {h h' : H} {n : Nat} {c : Int} {s : Sl} {ts : List Tile} {H_ os : Nat} {q : Sl} (k : Strip h n c s ts H_ os q) (x : Ext h h') : Strip h' n c s ts H_ os q := ⟨k.o.ext x, k.cols.ext x, k.fr, k.os_, k.ne⟩
theorem Strip.le {h : H} {n m : Nat} {c : Int} {s : Sl} {ts : List Tile} {H_ os : Nat} {q : Sl} (k : Strip h n c s ts H_ os q) (hm : m ≤ n) : Strip h m c s ts H_ os q := ⟨k.o, k.cols, k.fr.le hm, Nat.le_trans hm k.os_, k.ne⟩
theorem Strip.len {h : H} {n : Nat} {c : Int} {s : Sl} {ts : List Tile} {H_ os : Nat} {q : Sl} (k : Strip h n c s ts H_ os q) : q.len = (colsI c ts H_).length := by have := k.cols.len; rw [c3_len] at this; omega
section
variable {h0 : H} {c : Int} {s : Sl} {ts : List Tile} {H_ : Nat}
end
end Go.Proofs.Ytlcgclmobfdbcaa.Cl

/- Contracts of the reference's columns. No claim is stated here. -/
set_option linter.unusedVariables false
set_option linter.unusedSimpArgs false
namespace Go.Proofs.Ytlcgclmobfdbcaa.Cl
open Go
theorem NewSS.one {n : Nat} {h h' : H} {v u : Sl} {l : List Int} (ov : Ow h v 1 (ic l)) (fv : Fr n v) (x : Ext h h') (ou : Ow h' u 1 [.sl v]) (fu : ∀ o, u.o = some o → h.length ≤ o) (hn : n ≤ h.length) : NewSS n h' u [l] := by
  refine ⟨[v], rfl, ou, (fun o e => Nat.le_trans hn (fu o e)), fun i w l' a b => ?_, fun i j w w' hne a b => ?_, fun i w a o e e2 => ?_⟩
  · have hi : i = 0 := by have := (List.getElem?_eq_some_iff.1 a).1; simpa using this
    subst hi
    simp at a b
    subst a b
    exact ⟨ov.ext x, fv⟩
  · have hi : i = 0 := by have := (List.getElem?_eq_some_iff.1 a).1; simpa using this
    have hj : j = 0 := by have := (List.getElem?_eq_some_iff.1 b).1; simpa using this
    omega
  · have hi : i = 0 := by have := (List.getElem?_eq_some_iff.1 a).1; simpa using this
    subst hi
    simp at a
    subst a
    have := ov.lt e
    have := fu o e2
    omega
section
variable {h0 : H} {c : Int} {s : Sl} {ts : List Tile} {H_ : Nat}
end
end Go.Proofs.Ytlcgclmobfdbcaa.Cl

/- Contracts of the reference's code of columns and of CountColumns. No claim is stated here. -/
set_option linter.unusedVariables false
set_option linter.unusedSimpArgs false
namespace Go.Proofs.Ytlcgclmobfdbcaa.Cl
open Go
section
variable {h0 : H} {c : Int} {s : Sl} {ts : List Tile} {H_ : Nat}
end
end Go.Proofs.Ytlcgclmobfdbcaa.Cl

/- Strip sequences: numbers of ways, column by column, on both sides. No claim is stated here. -/
set_option linter.unusedVariables false
set_option linter.unusedSimpArgs false
namespace Go.Proofs.Ytlcgclmobfdbcaa.Cl
open Go
/-! ### the numbers -/
def stp (f : Int → Int) (now nx : List Int) (e : Int × Int) : List Int := nx.set e.2.toNat (f (nx.getD e.2.toNat 0 + now.getD e.1.toNat 0))
def stepL (f : Int → Int) (es : List (Int × Int)) (N : Nat) (now : List Int) : List Int := es.foldl (stp f now) (List.replicate N 0)
def Bd (B : Int) (l : List Int) : Prop := ∀ i, 0 ≤ l.getD i 0 ∧ l.getD i 0 ≤ B
structure Fit (f : Int → Int) (B : Int) : Prop where
  b0 : 0 ≤ B
  b1 : B ≤ 1000000000000001
  f0 : ∀ x, 0 ≤ x → 0 ≤ f x ∧ f x ≤ B
theorem stp_len (f now nx e) : (stp f now nx e).length = nx.length := by simp [stp]
theorem stp_bd {f : Int → Int} {B : Int} (F : Fit f B) {now nx : List Int} {e : Int × Int} (hn : Bd B now) (hx : Bd B nx) : Bd B (stp f now nx e) := fun i => by
  unfold stp
  rw [List.getD_eq_getElem?_getD, List.getElem?_set]
  by_cases h : e.2.toNat = i
  · rw [if_pos h]
    split
    · have h1 := hx e.2.toNat
      have h2 := hn e.1.toNat
      exact F.f0 _ (by omega)
    · exact ⟨Int.le_refl _, F.b0⟩
  · rw [if_neg h, ← List.getD_eq_getElem?_getD]; exact hx i
theorem fold_stp {f : Int → Int} {B : Int} (F : Fit f B) {now : List Int} (hn : Bd B now) : ∀ (es : List (Int × Int)) (nx : List Int), Bd B nx → Bd B (es.foldl (stp f now) nx) ∧ (es.foldl (stp f now) nx).length = nx.length
  | [], nx, h => ⟨h, rfl⟩
  | e :: es, nx, h => by
    have := fold_stp F hn es (stp f now nx e) (stp_bd F hn h)
    exact ⟨this.1, by rw [List.foldl_cons, this.2, stp_len]⟩
theorem bd_zero {B : Int} (h : 0 ≤ B) (N : Nat) : Bd B (List.replicate N 0) := fun i => by
  rw [List.getD_eq_getElem?_getD, List.getElem?_replicate]
  split
  · exact ⟨Int.le_refl _, h⟩
  · exact ⟨Int.le_refl _, h⟩
theorem stepL_bd {f : Int → Int} {B : Int} (F : Fit f B) {es : List (Int × Int)} {N : Nat} {now : List Int} (hn : Bd B now) : Bd B (stepL f es N now) ∧ (stepL f es N now).length = N := by
  have := fold_stp F hn es (List.replicate N 0) (bd_zero F.b0 N)
  exact ⟨this.1, by unfold stepL; rw [this.2]; simp⟩
/-! ### reading columns -/
/-! ### the program's sequences -/
section
variable {hb : H} {n N : Nat} {c : Int} {s : Sl} {ts : List Tile} {H_ os : Nat} {q : Sl} {f : Int → Int} {B : Int} {gf gv : Nat} {capf capv : List AVal} {σ : Type} {g : σ → Int → σ × Bool} {I : σ → H → Prop} {J : σ → Prop} {n1 : Nat}
end
end Go.Proofs.Ytlcgclmobfdbcaa.Cl

/- Contracts of StripSequence. No claim is stated here. -/
set_option linter.unusedVariables false
set_option linter.unusedSimpArgs false
namespace Go.Proofs.Ytlcgclmobfdbcaa.Cl
open Go
abbrev topS : Int := 1000000000000000
def fS (x : Int) : Int := mnI x 1000000000000001
theorem fitS : Fit fS 1000000000000001 := ⟨by decide, by decide, fun x h => by unfold fS mnI; split <;> omega⟩
section
variable {h0 : H} {c : Int} {s : Sl} {ts : List Tile} {a n : Int}
end
end Go.Proofs.Ytlcgclmobfdbcaa.Cl

/- Numbers of ways, exact and limited: plain. No claim is stated here. -/
set_option linter.unusedVariables false
set_option linter.unusedSimpArgs false
namespace Go.Proofs.Ytlcgclmobfdbcaa.Cl
open Go
theorem fS_if (x : Int) : fS x = if 1000000000000001 < x then 1000000000000001 else x := rfl
theorem fS_add {a b : Int} (ha : 0 ≤ a) (hb : 0 ≤ b) : fS (fS a + fS b) = fS (a + b) := by
  simp only [fS_if]
  by_cases h1 : 1000000000000001 < a
  · rw [if_pos h1, if_pos (show 1000000000000001 < a + b by omega)]
    by_cases h2 : 1000000000000001 < b
    · rw [if_pos h2]; rfl
    · rw [if_neg h2]
      by_cases h3 : b = 0
      · subst h3; rfl
      · rw [if_pos (by omega)]
  · rw [if_neg h1]
    by_cases h2 : 1000000000000001 < b
    · rw [if_pos h2, if_pos (show 1000000000000001 < a + b by omega)]
      by_cases h3 : a = 0
      · subst h3; rfl
      · rw [if_pos (by omega)]
    · rw [if_neg h2]
theorem sumJ_zero {α : Type} : ∀ S : List α, (S.map fun _ => (0 : Int)).sum = 0
  | [] => rfl
  | a :: S => by simp only [List.map_cons, List.sum_cons, sumJ_zero S]; rfl
theorem sum_nn {α : Type} {f : α → Int} : ∀ {S : List α}, (∀ s ∈ S, 0 ≤ f s) → 0 ≤ (S.map f).sum
  | [], _ => Int.le_refl _
  | a :: S, h => by
    have h1 := h a (by simp)
    have h2 := sum_nn (S := S) (f := f) fun s hs => h s (by simp [hs])
    simp only [List.map_cons, List.sum_cons]
    omega
theorem le_sum {α : Type} {f : α → Int} {x : α} : ∀ {S : List α}, (∀ s ∈ S, 0 ≤ f s) → x ∈ S → f x ≤ (S.map f).sum
  | a :: S, h, hx => by
    have h1 := h a (by simp)
    have h2 := sum_nn (S := S) (f := f) fun s hs => h s (by simp [hs])
    simp only [List.map_cons, List.sum_cons]
    rcases List.mem_cons.1 hx with rfl | hx
    · omega
    · have := le_sum (S := S) (f := f) (fun s hs => h s (by simp [hs])) hx
      omega
/-- One exact step, many of them, and a sum. -/
def xcV (es : List (Int × Int)) (v : Nat → Int) (j : Nat) : Int := (es.map fun e => if e.2.toNat = j then v e.1.toNat else 0).sum
def xcN (es : List (Int × Int)) : Nat → (Nat → Int) → Nat → Int
  | 0, v => v
  | k + 1, v => xcN es k (xcV es v)
def itL (f : Int → Int) (es : List (Int × Int)) (N : Nat) : Nat → List Int → List Int
  | 0, v => v
  | k + 1, v => itL f es N k (stepL f es N v)
theorem itL_succ (f : Int → Int) (es : List (Int × Int)) (N : Nat) : ∀ (k : Nat) (v : List Int), itL f es N (k + 1) v = stepL f es N (itL f es N k v)
  | 0, v => rfl
  | k + 1, v => by rw [itL, itL_succ f es N k]; rfl
theorem xcV_nn {es : List (Int × Int)} {v : Nat → Int} (h : ∀ j, 0 ≤ v j) (j : Nat) : 0 ≤ xcV es v j := sum_nn fun e _ => by
  split
  · exact h _
  · exact Int.le_refl _
theorem xcN_nn {es : List (Int × Int)} : ∀ (k : Nat) {v : Nat → Int}, (∀ j, 0 ≤ v j) → ∀ j, 0 ≤ xcN es k v j
  | 0, v, h, j => h j
  | k + 1, v, h, j => xcN_nn k (fun j => xcV_nn h j) j
/-- A limited list that stands for exact numbers. -/
structure Rep (N : Nat) (l : List Int) (v : Nat → Int) : Prop where
  len : l.length = N
  at_ : ∀ j, j < N → l.getD j 0 = fS (v j)
  nn : ∀ j, 0 ≤ v j
theorem getD_setJ (l : List Int) (i j : Nat) (x : Int) (hi : i < l.length) : (l.set i x).getD j 0 = if i = j then x else l.getD j 0 := by
  rw [List.getD_eq_getElem?_getD, List.getD_eq_getElem?_getD, List.getElem?_set]
  by_cases h : i = j
  · rw [if_pos h, if_pos hi, if_pos h]; rfl
  · rw [if_neg h, if_neg h]
def InN (N : Nat) (es : List (Int × Int)) : Prop := ∀ e ∈ es, e.1.toNat < N ∧ e.2.toNat < N
theorem fold_rep {N : Nat} {now : List Int} {v : Nat → Int} (r : Rep N now v) : ∀ (es : List (Int × Int)) (nx : List Int) (w : Nat → Int), InN N es → Rep N nx w → Rep N (es.foldl (stp fS now) nx) fun j => w j + xcV es v j
  | [], nx, w, _, h => by
    refine ⟨h.len, fun j hj => ?_, fun j => ?_⟩
    · show nx.getD j 0 = fS (w j + 0)
      rw [Int.add_zero]; exact h.at_ j hj
    · show 0 ≤ w j + 0
      rw [Int.add_zero]; exact h.nn j
  | e :: es, nx, w, hb, h => by
    have hb1 := hb e (by simp)
    have h1 : Rep N (stp fS now nx e) fun j => w j + if e.2.toNat = j then v e.1.toNat else 0 := by
      refine ⟨by rw [stp_len]; exact h.len, fun j hj => ?_, fun j => ?_⟩
      · unfold stp
        rw [getD_setJ _ _ _ _ (by rw [h.len]; exact hb1.2)]
        split
        · next e1 => rw [h.at_ _ hb1.2, r.at_ _ hb1.1, fS_add (h.nn _) (r.nn _), e1]
        · rw [h.at_ j hj, Int.add_zero]
      · have := h.nn j
        have := r.nn e.1.toNat
        split <;> omega
    have h2 := fold_rep r es _ _ (fun x hx => hb x (by simp [hx])) h1
    refine ⟨h2.len, fun j hj => ?_, fun j => ?_⟩
    · rw [List.foldl_cons, h2.at_ j hj]
      congr 1
      show (w j + if e.2.toNat = j then v e.1.toNat else 0) + xcV es v j = w j + xcV (e :: es) v j
      unfold xcV
      rw [List.map_cons, List.sum_cons]
      omega
    · have := h.nn j
      have := xcV_nn (es := e :: es) r.nn j
      omega
theorem stepL_rep {N : Nat} {now : List Int} {v : Nat → Int} {es : List (Int × Int)} (r : Rep N now v) (hb : InN N es) : Rep N (stepL fS es N now) (xcV es v) := by
  have h0 : Rep N (List.replicate N 0) fun _ => 0 := ⟨by simp, fun j hj => by rw [List.getD_eq_getElem?_getD, List.getElem?_replicate, if_pos hj]; rfl, fun _ => Int.le_refl _⟩
  have := fold_rep r es _ _ hb h0
  rw [show xcV es v = fun j => 0 + xcV es v j from funext fun j => (Int.zero_add _).symm]
  exact this
theorem itL_rep {N : Nat} {es : List (Int × Int)} (hb : InN N es) : ∀ (k : Nat) {now : List Int} {v : Nat → Int}, Rep N now v → Rep N (itL fS es N k now) (xcN es k v)
  | 0, now, v, r => r
  | k + 1, now, v, r => itL_rep hb k (stepL_rep r hb)
/-- The unit at s, and all ones. -/
def un (s : Nat) (i : Nat) : Int := if i = s then 1 else 0
def unL (N s : Nat) : List Int := (List.replicate N 0).set s 1
def on (N : Nat) (i : Nat) : Int := ((List.range N).map fun s => un s i).sum
theorem un_nn (s i : Nat) : 0 ≤ un s i := by unfold un; split <;> omega
theorem un_rep {N s : Nat} (hs : s < N) : Rep N (unL N s) (un s) := by
  refine ⟨by simp [unL], fun j hj => ?_, un_nn s⟩
  unfold unL
  rw [getD_setJ _ _ _ _ (by simpa using hs), List.getD_eq_getElem?_getD, List.getElem?_replicate, if_pos hj]
  unfold un
  by_cases h : s = j
  · rw [if_pos h, if_pos h.symm]; rfl
  · rw [if_neg h, if_neg (fun e => h e.symm)]; rfl
/-- All numbers of ways, by the colour they begin with. -/
def waysT (es : List (Int × Int)) (N k : Nat) : Int := ((List.range N).map fun s => (itL fS es N k (unL N s)).sum).sum
end Go.Proofs.Ytlcgclmobfdbcaa.Cl

/- The lasting words of a strip and their table: what the program computes. No claim is stated here. -/
set_option linter.unusedVariables false
set_option linter.unusedSimpArgs false
namespace Go.Proofs.Ytlcgclmobfdbcaa.Cl
open Go
/-! ### plain -/
section
variable (p : Nat → Bool)
end
def zerT (n : Nat) : List (List Int) := List.replicate n (List.replicate n 0)
/-- A square table of numbers of at most m. -/
def Sq (n : Nat) (m : Int) (T : List (List Int)) : Prop := T.length = n ∧ ∀ i, i < n → (rw_ T i).length = n ∧ ∀ j, 0 ≤ G T i j ∧ G T i j ≤ m
theorem Sq.zero (n : Nat) : Sq n 0 (zerT n) := by
  refine ⟨by simp [zerT], fun i hi => ?_⟩
  have : rw_ (zerT n) i = List.replicate n 0 := by unfold rw_ zerT; rw [List.getD_eq_getElem?_getD, List.getElem?_replicate, if_pos hi]; rfl
  refine ⟨by rw [this]; simp, fun j => ?_⟩
  unfold G
  rw [this, List.getD_eq_getElem?_getD, List.getElem?_replicate]
  split <;> exact ⟨Int.le_refl _, Int.le_refl _⟩
/-! ### a row of a table that is owned -/
theorem NewSS.row {n : Nat} {h : H} {s : Sl} {ls : List (List Int)} (r : NewSS n h s ls) {i : Int} (h0 : 0 ≤ i) (h1 : i < ls.length) {K : Sl → Prop}
    (hk : ∀ v, Rd h v 1 (ic (rw_ ls i.toNat)) → (∀ (j : Int) (x : Int) (K' : H → Prop), 0 ≤ j → j < (rw_ ls i.toNat).length → (∀ h', NewSS n h' s (ls.set i.toNat ((rw_ ls i.toNat).set j.toNat x)) → Chg (fun o => n ≤ o ∧ o < h.length) h h' → h'.length = h.length → K' h') → ixS v 1 j fun p => Cl.st1 p (.int .i64 x) h K') → K v) : ixS s 1 i fun p => Cl.ldS p h K := by
  have hln := r.rd.len
  obtain ⟨vs, a1, a2, a3, a4, a5, a6⟩ := r
  have hv : vs[i.toNat]? = some vs[i.toNat] := List.getElem?_eq_getElem (by omega)
  have hr := a4 _ _ _ hv (at_rw (rows := ls) (by omega))
  refine a2.rd.ldS h0 (by omega) fun v e => ?_
  have hve : v = vs[i.toNat] := by rw [hv] at e; exact (Option.some.inj e).symm
  subst hve
  refine hk _ hr.1.rd fun j x K' j0 j1 hK => ?_
  refine hr.1.stI j0 (by rw [hr.1.rd.ilen]; exact j1) x fun h' o' b l => ?_
  refine hK h' ⟨vs, by simp [a1], a2.but b ?_, a3, fun k w l' p q => ?_, a5, a6⟩ (b.chg fun o e => ⟨hr.2 o e, hr.1.lt e⟩) l
  · cases hq : vs[i.toNat].o with
    | none => exact .inr rfl
    | some o => exact .inl fun e => a6 _ _ hv o hq e.symm
  · rw [List.getElem?_set] at q
    by_cases e : i.toNat = k
    · subst e
      rw [if_pos rfl, if_pos (by omega)] at q
      rw [hv] at p
      have e1 := Option.some.inj p
      subst e1
      have e2 := Option.some.inj q
      subst e2
      exact ⟨o', hr.2⟩
    · rw [if_neg e] at q
      refine ⟨(a4 k w l' p q).1.but b ?_, (a4 k w l' p q).2⟩
      cases hq : vs[i.toNat].o with
      | none => exact .inr rfl
      | some o => exact .inl fun e2 => a5 _ _ _ _ e hv p o hq e2.symm
section
variable {hb : H} {n N : Nat} {c : Int} {s : Sl} {ts : List Tile} {H_ os : Nat} {q : Sl}
end
end Go.Proofs.Ytlcgclmobfdbcaa.Cl

/- The program's lasting words and table of a strip. No claim is stated here. -/
set_option linter.unusedVariables false
set_option linter.unusedSimpArgs false
namespace Go.Proofs.Ytlcgclmobfdbcaa.Cl
open Go
section
variable {hb : H} {n N : Nat} {c : Int} {s : Sl} {ts : List Tile} {H_ os : Nat} {q : Sl}
end
/-! ### words and table, as numbers -/
section
variable (c : Int) (ts : List Tile) (a : Int)
end
end Go.Proofs.Ytlcgclmobfdbcaa.Cl

/- Contracts of the program's lasting words and ColumnTable. No claim is stated here. -/
set_option linter.unusedVariables false
set_option linter.unusedSimpArgs false
namespace Go.Proofs.Ytlcgclmobfdbcaa.Cl
open Go
section
variable {h0 : H} {n : Nat} {c : Int} {s : Sl} {ts : List Tile} {H_ os : Nat} {q : Sl}
end
end Go.Proofs.Ytlcgclmobfdbcaa.Cl

/- Contracts of the program's ColumnTable and ColumnWords. No claim is stated here. -/
set_option linter.unusedVariables false
set_option linter.unusedSimpArgs false
namespace Go.Proofs.Ytlcgclmobfdbcaa.Cl
open Go
theorem Sq.small {n : Nat} {m : Int} {T : List (List Int)} (h : Sq n m T) (hn : n ≤ 900) : T.length < 1000000 ∧ sumLen T < 1000000 := by
  have hl := h.1
  refine ⟨by omega, ?_⟩
  have : sumLen T ≤ T.length * n := sumLen_le fun l hl' => by
    obtain ⟨i, hi, rfl⟩ := List.getElem_of_mem hl'
    have := (h.2 i (by omega)).1
    rw [rw_at (List.getElem?_eq_getElem hi)] at this
    omega
  have h2 : T.length * n ≤ 900 * 900 := Nat.mul_le_mul (by omega) hn
  omega
section
variable {h0 : H} {c : Int} {s : Sl} {ts : List Tile} {a : Int}
end
end Go.Proofs.Ytlcgclmobfdbcaa.Cl

/- The reference's sorting and searching. No claim is stated here. -/
set_option linter.unusedVariables false
set_option linter.unusedSimpArgs false
namespace Go.Proofs.Ytlcgclmobfdbcaa.Cl
open Go
/-! ### plain -/
abbrev Asc (l : List Int) : Prop := l.Pairwise (· < ·)
theorem drop_at {α : Type} {l : List α} {i : Nat} (h : i < l.length) : l.drop i = l[i] :: l.drop (i + 1) := List.drop_eq_getElem_cons h
/-! ### views -/
theorem cut_rd {h : H} {s : Sl} {z : Nat} {cs : List AVal} (r : Rd h s z cs) (hs : 0 < s.len) {lo hi : Int} (h0 : 0 ≤ lo) (h1 : lo ≤ hi) (h2 : hi ≤ s.len) {K : Sl → Prop} (hk : ∀ s', Rd h s' z ((cs.drop (lo.toNat * z)).take ((hi - lo).toNat * z)) → s'.o = s.o → s'.len = (hi - lo).toNat → K s') : cut s z lo hi h K := by
  obtain a | ⟨a, b, e⟩ := r.at_
  · omega
  · obtain ⟨o, xs, ho, hc, hl, rfl⟩ := range_some e
    have hn : xs.length = s.n := by
      unfold cells at hc
      split at hc
      · split at hc
        · next q => rw [← Option.some.inj hc]; exact q
        · cases hc
      · split at hc
        · next q => rw [← Option.some.inj hc]; exact q
        · cases hc
      · cases hc
    have hm : hi.toNat * z ≤ s.len * z := Nat.mul_le_mul_right _ (by omega)
    refine ⟨⟨h0, h1⟩, ?_, (fun q => by rw [ho] at q; cases q), fun _ => ⟨a, by omega⟩, hk _ ⟨?_, ?_⟩ rfl rfl⟩
    · unfold okS
      rw [ho]
      simp only
      rw [hc]; rfl
    · have hlm : (hi - lo).toNat * z + lo.toNat * z = hi.toNat * z := by rw [← Nat.add_mul]; congr 1; omega
      show _ = (hi - lo).toNat * z
      simp only [List.length_take, List.length_drop]
      omega
    · by_cases q : (hi - lo).toNat = 0
      · exact .inl q
      · refine .inr ⟨rfl, b, ?_⟩
        have hlm : (hi - lo).toNat * z + lo.toNat * z = hi.toNat * z := by rw [← Nat.add_mul]; congr 1; omega
        have hh : lo.toNat * z + (hi - lo).toNat * z ≤ s.len * z := by omega
        exact range_sub e hh
/-- A step of the merge. -/
structure Mrg (A B out : List Int) (i k : Nat) : Prop where
  i1 : i ≤ A.length
  k1 : k ≤ B.length
  asc : Asc out
  lt : ∀ x ∈ out, (∀ y ∈ A.drop i, x < y) ∧ ∀ y ∈ B.drop k, x < y
  mem : ∀ x, (x ∈ out ∨ x ∈ A.drop i ∨ x ∈ B.drop k) ↔ (x ∈ A ∨ x ∈ B)
  len : out.length ≤ i + k
theorem asc_push {out : List Int} (h : Asc out) {x : Int} (hx : ∀ y ∈ out, y < x) : Asc (out ++ [x]) :=
  List.pairwise_append.2 ⟨h, List.pairwise_singleton _ _, fun a ha b hb => by rw [List.mem_singleton.1 hb]; exact hx a ha⟩
theorem Mrg.symm {A B out : List Int} {i k : Nat} (m : Mrg A B out i k) : Mrg B A out k i :=
  ⟨m.k1, m.i1, m.asc, fun x hx => ⟨(m.lt x hx).2, (m.lt x hx).1⟩, fun x => by have := m.mem x; rw [or_comm (a := x ∈ B), ← this]; rw [or_comm (a := x ∈ B.drop k)], by have := m.len; omega⟩
theorem Mrg.left {A B out : List Int} {i k : Nat} (m : Mrg A B out i k) (ha : Asc A) (hi : i < A.length) (hlt : ∀ y ∈ B.drop k, A[i] < y) : Mrg A B (out ++ [A[i]]) (i + 1) k := by
  have hd := drop_at hi
  have hsub : Asc (A.drop i) := List.Pairwise.sublist (List.drop_sublist _ _) ha
  rw [hd] at hsub
  have hp := (List.pairwise_cons.1 hsub).1
  refine ⟨hi, m.k1, asc_push m.asc fun y hy => (m.lt y hy).1 _ (by rw [hd]; exact List.mem_cons_self), fun x hx => ?_, fun x => ?_, by have := m.len; simp; omega⟩
  · rcases List.mem_append.1 hx with h | h
    · exact ⟨fun y hy => (m.lt x h).1 y (by rw [hd]; exact List.mem_cons_of_mem _ hy), (m.lt x h).2⟩
    · rw [List.mem_singleton.1 h]; exact ⟨hp, hlt⟩
  · rw [← m.mem x, hd]
    simp only [List.mem_append, List.mem_cons, List.mem_singleton, List.not_mem_nil, or_false]
    constructor
    · rintro ((h | h) | h | h)
      · exact .inl h
      · exact .inr (.inl (.inl h))
      · exact .inr (.inl (.inr h))
      · exact .inr (.inr h)
    · rintro (h | (h | h) | h)
      · exact .inl (.inl h)
      · exact .inl (.inr h)
      · exact .inr (.inl h)
      · exact .inr (.inr h)
theorem Mrg.right {A B out : List Int} {i k : Nat} (m : Mrg A B out i k) (hb : Asc B) (hk : k < B.length) (hlt : ∀ y ∈ A.drop i, B[k] < y) : Mrg A B (out ++ [B[k]]) i (k + 1) := (m.symm.left hb hk hlt).symm
theorem Mrg.skip {A B out : List Int} {i k : Nat} (m : Mrg A B out i k) (hi : i < A.length) (hk : k < B.length) (e : A[i] = B[k]) : Mrg A B out (i + 1) k := by
  have hd := drop_at hi
  have hd2 := drop_at hk
  refine ⟨hi, m.k1, m.asc, fun x hx => ⟨fun y hy => (m.lt x hx).1 y (by rw [hd]; exact List.mem_cons_of_mem _ hy), (m.lt x hx).2⟩, fun x => ?_, by have := m.len; omega⟩
  rw [← m.mem x, hd, hd2]
  simp only [List.mem_cons]
  constructor
  · rintro (h | h | h)
    · exact .inl h
    · exact .inr (.inl (.inr h))
    · exact .inr (.inr h)
  · rintro (h | (h | h) | h)
    · exact .inl h
    · exact .inr (.inr (.inl (by rw [h, e])))
    · exact .inr (.inl h)
    · exact .inr (.inr h)
end Go.Proofs.Ytlcgclmobfdbcaa.Cl

/- The reference's sorting, searching and keeping of columns. No claim is stated here. -/
set_option linter.unusedVariables false
set_option linter.unusedSimpArgs false
namespace Go.Proofs.Ytlcgclmobfdbcaa.Cl
open Go
/-! ### plain -/
/-! ### views -/
end Go.Proofs.Ytlcgclmobfdbcaa.Cl

/- The reference's keeping of lasting columns. No claim is stated here. -/
set_option linter.unusedVariables false
set_option linter.unusedSimpArgs false
namespace Go.Proofs.Ytlcgclmobfdbcaa.Cl
open Go
/-! ### slices whose rows lie in older memory -/
def ShS (hW h : H) (s : Sl) (ls : List (List Int)) : Prop :=
  ∃ us : List Sl, us.length = ls.length ∧ (∀ (k : Nat) u w, us[k]? = some u → ls[k]? = some w → Rd hW u 1 (ic w)) ∧ Ow h s 1 (us.map .sl)
theorem ShS.rd {hW h s ls} (r : ShS hW h s ls) (x : Ext hW h) : RdSS h s ls := by
  obtain ⟨us, a, b, c⟩ := r
  exact ⟨us, a, c.rd, fun k u w p q => (b k u w p q).ext x⟩
theorem ShS.len {hW h s ls} (r : ShS hW h s ls) : s.len = ls.length := by
  obtain ⟨us, a, b, c⟩ := r
  have := c.len; simp at this; omega
theorem ShS.push {hW h : H} {s : Sl} {ls : List (List Int)} (r : ShS hW h s ls) {v : Sl} {l : List Int} (rv : Rd hW v 1 (ic l)) (hl : (ls.length : Int) + 1 ≤ lim) {K : Sl → H → Prop}
    (hk : ∀ s' h', ShS hW h' s' (ls ++ [l]) → But s.o h h' → (∀ o, s.o = some o → s'.o = some o) → K s' h') : newS 1 1 [.sl v] h fun t h1 => Cl.app s t 1 h1 K := by
  have hs := r.len
  obtain ⟨us, a, b, c⟩ := r
  refine newS_ow (by rfl) fun t h1 ot tl to e1 => ?_
  have x1 : Ext h h1 := by rw [e1]; exact Ext.app _ _
  refine app_ow (by omega) (c.ext x1) ot.rd (by rw [tl, hs]; exact_mod_cast hl) fun s' h' o' ln bt k1 k2 => ?_
  refine hk s' h' ⟨us ++ [v], by simp [a], fun k u w p q => ?_, by simpa using o'⟩ ((x1.but _).trans bt) k1
  rw [List.getElem?_append] at p q
  split at p
  · next hi => rw [if_pos (by omega)] at q; exact b k u w p q
  · next hi =>
    rw [if_neg (by omega)] at q
    have hk0 : k = us.length := by
      have := (List.getElem?_eq_some_iff.1 p).1
      simp at this; omega
    subst hk0
    simp [a] at p q
    subst p q
    exact rv
/-! ### plain -/
abbrev Col := Int × Int × Int
section
variable {n : Nat} {L : List Col} {A B : Nat → Bool}
end
section
variable {h0 : H} {u : Sl} {N : Nat} {L : List Col} {A B : Nat → Bool}
end
end Go.Proofs.Ytlcgclmobfdbcaa.Cl

/- Contracts of the reference's lasting words, ColumnTable and ColumnWords. No claim is stated here. -/
set_option linter.unusedVariables false
set_option linter.unusedSimpArgs false
namespace Go.Proofs.Ytlcgclmobfdbcaa.Cl
open Go
section
variable {c : Int} {ts : List Tile} {H_ : Nat}
end
section
variable {h0 : H} {c : Int} {s : Sl} {ts : List Tile} {a : Int}
end
end Go.Proofs.Ytlcgclmobfdbcaa.Cl

/- Strong parts: the plain law. No claim is stated here. -/
set_option linter.unusedVariables false
set_option linter.unusedSimpArgs false
namespace Go.Proofs.Ytlcgclmobfdbcaa.Cl
section
variable (n : Nat) (R : Nat → Nat → Bool)
end
variable {n : Nat} {R : Nat → Nat → Bool}
end Go.Proofs.Ytlcgclmobfdbcaa.Cl

/- Square tables of truth values in the heap. No claim is stated here. -/
set_option linter.unusedVariables false
set_option linter.unusedSimpArgs false
namespace Go.Proofs.Ytlcgclmobfdbcaa.Cl
open Go
/-- A new slice of new rows, which are told. -/
structure NewV (n : Nat) (h : H) (s : Sl) (vs : List Sl) (ls : List (List AVal)) : Prop where
  len : vs.length = ls.length
  own : Ow h s 1 (vs.map .sl)
  fr : Fr n s
  rows : ∀ (i : Nat) v l, vs[i]? = some v → ls[i]? = some l → Ow h v 1 l ∧ Fr n v
  dis : ∀ (i j : Nat) v w, i ≠ j → vs[i]? = some v → vs[j]? = some w → ∀ o, v.o = some o → w.o ≠ some o
  sep : ∀ (i : Nat) v, vs[i]? = some v → ∀ o, v.o = some o → s.o ≠ some o
section
variable {n : Nat} {h h' : H} {s : Sl} {vs : List Sl} {ls : List (List AVal)}
theorem NewV.mk0 (o : Ow h s 1 []) (f : Fr n s) : NewV n h s [] [] := ⟨rfl, o, f, fun i v l a => by simp at a, fun i j v w _ a => by simp at a, fun i v a => by simp at a⟩
theorem NewV.ext (r : NewV n h s vs ls) (x : Ext h h') : NewV n h' s vs ls := ⟨r.len, r.own.ext x, r.fr, fun i v l a b => ⟨(r.rows i v l a b).1.ext x, (r.rows i v l a b).2⟩, r.dis, r.sep⟩
theorem NewV.le {m : Nat} (r : NewV n h s vs ls) (hm : m ≤ n) : NewV m h s vs ls := ⟨r.len, r.own, r.fr.le hm, fun i v l a b => ⟨(r.rows i v l a b).1, (r.rows i v l a b).2.le hm⟩, r.dis, r.sep⟩
theorem NewV.slen (r : NewV n h s vs ls) : s.len = ls.length := by have := r.own.len; have := r.len; simp at *; omega
theorem NewV.row (r : NewV n h s vs ls) {i : Nat} {v : Sl} (hv : vs[i]? = some v) {l : List AVal} (hl : ls[i]? = some l) : Ow h v 1 l := (r.rows i v l hv hl).1
theorem NewV.st (r : NewV n h s vs ls) {i : Nat} {v : Sl} (hv : vs[i]? = some v) {l : List AVal} (hl : ls[i]? = some l) {j : Int} (j0 : 0 ≤ j) (j1 : j < l.length) (x : AVal) {K : H → Prop}
    (hk : ∀ h', NewV n h' s vs (ls.set i (l.set j.toNat x)) → Chg (fun o => n ≤ o ∧ o < h.length) h h' → h'.length = h.length → K h') : ixS v 1 j fun p => Cl.st1 p x h K := by
  have hr := r.rows i v l hv hl
  have hll : v.len = l.length := by have := hr.1.len; omega
  have hil := (List.getElem?_eq_some_iff.1 hl).1
  refine hr.1.stC j0 (by omega) x fun h' o' b lh => hk h' ⟨by simp [r.len], r.own.but b ?_, r.fr, fun k w l' p q => ?_, r.dis, r.sep⟩ (b.chg fun o e => ⟨hr.2 o e, hr.1.lt e⟩) lh
  · cases hq : v.o with
    | none => exact .inr rfl
    | some o => exact .inl fun e => r.sep _ _ hv o hq e.symm
  · rw [List.getElem?_set] at q
    by_cases e : i = k
    · subst e
      rw [if_pos rfl, if_pos hil] at q
      rw [hv] at p
      have e1 := Option.some.inj p
      subst e1
      have e2 := Option.some.inj q
      subst e2
      exact ⟨o', hr.2⟩
    · rw [if_neg e] at q
      refine ⟨(r.rows k w l' p q).1.but b ?_, (r.rows k w l' p q).2⟩
      cases hq : v.o with
      | none => exact .inr rfl
      | some o => exact .inl fun e2 => r.dis _ _ _ _ e hv p o hq e2.symm
theorem NewV.push {m : Nat} (r0 : NewV n h s vs ls) (x : Ext h h') {v : Sl} {l : List AVal} (ov : Ow h' v 1 l) (fv : Fr m v) (hm : h.length ≤ m) (hn : n ≤ h.length) (hl : (ls.length : Int) + 1 ≤ lim) {K : Sl → H → Prop}
    (hk : ∀ s' g, NewV n g s' (vs ++ [v]) (ls ++ [l]) → But s.o h' g → K s' g) : newS 1 1 [.sl v] h' fun t h1 => Cl.app s t 1 h1 K := by
  have r := r0.ext x
  have hsl := r.slen
  refine newS_ow (by rfl) fun t h1 ot tl to e1 => ?_
  have x1 : Ext h' h1 := by rw [e1]; exact Ext.app _ _
  have x1l := x1.len
  have xl := x.len
  refine app_ow (by omega) (r.own.ext x1) ot.rd (by rw [tl, hsl]; exact_mod_cast hl) fun s' g o' ln b k1 k2 => ?_
  have hso : ∀ o, s'.o = some o → s.o = some o ∨ h1.length ≤ o := fun o e => by
    cases hq : s.o with
    | none => exact .inr (k2 hq o e)
    | some p => rw [k1 p hq] at e; exact .inl e
  have hs0 : ∀ o, s.o = some o → o < h.length := fun o e => r0.own.lt e
  have hw0 : ∀ (i : Nat) w, vs[i]? = some w → ∀ o, w.o = some o → o < h.length := fun i w hw o e => by
    obtain ⟨l', hl'⟩ := mem_idx r0.len hw
    exact (r0.rows i w l' hw hl').1.lt e
  have hget : ∀ {k : Nat} {y : Sl}, (vs ++ [v])[k]? = some y → vs[k]? = some y ∨ (k = vs.length ∧ y = v) := fun {k y} e => by
    rw [List.getElem?_append] at e
    split at e
    · exact .inl e
    · have : k = vs.length := by
        have := (List.getElem?_eq_some_iff.1 e).1
        simp at this; omega
      subst this
      simp at e
      exact .inr ⟨rfl, e.symm⟩
  refine hk s' g ⟨by simp [r0.len], by simpa using o', fun o e => ?_, fun i w l' p q => ?_, fun i j w u hne a c o e e2 => ?_, fun i w a o e e2 => ?_⟩ ((x1.but _).trans b)
  · rcases hso o e with e | e
    · exact r.fr o e
    · omega
  · rcases hget p with p1 | ⟨rfl, rfl⟩
    · rw [List.getElem?_append_left (by have := (List.getElem?_eq_some_iff.1 p1).1; have := r0.len; omega)] at q
      refine ⟨((r.rows i w l' p1 q).1.ext x1).but b ?_, (r.rows i w l' p1 q).2⟩
      cases hw : w.o with
      | none => cases hq : s.o with
        | none => exact .inr rfl
        | some o => exact .inl (by simp)
      | some o => exact .inl fun e => r.sep i w p1 o hw e
    · rw [r0.len, List.getElem?_append_right (Nat.le_refl _), Nat.sub_self] at q
      have e2 := Option.some.inj q
      subst e2
      refine ⟨(ov.ext x1).but b ?_, fv.le (by omega)⟩
      cases hw : w.o with
      | none => cases hq : s.o with
        | none => exact .inr rfl
        | some o => exact .inl (by simp)
      | some o => exact .inl fun e => by have := fv o hw; have := hs0 o e; omega
  · rcases hget a with a1 | ⟨rfl, rfl⟩
    · rcases hget c with c1 | ⟨rfl, rfl⟩
      · exact r.dis i j w u hne a1 c1 o e e2
      · have := hw0 i w a1 o e; have := fv o e2; omega
    · rcases hget c with c1 | ⟨rfl, rfl⟩
      · have := hw0 j u c1 o e2; have := fv o e; omega
      · exact hne rfl
  · rcases hget a with a1 | ⟨rfl, rfl⟩
    · rcases hso o e2 with e3 | e3
      · exact r.sep i w a1 o e e3
      · have := hw0 i w a1 o e; omega
    · rcases hso o e2 with e3 | e3
      · have := hs0 o e3; have := fv o e; omega
      · have := ov.lt e; omega
end
/-! ### tables of truth values -/
def tabR (N : Nat) (R : Nat → Nat → Bool) : List (List AVal) := (List.range N).map fun i => (bl N (R i)).map AVal.bool
theorem tabR_len (N R) : (tabR N R).length = N := by simp [tabR]
def NewM (n : Nat) (h : H) (s : Sl) (N : Nat) (R : Nat → Nat → Bool) : Prop := ∃ vs, NewV n h s vs (tabR N R)
section
variable {n N : Nat} {h h' : H} {s : Sl} {R : Nat → Nat → Bool} {vs : List Sl}
theorem NewM.ext (r : NewM n h s N R) (x : Ext h h') : NewM n h' s N R := by obtain ⟨vs, r⟩ := r; exact ⟨vs, r.ext x⟩
theorem NewM.len (r : NewM n h s N R) : s.len = N := by obtain ⟨vs, r⟩ := r; rw [r.slen, tabR_len]
end
/-! ### the program's reach -/
section
variable {h0 : H} {u : Sl} {T : List (List Int)} {N : Nat} {m : Int}
end
end Go.Proofs.Ytlcgclmobfdbcaa.Cl

/- Contracts of StrongParts. No claim is stated here. -/
set_option linter.unusedVariables false
set_option linter.unusedSimpArgs false
namespace Go.Proofs.Ytlcgclmobfdbcaa.Cl
open Go
theorem NewSS.pushO {n : Nat} {h h' : H} {s : Sl} {ls : List (List Int)} (r0 : NewSS n h s ls) (x : Ext h h') {v : Sl} {l : List Int} (ov : Ow h' v 1 (ic l)) (fv : Fr h.length v) (hn : n ≤ h.length) (hl : (ls.length : Int) + 1 ≤ lim) {K : Sl → H → Prop}
    (hk : ∀ s' g, NewSS n g s' (ls ++ [l]) → But s.o h' g → (∀ o, s.o = some o → s'.o = some o) → K s' g) : newS 1 1 [.sl v] h' fun t h1 => Cl.app s t 1 h1 K := by
  refine newS_ow (by rfl) fun t h1 ot tl to e1 => ?_
  have e1' : Ext h' h1 := by rw [e1]; exact Ext.app _ _
  refine ((r0.ext x).ext e1').app_new (ov.ext e1') fv hn ⟨h, r0, Nat.le_refl _, x.trans e1'⟩ ot.rd hl (Nat.le_trans hn (Nat.le_trans x.len e1'.len)) fun s' g n' b k1 _ => hk s' g n' ((e1'.but _).trans b) k1
theorem NewV.but {n : Nat} {h h' : H} {s : Sl} {vs : List Sl} {ls : List (List AVal)} (r : NewV n h s vs ls) {p : Option Nat} (b : But p h h') (hp : ∀ o, p = some o → o < n) : NewV n h' s vs ls := by
  have key : ∀ {w : Sl}, Fr n w → p ≠ w.o ∨ p = none := fun {w} f => by
    cases hq : p with
    | none => exact .inr rfl
    | some o => exact .inl fun e => by have := hp o hq; have := f o e.symm; omega
  exact ⟨r.len, r.own.but b (key r.fr), r.fr, fun i v l a c => ⟨(r.rows i v l a c).1.but b (key (r.rows i v l a c).2), (r.rows i v l a c).2⟩, r.dis, r.sep⟩
theorem NewM.but {n N : Nat} {h h' : H} {s : Sl} {R : Nat → Nat → Bool} (r : NewM n h s N R) {p : Option Nat} (b : But p h h') (hp : ∀ o, p = some o → o < n) : NewM n h' s N R := by obtain ⟨vs, r⟩ := r; exact ⟨vs, r.but b hp⟩
section
variable {h0 : H} {u : Sl} {T : List (List Int)} {N : Nat} {m : Int}
end
end Go.Proofs.Ytlcgclmobfdbcaa.Cl

/- Ways through tiles and the number of rows: the program's walk. No claim is stated here. -/
set_option linter.unusedVariables false
set_option linter.unusedSimpArgs false
namespace Go.Proofs.Ytlcgclmobfdbcaa.Cl
open Go
def edR (ts : List Tile) : List (Int × Int) := ts.map fun t => (sd t 0, sd t 2)
theorem edR_in {c : Int} {ts : List Tile} (hs : setOK c ts) : InN c.toNat (edR ts) := fun e he => by
  obtain ⟨t, ht, rfl⟩ := List.mem_map.1 he
  have h0 := hs.ts.2 t ht 0 (by omega)
  have h2 := hs.ts.2 t ht 2 (by omega)
  dsimp only
  omega
theorem mnI_fS (x : Int) : mnI 1000000000000001 x = fS x := by
  unfold fS mnI
  by_cases h : x < 1000000000000001
  · rw [if_pos h, if_neg (by omega)]
  · by_cases h2 : 1000000000000001 < x
    · rw [if_neg h, if_pos h2]
    · rw [if_neg h, if_neg h2]; omega
theorem itL_bd {es : List (Int × Int)} {N : Nat} : ∀ (k : Nat) {v : List Int}, Bd 1000000000000001 v → v.length = N → Bd 1000000000000001 (itL fS es N k v) ∧ (itL fS es N k v).length = N
  | 0, v, h, hl => ⟨h, hl⟩
  | k + 1, v, h, hl => itL_bd k (stepL_bd fitS h).1 (stepL_bd fitS h).2
theorem unL_bd {N s : Nat} (hs : s < N) : Bd 1000000000000001 (unL N s) := fun i => by
  unfold unL
  rw [getD_setJ _ _ _ _ (by simpa using hs)]
  split
  · omega
  · exact bd_zero (by omega) N i
section
variable {h0 : H} {c : Int} {s : Sl} {ts : List Tile}
theorem ways_c (r : Rd h0 s 4 (tcs ts)) (hs : setOK c ts) {n : Int} (hn : 0 ≤ n ∧ n ≤ 1000) :
    callS SP i_impl_Set_ways [.agg (SetC c s), i64 n] h0 fun w h' => NewSS h0.length h' w ((List.range c.toNat).map fun k => itL fS (edR ts) c.toNat n.toNat (unL c.toNat k)) ∧ Ext h0 h' := by
  have hc := hs.1
  have hsl := r.tlen
  have h16 := hs.2.1
  have hin := edR_in hs
  apply impl_Set_ways_call
  unfold impl_Set_ways_main
  refine newK_obj fun h1 o1 x1 n1 => ?_
  refine newS_ow (by rfl) fun w h2 ow lw wo e2 => ?_
  have x2 : Ext h1 h2 := by rw [e2]; exact Ext.app _ _
  refine isPt_in ((o1.ext x2).ldI rfl rfl ?_)
  refine impl_Set_ways_rule0 _ _ _ _ _ (fun w i g => ∃ k : Nat, i = k ∧ k ≤ c.toNat ∧ NewSS h1.length g w ((List.range k).map fun k => itL fS (edR ts) c.toNat n.toNat (unL c.toNat k)) ∧ Ext h1 g) (fun _ i _ => (c - i).toNat) ?_ _ _
    ⟨0, rfl, by omega, NewSS.mk0 ow (fun o e => by rw [wo] at e; cases e; exact Nat.le_refl _), x2⟩
  rintro X w _ g ⟨k, rfl, hk, nw, xg⟩ hX
  have og := o1.ext xg
  have rg := r.ext (x1.trans xg)
  unfold impl_Set_ways_b0
  refine bif_dec (fun hi => ?_) (fun hi => ?_)
  · refine isPt_in (og.ldI rfl rfl ?_)
    refine mkS_ow (by omega) (by unfold lim; omega) fun v g1 ov lv vo e1 => ?_
    have y1 : Ext g g1 := by rw [e1]; exact Ext.app _ _
    have hz : (List.replicate c.toNat [AVal.int .i64 0]).flatten = ic (List.replicate c.toNat 0) := by
      unfold ic
      rw [List.map_replicate]; simp
    rw [hz] at ov
    refine ov.stI (by omega) (by rw [lv]; omega) _ fun g2 ov2 b2 m2 => ?_
    rw [vo] at b2
    have y2 : Ext g g2 := y1.but_ b2 (some_le (Nat.le_refl _))
    rw [Int.toNat_natCast] at ov2
    have fv : Fr g.length v := fun i e => by rw [vo] at e; cases e; exact Nat.le_refl _
    refine impl_Set_ways_rule2 _ _ X _ _ _ _ _ _ (fun v i g' => ∃ m : Nat, i = m ∧ (m : Int) ≤ n ∧ Ow g' v 1 (ic (itL fS (edR ts) c.toNat m (unL c.toNat k))) ∧ Fr g.length v ∧ Ext g g') (fun _ i _ => (n - i).toNat) ?_ _ _
      ⟨0, rfl, hn.1, ov2, fv, y2⟩
    rintro X2 v _ g3 ⟨m, rfl, hm, ov3, fv3, y3⟩ hX2
    have hb3 := itL_bd (es := edR ts) (N := c.toNat) m (unL_bd (show k < c.toNat by omega)) (by simp [unL])
    have hvl := ov3.rd.ilen
    unfold impl_Set_ways_b2
    refine bif_dec (fun hi2 => ?_) (fun hi2 => ?_)
    · refine isPt_in ((og.ext y3).ldI rfl rfl ?_)
      refine mkS_ow (by omega) (by unfold lim; omega) fun u g4 ou lu uo e4 => ?_
      have y4 : Ext g3 g4 := by rw [e4]; exact Ext.app _ _
      rw [hz] at ou
      have hul : u.len = c.toNat := lu
      refine isPt_in ((og.ext (y3.trans y4)).ldS (m := s) rfl rfl ?_)
      refine impl_Set_ways_rule4 _ _ X X2 _ _ _ _ _ _ _ _ _ _ _ (fun i g' => ∃ z : Nat, i = z ∧ z ≤ ts.length ∧ Ow g' u 1 (ic (((edR ts).take z).foldl (stp fS (itL fS (edR ts) c.toNat m (unL c.toNat k))) (List.replicate c.toNat 0))) ∧ Ext g3 g') (fun i _ => ((ts.length : Int) - i).toNat) ?_ _
        ⟨0, rfl, by omega, ou, y4⟩
      rintro X4 _ g5 ⟨z, rfl, hz1, ou5, y5⟩ hX4
      unfold impl_Set_ways_b4
      have hbn := fold_stp fitS hb3.1 ((edR ts).take z) _ (bd_zero (by omega) c.toNat)
      refine bif_dec (fun hi4 => ?_) (fun hi4 => ?_)
      · have hzl : z < ts.length := by omega
        refine (rg.ext (y3.trans y5)).tileG (by omega) (by omega) ?_
        rw [tat_nat hzl]
        have t0 := hs.ts.2 ts[z] (List.getElem_mem hzl) 0 (by omega)
        have t2 := hs.ts.2 ts[z] (List.getElem_mem hzl) 2 (by omega)
        refine newO_obj fun g6 q6 y6 m6 => ?_
        refine q6.stA fun g7 q7 b7 m7 => ?_
        have y7 : Ext g5 g7 := y6.but_ b7 (some_le (Nat.le_refl _))
        have ou7 := ou5.ext y7
        have ov7 := ov3.ext (y5.trans y7)
        refine ix4 q7 2 (by omega) fun p5 _ => ?_
        refine ix4 q7 2 (by omega) fun p6 _ => ?_
        refine ou7.rd.ldI t2.1 (by rw [hbn.2, List.length_replicate]; omega) fun x hx => ?_
        refine ix4 q7 0 (by omega) fun p7 _ => ?_
        refine ov7.rd.ldI t0.1 (by rw [hb3.2]; omega) fun y hy => ?_
        refine ou7.stI t2.1 (by rw [hul]; omega) _ fun g8 ou8 b8 m8 => ?_
        rw [w64_of (n := (z : Int) + 1) (by omega) (by omega)]
        refine hX4 _ _ ⟨z + 1, by push_cast; rfl, by omega, ?_, (y5.trans y7).but_ b8 (by rw [uo]; exact some_le (Nat.le_refl _))⟩ (by omega)
        rw [List.take_succ_eq_append_getElem (show z < (edR ts).length by simpa [edR] using hzl), List.foldl_append, List.foldl_cons, List.foldl_nil]
        have hxb := hbn.1 (sd ts[z] 2).toNat
        have hyb := hb3.1 (sd ts[z] 0).toNat
        have ex : (((edR ts).take z).foldl (stp fS (itL fS (edR ts) c.toNat m (unL c.toNat k))) (List.replicate c.toNat 0)).getD (sd ts[z] 2).toNat 0 = x := by rw [List.getD_eq_getElem?_getD, hx]; rfl
        have ey : (itL fS (edR ts) c.toNat m (unL c.toNat k)).getD (sd ts[z] 0).toNat 0 = y := by rw [List.getD_eq_getElem?_getD, hy]; rfl
        have eg : (edR ts)[z]'(by simpa [edR] using hzl) = (sd ts[z] 0, sd ts[z] 2) := by simp [edR]
        rw [eg]
        rw [show ∀ (nw nx : List Int) (a b : Int), stp fS nw nx (a, b) = nx.set b.toNat (fS (nx.getD b.toNat 0 + nw.getD a.toNat 0)) from fun _ _ _ _ => rfl]
        rw [ex] at hxb ⊢
        rw [ey] at hyb ⊢
        rw [← mnI_fS, ← w64_of (n := x + y) (by omega) (by omega)]
        exact ou8
      · unfold impl_Set_ways_C4 impl_Set_ways_C3
        have hzU : z = ts.length := by omega
        rw [w64_of (n := (m : Int) + 1) (by omega) (by omega)]
        rw [List.take_of_length_le (by simp [edR]; omega)] at ou5
        refine hX2 _ _ _ ⟨m + 1, by push_cast; rfl, by omega, by rw [itL_succ]; exact ou5, fun i e => by rw [uo] at e; cases e; exact y3.len, y3.trans y5⟩ (by omega)
    · unfold impl_Set_ways_C2 impl_Set_ways_C1
      have hmU : m = n.toNat := by omega
      have hlg := xg.len
      refine nw.pushO y3 ov3 fv3 hlg (by rw [List.length_map, List.length_range]; unfold lim; omega) fun w' g' nw' b' _ => ?_
      rw [w64_of (n := (k : Int) + 1) (by omega) (by omega)]
      refine hX _ _ _ ⟨k + 1, by push_cast; rfl, by omega, ?_, (xg.trans y3).but_ b' fun i e => nw.fr i e⟩ (by omega)
      rw [List.range_succ, List.map_append, ← hmU]
      subst hmU
      exact nw'
  · unfold impl_Set_ways_C0
    have hkU : k = c.toNat := by omega
    subst hkU
    exact ⟨w, rfl, nw.le (by omega), x1.trans xg⟩
theorem take_sum {l : List Int} {z : Nat} (h : z < l.length) : (l.take (z + 1)).sum = (l.take z).sum + l[z] := by
  rw [List.take_succ_eq_append_getElem h, List.sum_append_int]; simp
theorem take_sum_bd {l : List Int} {B : Int} (hB : ∀ x ∈ l, 0 ≤ x ∧ x ≤ B) : ∀ z, z ≤ l.length → 0 ≤ (l.take z).sum ∧ (l.take z).sum ≤ z * B
  | 0, _ => by simp
  | z + 1, h => by
    have ih := take_sum_bd hB z (by omega)
    have hx := hB l[z] (List.getElem_mem _)
    rw [take_sum (by omega)]
    have : ((z + 1 : Nat) : Int) * B = (z : Int) * B + B := by push_cast; rw [Int.add_mul, Int.one_mul]
    omega
theorem counted_c {h : H} (x : Int) {K : AVal → H → Prop} (hk : K (.tuple [i64 (if x > topS then 0 else x), i64 (if x > topS then 3 else 0)]) h) : callV SP i_impl_counted [i64 x] h K := by
  apply impl_counted_call
  unfold impl_counted_main
  refine bif_dec (fun hx => ?_) (fun hx => ?_)
  · rw [if_pos hx, if_pos hx] at hk; exact hk
  · rw [if_neg hx, if_neg hx] at hk; exact hk
theorem impl_CountRows_k (r : Rd h0 s 4 (tcs ts)) (hs : setOK c ts) {n : Int} (hn : 1 ≤ n ∧ n ≤ 40) :
    callV SP i_impl_CountRows [.agg (SetC c s), i64 n] h0 fun v h' => v = .tuple [i64 (if waysT (edR ts) c.toNat n.toNat > topS then 0 else waysT (edR ts) c.toNat n.toNat), i64 (if waysT (edR ts) c.toNat n.toNat > topS then 3 else 0)] ∧ Ext h0 h' := by
  have hc := hs.1
  have h16 := hs.2.1
  apply impl_CountRows_call
  unfold impl_CountRows_main
  refine newK_obj fun h1 o1 x1 n1 => ?_
  refine newO_var fun h2 v2 x2 n2 => ?_
  have o2 := o1.ext x2
  refine o2.ldA rfl ?_
  refine (setCode_c (r.ext (x1.trans x2)) (by omega) _ _ (1 ≤ n ∧ n ≤ 40) fun _ h x => ?_).to ?_
  · apply impl_CountRows_1_call
    unfold impl_CountRows_1_main
    refine (v2.ext x).ldI ?_
    refine (within_c n 1 40 h).to ?_
    rintro _ _ ⟨rfl, rfl⟩
    exact ⟨_, rfl, by simp, Ext.refl _⟩
  rintro k h3 ⟨rfl, x3⟩
  refine bif_ne (fun hq => absurd (codeOf_yes hs hn) hq) (fun hq => ?_)
  refine (o2.ext x3).ldA rfl ?_
  refine (v2.ext x3).ldI ?_
  refine (ways_c (r.ext ((x1.trans x2).trans x3)) hs (by omega)).to ?_
  rintro w h4 ⟨nw, x4⟩
  have X4 := ((x1.trans x2).trans x3).trans x4
  have rw4 := nw.rd
  have hwl := rw4.len
  generalize hR : (List.range c.toNat).map (fun k => itL fS (edR ts) c.toNat n.toNat (unL c.toNat k)) = R at *
  have hRl : R.length = c.toNat := by rw [← hR]; simp
  have hRb : ∀ l ∈ R, l.length = c.toNat ∧ ∀ x ∈ l, 0 ≤ x ∧ x ≤ 1000000000000001 := fun l hl => by
    rw [← hR] at hl
    obtain ⟨k, hk, rfl⟩ := List.mem_map.1 hl
    have := itL_bd (es := edR ts) (N := c.toNat) n.toNat (unL_bd (List.mem_range.1 hk)) (by simp [unL])
    refine ⟨this.2, fun x hx => ?_⟩
    obtain ⟨i, hi, rfl⟩ := List.getElem_of_mem hx
    have h := this.1 i
    rw [List.getD_eq_getElem?_getD, List.getElem?_eq_getElem hi] at h
    exact h
  have hW : waysT (edR ts) c.toNat n.toNat = (R.map List.sum).sum := by rw [← hR, List.map_map]; rfl
  have hSb : ∀ x ∈ R.map List.sum, 0 ≤ x ∧ x ≤ 6000000000000006 := fun x hx => by
    obtain ⟨l, hl, rfl⟩ := List.mem_map.1 hx
    have h1 := hRb l hl
    have h2 := take_sum_bd h1.2 l.length (Nat.le_refl _)
    rw [List.take_length] at h2
    have : (l.length : Int) * 1000000000000001 ≤ 6 * 1000000000000001 := Int.mul_le_mul_of_nonneg_right (by omega) (by omega)
    omega
  refine impl_CountRows_rule0 _ _ _ _ (fun t i g => ∃ k : Nat, i = k ∧ k ≤ R.length ∧ t = ((R.map List.sum).take k).sum ∧ h4 = g) (fun _ i _ => ((R.length : Int) - i).toNat) ?_ _ _ ⟨0, rfl, by omega, by simp, rfl⟩
  rintro X t _ _ ⟨k, rfl, hk, rfl, rfl⟩ hX
  have hkb := take_sum_bd hSb k (by rw [List.length_map]; exact hk)
  have hk6 : (k : Int) * 6000000000000006 ≤ 6 * 6000000000000006 := Int.mul_le_mul_of_nonneg_right (by omega) (by omega)
  unfold impl_CountRows_b0
  refine bif_dec (fun hi => ?_) (fun hi => ?_)
  · have hkl : k < R.length := by omega
    refine rw4.ld (by omega) (by omega) fun v l hv rv lv => ?_
    rw [Int.toNat_natCast, List.getElem?_eq_getElem hkl] at hv
    have hlR := Option.some.inj hv
    have hlb := hRb l (by rw [← hlR]; exact List.getElem_mem _)
    refine impl_CountRows_rule2 _ _ X _ _ _ _ _ (fun t i g => ∃ z : Nat, i = z ∧ z ≤ l.length ∧ t = ((R.map List.sum).take k).sum + (l.take z).sum ∧ h4 = g) (fun _ i _ => ((l.length : Int) - i).toNat) ?_ _ _ ⟨0, rfl, by omega, by simp, rfl⟩
    rintro X2 t _ _ ⟨z, rfl, hz, rfl, rfl⟩ hX2
    have hzb := take_sum_bd hlb.2 z hz
    have hz6 : (z : Int) * 1000000000000001 ≤ 6 * 1000000000000001 := Int.mul_le_mul_of_nonneg_right (by omega) (by omega)
    unfold impl_CountRows_b2
    refine bif_dec (fun hi2 => ?_) (fun hi2 => ?_)
    · refine rv.ldI (by omega) (by omega) fun x hx => ?_
      have hzl : z < l.length := by omega
      rw [Int.toNat_natCast, List.getElem?_eq_getElem hzl] at hx
      have hxe := Option.some.inj hx
      have hxb := hlb.2 x (by rw [← hxe]; exact List.getElem_mem _)
      rw [w64_of (n := (z : Int) + 1) (by omega) (by omega), w64_of (by omega) (by omega)]
      exact hX2 _ _ _ ⟨z + 1, by push_cast; rfl, by omega, by rw [take_sum hzl, hxe]; omega, rfl⟩ (by omega)
    · unfold impl_CountRows_C2 impl_CountRows_C1
      have hzU : z = l.length := by omega
      rw [w64_of (n := (k : Int) + 1) (by omega) (by omega)]
      refine hX _ _ _ ⟨k + 1, by push_cast; rfl, by omega, ?_, rfl⟩ (by omega)
      rw [take_sum (by rw [List.length_map]; exact hkl), hzU, List.take_length, List.getElem_map, hlR]
  · unfold impl_CountRows_C0
    have hkU : k = (R.map List.sum).length := by rw [List.length_map]; omega
    rw [hkU, List.take_length]
    refine counted_c _ ⟨_, rfl, _, rfl, _, rfl, _, rfl, ?_, X4⟩
    rw [hW]
end
end Go.Proofs.Ytlcgclmobfdbcaa.Cl

/- Trimmed sets, and long rows: plain. No claim is stated here. -/
set_option linter.unusedVariables false
set_option linter.unusedSimpArgs false
namespace Go.Proofs.Ytlcgclmobfdbcaa.Cl
open Go
section
variable {L U : List Tile} {t : Tile}
/-- Has a tile a partner on each of its sides in a list? -/
def TQ (U : List Tile) (t : Tile) : Prop := ∀ k, k < 4 → ∃ a ∈ U, sd a ((k + 2) % 4) = sd t k
def TrimP (L : List Tile) (t : Tile) : Prop := ∃ Q : Tile → Prop, Q t ∧ ∀ a, Q a → a ∈ L ∧ ∀ k, k < 4 → ∃ b, Q b ∧ sd b ((k + 2) % 4) = sd a k
theorem TrimP.mem (h : TrimP L t) : t ∈ L := by obtain ⟨Q, h1, h2⟩ := h; exact (h2 t h1).1
theorem TrimP.sup (h : TrimP L t) {k : Nat} (hk : k < 4) : ∃ b, TrimP L b ∧ sd b ((k + 2) % 4) = sd t k := by
  obtain ⟨Q, h1, h2⟩ := h
  obtain ⟨b, b1, b2⟩ := (h2 t h1).2 k hk
  exact ⟨b, ⟨Q, b1, h2⟩, b2⟩
open Classical in
noncomputable def tqB (U : List Tile) (t : Tile) : Bool := decide (TQ U t)
theorem tqB_iff : tqB U t = true ↔ TQ U t := by unfold tqB; simp
open Classical in
noncomputable def trimB (L : List Tile) (t : Tile) : Bool := decide (TrimP L t)
theorem trimB_iff : trimB L t = true ↔ TrimP L t := by unfold trimB; simp
/-- The tiles that are left of a list that is trimmed. -/
noncomputable def tmL (L : List Tile) : List Tile := L.filter (trimB L)
theorem tmL_len (L : List Tile) : (tmL L).length ≤ L.length := List.length_filter_le _ _
theorem mem_tmL : t ∈ tmL L ↔ TrimP L t := by
  unfold tmL
  rw [List.mem_filter, trimB_iff]
  exact ⟨fun h => h.2, fun h => ⟨h.mem, h⟩⟩
/-- A stage of the trimming. -/
def Stm (L U : List Tile) : Prop := U.Sublist L ∧ ∀ t, TrimP L t → t ∈ U
theorem Stm.refl (L : List Tile) : Stm L L := ⟨List.Sublist.refl _, fun t h => h.mem⟩
theorem Stm.tq (h : Stm L U) (ht : TrimP L t) : TQ U t := fun k hk => by
  obtain ⟨b, b1, b2⟩ := ht.sup hk
  exact ⟨b, h.2 b b1, b2⟩
theorem Stm.step (h : Stm L U) : Stm L (U.filter (tqB U)) := ⟨List.filter_sublist.trans h.1, fun t ht => List.mem_filter.2 ⟨h.2 t ht, tqB_iff.2 (h.tq ht)⟩⟩
theorem Stm.erase (h : Stm L U) {i : Nat} (hi : i < U.length) (hn : ¬ TQ U U[i]) : Stm L (U.eraseIdx i) := by
  refine ⟨(List.eraseIdx_sublist _ _).trans h.1, fun t ht => ?_⟩
  obtain ⟨j, hj, e⟩ := List.getElem_of_mem (h.2 t ht)
  refine List.mem_eraseIdx_iff_getElem.2 ⟨j, hj, fun e2 => ?_, e⟩
  subst e2
  rw [e] at hn
  exact hn (h.tq ht)
theorem Stm.end_ (hL : L.Pairwise ltT) (h : Stm L U) (he : ∀ t ∈ U, TQ U t) : U = tmL L := by
  refine srt_unique ltT_sto (hL.sublist h.1) (hL.sublist List.filter_sublist) fun t => ?_
  rw [mem_tmL]
  refine ⟨fun ht => ⟨fun a => a ∈ U, ht, fun a ha => ⟨h.1.subset ha, fun k hk => ?_⟩⟩, h.2 t⟩
  obtain ⟨b, b1, b2⟩ := he a ha k hk
  exact ⟨b, b1, b2⟩
theorem tmL_idem (hL : L.Pairwise ltT) : tmL (tmL L) = tmL L := by
  refine ((Stm.refl (tmL L)).end_ (hL.sublist List.filter_sublist) fun t ht k hk => ?_).symm
  obtain ⟨b, b1, b2⟩ := (mem_tmL.1 ht).sup hk
  exact ⟨b, mem_tmL.2 b1, b2⟩
theorem kpL_tmL (L : List Tile) : kpL (tmL L) = tmL L := by
  refine List.filter_eq_self.2 fun t ht => lastB_iff.2 ⟨fun a => a ∈ tmL L, ht, fun a ha => ⟨ha, ?_, ?_⟩⟩
  · obtain ⟨b, b1, b2⟩ := (mem_tmL.1 ha).sup (k := 0) (by omega)
    exact ⟨b, mem_tmL.2 b1, b2⟩
  · obtain ⟨b, b1, b2⟩ := (mem_tmL.1 ha).sup (k := 2) (by omega)
    exact ⟨b, mem_tmL.2 b1, b2⟩
end
theorem setOK.trim {c : Int} {ts : List Tile} (h : setOK c ts) : setOK c (tmL ts) := by
  have hsub : (tmL ts).Sublist ts := List.filter_sublist
  have hle := tmL_len ts
  refine setOK_of h.1.1 h.1.2 (by have := h.2.1; omega) (h.pw.sublist hsub) fun t ht k hk => h.ts.2 t (hsub.subset ht) k hk
/-! ### long rows -/
theorem nodup_leY {α : Type} [DecidableEq α] : ∀ (l m : List α), l.Nodup → (∀ x ∈ l, x ∈ m) → l.length ≤ m.length
  | [], _, _, _ => by simp
  | a :: l, m, h, hs => by
    have h1 := List.nodup_cons.1 h
    have hm : a ∈ m := hs a (by simp)
    have := nodup_leY l (m.erase a) h1.2 fun x hx => (List.mem_erase_of_ne (fun e => h1.1 (by rw [← e]; exact hx))).2 (hs x (by simp [hx]))
    rw [List.length_erase_of_mem hm] at this
    have := List.length_pos_of_mem hm
    simp only [List.length_cons]
    omega
section
variable {c : Int} {ts : List Tile}
theorem sum_pos {α : Type} {f : α → Int} {S : List α} (h : ∀ s ∈ S, 0 ≤ f s) (hp : 0 < (S.map f).sum) : ∃ s ∈ S, 0 < f s := by
  refine Classical.byContradiction fun hn => ?_
  have hz : ∀ s ∈ S, f s = 0 := fun s hs => by
    have := h s hs
    by_cases h0 : 0 < f s
    · exact absurd ⟨s, hs, h0⟩ hn
    · omega
  rw [List.map_congr_left (g := fun _ => (0 : Int)) hz, sumJ_zero] at hp
  omega
theorem ite_nn {p : Prop} [Decidable p] {x : Int} (h : 0 ≤ x) : 0 ≤ if p then x else 0 := by split <;> omega
/-- A row of tiles that fit. -/
def ChT (ts : List Tile) (k : Nat) (p : Nat → Tile) : Prop := (∀ i, i < k → p i ∈ ts) ∧ ∀ i, i + 1 < k → sd (p i) 2 = sd (p (i + 1)) 0
theorem xcV_edR (v : Nat → Int) (j : Nat) : xcV (edR ts) v j = (ts.map fun t => if (sd t 2).toNat = j then v (sd t 0).toNat else 0).sum := by
  unfold xcV edR
  rw [List.map_map]; rfl
theorem chain_of (hs : setOK c ts) : ∀ (k : Nat) {v : Nat → Int} {j : Nat}, (∀ i, 0 ≤ v i) → 0 < xcN (edR ts) (k + 1) v j → ∃ p, ChT ts (k + 1) p ∧ 0 < v (sd (p 0) 0).toNat
  | 0, v, j, hv, h => by
    have h' : 0 < xcV (edR ts) v j := h
    rw [xcV_edR] at h'
    obtain ⟨t, ht, hp⟩ := sum_pos (f := fun t => if (sd t 2).toNat = j then v (sd t 0).toNat else 0) (fun t _ => ite_nn (hv _)) h'
    split at hp
    · exact ⟨fun _ => t, ⟨fun _ _ => ht, fun i hi => by omega⟩, hp⟩
    · omega
  | k + 1, v, j, hv, h => by
    have h' : 0 < xcN (edR ts) (k + 1) (xcV (edR ts) v) j := h
    obtain ⟨p, ⟨p1, p2⟩, p3⟩ := chain_of hs k (fun i => xcV_nn hv i) h'
    rw [xcV_edR] at p3
    obtain ⟨t, ht, hp⟩ := sum_pos (f := fun t => if (sd t 2).toNat = (sd (p 0) 0).toNat then v (sd t 0).toNat else 0) (fun t _ => ite_nn (hv _)) p3
    split at hp
    · next e =>
      have e' : sd t 2 = sd (p 0) 0 := by
        have a := (hs.ts.2 t ht 2 (by omega)).1
        have b := (hs.ts.2 (p 0) (p1 0 (by omega)) 0 (by omega)).1
        omega
      refine ⟨fun i => if i = 0 then t else p (i - 1), ⟨fun i hi => ?_, fun i hi => ?_⟩, by simpa using hp⟩
      · by_cases h0 : i = 0
        · simp only [h0, if_true]; exact ht
        · simp only [if_neg h0]; exact p1 _ (by omega)
      · by_cases h0 : i = 0
        · subst h0; simpa using e'
        · have := p2 (i - 1) (by omega)
          simp only [if_neg h0, if_neg (show ¬ i + 1 = 0 by omega), Nat.add_sub_cancel]
          rw [this]; congr 2; omega
    · omega
theorem chain_last (hs : setOK c ts) {p : Nat → Tile} (h : ChT ts 17 p) : ∃ t, LastP ts t := by
  have h16 := hs.2.1
  have hnd : ¬ ((List.range 17).map p).Nodup := fun hn => by
    have := nodup_leY _ ts hn fun x hx => by
      obtain ⟨i, hi, rfl⟩ := List.mem_map.1 hx
      exact h.1 i (List.mem_range.1 hi)
    rw [List.length_map, List.length_range] at this
    omega
  have hij : ∃ i j, i < j ∧ j < 17 ∧ p i = p j := by
    refine Classical.byContradiction fun hn => hnd ?_
    refine List.pairwise_iff_getElem.2 fun i j hi hj hij e => ?_
    rw [List.length_map, List.length_range] at hi hj
    simp only [List.getElem_map, List.getElem_range] at e
    exact hn ⟨i, j, hij, hj, e⟩
  obtain ⟨i, j, hij, hj, e⟩ := hij
  refine ⟨p i, fun a => ∃ m, i ≤ m ∧ m < j ∧ a = p m, ⟨i, Nat.le_refl _, hij, rfl⟩, ?_⟩
  rintro a ⟨m, hm1, hm2, rfl⟩
  refine ⟨h.1 m (by omega), ?_, ?_⟩
  · by_cases h0 : m = i
    · subst h0
      refine ⟨p (j - 1), ⟨j - 1, by omega, by omega, rfl⟩, ?_⟩
      rw [h.2 (j - 1) (by omega), show j - 1 + 1 = j by omega, e]
    · refine ⟨p (m - 1), ⟨m - 1, by omega, by omega, rfl⟩, ?_⟩
      rw [h.2 (m - 1) (by omega), show m - 1 + 1 = m by omega]
  · by_cases h0 : m + 1 = j
    · refine ⟨p i, ⟨i, Nat.le_refl _, hij, rfl⟩, ?_⟩
      rw [h.2 m (by omega), h0, e]
    · exact ⟨p (m + 1), ⟨m + 1, by omega, by omega, rfl⟩, (h.2 m (by omega)).symm⟩
theorem last_chain (hs : setOK c ts) : ∀ (k : Nat) {v : Nat → Int} {t : Tile}, (∀ i, 0 ≤ v i) → LastP ts t → 0 < v (sd t 0).toNat → ∃ j, j < c.toNat ∧ 0 < xcN (edR ts) k v j
  | 0, v, t, hv, ht, hp => by
    have := hs.ts.2 t ht.mem 0 (by omega)
    exact ⟨(sd t 0).toNat, by omega, hp⟩
  | k + 1, v, t, hv, ht, hp => by
    obtain ⟨_, b, b1, b2⟩ := ht.sup
    refine last_chain hs k (v := xcV (edR ts) v) (t := b) (fun i => xcV_nn hv i) b1 ?_
    rw [xcV_edR, b2]
    have := le_sum (f := fun a => if (sd a 2).toNat = (sd t 2).toNat then v (sd a 0).toNat else 0) (x := t) (S := ts) (fun t _ => ite_nn (hv _)) ht.mem
    rw [if_pos rfl] at this
    omega
theorem ways_last (hs : setOK c ts) : 0 < waysT (edR ts) c.toNat 17 ↔ ∃ t, LastP ts t := by
  have rep : ∀ s, s < c.toNat → Rep c.toNat (itL fS (edR ts) c.toNat 17 (unL c.toNat s)) (xcN (edR ts) 17 (un s)) := fun s hs' => itL_rep (edR_in hs) 17 (un_rep hs')
  have fpos : ∀ {x : Int}, 0 < fS x ↔ 0 < x := fun {x} => by rw [fS_if]; split <;> omega
  have fnn : ∀ {x : Int}, 0 ≤ x → 0 ≤ fS x := fun {x} h => by rw [fS_if]; split <;> omega
  have at' : ∀ s, (hs' : s < c.toNat) → ∀ j, (hj : j < (itL fS (edR ts) c.toNat 17 (unL c.toNat s)).length) → (itL fS (edR ts) c.toNat 17 (unL c.toNat s))[j] = fS (xcN (edR ts) 17 (un s) j) := fun s hs' j hj => by
    have h1 := (rep s hs').at_ j (by have := (rep s hs').len; omega)
    rw [List.getD_eq_getElem?_getD, List.getElem?_eq_getElem hj] at h1
    exact h1
  have nn : ∀ s, s < c.toNat → ∀ x ∈ itL fS (edR ts) c.toNat 17 (unL c.toNat s), 0 ≤ x := fun s hs' x hx => by
    obtain ⟨j, hj, rfl⟩ := List.getElem_of_mem hx
    rw [at' s hs' j hj]
    exact fnn (xcN_nn 17 (un_nn s) j)
  have nns : ∀ s, s < c.toNat → 0 ≤ (itL fS (edR ts) c.toNat 17 (unL c.toNat s)).sum := fun s hs' => by
    have := sum_nn (f := fun x : Int => x) (S := itL fS (edR ts) c.toNat 17 (unL c.toNat s)) (nn s hs')
    rwa [List.map_id'] at this
  constructor
  · intro h
    obtain ⟨s, hs1, hs2⟩ := sum_pos (fun s hs' => nns s (List.mem_range.1 hs')) h
    have hsN := List.mem_range.1 hs1
    obtain ⟨x, hx, hx0⟩ := sum_pos (f := fun x : Int => x) (nn s hsN) (by rw [List.map_id']; exact hs2)
    obtain ⟨j, hj, rfl⟩ := List.getElem_of_mem hx
    rw [at' s hsN j hj, fpos] at hx0
    obtain ⟨p, hp, _⟩ := chain_of hs 16 (un_nn s) hx0
    exact chain_last hs hp
  · rintro ⟨t, ht⟩
    have hb := hs.ts.2 t ht.mem 0 (by omega)
    have hsN : (sd t 0).toNat < c.toNat := by omega
    obtain ⟨j, hj, hp⟩ := last_chain hs 17 (un_nn (sd t 0).toNat) ht (by unfold un; rw [if_pos rfl]; omega)
    have hjl : j < (itL fS (edR ts) c.toNat 17 (unL c.toNat (sd t 0).toNat)).length := by rw [(rep _ hsN).len]; exact hj
    have e1 := at' _ hsN j hjl
    have h1 := le_sum (f := fun x : Int => x) (nn _ hsN) (List.getElem_mem hjl)
    rw [List.map_id'] at h1
    have h2 := le_sum (f := fun s => (itL fS (edR ts) c.toNat 17 (unL c.toNat s)).sum) (S := List.range c.toNat) (fun s hs' => nns s (List.mem_range.1 hs')) (List.mem_range.2 hsN)
    have h3 := fpos.2 hp
    unfold waysT
    omega
end
end Go.Proofs.Ytlcgclmobfdbcaa.Cl

/- What the arguments of a law are. No claim is stated here. -/
set_option linter.unusedVariables false
set_option linter.unusedSimpArgs false
namespace Go.Proofs.Ytlcgclmobfdbcaa.Cl
open Go
theorem den_int {P : Program} {h : H} {t : TypeId} {xs : List AVal} {pd : PD} {k : IntKind} (hu : P.underlying t = some (.int k)) (d : Den P h t xs pd) : ∃ n, xs = [.int k n] ∧ (Lit.int k n).wf = true := by
  cases d with
  | int a b => rw [hu] at a; cases a; exact ⟨_, rfl, b⟩
  | bool a => rw [hu] at a; cases a
  | arr a => rw [hu] at a; cases a
  | struct a => rw [hu] at a; cases a
  | sl a => rw [hu] at a; cases a
theorem den_sl {P : Program} {h : H} {t e : TypeId} {xs : List AVal} {pd : PD} (hu : P.underlying t = some (.slice e)) (d : Den P h t xs pd) : ∃ (s : Sl) (ass : List (List AVal)) (ds : List PD), xs = [.sl s] ∧ ass.length = s.len ∧ ds.length = s.len ∧ s.len ≤ maxLen ∧ Rd h s (P.cellsOf e) ass.flatten ∧ ∀ (i : Nat) a d, ass[i]? = some a → ds[i]? = some d → Den P h e a d := by
  cases d with
  | int a b => rw [hu] at a; cases a
  | bool a => rw [hu] at a; cases a
  | arr a => rw [hu] at a; cases a
  | struct a => rw [hu] at a; cases a
  | sl a b c d e f => rw [hu] at a; cases a; exact ⟨_, _, _, rfl, b, c, d, e, f⟩
end Go.Proofs.Ytlcgclmobfdbcaa.Cl

/- Draws: the source of numbers. No claim is stated here. -/
set_option linter.unusedVariables false
set_option linter.unusedSimpArgs false
namespace Go.Proofs.Ytlcgclmobfdbcaa.Cl
open Go
def bc (q : List Int) : List AVal := q.map (.int .u8)
theorem bc_len (q : List Int) : (bc q).length = q.length := by simp [bc]
/-- The source's object: the code, the place, the hash. -/
def Src (h : H) (o : Nat) : Prop := ∃ (s : Sl) (a x : Int) (q : List Int), Obj h o [.sl s, i64 a, .int .u64 x] ∧ Rd h s 1 (bc q) ∧ (s.len = 0 ∨ ∀ i, s.o = some i → i < o) ∧ 0 ≤ a ∧ a ≤ q.length ∧ q.length ≤ 1000000 ∧ ∀ b ∈ q, 0 ≤ b ∧ b < 256
section
variable {h h' : H} {o : Nat}
theorem Src.lt (r : Src h o) : o < h.length := by obtain ⟨_, _, _, _, a, _⟩ := r; exact a.lt
theorem Src.chg {P : Nat → Prop} (r : Src h o) (c : Chg P h h') (hP : ∀ i, i ≤ o → ¬ P i) : Src h' o := by
  obtain ⟨s, a, x, q, h1, h2, h3, h4⟩ := r
  refine ⟨s, a, x, q, h1.chg c (hP o (Nat.le_refl _)), ?_, h3, h4⟩
  rcases h3 with h3 | h3
  · exact ⟨h2.len, .inl h3⟩
  · exact h2.chg c fun i e => hP i (by have := h3 i e; omega)
theorem srcRd {s : Sl} {z : Nat} {cs : List AVal} (h3 : s.len = 0 ∨ ∀ i, s.o = some i → i < o) (h2 : Rd h s z cs) (b : But (some o) h h') : Rd h' s z cs := by
  rcases h3 with h3 | h3
  · exact ⟨h2.len, .inl h3⟩
  · refine h2.but b ?_
    cases hs : s.o with
    | none => exact .inl (by simp)
    | some i => exact .inl fun e => by have := h3 i hs; have := Option.some.inj e; omega
theorem Src.ext (r : Src h o) (e : Ext h h') : Src h' o := r.chg (e.chg fun _ => False) fun _ _ f => f
theorem Src.but {p : Option Nat} (r : Src h o) (b : But p h h') (hp : ∀ i, p = some i → o < i) : Src h' o := r.chg (b.chg (P := fun i => p = some i) fun i e => e) fun i hi e => by have := hp i e; omega
theorem Rd.blen {s : Sl} {q : List Int} (r : Rd h s 1 (bc q)) : s.len = q.length := by have := r.len; rw [bc_len] at this; omega
theorem Rd.ldByte {s : Sl} {q : List Int} (r : Rd h s 1 (bc q)) {i : Int} (h0 : 0 ≤ i) (h1 : i < q.length) {K : Int → Prop} (hk : ∀ x, x ∈ q → K x) : ixS s 1 i fun p => Cl.ldI .u8 p h K := by
  have hlen := r.blen
  have hx : q[i.toNat]? = some q[i.toNat] := List.getElem?_eq_getElem (by omega)
  obtain hl | ⟨a, b, c⟩ := r.at_
  · omega
  · refine ⟨⟨h0, by omega⟩, a, b, q[i.toNat], ?_, hk _ (List.getElem_mem _)⟩
    have := cell_of_range c (i := i.toNat) (by omega)
    rw [Nat.mul_one, this]
    unfold bc
    rw [List.getElem?_map, hx]
    rfl
theorem wrap_u64 {n : Int} (h0 : 0 ≤ n) (h1 : n < 18446744073709551616) : IntKind.wrap .u64 n = n := by
  unfold IntKind.wrap
  simp [IntKind.bits, IntKind.signed] <;> omega
theorem and_bound (x : Int) : 0 ≤ bitsOp .and .u64 x 16777215 ∧ bitsOp .and .u64 x 16777215 ≤ 16777215 := by
  unfold bitsOp
  simp only
  have h : ((BitVec.ofInt (IntKind.u64).bits x) &&& (BitVec.ofInt (IntKind.u64).bits 16777215)).toNat ≤ 16777215 := by
    rw [BitVec.toNat_and]
    exact Nat.le_trans Nat.and_le_right (by decide)
  rw [wrap_u64 (by omega) (by omega)]
  omega
/-- A number handed out for n. -/
def Nx (n x : Int) : Prop := 0 ≤ x ∧ (1 ≤ n → x < n) ∧ (n < 1 → x = 0)
theorem Nx.le {n x : Int} (h : Nx n x) : x ≤ max n 0 := by
  by_cases hn : 1 ≤ n
  · have := h.2.1 hn; omega
  · have := h.2.2 (by omega); omega
theorem Nx.tmod {n y : Int} (hn : 1 ≤ n) (hy : 0 ≤ y) : Nx n (Int.tmod y n) := by
  rw [Int.tmod_eq_emod_of_nonneg hy]
  exact ⟨Int.emod_nonneg _ (by omega), fun _ => Int.emod_lt_of_pos _ (by omega), fun h => by omega⟩
theorem next_c (r : Src h o) (n : Int) : callI SP .i64 i_spec_l01Next [.ptr ⟨some o, 3, 0⟩, i64 n] h fun x h' => Nx n x ∧ Src h' o ∧ But (some o) h h' ∧ h'.length = h.length := by
  have hr := r
  obtain ⟨s, a, x, q, h1, h2, h3, h4, h5, h6, h7⟩ := r
  have hl := h2.blen
  apply spec_l01Next_call
  unfold spec_l01Next_main
  refine bif_dec (fun hn => ⟨_, rfl, ⟨by omega, fun h => by omega, fun _ => rfl⟩, hr, But.refl _ _, rfl⟩) (fun hn => ?_)
  refine ⟨rfl, isPt_in (h1.ldI rfl rfl ⟨rfl, isPt_in ?_⟩)⟩
  refine h1.st1 rfl (by simp) _ fun g1 o1 b1 l1 => ?_
  refine ⟨rfl, isPt_in (o1.ldI rfl rfl ⟨by decide, ⟨rfl, isPt_in (o1.ldI (m := a) rfl rfl ⟨rfl, isPt_in (o1.ldS (m := s) rfl rfl ?_)⟩)⟩⟩)⟩
  have r1 : Rd g1 s 1 (bc q) := srcRd h3 h2 b1
  have hb := and_bound (shrI .u64 (IntKind.wrap .u64 ((IntKind.wrap .u64 (x * 6364136223846793005)) + 1442695040888963407)) 33)
  refine bif_dec (fun hi => ?_) (fun hi => ?_)
  · refine ⟨rfl, isPt_in (o1.ldS (m := s) rfl rfl ⟨rfl, isPt_in (o1.ldI (m := a) rfl rfl ?_)⟩)⟩
    refine r1.ldByte h4 (by omega) fun y hy => ?_
    have hy2 := h7 y hy
    refine ⟨rfl, isPt_in (o1.ldI (m := a) rfl rfl ⟨rfl, isPt_in ?_⟩)⟩
    refine o1.st1 rfl (by simp) _ fun g2 o2 b2 l2 => ?_
    refine ⟨by omega, ?_⟩
    refine ⟨_, rfl, ?_, ?_, b1.trans b2, by omega⟩
    · rw [w64_of (n := y) (by omega) (by omega)]
      refine Nx.tmod (by omega) ?_
      generalize bitsOp .and .u64 (shrI .u64 (IntKind.wrap .u64 ((IntKind.wrap .u64 (x * 6364136223846793005)) + 1442695040888963407)) 33) 16777215 = z at *
      rw [w64_of (n := z) (by omega) (by omega), w64_of (n := z + y) (by omega) (by omega)]
      omega
    · refine ⟨s, w64 (a + 1), _, q, o2, ?_, h3, ?_, ?_, h6, h7⟩
      · exact srcRd h3 r1 b2
      · rw [w64_of (by omega) (by omega)]; omega
      · rw [w64_of (by omega) (by omega)]; omega
  · refine ⟨by omega, ?_⟩
    refine ⟨_, rfl, ?_, ⟨s, a, _, q, o1, r1, h3, h4, h5, h6, h7⟩, b1, l1⟩
    refine Nx.tmod (by omega) ?_
    generalize bitsOp .and .u64 (shrI .u64 (IntKind.wrap .u64 ((IntKind.wrap .u64 (x * 6364136223846793005)) + 1442695040888963407)) 33) 16777215 = z at *
    rw [w64_of (n := z) (by omega) (by omega)]
    omega
set_option maxRecDepth 20000 in
theorem from_c {s : Sl} {q : List Int} (r : Rd h s 1 (bc q)) (hs : s.len = 0 ∨ ∀ i, s.o = some i → i < h.length) (hq : q.length ≤ 1000000) (hb : ∀ b ∈ q, 0 ≤ b ∧ b < 256) : callP SP i_spec_l01From [.sl s] h fun p h' => p = ⟨some h.length, 3, 0⟩ ∧ Src h' h.length ∧ Ext h h' := by
  have hl := r.blen
  apply spec_l01From_call
  unfold spec_l01From_main
  refine newK_obj fun h1 o1 x1 n1 => ?_
  refine spec_l01From_rule0 _ _ _ _ (fun i g => ∃ (k : Nat) (x : Int), i = k ∧ k ≤ q.length ∧ Obj g h.length [.sl s, i64 0, .int .u64 x] ∧ Chg (fun i => i = h.length) h1 g) (fun i _ => ((q.length : Int) - i).toNat) ?_ _ ⟨0, _, rfl, by omega, o1, Chg.refl _ _⟩
  rintro X _ g ⟨k, x, rfl, hk, og, ch⟩ hX
  have E : Ext h g := x1.chg_ ch fun i e => by omega
  have rg := r.ext E
  have fin : spec_l01From_C0 SP (fun v h' => ∃ r, v = .ptr r ∧ r = ⟨some h.length, 3, 0⟩ ∧ Src h' h.length ∧ Ext h h') ⟨some h.length, 3, 0⟩ g := ⟨_, rfl, rfl, ⟨s, 0, x, q, og, rg, hs, by omega, by omega, hq, hb⟩, E⟩
  unfold spec_l01From_b0
  refine bif_dec (fun hi => ?_) (fun hi => fin)
  refine bif_b (fun _ => ?_) (fun _ => fin)
  refine ⟨rfl, isPt_in (og.ldI rfl rfl ?_)⟩
  refine rg.ldByte (by omega) (by omega) fun y hy => ?_
  refine ⟨rfl, isPt_in ?_⟩
  refine og.st1 rfl (by simp) _ fun g2 o2 b2 l2 => ?_
  rw [w64_of (by omega) (by omega)]
  exact hX _ _ ⟨k + 1, _, by push_cast; rfl, by omega, o2, ch.trans (b2.chg fun i e => (Option.some.inj e).symm)⟩ (by omega)
theorem pick_c (r : Src h o) {s : Sl} {l : List Int} (rs : Rd h s 1 (ic l)) (hs : s.o ≠ some o) (hl : 1 ≤ l.length) : callI SP .i64 i_spec_l01Pick [.ptr ⟨some o, 3, 0⟩, .sl s] h fun x h' => x ∈ l ∧ Src h' o ∧ But (some o) h h' ∧ h'.length = h.length := by
  have hsl := rs.ilen
  apply spec_l01Pick_call
  unfold spec_l01Pick_main
  refine (next_c r _).to ?_
  rintro x h1 ⟨hx, r1, b1, l1⟩
  have := hx.2.1 (by omega)
  refine (rs.but b1 (.inl fun e => hs e.symm)).ldI hx.1 (by omega) fun y hy => ?_
  exact ⟨_, rfl, List.mem_of_getElem? hy, r1, b1, l1⟩
theorem pickN_c (r : Src h o) {n : Nat} {cs : List AVal} {l : List Int} (hcs : cs = ic l) (hn : l.length = n) (hl : 1 ≤ l.length) {K : Int → H → Prop} (hk : ∀ x h', x ∈ l → Src h' o → Chg (fun i => i = o) h h' → K x h') :
    newS n 1 cs h fun s h1 => callI SP .i64 i_spec_l01Pick [.ptr ⟨some o, 3, 0⟩, .sl s] h1 K := by
  subst hcs
  refine newS_ow (by rw [ic_len, hn, Nat.mul_one]) fun s h1 os ls so e1 => ?_
  have x1 : Ext h h1 := by rw [e1]; exact Ext.app _ _
  have hlt := r.lt
  refine (pick_c (r.ext x1) os.rd (by rw [so]; intro e; have := Option.some.inj e; omega) hl).to ?_
  rintro x h2 ⟨hx, r2, b2, _⟩
  exact hk x h2 hx r2 ((x1.chg _).trans (b2.chg fun i e => (Option.some.inj e).symm))
/-- A drawn tile of c colours. -/
def DT (c : Int) (t : Tile) : Prop := ∀ k, k < 4 → Nx c (sd t k)
theorem drawTile_c (r : Src h o) (c : Int) : callA SP i_spec_l01DrawTile [.ptr ⟨some o, 3, 0⟩, i64 c] h fun cs h' => ∃ t, cs = tc t ∧ DT c t ∧ Src h' o ∧ Chg (fun i => i = o) h h' := by
  apply spec_l01DrawTile_call
  unfold spec_l01DrawTile_main
  refine newO_obj fun h1 o1 x1 n1 => ?_
  have hlt := r.lt
  have r1 := r.ext x1
  refine (next_c r1 c).to ?_
  rintro a h2 ⟨ha, r2, b2, l2⟩
  refine (next_c r2 c).to ?_
  rintro b h3 ⟨hb, r3, b3, l3⟩
  refine (next_c r3 c).to ?_
  rintro d h4 ⟨hd, r4, b4, l4⟩
  refine (next_c r4 c).to ?_
  rintro e h5 ⟨he, r5, b5, l5⟩
  have b15 := ((b2.trans b3).trans b4).trans b5
  have o5 := o1.but b15 (fun e => by have := Option.some.inj e; omega)
  refine o5.stA fun h6 o6 b6 n6 => ?_
  refine o6.ldA rfl ⟨_, rfl, (a, b, d, e), rfl, fun k hk => ?_, r5.but b6 (fun i e => by have := Option.some.inj e; omega), ?_⟩
  · have hk' : k = 0 ∨ k = 1 ∨ k = 2 ∨ k = 3 := by omega
    rcases hk' with rfl | rfl | rfl | rfl
    · exact ha
    · exact hb
    · exact hd
    · exact he
  · exact (((x1.chg (fun i => i = o ∨ h.length ≤ i)).trans (b15.chg fun i e => .inl (Option.some.inj e).symm)).trans (b6.chg fun i e => .inr (by have := Option.some.inj e; omega))).to fun i hi e => by omega
end
end Go.Proofs.Ytlcgclmobfdbcaa.Cl

/- The laws' own comparisons and sums. No claim is stated here. -/
set_option linter.unusedVariables false
set_option linter.unusedSimpArgs false
namespace Go.Proofs.Ytlcgclmobfdbcaa.Cl
open Go
theorem likeInts_c {h0 : H} {s s' : Sl} {l l' : List Int} (r : Rd h0 s 1 (ic l)) (r' : Rd h0 s' 1 (ic l')) (hl : l.length < 4000000000000000000) : callB SP i_laws_likeInts [.sl s, .sl s'] h0 fun b h' => b = (l == l') ∧ h' = h0 := by
  have hlen : s.len = l.length := by have := r.len; rw [ic_len] at this; omega
  have hlen' : s'.len = l'.length := by have := r'.len; rw [ic_len] at this; omega
  apply laws_likeInts_call
  unfold laws_likeInts_main
  refine bif_ne (fun hq => ?_) (fun hq => ?_)
  · refine ⟨_, rfl, ?_, rfl⟩
    cases hb : l == l' with
    | false => rfl
    | true => rw [beq_iff_eq] at hb; subst hb; omega
  refine laws_likeInts_rule0 _ _ _ _ (fun i h => 0 ≤ i ∧ i ≤ l.length ∧ h = h0 ∧ ∀ j, j < i.toNat → l[j]? = l'[j]?) (fun i _ => (l.length - i).toNat) ?_ _ ⟨by omega, by omega, rfl, fun j hj => by omega⟩
  rintro X i _ ⟨i0, i1, rfl, hn⟩ hX
  unfold laws_likeInts_b0 laws_likeInts_C0
  refine bif_dec (fun hi => ?_) (fun hi => ?_)
  · refine r.ldI i0 (by omega) fun x hxe => r'.ldI i0 (by omega) fun y hye => ?_
    refine bif_ne (fun hq => ?_) (fun hq => ?_)
    · refine ⟨_, rfl, ?_, rfl⟩
      cases hb : l == l' with
      | false => rfl
      | true =>
        rw [beq_iff_eq] at hb; subst hb
        rw [hxe] at hye; cases hye
        exact absurd rfl hq
    · rw [w64_of (by omega) (by omega)]
      refine hX _ _ ⟨by omega, by omega, rfl, fun j hj => ?_⟩ (by omega)
      by_cases hji : j = i.toNat
      · subst hji
        rw [hxe, hye, hq]
      · exact hn j (by omega)
  · refine ⟨_, rfl, ?_, rfl⟩
    symm
    rw [beq_iff_eq]
    apply List.ext_getElem?
    intro j
    by_cases hj : j < l.length
    · exact hn j (by omega)
    · rw [List.getElem?_eq_none (by omega), List.getElem?_eq_none (by omega)]
theorem big_c {h : H} (s : Sl) : callB SP i_laws_big [.sl s] h fun b h' => b = decide ((s.len : Int) > 4096) ∧ h = h' := by
  apply laws_big_call
  unfold laws_big_main
  exact ⟨_, rfl, rfl, rfl⟩
theorem all_bytes {P : Program} {h : H} {t : TypeId} (ht : P.underlying t = some (.int .u8)) : ∀ (ass : List (List AVal)) (ds : List PD), ass.length = ds.length → (∀ (i : Nat) a d, ass[i]? = some a → ds[i]? = some d → Den P h t a d) → ∃ l : List Int, ass.flatten = bc l ∧ ∀ b ∈ l, 0 ≤ b ∧ b < 256
  | [], _, _, _ => ⟨[], rfl, fun b hb => by cases hb⟩
  | a :: ass, [], h, _ => by simp at h
  | a :: ass, d :: ds, hl, hd => by
    obtain ⟨n, rfl, w⟩ := den_int ht (hd 0 a d rfl rfl)
    obtain ⟨l, e, hb⟩ := all_bytes ht ass ds (by simpa using hl) (fun i a d x y => hd (i + 1) a d (by simpa using x) (by simpa using y))
    have w' : (decide (IntKind.u8.min ≤ n) && decide (n ≤ IntKind.u8.max)) = true := w
    simp only [Bool.and_eq_true, decide_eq_true_eq] at w'
    have h1 : IntKind.u8.min = 0 := by decide
    have h2 : IntKind.u8.max = 255 := by decide
    refine ⟨n :: l, by rw [List.flatten_cons, e]; rfl, fun b hb' => ?_⟩
    rcases List.mem_cons.1 hb' with rfl | hb'
    · omega
    · exact hb b hb'
theorem arg_bytes {P : Program} {h : H} {t u : TypeId} {xs : List AVal} {pd : PD} (ht : P.underlying t = some (.slice u)) (hu : P.underlying u = some (.int .u8)) (hc : P.cellsOf u = 1) (d : Den P h t xs pd) : ∃ (s : Sl) (l : List Int), xs = [.sl s] ∧ Rd h s 1 (bc l) ∧ ∀ b ∈ l, 0 ≤ b ∧ b < 256 := by
  obtain ⟨s, ass, ds, rfl, l1, l2, l3, r, hd⟩ := den_sl ht d
  obtain ⟨l, e, hb⟩ := all_bytes hu ass ds (by omega) hd
  rw [hc, e] at r
  exact ⟨s, l, rfl, r, hb⟩
end Go.Proofs.Ytlcgclmobfdbcaa.Cl

/- IsDetermined, on both sides. No claim is stated here. -/
set_option linter.unusedVariables false
set_option linter.unusedSimpArgs false
namespace Go.Proofs.Ytlcgclmobfdbcaa.Cl
open Go
/-- Two tiles alike at two sides that follow each other. -/
def alikeC (ts : List Tile) (k : Nat) (i j : Nat) : Prop := sd (tat ts (i : Int)) k = sd (tat ts (j : Int)) k ∧ sd (tat ts (i : Int)) ((k + 1) % 4) = sd (tat ts (j : Int)) ((k + 1) % 4)
def detC (ts : List Tile) (k : Nat) : Prop := ∀ i j, j < i → i < ts.length → ¬ alikeC ts k i j
open Classical in
noncomputable def F_IsDetermined_0 (c : Int) (ts : List Tile) (n : Int) : Bool := if codeOf (setOK c ts) (0 ≤ n ∧ n ≤ 3) = 0 then bP (detC ts n.toNat) else false
section
variable {h0 : H} {c : Int} {s : Sl} {ts : List Tile} {n : Int}
theorem spec_IsDetermined_c (r : Rd h0 s 4 (tcs ts)) (sz : ts.length ≤ 1048576) :
    callV SP i_spec_IsDetermined [.agg (SetC c s), i64 n] h0 fun v h' => v = .tuple [.bool (F_IsDetermined_0 c ts n), i64 (codeOf (setOK c ts) (0 ≤ n ∧ n ≤ 3))] ∧ Ext h0 h' := by
  have hsl := r.tlen
  apply spec_IsDetermined_call
  unfold spec_IsDetermined_main
  refine newK_obj fun h1 o1 x1 n1 => ?_
  refine o1.ldA rfl ?_
  refine (l01Is_c (c := c) (r.ext x1)).to ?_
  rintro b h2 ⟨hb, x2⟩
  have X2 := x1.trans x2
  refine bif_not (fun hq => ⟨?_, X2⟩) (fun hq => ?_)
  · have hno : ¬ setOK c ts := fun h => by rw [hb.2 h] at hq; cases hq
    unfold F_IsDetermined_0
    rw [codeOf_no hno]; rfl
  have hs := hb.1 hq
  have h16 := hs.2.1
  refine (l01In_c n 0 3 h2).to ?_
  rintro _ h3 ⟨rfl, hh⟩
  obtain rfl := hh.symm
  refine bif_not (fun hr => ⟨?_, X2⟩) (fun hr => ?_)
  · have hno : ¬ (0 ≤ n ∧ n ≤ 3) := by simpa using hr
    unfold F_IsDetermined_0
    rw [codeOf_range hs hno]; rfl
  have hn : 0 ≤ n ∧ n ≤ 3 := by simpa using hr
  have hc := codeOf_yes hs hn
  have hk1 : Int.tmod (w64 (n + 1)) 4 = (((n.toNat + 1) % 4 : Nat) : Int) := by
    rw [w64_of (by omega) (by omega), Int.tmod_eq_emod_of_nonneg (by omega)]; omega
  have hk4 : (n.toNat + 1) % 4 < 4 := Nat.mod_lt _ (by omega)
  refine ⟨by decide, ?_⟩
  rw [hk1]
  have p2 := o1.ext x2
  have r2 := r.ext X2
  have fin : ∀ {b : Bool}, (b = true ↔ detC ts n.toNat) → AVal.tuple [.bool b, i64 0] = .tuple [.bool (F_IsDetermined_0 c ts n), i64 (codeOf (setOK c ts) (0 ≤ n ∧ n ≤ 3))] ∧ Ext h0 h2 := fun {b} hb => by
    refine ⟨?_, X2⟩
    unfold F_IsDetermined_0
    rw [if_pos hc, hc, bP_of hb]
  refine spec_IsDetermined_rule1 _ _ _ _ _ (fun i g => ∃ z : Nat, i = z ∧ z ≤ ts.length ∧ (∀ i j, j < i → i < z → ¬ alikeC ts n.toNat i j) ∧ h2 = g) (fun i _ => ((ts.length : Int) - i).toNat) ?_ _ ⟨0, rfl, by omega, fun i j _ h => by omega, rfl⟩
  rintro X _ _ ⟨z, rfl, hz, hno, rfl⟩ hX
  unfold spec_IsDetermined_b1
  refine isPt_in (p2.ldS rfl rfl ?_)
  refine bif_dec (fun hi => ?_) (fun hi => ?_)
  rotate_left
  · unfold spec_IsDetermined_C1
    refine fin ⟨fun _ i j hji hi' => hno i j hji (by omega), fun _ => rfl⟩
  refine spec_IsDetermined_rule3 _ _ X _ _ _ _ (fun j g => ∃ y : Nat, j = y ∧ y ≤ z ∧ (∀ j, j < y → ¬ alikeC ts n.toNat z j) ∧ h2 = g) (fun j _ => ((z : Int) - j).toNat) ?_ _ ⟨0, rfl, by omega, fun j h => by omega, rfl⟩
  rintro X3 _ _ ⟨y, rfl, hy, hny, rfl⟩ hX3
  unfold spec_IsDetermined_b3
  refine bif_dec (fun hj => ?_) (fun hj => ?_)
  · have next : ¬ alikeC ts n.toNat z y → X3 (spec_IsDetermined_e3 ⟨some h0.length, 2, 0⟩ n (((n.toNat + 1) % 4 : Nat) : Int) (z : Int) (w64 ((y : Int) + 1))) h2 := fun hn' => by
      rw [w64_of (by omega) (by omega)]
      refine hX3 _ _ ⟨y + 1, by push_cast; rfl, by omega, fun j hj' => ?_, rfl⟩ (by omega)
      by_cases e : j = y
      · subst e; exact hn'
      · exact hny j (by omega)
    refine isPt_in (p2.ldS rfl rfl ?_)
    refine r2.sideG (by omega) (by omega) hn.1 (by omega) ?_
    refine isPt_in (p2.ldS rfl rfl ?_)
    refine r2.sideG (by omega) (by omega) hn.1 (by omega) ?_
    refine bif_eq (fun e1 => ?_) (fun e1 => next fun h => e1 h.1)
    refine isPt_in (p2.ldS rfl rfl ?_)
    refine r2.sideG (by omega) (by omega) (by omega) (by omega) ?_
    refine isPt_in (p2.ldS rfl rfl ?_)
    refine r2.sideG (by omega) (by omega) (by omega) (by omega) ?_
    rw [Int.toNat_natCast]
    refine bif_eq (fun e2 => fin ⟨fun h => (by cases h), fun h => absurd ⟨e1, e2⟩ (h z y (by omega) (by omega))⟩) (fun e2 => next fun h => e2 h.2)
  · unfold spec_IsDetermined_C3 spec_IsDetermined_C2
    rw [w64_of (by omega) (by omega)]
    refine hX _ _ ⟨z + 1, by push_cast; rfl, by omega, fun i j hji hi' => ?_, rfl⟩ (by omega)
    by_cases e : i = z
    · subst e; exact hny j (by omega)
    · exact hno i j hji (by omega)
end
end Go.Proofs.Ytlcgclmobfdbcaa.Cl

/- IsDetermined: the program's; and of turned sets. No claim is stated here. -/
set_option linter.unusedVariables false
set_option linter.unusedSimpArgs false
namespace Go.Proofs.Ytlcgclmobfdbcaa.Cl
open Go
theorem tcs_take : ∀ (ts : List Tile) (k : Nat), (tcs ts).take (k * 4) = tcs (ts.take k)
  | [], k => by simp [tcs]
  | t :: ts, 0 => by simp [tcs]
  | t :: ts, k + 1 => by
    have h := tcs_take ts k
    show (tc t ++ tcs ts).take _ = tc t ++ tcs (ts.take k)
    rw [← h, List.take_append]
    have : (tc t).length = 4 := rfl
    rw [this, List.take_of_length_le (by rw [this]; omega), show (k + 1) * 4 - 4 = k * 4 by omega]
theorem tcs_drop : ∀ (ts : List Tile) (k : Nat), (tcs ts).drop (k * 4) = tcs (ts.drop k)
  | [], k => by simp [tcs]
  | t :: ts, 0 => by simp
  | t :: ts, k + 1 => by
    have h := tcs_drop ts k
    show (tc t ++ tcs ts).drop _ = tcs (ts.drop k)
    rw [← h, List.drop_append]
    have : (tc t).length = 4 := rfl
    rw [this, List.drop_eq_nil_of_le (by rw [this]; omega), show (k + 1) * 4 - 4 = k * 4 by omega, List.nil_append]
section
variable {h0 : H} {c : Int} {s : Sl} {ts : List Tile} {n : Int}
theorem impl_IsDetermined_1_c (o : Nat) (n : Int) {h : H} (v : Var h o (i64 n)) : callB SP i_impl_IsDetermined_1 [.ptr (pt o)] h fun b h' => (b = true ↔ 0 ≤ n ∧ n ≤ 3) ∧ Ext h h' := by
  apply impl_IsDetermined_1_call
  unfold impl_IsDetermined_1_main
  refine v.ldI ?_
  exact within_k ⟨_, rfl, by rw [decide_eq_true_eq], Ext.refl _⟩
theorem impl_IsDetermined_c (r : Rd h0 s 4 (tcs ts)) (sz : ts.length ≤ 1048576) (bn : i64ok n) :
    callV SP i_impl_IsDetermined [.agg (SetC c s), i64 n] h0 fun v h' => v = .tuple [.bool (F_IsDetermined_0 c ts n), i64 (codeOf (setOK c ts) (0 ≤ n ∧ n ≤ 3))] ∧ Ext h0 h' := by
  have hsl := r.tlen
  apply impl_IsDetermined_call
  unfold impl_IsDetermined_main
  refine newK_obj fun h1 o1 x1 n1 => ?_
  refine newO_var fun h2 v2 x2 n2 => ?_
  have p1 := o1.ext x2
  have X := x1.trans x2
  refine p1.ldA rfl ?_
  refine (setCode_c (r.ext X) (by omega) i_impl_IsDetermined_1 _ (0 ≤ n ∧ n ≤ 3) fun hs g hg => impl_IsDetermined_1_c _ n (v2.ext hg)).to ?_
  rintro _ h4 ⟨rfl, x4⟩
  have X4 := X.trans x4
  refine bif_ne (fun hne => ⟨?_, X4⟩) (fun he => ?_)
  · unfold F_IsDetermined_0; rw [if_neg hne]
  have hok := codeOf_zero he
  have hs := hok.1
  have hn := hok.2
  have h16 := hs.2.1
  have w2 := v2.ext x4
  refine w2.ldI ?_
  refine w2.ldI ?_
  have hk1 : Int.tmod (w64 (n + 1)) 4 = (((n.toNat + 1) % 4 : Nat) : Int) := by
    rw [w64_of (by omega) (by omega), Int.tmod_eq_emod_of_nonneg (by omega)]; omega
  have hk4 : (n.toNat + 1) % 4 < 4 := Nat.mod_lt _ (by omega)
  refine ⟨by decide, ?_⟩
  rw [hk1]
  have q1 := p1.ext x4
  have r4 := r.ext X4
  refine isPt_in (q1.ldS rfl rfl ?_)
  have fin : ∀ {b : Bool} {g : H}, (b = true ↔ detC ts n.toNat) → Ext h4 g → AVal.tuple [.bool b, i64 0] = .tuple [.bool (F_IsDetermined_0 c ts n), i64 (codeOf (setOK c ts) (0 ≤ n ∧ n ≤ 3))] ∧ Ext h0 g := fun {b g} hb y => by
    refine ⟨?_, X4.trans y⟩
    unfold F_IsDetermined_0
    rw [if_pos he, he, bP_of hb]
  refine impl_IsDetermined_rule0 _ _ _ _ _ _ _ (fun i g => ∃ z : Nat, i = z ∧ z ≤ ts.length ∧ (∀ i j, j < i → i < z → ¬ alikeC ts n.toNat i j) ∧ Ext h4 g) (fun i _ => ((ts.length : Int) - i).toNat) ?_ _ ⟨0, rfl, by omega, fun i j _ h => by omega, Ext.refl _⟩
  rintro X0 _ g ⟨z, rfl, hz, hno, y⟩ hX
  unfold impl_IsDetermined_b0
  refine bif_dec (fun hi => ?_) (fun hi => ?_)
  rotate_left
  · unfold impl_IsDetermined_C0
    exact fin ⟨fun _ i j hji hi' => hno i j hji (by omega), fun _ => rfl⟩ y
  have hzl : z < ts.length := by omega
  refine (r4.ext y).tileG (by omega) (by omega) ?_
  refine newO_obj fun g1 o5 y1 m1 => ?_
  refine o5.stA fun g2 o6 b6 m6 => ?_
  have y2 : Ext g g2 := y1.but_ b6 (some_le (Nat.le_refl _))
  have Y2 := y.trans y2
  refine isPt_in ((q1.ext Y2).ldS rfl rfl ?_)
  refine cut_rd (r4.ext Y2) (by omega) (by omega) (by omega) (by omega) fun s' rs' so' sl' => ?_
  rw [show (((z : Nat) : Int) - 0).toNat * 4 = z * 4 by omega, show (0 : Int).toNat * 4 = 0 from rfl, List.drop_zero, tcs_take] at rs'
  have hl' : s'.len = z := by omega
  have htl : (ts.take z).length = z := by rw [List.length_take]; omega
  rw [hl']
  refine impl_IsDetermined_rule2 _ _ X0 _ _ _ _ _ _ _ _ _ (fun j q => ∃ w : Nat, j = w ∧ w ≤ z ∧ (∀ j, j < w → ¬ alikeC ts n.toNat z j) ∧ Ext g2 q) (fun j _ => ((z : Int) - j).toNat) ?_ _ ⟨0, rfl, by omega, fun j h => by omega, Ext.refl _⟩
  rintro X2 _ q ⟨w, rfl, hw, hny, yq⟩ hY
  unfold impl_IsDetermined_b2
  refine bif_dec (fun hj => ?_) (fun hj => ?_)
  · refine (rs'.ext yq).tileG (by omega) (by omega) ?_
    have tw : tat (ts.take z) (w : Int) = tat ts (w : Int) := by
      unfold tat
      rw [Int.toNat_natCast, List.getD_eq_getElem?_getD, List.getD_eq_getElem?_getD, List.getElem?_take_of_lt (by omega)]
    rw [tw]
    refine newO_obj fun q1' o7 y7 m7 => ?_
    refine o7.stA fun q2 o8 b8 m8 => ?_
    have y8 : Ext q q2 := y7.but_ b8 (some_le (Nat.le_refl _))
    have o6q := o6.ext (yq.trans y8)
    have next : ∀ {q' : H}, Ext q q' → ¬ alikeC ts n.toNat z w → X2 (impl_IsDetermined_e2 ⟨some h0.length, 2, 0⟩ n (((n.toNat + 1) % 4 : Nat) : Int) ⟨some g.length, 4, 0⟩ s (s.len : Int) (z : Int) s' (z : Int) (w64 ((w : Int) + 1))) q' := fun {q'} yy hn' => by
      rw [w64_of (by omega) (by omega)]
      refine hY _ _ ⟨w + 1, by push_cast; rfl, by omega, fun j hj' => ?_, yq.trans yy⟩ (by omega)
      by_cases e : j = w
      · subst e; exact hn'
      · exact hny j (by omega)
    refine o6q.sdI (by omega) (by omega) ?_
    refine o8.sdI (by omega) (by omega) ?_
    refine bif_eq (fun e1 => ?_) (fun e1 => next y8 fun h => e1 h.1)
    refine o6q.sdI (by omega) (by omega) ?_
    refine o8.sdI (by omega) (by omega) ?_
    rw [Int.toNat_natCast]
    exact bif_eq (fun e2 => fin ⟨fun h => (by cases h), fun h => absurd ⟨e1, e2⟩ (h z w (by omega) hzl)⟩ (Y2.trans (yq.trans y8))) (fun e2 => next y8 fun h => e2 h.2)
  · unfold impl_IsDetermined_C2 impl_IsDetermined_C1
    rw [w64_of (by omega) (by omega)]
    refine hX _ _ ⟨z + 1, by push_cast; rfl, by omega, fun i j hji hi' => ?_, Y2.trans yq⟩ (by omega)
    by_cases e : i = z
    · subst e; exact hny j (by omega)
    · exact hno i j hji (by omega)
end
end Go.Proofs.Ytlcgclmobfdbcaa.Cl

/- slices.Delete of one tile; the tiles with a colour on a side. No claim is stated here. -/
set_option linter.unusedVariables false
set_option linter.unusedSimpArgs false
namespace Go.Proofs.Ytlcgclmobfdbcaa.Cl
open Go
theorem erase_tcs (U : List Tile) (i : Nat) : tcs (U.eraseIdx i) = (tcs U).take (i * 4) ++ (tcs U).drop ((i + 1) * 4) := by
  rw [List.eraseIdx_eq_take_drop_succ, tcs_app, tcs_take, tcs_drop]
section
variable {h0 : H} {s : Sl} {U : List Tile}
theorem delete_c (r : Pre h0 s 4 (tcs U)) (hU : U.length ≤ 1000000) {i : Nat} (hi : i < U.length) :
    callS SP i_slices_Delete_s_impl_Tile_impl_Tile_ [.sl s, i64 i, i64 ((i : Int) + 1)] h0 fun u h' => Pre h' u 4 (tcs (U.eraseIdx i)) ∧ u.o = s.o ∧ But s.o h0 h' ∧ h'.length = h0.length := by
  have hsl : s.len = U.length := r.rd.tlen
  obtain ⟨_, e0⟩ | ⟨o, xs, m, ho, hz, hoff, hn, hxl, hle, hown, htk⟩ := r.at_
  · omega
  have hlt : o < h0.length := (List.getElem?_eq_some_iff.1 hown).1
  have hcells : cells h0 o s.n = some xs := by unfold cells; simp [hown, hxl, hn]
  have hok : okS h0 s := r.ok
  have hsm : s.len * 4 ≤ s.n := by rw [hn]; exact Nat.mul_le_mul_right _ hle
  rw [hsl] at htk hsm hle
  apply slices_Delete_s_impl_Tile_impl_Tile__call
  unfold slices_Delete_s_impl_Tile_impl_Tile__main
  refine ⟨⟨⟨by omega, by omega⟩, by omega⟩, hok, fun e => (by rw [ho] at e; cases e), fun _ => ⟨hz, by rw [hoff, hsl]; omega⟩, ?_⟩
  refine bif_eq (fun e => absurd e (by omega)) (fun _ => ?_)
  refine ⟨⟨by omega, by omega⟩, hok, fun e => (by rw [ho] at e; cases e), fun _ => ⟨hz, by rw [hoff]; omega⟩, ?_⟩
  refine ⟨⟨by omega, by omega⟩, hok, fun e => (by rw [ho] at e; cases e), fun _ => ⟨hz, by rw [hoff, hsl]; omega⟩, ?_⟩
  have e0 : s.off + (0 : Int).toNat * 4 = 0 := by rw [hoff]; rfl
  have e1 : ((i : Int) - 0).toNat = i := by omega
  have e2 : s.off + ((i : Int) + 1).toNat * 4 = (i + 1) * 4 := by rw [hoff]; omega
  have e3 : ((s.len : Int) - ((i : Int) + 1)).toNat = U.length - (i + 1) := by omega
  rw [e0, e1, e2, e3, ho]
  -- behind the moving
  have fin : ∀ {ys : List AVal} {h3 : H}, h3[o]? = some (.own ys) → ys.length = m * 4 → ys.take ((U.length - 1) * 4) = tcs (U.eraseIdx i) → But (some o) h0 h3 → h3.length = h0.length →
      cut ⟨some o, s.n, 0, U.length - 1, 4⟩ 4 (((⟨some o, s.n, 0, U.length - 1, 4⟩ : Sl).len : Nat) : Int) (s.len : Int) h3 fun s4 => clearS s4 [.int .i64 (0), .int .i64 (0), .int .i64 (0), .int .i64 (0)] h3 fun h5 => ∃ b, AVal.sl ⟨some o, s.n, 0, U.length - 1, 4⟩ = .sl b ∧ Pre h5 b 4 (tcs (U.eraseIdx i)) ∧ b.o = some o ∧ But (some o) h0 h5 ∧ h5.length = h0.length := fun {ys h3} g1 g2 g3 g4 g5 => by
    have hc3 : cells h3 o s.n = some ys := by unfold cells; simp [g1, g2, hn]
    refine ⟨⟨by simp only; omega, by simp only; omega⟩, by unfold okS; simp [hc3], fun e => (by cases e), fun _ => ⟨rfl, by rw [hsl]; simp only; omega⟩, ?_⟩
    unfold clearS
    have hl1 : ((s.len : Int) - (((U.length - 1 : Nat)) : Int)).toNat = 1 := by omega
    simp only [hl1]
    rw [if_neg (by omega)]
    have hmm : 0 + (((U.length - 1 : Nat) : Int)).toNat * 4 = (U.length - 1) * 4 := by omega
    refine ⟨h3.set o (.own (splice ys ((U.length - 1) * 4) (List.replicate 1 [AVal.int .i64 0, .int .i64 0, .int .i64 0, .int .i64 0]).flatten)), rfl, ?_, _, rfl, ?_, rfl, ?_, ?_⟩
    · unfold putN owned
      simp only [g1, g2, hn, if_true, Option.bind_some, hmm]
      rw [if_pos (by simp; omega)]
    · refine ⟨?_, .inr ⟨o, _, m, rfl, rfl, rfl, hn, ?_, by simp only; omega, by rw [List.getElem?_set_self (by omega)], ?_⟩⟩
      · rw [tcs_len, List.length_eraseIdx, if_pos hi]
      · unfold splice
        simp
        omega
      · unfold splice
        rw [List.append_assoc, List.take_append_of_le_length (by rw [List.length_take]; simp only; omega), List.take_take, Nat.min_self]
        exact g3
    · refine g4.trans ⟨by simp, fun j hj hne => ?_⟩
      rw [List.getElem?_set_ne (fun e => hne (by rw [e]))]
    · rw [List.length_set]; exact g5
  by_cases hl : i + 1 = U.length
  · have hz0 : U.length - (i + 1) = 0 := by omega
    refine ⟨[], ⟨some o, s.n, 0, i, 4⟩, h0, ?_, fun h => absurd hz0 h, by simp only; unfold lim; omega, .zero hz0, ?_⟩
    · unfold Cl.sread; rw [if_pos (by simp only [hz0])]
    · have := fin hown hxl (by
        rw [erase_tcs, ← htk, List.take_take, Nat.min_eq_left (by omega), List.drop_eq_nil_of_le (by rw [List.length_take]; omega), List.append_nil, show U.length - 1 = i by omega]) (But.refl _ _) rfl
      rw [show U.length - 1 = i by omega] at this
      exact this
  · have hmv : 0 < U.length - (i + 1) := by omega
    have hrg : range h0 (some o) s.n ((i + 1) * 4) ((U.length - (i + 1)) * 4) = some ((xs.drop ((i + 1) * 4)).take ((U.length - (i + 1)) * 4)) := range_of hcells (by omega)
    have hxl' : ((xs.drop ((i + 1) * 4)).take ((U.length - (i + 1)) * 4)).length = (U.length - (i + 1)) * 4 := by rw [List.length_take, List.length_drop]; omega
    refine ⟨(xs.drop ((i + 1) * 4)).take ((U.length - (i + 1)) * 4), ⟨some o, s.n, 0, i + (U.length - (i + 1)), 4⟩, h0.set o (.own (splice xs (i * 4) ((xs.drop ((i + 1) * 4)).take ((U.length - (i + 1)) * 4)))), ?_, fun _ => rfl, by simp only; unfold lim; omega, .fits hmv rfl rfl (by simp only; omega) ?_, ?_⟩
    · unfold Cl.sread; rw [if_neg (by simp only; omega)]; exact hrg
    · unfold putN owned
      simp only [hown, hxl, hn, if_true, Option.bind_some]
      rw [if_pos (by rw [hxl']; omega), Nat.zero_add]
    · have := fin (ys := splice xs (i * 4) ((xs.drop ((i + 1) * 4)).take ((U.length - (i + 1)) * 4))) (h3 := h0.set o (.own (splice xs (i * 4) ((xs.drop ((i + 1) * 4)).take ((U.length - (i + 1)) * 4))))) (by rw [List.getElem?_set_self hlt]) (by
          unfold splice
          rw [List.length_append, List.length_append, hxl', List.length_take, List.length_drop]; omega) (by
          unfold splice
          rw [List.take_append_of_le_length (by rw [List.length_append, hxl', List.length_take]; omega), List.take_of_length_le (by rw [List.length_append, hxl', List.length_take]; omega), erase_tcs, ← htk, List.take_take, Nat.min_eq_left (by omega), List.drop_take]
          congr 2
          omega) ⟨by simp, fun j hj hne => by rw [List.getElem?_set_ne (fun e => hne (by rw [e]))]⟩ (by simp)
      rw [show U.length - 1 = i + (U.length - (i + 1)) by omega] at this
      exact this
theorem with_c (r : Rd h0 s 4 (tcs U)) (hU : U.length ≤ 1000000) (c : Int) {k : Nat} (hk : k < 4) (x : Int) :
    callS SP i_impl_Set_with [.agg (SetC c s), i64 k, i64 x] h0 fun v h' => (v.len = 0 ↔ ¬ ∃ a ∈ U, sd a k = x) ∧ Ext h0 h' := by
  have hsl := r.tlen
  apply impl_Set_with_call
  unfold impl_Set_with_main
  refine newK_obj fun h1 o1 x1 n1 => ?_
  refine newS_ow (by rfl) fun v h2 ov lv vo e2 => ?_
  have x2 : Ext h1 h2 := by rw [e2]; exact Ext.app _ _
  refine isPt_in ((o1.ext x2).ldS rfl rfl ?_)
  refine impl_Set_with_rule0 _ _ _ _ _ _ (fun v i g => ∃ (z : Nat) (l : List Int), i = z ∧ z ≤ U.length ∧ Ow g v 1 (ic l) ∧ Fr h1.length v ∧ l.length ≤ z ∧ (l.length = 0 ↔ ¬ ∃ a ∈ U.take z, sd a k = x) ∧ Ext h1 g) (fun _ i _ => ((U.length : Int) - i).toNat) ?_ _ _
    ⟨0, [], rfl, by omega, by simpa [ic] using ov, fun o e => by rw [vo] at e; cases e; omega, by simp, by simp, x2⟩
  rintro X v _ g ⟨z, l, rfl, hz, ov, fv, hlz, hl, y⟩ hX
  have Y := x1.trans y
  unfold impl_Set_with_b0
  refine bif_dec (fun hi => ?_) (fun hi => ?_)
  · have hzl : z < U.length := by omega
    have tw : tat U (z : Int) = U[z] := tat_at (by rw [Int.toNat_natCast, List.getElem?_eq_getElem hzl])
    refine (r.ext Y).tileG (by omega) (by omega) ?_
    rw [tw]
    refine newO_obj fun g1 o3 y3 n3 => ?_
    refine o3.stA fun g2 o4 b4 n4 => ?_
    have y4 : Ext g g2 := y3.but_ b4 (some_le (Nat.le_refl _))
    refine o4.sdI (by omega) (by omega) ?_
    rw [Int.toNat_natCast, w64_of (n := (z : Int) + 1) (by omega) (by omega)]
    have hmem : (∃ a ∈ U.take (z + 1), sd a k = x) ↔ (∃ a ∈ U.take z, sd a k = x) ∨ sd U[z] k = x := by
      rw [List.take_succ_eq_append_getElem hzl]
      constructor
      · rintro ⟨a, ha, e⟩
        rcases List.mem_append.1 ha with ha | ha
        · exact .inl ⟨a, ha, e⟩
        · rw [List.mem_singleton] at ha; subst ha; exact .inr e
      · rintro (⟨a, ha, e⟩ | e)
        · exact ⟨a, List.mem_append_left _ ha, e⟩
        · exact ⟨_, List.mem_append_right _ (List.mem_singleton_self _), e⟩
    refine bif_eq (fun e => ?_) (fun hne => ?_)
    · refine newS_ow (by rfl) fun u g5 ou lu uo e5 => ?_
      have y5 : Ext g2 g5 := by rw [e5]; exact Ext.app _ _
      have hvl := ov.rd.ilen
      have y45 := y4.trans y5
      refine app_ow (by omega) (ov.ext y45) ou.rd (by rw [hvl, lu]; unfold lim; omega) fun w g6 ow lw b6 k1 k2 => ?_
      have hy := y.len
      have hy45 := y45.len
      refine hX _ _ _ ⟨z + 1, l ++ [(z : Int)], by push_cast; rfl, by omega, by rw [ic_app]; exact ow, fun o eo => ?_, by rw [List.length_append]; simp; omega, by simp only [List.length_append, List.length_singleton]; rw [hmem]; exact ⟨fun h => by omega, fun h => absurd (.inr e) h⟩, (y.trans y45).but_ b6 fun o e => fv o e⟩ (by omega)
      cases hq : v.o with
      | none => have := k2 hq o eo; omega
      | some q => rw [k1 q hq] at eo; exact fv o (by rw [hq]; exact eo)
    · refine hX _ _ _ ⟨z + 1, l, by push_cast; rfl, by omega, ov.ext y4, fv, by omega, by rw [hmem, hl]; exact ⟨fun h q => q.elim h hne, fun h q => h (.inl q)⟩, y.trans y4⟩ (by omega)
  · unfold impl_Set_with_C0
    have hzU : z = U.length := by omega
    rw [hzU, List.take_length] at hl
    have hvl := ov.rd.ilen
    exact ⟨v, rfl, by rw [hvl]; exact hl, Y⟩
theorem trim1_c {o : Nat} {c : Int} {h : H} (ob : Obj h o (SetC c s)) (r : Rd h s 4 (tcs U)) (hU : U.length ≤ 1000000) (t : Tile) :
    callB SP i_impl_TrimSet_1 [.agg (tc t), .ptr ⟨some o, 2, 0⟩] h fun b h' => (b = true ↔ ¬ TQ U t) ∧ Ext h h' := by
  apply impl_TrimSet_1_call
  unfold impl_TrimSet_1_main
  refine newK_obj fun h1 o1 x1 n1 => ?_
  refine o1.ldA rfl ?_
  refine impl_TrimSet_1_rule0 _ _ _ _ (fun i g => ∃ z : Nat, i = z ∧ z ≤ 4 ∧ (∀ k, k < z → ∃ a ∈ U, sd a ((k + 2) % 4) = sd t k) ∧ Ext h1 g) (fun i _ => (4 - i).toNat) ?_ _ ⟨0, rfl, by omega, fun k hk => by omega, Ext.refl _⟩
  rintro X _ g ⟨z, rfl, hz, hall, y⟩ hX
  have Y := x1.trans y
  unfold impl_TrimSet_1_b0
  refine bif_dec (fun hi => ?_) (fun hi => ?_)
  · have hz4 : z < 4 := by omega
    refine ⟨rfl, ?_⟩
    refine ⟨sd t z, by omega, ?_, ?_⟩
    · rw [Int.toNat_natCast]; exact tc_sd t hz4
    refine (ob.ext Y).ldA rfl ⟨by decide, ?_⟩
    have ek : Int.tmod (w64 ((z : Int) + 2)) 4 = (((z + 2) % 4 : Nat) : Int) := by
      rw [w64_of (by omega) (by omega), Int.tmod_eq_emod_of_nonneg (by omega)]; omega
    rw [ek]
    refine (with_c (r.ext Y) hU c (Nat.mod_lt _ (by omega)) (sd t z)).to ?_
    rintro v g2 ⟨hv, y2⟩
    refine bif_eq (fun e => ⟨true, rfl, ⟨fun _ hq => hv.1 (by omega) (hq z hz4), fun _ => rfl⟩, Y.trans y2⟩) (fun hne => ?_)
    rw [w64_of (by omega) (by omega)]
    refine hX _ _ ⟨z + 1, by push_cast; rfl, by omega, fun k hk => ?_, y.trans y2⟩ (by omega)
    by_cases e : k = z
    · subst e
      exact Classical.byContradiction fun hn => hne (by rw [hv.2 hn]; rfl)
    · exact hall k (by omega)
  · unfold impl_TrimSet_1_C0
    exact ⟨false, rfl, ⟨fun h => (by cases h), fun h => absurd (fun k hk => hall k (by omega)) h⟩, Y⟩
end
end Go.Proofs.Ytlcgclmobfdbcaa.Cl

/- The clean machine inside a range over a function: regions in a round's frame, and what lies beside the clean heap. No claim is stated here. -/
set_option linter.unusedVariables false
set_option linter.unusedSimpArgs false
namespace Go.Proofs.Ytlcgclmobfdbcaa.Cl
open Go
def ApartO : Go.Obj → Prop | .cells .. => False | .map .. => False | _ => True
theorem po_cell {w : World} {rb : Nat} {x y : Go.Obj} (h : w.heap[rb]? = some x) (hx : ApartO x) (hy : ApartO y) (a : Addr) : (w.putObj rb y).cell? a = w.cell? a := by
  have hl : rb < w.heap.size := (Array.getElem?_eq_some_iff.1 h).1
  unfold World.cell?
  by_cases e : a.block = rb
  · rw [e, World.putObj_heap_same hl, h]
    cases x <;> cases y <;> first | rfl | exact hx.elim | exact hy.elim
  · rw [World.putObj_heap_other e]
theorem po_frozen {w : World} {rb : Nat} {x y : Go.Obj} (h : w.heap[rb]? = some x) (hx : ApartO x) (hy : ApartO y) (a : Addr) : (w.putObj rb y).frozen? a = w.frozen? a := by
  have hl : rb < w.heap.size := (Array.getElem?_eq_some_iff.1 h).1
  unfold World.frozen?
  by_cases e : a.block = rb
  · rw [e, World.putObj_heap_same hl, h]
    cases x <;> cases y <;> first | rfl | exact hx.elim | exact hy.elim
  · rw [World.putObj_heap_other e]
theorem po_size (w : World) (rb : Nat) (y : Go.Obj) : (w.putObj rb y).heap.size = w.heap.size := by simp [World.putObj]
theorem Rel.turn {μ h w} (r : Rel μ h w) {rb : Nat} {x y : Go.Obj} (hr : w.heap[rb]? = some x) (hx : ApartO x) (hy : ApartO y) : Rel μ h (w.putObj rb y) := by
  refine ⟨fun o cs ho => ?_, fun o cs ho i v hv => ?_, fun o es ho => ?_, r.sep⟩
  · obtain ⟨h1, h2, h3, h4⟩ := r.own o cs ho
    refine ⟨by rw [po_size]; exact h1, h2, fun i hi => ?_, fun i v hv => ?_⟩
    · rw [po_cell hr hx hy, po_frozen hr hx hy]; exact h3 i hi
    · obtain ⟨q, d, h5, h6⟩ := h4 i v hv
      exact ⟨q, d, by rw [po_cell hr hx hy]; exact h5, h6⟩
  · obtain ⟨q, d, h5, h6⟩ := r.ro o cs ho i v hv
    exact ⟨q, d, by rw [po_cell hr hx hy]; exact h5, h6⟩
  · obtain ⟨h1, ms, ck, h2, h3, h4⟩ := r.mp o es ho
    refine ⟨by rw [po_size]; exact h1, ms, ck, ?_, h3, h4⟩
    rw [World.putObj_heap_other]
    · exact h2
    · intro e
      rw [e, hr] at h2
      cases h2
      exact hx
theorem Tr.turn {μ h w μ1 h1 w1} (t : Tr μ h w μ1 h1 w1) {rb : Nat} {x y : Go.Obj} (hr : w1.heap[rb]? = some x) (hx : ApartO x) (hy : ApartO y) (hb : w.heap.size ≤ rb) : Tr μ h w μ1 h1 (w1.putObj rb y) := by
  refine ⟨t.rel.turn hr hx hy, t.step, ⟨t.keep.os, t.keep.tape, t.keep.output, by rw [po_size]; exact t.keep.size, fun k hk hn => ?_, t.keep.drawn⟩, t.mine, t.has⟩
  rw [World.putObj_heap_other (by omega)]; exact t.keep.block k hk hn
theorem Tr.apart {μ h w μ1 h1 w1 rb x} (t : Tr μ h w μ1 h1 w1) (hr : w.heap[rb]? = some x) (hm : ¬ Mine μ h rb) : w1.heap[rb]? = some x ∧ ¬ Mine μ1 h1 rb := by
  have hl : rb < w.heap.size := (Array.getElem?_eq_some_iff.1 hr).1
  refine ⟨by rw [t.keep.block rb hl hm]; exact hr, fun hc => ?_⟩
  rcases t.mine rb hc with h | h
  · exact hm h
  · omega
section
variable {P : Program} {T : Tab} {S : SatT}
/-- A fence that lets all in. -/
structure WideF (F : Fence) (n : Nat) (P : Program) : Prop where
  all : ∀ f, F.fn f
  deep : F.depth = none
  call : ∀ f args w R, Calls P f args w R → CallsIn F (n - 1) P f args w R
theorem wide_wide (n : Nat) (P : Program) : WideF Fence.wide n P := ⟨fun _ => trivial, rfl, fun _ _ _ _ h => callsIn_wide.2 h⟩
theorem wide_round (n l : Nat) (P : Program) : WideF (Fence.wide.inRound l) n P := ⟨fun _ => trivial, rfl, fun _ _ _ _ h => CallsIn.inRound l (callsIn_wide.2 h)⟩
theorem OpOK.inn {F : Fence} {n : Nat} (W : WideF F n P) {o : Oper} {a : Act} {w : World} {R : Value → World → Prop} {next : Act → World → Prop} {Q : Exit → Act → World → Prop} (h : OpOK P (execOp a.eval o) w R) (hd : ∀ c, o.op ≠ .defer c)
    (hn : ∀ v w', R v w' → next (a.put o.dst v) w') : o.wpIn F n P a w next Q := by
  refine ⟨fun f _ => W.all f, ?_⟩
  rw [Oper.semAt_eq _ _ _ hd]
  unfold OpOK at h
  split at h
  · next v w' e => rw [e]; exact hn _ _ h
  · next w' e => rw [e]; exact hn _ _ h
  · next f args w' e =>
    rw [e]
    refine ⟨fun hh => (by rw [W.deep] at hh; cases hh), W.call _ _ _ _ (Calls.mono h fun e w'' ⟨v, he, hr⟩ => ?_)⟩
    rw [he]
    exact hn _ _ hr
  · exact h.elim
theorem opK_nodefer {o : Oper} {fr : Frame} {h : H} {K : AVal → H → Prop} (H : opK S T o fr h K) : ∀ c, o.op ≠ .defer c := by
  intro c e
  unfold opK at H
  rw [e] at H
  exact H
theorem runOps_in (hS : ∀ f args h v h2, S f args h v h2 → Sat P f args h v h2) (hT : TOK P T) {ops : Array Oper} {k : Frame → H → Prop} {Q : Exit → Act → World → Prop} {F : Fence} {n : Nat} (W : WideF F n P) :
    ∀ (l : List Oper) (i : Nat), ops.toList.drop i = l → ∀ {μ : Mu} {h : H} {w : World} {fr : Frame} {a : Act}, Rel μ h w → VRs μ h fr a.tmps.toList → runOps S T ops.toList l k fr h →
      (∀ μ' h' w' fr' a', Tr μ h w μ' h' w' → VRs μ' h' fr' a'.tmps.toList → a'.defers = a.defers → (∀ d, (∀ o ∈ l, o.dst ≠ some d) → a'.tmps[d]? = a.tmps[d]?) → k fr' h' → Q .normal a' w') → wpOpsIn F n P ops Q (List.range' i l.length) a w
  | [], i, _, μ, h, w, fr, a, r, hf, hR, hQ => hQ μ h w fr a (Tr.refl r) hf rfl (fun _ _ => rfl) hR
  | o :: l, i, hl, μ, h, w, fr, a, r, hf, hR, hQ => by
    have ho : ops[i]? = some o := by
      rw [← Array.getElem?_toList]
      have := congrArg (·[0]?) hl
      simpa using this
    have hl' : ops.toList.drop (i + 1) = l := by
      rw [← List.drop_drop, hl]; rfl
    rw [List.length_cons, List.range'_succ]
    simp only [wpOpsIn, ho]
    have stepOK : ∀ {K : AVal → H → Prop}, opK S T o fr h K → (∀ v h', K v h' → runOps S T ops.toList l k (put fr o.dst v) h') →
        o.wpIn F n P a w (wpOpsIn F n P ops Q (List.range' (i + 1) l.length)) Q := by
      intro K hK hn
      refine (op_sound hS hT r hf hK).inn W (opK_nodefer hK) fun x w' ⟨v, h', μ', h1, h2, h3⟩ => ?_
      refine runOps_in hS hT W l (i + 1) hl' h2.rel (put_VRs (VRs.step h2.step hf) h3) (hn v h' h1) fun μ2 h2' w2 fr2 a2 t2 f2 d2 g2 k2 => ?_
      exact hQ μ2 h2' w2 fr2 a2 (h2.trans t2) f2 (by rw [d2, put_defers]) (fun d hd => (g2 d fun o' ho' => hd o' (List.mem_cons_of_mem _ ho')).trans (put_keeps (hd o (List.mem_cons_self ..)))) k2
    have skipOK : runOps S T ops.toList l k (put fr o.dst .gone) h → wpOpsIn F n P ops Q (List.range' (i + 1) l.length) (a.put o.dst undef) w := by
      intro hK
      refine runOps_in hS hT W l (i + 1) hl' r (put_VRs (v := .gone) (x := undef) hf (by simp only [VR]; rfl)) hK fun μ2 h2' w2 fr2 a2 t2 f2 d2 g2 k2 => ?_
      exact hQ μ2 h2' w2 fr2 a2 t2 f2 (by rw [d2, put_defers]) (fun d hd => (g2 d fun o' ho' => hd o' (List.mem_cons_of_mem _ ho')).trans (put_keeps (hd o (List.mem_cons_self ..)))) k2
    unfold runOps at hR
    cases hg : o.guard with
    | none =>
      rw [hg] at hR
      rw [if_pos (by unfold Region.wanted; rw [hg])]
      exact stepOK hR fun v h' hK => hK
    | some g =>
      obtain ⟨j, want⟩ := g
      rw [hg] at hR
      simp only at hR
      have hw : Region.wanted o (yielded ops a.tmps) = (yielded ops a.tmps j == some want) := by unfold Region.wanted; rw [hg]
      cases hd : dstOf ops.toList j with
      | none => rw [hd] at hR; exact hR.elim
      | some d =>
        rw [hd] at hR
        simp only at hR
        split at hR
        · next b e =>
          obtain ⟨x, hx1, hx2, hx3⟩ := yielded_of hf hd e (by simp)
          simp only [VR] at hx2
          subst hx2
          have es := set_same e (by simp)
          cases b <;> cases want <;> simp only [cond_true, cond_false, es] at hR <;> first
            | (rw [if_pos (by rw [hw, hx3]; rfl)]; exact stepOK hR fun v h' hK => hK)
            | (rw [if_neg (by rw [hw, hx3]; simp)]; exact ⟨fun f _ => W.all f, skipOK hR⟩)
        · next e =>
          obtain ⟨x, hx1, hx2, hx3⟩ := yielded_of hf hd e (by simp)
          simp only [VR] at hx2
          subst hx2
          rw [if_neg (by rw [hw, hx3]; simp)]
          exact ⟨fun f _ => W.all f, skipOK hR⟩
        · exact hR.elim

/-- The same, of a whole region. -/
theorem region_in (hS : ∀ f args h v h2, S f args h v h2 → Sat P f args h v h2) (hT : TOK P T) {id : Nat} {ops : Array Oper} {k : Frame → H → Prop} {Q : Exit → Act → World → Prop} {F : Fence} {n : Nat} (W : WideF F n P)
    {μ : Mu} {h : H} {w : World} {fr : Frame} {a : Act} (r : Rel μ h w) (hf : VRs μ h fr a.tmps.toList) (hR : runOps S T ops.toList ops.toList k fr h)
    (hQ : ∀ μ' h' w' fr' a', Tr μ h w μ' h' w' → VRs μ' h' fr' a'.tmps.toList → a'.defers = a.defers → (∀ d, (∀ o ∈ ops.toList, o.dst ≠ some d) → a'.tmps[d]? = a.tmps[d]?) → k fr' h' → Q .normal a' w') : (Code.region id ops false).wpIn F n P Q a w := by
  refine wpIn_region ?_
  rw [List.range_eq_range', ← Array.length_toList]
  exact runOps_in hS hT W ops.toList 0 rfl r hf hR hQ
end
end Go.Proofs.Ytlcgclmobfdbcaa.Cl

/- The clean machine: append of all that slices.Values gives. No claim is stated here. -/
set_option linter.unusedVariables false
set_option linter.unusedSimpArgs false
namespace Go.Proofs.Ytlcgclmobfdbcaa.Cl
open Go
structure IterP where
  y : Nat
  d11 : Nat
  d12 : Nat
  d13 : Nat
  d14 : Nat
  tc : Nat
  V0 : Array Oper
  V1 : Array Oper
  V2 : Array Oper
  V4 : Array Oper
  o1 : Oper
  mm : List Nat
structure AppP where
  prm : Nat
  A0 : Array Oper
  A1 : Array Oper
  A2 : Array Oper
  A3 : Array Oper
  A4 : Array Oper
  g : Nat
/-- One round. -/
def seqRound (S : SatT) (T : Tab) (q : AppP) (frA : Frame) (v : AVal) (K : H → Prop) (h : H) : Prop :=
  runOps S T q.A2.toList q.A2.toList (fun fr h => runOps S T q.A3.toList q.A3.toList (fun _ h => K h) fr h) (frA.set q.prm v) h
def seqLoop (S : SatT) (T : Tab) (p : IterP) (q : AppP) (frA : Frame) (K : H → Prop) : Nat → Frame → H → Prop
  | 0, fr, h => runOps S T p.V1.toList p.V1.toList (fun fr h => fr.getD p.tc .undef = .bool false ∧ K h) fr h
  | n + 1, fr, h => runOps S T p.V1.toList p.V1.toList (fun fr h => fr.getD p.tc .undef = .bool true ∧ runOps S T p.V2.toList p.V2.toList (fun fr h => opK S T p.o1 (fr.set p.d11 .undef) h fun v h =>
      seqRound S T q frA v (fun h => runOps S T p.V4.toList p.V4.toList (fun fr h => seqLoop S T p q frA K n (mask p.mm fr) h) (clr [p.d11, p.d12, p.d13, p.d14] fr) h) h) fr h) fr h
def seqAll (S : SatT) (T : Tab) (p : IterP) (q : AppP) (fV : Nat) (n : Nat) (frV0 : List AVal → Frame) (fr : Frame) (rs : List ResultVar) (h : H) (K : AVal → H → Prop) : Prop :=
  runOps S T q.A0.toList q.A0.toList (fun fr h => runOps S T q.A1.toList q.A1.toList (fun fr h => ∃ cap, (fr.getD q.g .undef = .func fV cap ∧ cap.length = 1) ∧
    runOps S T p.V0.toList p.V0.toList (fun frV h => seqLoop S T p q fr (fun h => runOps S T q.A4.toList q.A4.toList (fun fr h => resK T rs fr h fun vs => K (one vs) h) fr h) n (mask p.mm frV) h) (frV0 cap) h) fr h) fr h
section
variable {P : Program} {T : Tab} {S : SatT}
theorem args4 {α β : Type} {f : α → β} {l : Array α} {a b c d : β} (e : l.toList.map f = [a, b, c, d]) : ∃ x y z u, l = #[x, y, z, u] ∧ f x = a ∧ f y = b ∧ f z = c ∧ f u = d := by
  obtain ⟨l⟩ := l
  match l, e with
  | [x, y, z, u], e => simp at e; exact ⟨x, y, z, u, rfl, e.1, e.2.1, e.2.2.1, e.2.2.2⟩
  | [], e => simp at e
  | [_], e => simp at e
  | [_, _], e => simp at e
  | [_, _, _], e => simp at e
  | _ :: _ :: _ :: _ :: _ :: _, e => simp at e
theorem wpOpsIn_one {F : Fence} {n : Nat} (W : WideF F n P) {ops : Array Oper} {Q : Exit → Act → World → Prop} {i : Nat} {rest : List Nat} {a : Act} {w : World} {o : Oper} {op : Op} {d : Nat} (ho : ops[i]? = some o) (hp : plainO o = some (op, d)) (hd : ∀ c, op ≠ .defer c)
    {s : Sem Value} (hs : execOp a.eval o = (do pure (.value (← s)))) {x : Value} {w' : World} (hx : s.run P w = .ok x w') (hn : wpOpsIn F n P ops Q rest (a.put (some d) x) w') : wpOpsIn F n P ops Q (i :: rest) a w := by
  obtain ⟨hg, hdd, hop⟩ := plain_of hp
  simp only [wpOpsIn, ho]
  rw [if_pos (by unfold Region.wanted; rw [hg])]
  have hok : OpOK P (execOp a.eval o) w (fun v w2 => v = x ∧ w2 = w') := by rw [hs]; exact OpOK.val hx ⟨rfl, rfl⟩
  refine hok.inn W (fun c => by rw [hop]; exact hd c) fun v w2 hv => ?_
  obtain ⟨rfl, rfl⟩ := hv
  rw [hdd]
  exact hn
theorem wpOpsIn_go {F : Fence} {n : Nat} {ops : Array Oper} {Q : Exit → Act → World → Prop} {i : Nat} {rest : List Nat} {a : Act} {w : World} {o : Oper} (ho : ops[i]? = some o) (hg : o.guard = none)
    (h : o.wpIn F n P a w (wpOpsIn F n P ops Q rest) Q) : wpOpsIn F n P ops Q (i :: rest) a w := by
  simp only [wpOpsIn, ho]
  rw [if_pos (by unfold Region.wanted; rw [hg])]
  exact h
/-- The record of the loop. -/
def recOf (fn : FuncId) (tmps : Array Value) (prm : Nat) (assign body : Code) (D : Nat) (st : LoopState) : Loop := { state := st, pending := none, fn, tmps, params := #[prm], assign, body, defers := D }
/-- What stands between two rounds. -/
structure RSt (st : LoopState) (μ0 : Mu) (h0 : H) (w0 : World) (frA : Frame) (at0 : Array Value) (fn : FuncId) (prm : Nat) (assign body : Code) (l D : Nat) (μ : Mu) (h : H) (w : World) : Prop where
  tr : Tr μ0 h0 w0 μ h w
  fa : VRs μ h frA at0.toList
  rl : w.heap[l]? = some (.loop (recOf fn at0 prm assign body D st))
  rd : w.heap[D]? = some (.deferred (some []))
  ml : ¬ Mine μ h l
  md : ¬ Mine μ h D
  gl : w0.heap.size ≤ l
  gd : w0.heap.size ≤ D
  ne : D ≠ l
theorem RSt.step {st μ0 h0 w0 frA at0 fn prm assign body l D μ h w μ1 h1 w1} (r : RSt st μ0 h0 w0 frA at0 fn prm assign body l D μ h w) (t : Tr μ h w μ1 h1 w1) : RSt st μ0 h0 w0 frA at0 fn prm assign body l D μ1 h1 w1 :=
  ⟨r.tr.trans t, VRs.step t.step r.fa, (t.apart r.rl r.ml).1, (t.apart r.rd r.md).1, (t.apart r.rl r.ml).2, (t.apart r.rd r.md).2, r.gl, r.gd, r.ne⟩
theorem RSt.turn {st st' μ0 h0 w0 frA at0 fn prm assign body l D μ h w} (r : RSt st μ0 h0 w0 frA at0 fn prm assign body l D μ h w) : RSt st' μ0 h0 w0 frA at0 fn prm assign body l D μ h (w.putObj l (.loop (recOf fn at0 prm assign body D st'))) :=
  ⟨r.tr.turn r.rl trivial trivial r.gl, r.fa, World.putObj_heap_same (Array.getElem?_eq_some_iff.1 r.rl).1, by rw [World.putObj_heap_other r.ne]; exact r.rd, r.ml, r.md, r.gl, r.gd, r.ne⟩
variable {μ0 : Mu} {h0 : H} {w0 : World} {frA : Frame} {at0 : Array Value} {fn : FuncId} {l D : Nat}
theorem round_in (hS : ∀ f args h v h2, S f args h v h2 → Sat P f args h v h2) (hT : TOK P T) {q : AppP} {i2 i3 b1 : Nat} {n : Nat} {μ : Mu} {h : H} {w : World} {v : AVal} {x : Value} {K : H → Prop} {R : Ending → World → Prop}
    (r : RSt .ready μ0 h0 w0 frA at0 fn q.prm (.region i2 q.A2 false) (.block b1 (.region i3 q.A3 false)) l D μ h w) (hv : VR μ h v x) (hK : seqRound S T q frA v K h)
    (hR : ∀ μ1 h1 w1, RSt .ready μ0 h0 w0 frA at0 fn q.prm (.region i2 q.A2 false) (.block b1 (.region i3 q.A3 false)) l D μ1 h1 w1 → Step μ h μ1 h1 → K h1 → R (.returned (.bool true)) w1) :
    RoundIn Fence.wide n P l fn (at0.setIfInBounds q.prm x) (.region i2 q.A2 false) (.block b1 (.region i3 q.A3 false)) w R := by
  refine roundIn_of_wpIn trivial ?_
  refine region_in hS hT (wide_round n l P) r.tr.rel (fr := frA.set q.prm v) ?_ hK fun μ1 h1 w1 fr1 a1 t1 f1 d1 _ k1 => ?_
  · simp only [Array.toList_setIfInBounds]
    exact r.fa.set _ hv
  show ∃ w₂, (Instr.beginRound l).run P w1 = .ok () w₂ ∧ _
  have r1 := r.step t1
  refine ⟨_, run_beginRound r1.rl rfl, ?_⟩
  have r2 : RSt .busy μ0 h0 w0 frA at0 fn q.prm (.region i2 q.A2 false) (.block b1 (.region i3 q.A3 false)) l D μ1 h1 _ := r1.turn
  refine wpIn_block (region_in hS hT (wide_round n l P) r2.tr.rel f1 k1 fun μ2 h2 w2 fr2 a2 t2 f2 d2 _ k2 => ?_)
  have r3 := r2.step t2
  exact ⟨_, _, run_endRound none r3.rl, hR μ2 h2 _ r3.turn (t1.step.trans t2.step) k2⟩
theorem exec_call_in {ρ : Operand → Value} {o : Oper} {c : Call} (h : o.op = .call c) : execOp ρ o = (do let d ← resolve ρ c o.type; invoke d.target d.args) := by unfold execOp; rw [h]
theorem exec_not {ρ : Operand → Value} {o : Oper} {t : TypeId} {x : Operand} (h : o.op = .unOp .not t x) : execOp ρ o = (do pure (.value (← Op.unary .not (ρ x)))) := by unfold execOp; rw [h]
/-- The iterator's loop. -/
theorem seqLoop_in (hS : ∀ f args h v h2, S f args h v h2 → Sat P f args h v h2) (hT : TOK P T) {p : IterP} {q : AppP} {i1 i2 i3 i4 j2 j3 b0 b1 bb : Nat} {V3 : Array Oper} {tt : Nat} {yc : Call} {n : Nat}
    (hV3 : V3.toList.map plainO = [some (.move (.tmp p.y), p.d11), some (p.o1.op, p.d12), some (.call yc, p.d13), some (.unOp .not tt (.tmp p.d13), p.d14)]) (ho1 : V3[1]? = some p.o1) (hyc : yc.callee = .value (.tmp p.d11)) (hya : yc.args = #[.tmp p.d12])
    (hnd : [p.y, p.d11, p.d12, p.d13, p.d14].Nodup) (hyk : ∀ V ∈ [p.V1, p.V2, p.V4], ∀ o ∈ V.toList, ∀ d ∈ [p.y, p.d11, p.d12, p.d13, p.d14], o.dst ≠ some d)
    {K : H → Prop} {Q : Exit → Act → World → Prop}
    (hQ : ∀ μ h w a, RSt .ready μ0 h0 w0 frA at0 fn q.prm (.region j2 q.A2 false) (.block bb (.region j3 q.A3 false)) l D μ h w → a.defers = [] → K h → Q (.exit b0) a w) :
    ∀ (N : Nat) {μ : Mu} {h : H} {w : World} {fr : Frame} {a : Act}, RSt .ready μ0 h0 w0 frA at0 fn q.prm (.region j2 q.A2 false) (.block bb (.region j3 q.A3 false)) l D μ h w → VRs μ h fr a.tmps.toList → a.tmps[p.y]? = some (.func (.yield l) #[] #[]) →
      (∀ d ∈ [p.y, p.d11, p.d12, p.d13, p.d14], d < a.tmps.size) → a.defers = [] → seqLoop S T p q frA K N fr h →
      Code.roundsIn Fence.wide n P (.seq (.region i1 p.V1 false) (.seq (.cond (.tmp p.tc) .skip (.exit b0)) (.seq (.block b1 (.seq (.region i2 p.V2 false) (.seq (.region i3 V3 false) (.cond (.tmp p.d14) .ret .skip)))) (.region i4 p.V4 false)))) Q (N + 1) a w
  | 0, μ, h, w, fr, a, r, hf, hy, hds, hdf, hg => by
    rw [roundsIn_succ]
    refine wpIn_seq (region_in hS hT (wide_wide n P) r.tr.rel hf hg fun μ1 h1 w1 fr1 a1 t1 f1 d1 _ k1 => ?_)
    have hc := ev_sound (a := a1) f1 (.tmp p.tc)
    rw [show ev fr1 (.tmp p.tc) = .bool false from k1.1] at hc
    simp only [VR] at hc
    refine wpIn_seq (wpIn_cond_false hc (wpIn_exit ?_))
    exact hQ μ1 h1 w1 a1 (r.step t1) (by rw [d1, hdf]) k1.2
  | N + 1, μ, h, w, fr, a, r, hf, hy, hds, hdf, hg => by
    rw [roundsIn_succ]
    have hyk1 := hyk p.V1 (by simp)
    have hyk2 := hyk p.V2 (by simp)
    have hyk4 := hyk p.V4 (by simp)
    obtain ⟨o0, o1, o2, o3, rfl, e0, e1, e2, e3⟩ := args4 hV3
    have ho1' : o1 = p.o1 := by simpa using ho1
    simp only [List.nodup_cons, List.mem_cons, List.not_mem_nil, or_false, not_or, not_false_eq_true, List.nodup_nil, and_true] at hnd
    obtain ⟨⟨n01, n02, n03, n04⟩, ⟨n12, n13, n14⟩, ⟨n23, n24⟩, n34⟩ := hnd
    refine wpIn_seq (region_in hS hT (wide_wide n P) r.tr.rel hf hg fun μ1 h1 w1 fr1 a1 t1 f1 d1 g1 k1 => ?_)
    have hc := ev_sound (a := a1) f1 (.tmp p.tc)
    rw [show ev fr1 (.tmp p.tc) = .bool true from k1.1] at hc
    simp only [VR] at hc
    refine wpIn_seq (wpIn_cond_true hc (wpIn_skip ?_))
    refine wpIn_seq (wpIn_block (wpIn_seq (region_in hS hT (wide_wide n P) t1.rel f1 k1.2 fun μ2 h2 w2 fr2 a2 t2 f2 d2 g2 k2 => ?_)))
    have r2 := (r.step t1).step t2
    have get2 : ∀ d, d ∈ [p.y, p.d11, p.d12, p.d13, p.d14] → a2.tmps[d]? = a.tmps[d]? := fun d hd => (g2 d fun o ho => hyk2 o ho d hd).trans (g1 d fun o ho => hyk1 o ho d hd)
    have sz2 : ∀ d, d ∈ [p.y, p.d11, p.d12, p.d13, p.d14] → d < a2.tmps.size := fun d hd => by
      have := get2 d hd
      rw [Array.getElem?_eq_getElem (hds d hd)] at this
      exact (Array.getElem?_eq_some_iff.1 this).1
    have hy2 : a2.tmps[p.y]? = some (.func (.yield l) #[] #[]) := by rw [get2 _ (by simp)]; exact hy
    obtain ⟨_, _, p0⟩ := plain_of e0
    obtain ⟨q1g, q1d, p1⟩ := plain_of e1
    obtain ⟨q2g, q2d, p2⟩ := plain_of e2
    obtain ⟨_, _, p3⟩ := plain_of e3
    refine wpIn_seq (wpIn_region ?_)
    show wpOpsIn Fence.wide n P #[o0, o1, o2, o3] _ [0, 1, 2, 3] a2 w2
    refine wpOpsIn_one (wide_wide n P) rfl e0 (fun c h => by cases h) (exec_move p0) (x := .func (.yield l) #[] #[]) (w' := w2) (by rw [eval_tmp hy2]; rfl) ?_
    -- the value that is handed on
    have hokk := op_sound (P := P) hS hT t2.rel (o := o1) (a := a2.put (some p.d11) (.func (.yield l) #[] #[])) (VRs.put_clr f2) (by rw [ho1']; exact k2)
    refine wpOpsIn_go (o := o1) rfl q1g ?_
    refine hokk.inn (wide_wide n P) (opK_nodefer (by rw [ho1']; exact k2)) fun x w3 ⟨v, h3, μ3, k3, t3, v3⟩ => ?_
    rw [q1d]
    refine wpOpsIn_go (o := o2) rfl q2g ?_
    have r3 := r2.step t3
    generalize ha3 : (a2.put (some p.d11) (.func (.yield l) #[] #[])).put (some p.d12) x = a3
    have hya3 : a3.eval (.tmp p.d11) = .func (.yield l) #[] #[] := by
      rw [← ha3]
      refine eval_tmp ?_
      rw [put_keeps (by simpa using fun e => n12 e.symm)]
      exact put_self (sz2 _ (by simp))
    have hx3 : a3.eval (.tmp p.d12) = x := by
      rw [← ha3]
      exact eval_tmp (put_self (by rw [put_size]; exact sz2 _ (by simp)))
    refine ⟨fun f _ => trivial, ?_⟩
    rw [show Oper.semAt Fence.wide.round a3.eval o2 = execOp a3.eval o2 from rfl, exec_call_in p2]
    have hrun : (do let d ← resolve a3.eval yc o2.type; invoke d.target d.args : Sem Next).run P w3 = .ok (.round l fn (at0.setIfInBounds q.prm x) (.region j2 q.A2 false) (.block bb (.region j3 q.A3 false))) w3 := by
      have hy := run_yield (P := P) (args := #[x]) r3.rl (by simp [recOf])
      have hr : resolve a3.eval yc o2.type = pure { target := .fn (.yield l) #[], args := #[x] } := by
        simp only [resolve, hyc, hya, hya3]
        simp [Deferred.ofValue, hx3]
      rw [hr]
      simp only [pure_bind, invoke]
      rw [hy]
      simp [recOf]
    rw [hrun]
    refine ⟨fun hh => (by cases hh), round_in hS hT r3 v3 k3 fun μ5 h5 w5 r5 st5 k5 => ?_⟩
    show wpOpsIn Fence.wide n P #[o0, o1, o2, o3] _ [3] _ w5
    rw [q2d]
    refine wpOpsIn_one (wide_wide n P) rfl e3 (fun c h => by cases h) (exec_not p3) (x := .bool false) (w' := w5) (by rw [eval_tmp (put_self (by rw [← ha3, put_size, put_size]; exact sz2 _ (by simp)))]; rfl) ?_
    show (Code.cond (.tmp p.d14) .ret .skip).wpIn Fence.wide n P _ _ w5
    refine wpIn_cond_false (eval_tmp (put_self (by rw [← ha3]; simp only [put_size]; exact sz2 _ (by simp)))) (wpIn_skip ?_)
    show (Code.region i4 p.V4 false).wpIn Fence.wide n P _ _ w5
    generalize ha5 : (a3.put (some p.d13) (.bool true)).put (some p.d14) (.bool false) = a5
    have f5 : VRs μ5 h5 (clr [p.d11, p.d12, p.d13, p.d14] fr2) a5.tmps.toList := by
      rw [← ha5, ← ha3]
      exact VRs.put_clr (VRs.put_clr (VRs.put_clr (VRs.put_clr (VRs.step (t3.step.trans st5) f2))))
    refine region_in hS hT (wide_wide n P) r5.tr.rel f5 k5 fun μ6 h6 w6 fr6 a6 t6 f6 d6 g6 k6 => ?_
    have get6 : ∀ d, d ∈ [p.y, p.d11, p.d12, p.d13, p.d14] → a6.tmps[d]? = a5.tmps[d]? := fun d hd => g6 d fun o ho => hyk4 o ho d hd
    have sz5 : a5.tmps.size = a2.tmps.size := by rw [← ha5, ← ha3]; simp only [put_size]
    refine seqLoop_in hS hT hV3 ho1 hyc hya (by simp only [List.nodup_cons, List.mem_cons, List.not_mem_nil, or_false, not_or, not_false_eq_true, List.nodup_nil, and_true]; exact ⟨⟨n01, n02, n03, n04⟩, ⟨n12, n13, n14⟩, ⟨n23, n24⟩, n34⟩) hyk hQ N (r5.step t6) (mask_VRs2 _ f6) ?_ ?_ ?_ k6
    · rw [get6 _ (by simp), ← ha5, ← ha3, put_keeps (by simpa using fun e => n04 e.symm), put_keeps (by simpa using fun e => n03 e.symm), put_keeps (by simpa using fun e => n02 e.symm), put_keeps (by simpa using fun e => n01 e.symm)]
      exact hy2
    · intro d hd
      have := get6 d hd
      rw [Array.getElem?_eq_getElem (show d < a5.tmps.size by rw [sz5]; exact sz2 d hd)] at this
      exact (Array.getElem?_eq_some_iff.1 this).1
    · rw [d6, ← ha5, ← ha3]
      simp only [put_defers]
      rw [d2, d1, hdf]
/-- The iterator, whole. -/
theorem values_in (hS : ∀ f args h v h2, S f args h v h2 → Sat P f args h v h2) (hT : TOK P T) {p : IterP} {q : AppP} {i0 i1 i2 i3 i4 j2 j3 b0 b1 bb : Nat} {V3 : Array Oper} {tt : Nat} {yc : Call} {n : Nat}
    {f : FuncId} {fnv : Func} (hfn : P.funcs[f]? = some fnv)
    (hb : fnv.body = some (.seq (.region i0 p.V0 false) (.block b0 (.loop (.seq (.region i1 p.V1 false) (.seq (.cond (.tmp p.tc) .skip (.exit b0)) (.seq (.block b1 (.seq (.region i2 p.V2 false) (.seq (.region i3 V3 false) (.cond (.tmp p.d14) .ret .skip)))) (.region i4 p.V4 false))))))))
    (hres : fnv.results = #[])
    (hV3 : V3.toList.map plainO = [some (.move (.tmp p.y), p.d11), some (p.o1.op, p.d12), some (.call yc, p.d13), some (.unOp .not tt (.tmp p.d13), p.d14)]) (ho1 : V3[1]? = some p.o1) (hyc : yc.callee = .value (.tmp p.d11)) (hya : yc.args = #[.tmp p.d12])
    (hnd : [p.y, p.d11, p.d12, p.d13, p.d14].Nodup) (hyk : ∀ V ∈ [p.V0, p.V1, p.V2, p.V4], ∀ o ∈ V.toList, ∀ d ∈ [p.y, p.d11, p.d12, p.d13, p.d14], o.dst ≠ some d)
    {K : H → Prop} {R : Ending → World → Prop} {N : Nat} {μ : Mu} {h : H} {w : World} {cap : List AVal} {ds : Array Value}
    (r : RSt .ready μ0 h0 w0 frA at0 fn q.prm (.region j2 q.A2 false) (.block bb (.region j3 q.A3 false)) l D μ h w) (hcap : VRs μ h cap ds.toList) (hy0 : p.y = 0) (hsz : ∀ d ∈ [p.y, p.d11, p.d12, p.d13, p.d14], d < fnv.ntmps) (hnt : 1 + ds.size ≤ fnv.ntmps)
    (hK : runOps S T p.V0.toList p.V0.toList (fun frV h => seqLoop S T p q frA K N (mask p.mm frV) h) (fr0 fnv (.undef :: cap)) h)
    (hR : ∀ μ h w v, RSt .ready μ0 h0 w0 frA at0 fn q.prm (.region j2 q.A2 false) (.block bb (.region j3 q.A3 false)) l D μ h w → K h → R (.returned v) w) :
    CallsIn Fence.wide n P f (#[.func (.yield l) #[] #[]] ++ ds) w R := by
  refine callsIn_of_wp hfn hb trivial ?_
  have hargs : (#[Value.func (.yield l) #[] #[]] ++ ds).size = 1 + ds.size := by simp
  generalize ha : ({ tmps := (#[Value.func (.yield l) #[] #[]] ++ ds) ++ Array.replicate (fnv.ntmps - (#[Value.func (.yield l) #[] #[]] ++ ds).size) undef, defers := [] } : Act) = a
  have hf : VRs μ h (fr0 fnv (.undef :: cap)) a.tmps.toList := by
    rw [← ha]
    unfold fr0
    simp only [Array.toList_append]
    have hl : ds.size = cap.length := by rw [← Array.length_toList, hcap.len]
    refine VRs.append (VRs.append (VRs.cons (by simp only [VR]) VRs.nil : VRs μ h [.undef] _) hcap) ?_
    refine VRs.mk (by simp [hl, Nat.add_comm]) fun i v d h1 h2 => ?_
    rw [List.getElem?_replicate] at h1
    simp only [Array.toList_replicate, List.getElem?_replicate] at h2
    split at h1
    · cases h1
      split at h2
      · cases h2
        simp only [VR]
        rfl
      · cases h2
    · cases h1
  have hsz' : a.tmps.size = fnv.ntmps := by rw [← ha]; simp; omega
  have hyv : a.tmps[p.y]? = some (.func (.yield l) #[] #[]) := by
    rw [← ha, hy0]
    show ((#[Value.func (.yield l) #[] #[]] ++ ds) ++ Array.replicate _ undef)[0]? = _
    rw [Array.getElem?_append, if_pos (by rw [hargs]; omega), Array.getElem?_append, if_pos (by simp)]
    rfl
  have had : a.defers = [] := by rw [← ha]
  refine wpIn_seq (region_in hS hT (wide_wide n P) r.tr.rel hf hK fun μ1 h1 w1 fr1 a1 t1 f1 d1 g1 k1 => ?_)
  have hyk0 := hyk p.V0 (by simp)
  have get1 : ∀ d, d ∈ [p.y, p.d11, p.d12, p.d13, p.d14] → a1.tmps[d]? = a.tmps[d]? := fun d hd => g1 d fun o ho => hyk0 o ho d hd
  refine wpIn_block (wpIn_loop_rounds (N + 1) ?_)
  refine seqLoop_in hS hT hV3 ho1 hyc hya hnd (fun V hV => hyk V (List.mem_cons_of_mem _ hV)) (b0 := b0) (K := K) ?_ N (r.step t1) (mask_VRs2 _ f1) (by rw [get1 _ (by simp)]; exact hyv) ?_ (by rw [d1, had]) k1
  · intro μ2 h2 w2 a2 r2 d2 k2
    simp only [Exit.inBlock, if_true]
    show a2.defers = [] ∧ _
    refine ⟨d2, .tuple #[], ?_, hR μ2 h2 w2 _ r2 k2⟩
    unfold results
    rw [hres]
    simp
  · intro d hd
    have := get1 d hd
    rw [Array.getElem?_eq_getElem (show d < a.tmps.size by rw [hsz']; exact hsz d hd)] at this
    exact (Array.getElem?_eq_some_iff.1 this).1
/-! what is brought about -/
theorem runOps_bind {β : Type} (ops l : List Oper) (fr : Frame) (h : H) {G : Frame → H → (β → Prop) → Prop} (hG : ∀ fr h, Lin (G fr h)) : Lin fun K => runOps S T ops l (fun fr h => G fr h K) fr h :=
  Lin.bind (F := fun (K : Frame × H → Prop) => runOps S T ops l (fun fr h => K (fr, h)) fr h) (G := fun x K => G x.1 x.2 K) (runOps_lin ops l fr h) fun x => hG x.1 x.2
theorem seqRound_bind {β : Type} (q : AppP) (frA : Frame) (v : AVal) (h : H) {G : H → (β → Prop) → Prop} (hG : ∀ h, Lin (G h)) : Lin fun K => seqRound S T q frA v (fun h => G h K) h :=
  runOps_bind (G := fun fr h K => runOps S T q.A3.toList q.A3.toList (fun _ h => G h K) fr h) _ _ _ _ fun fr h => runOps_bind (G := fun _ h K => G h K) _ _ _ _ fun _ h => hG h
theorem seqLoop_bind {β : Type} (p : IterP) (q : AppP) (frA : Frame) {G : H → (β → Prop) → Prop} (hG : ∀ h, Lin (G h)) : ∀ (n : Nat) (fr : Frame) (h : H), Lin fun K => seqLoop S T p q frA (fun h => G h K) n fr h
  | 0, fr, h => runOps_bind (G := fun fr h K => fr.getD p.tc .undef = .bool false ∧ G h K) _ _ _ _ fun fr h => (hG h).and _
  | n + 1, fr, h => by
    unfold seqLoop
    refine runOps_bind (G := fun fr h K => fr.getD p.tc .undef = .bool true ∧ runOps S T p.V2.toList p.V2.toList (fun fr h => opK S T p.o1 (fr.set p.d11 .undef) h fun v h =>
      seqRound S T q frA v (fun h => runOps S T p.V4.toList p.V4.toList (fun fr h => seqLoop S T p q frA (fun h => G h K) n (mask p.mm fr) h) (clr [p.d11, p.d12, p.d13, p.d14] fr) h) h) fr h) _ _ _ _ fun fr h => Lin.and _ ?_
    refine runOps_bind (G := fun fr h K => opK S T p.o1 (fr.set p.d11 .undef) h fun v h =>
      seqRound S T q frA v (fun h => runOps S T p.V4.toList p.V4.toList (fun fr h => seqLoop S T p q frA (fun h => G h K) n (mask p.mm fr) h) (clr [p.d11, p.d12, p.d13, p.d14] fr) h) h) _ _ _ _ fun fr h => ?_
    refine op_bind (G := fun v h K => seqRound S T q frA v (fun h => runOps S T p.V4.toList p.V4.toList (fun fr h => seqLoop S T p q frA (fun h => G h K) n (mask p.mm fr) h) (clr [p.d11, p.d12, p.d13, p.d14] fr) h) h) _ _ _ fun v h => ?_
    refine seqRound_bind (G := fun h K => runOps S T p.V4.toList p.V4.toList (fun fr h => seqLoop S T p q frA (fun h => G h K) n (mask p.mm fr) h) (clr [p.d11, p.d12, p.d13, p.d14] _) h) _ _ _ _ fun h => ?_
    exact runOps_bind (G := fun fr h K => seqLoop S T p q frA (fun h => G h K) n (mask p.mm fr) h) _ _ _ _ fun fr h => seqLoop_bind p q frA hG n _ h
theorem seqAll_lin (p : IterP) (q : AppP) (fV n : Nat) (frV0 : List AVal → Frame) (fr : Frame) (rs : List ResultVar) (h : H) : Lin fun (K : AVal × H → Prop) => seqAll S T p q fV n frV0 fr rs h fun v h => K (v, h) := by
  unfold seqAll
  refine runOps_bind (G := fun fr h (K : AVal × H → Prop) => runOps S T q.A1.toList q.A1.toList (fun fr h => ∃ cap, (fr.getD q.g .undef = .func fV cap ∧ cap.length = 1) ∧
    runOps S T p.V0.toList p.V0.toList (fun frV h => seqLoop S T p q fr (fun h => runOps S T q.A4.toList q.A4.toList (fun fr h => resK T rs fr h fun vs => K (one vs, h)) fr h) n (mask p.mm frV) h) (frV0 cap) h) fr h) _ _ _ _ fun fr h => ?_
  refine runOps_bind (G := fun fr h (K : AVal × H → Prop) => ∃ cap, (fr.getD q.g .undef = .func fV cap ∧ cap.length = 1) ∧
    runOps S T p.V0.toList p.V0.toList (fun frV h => seqLoop S T p q fr (fun h => runOps S T q.A4.toList q.A4.toList (fun fr h => resK T rs fr h fun vs => K (one vs, h)) fr h) n (mask p.mm frV) h) (frV0 cap) h) _ _ _ _ fun fr h => Lin.exists_ fun cap => Lin.and _ ?_
  refine runOps_bind (G := fun frV h (K : AVal × H → Prop) => seqLoop S T p q fr (fun h => runOps S T q.A4.toList q.A4.toList (fun fr h => resK T rs fr h fun vs => K (one vs, h)) fr h) n (mask p.mm frV) h) _ _ _ _ fun frV h => ?_
  refine seqLoop_bind (G := fun h (K : AVal × H → Prop) => runOps S T q.A4.toList q.A4.toList (fun fr h => resK T rs fr h fun vs => K (one vs, h)) fr h) p q fr (fun h => ?_) n _ h
  exact runOps_bind (G := fun fr h (K : AVal × H → Prop) => resK T rs fr h fun vs => K (one vs, h)) _ _ _ _ fun fr h => Lin.map (resK_lin fr h rs) fun vs => (one vs, h)
theorem results_of (hT : TOK P T) {fn : Func} {μ : Mu} {h : H} {w : World} {fr : Frame} {tmps : Array Value} {K : AVal → Prop} (r : Rel μ h w) (hf : VRs μ h fr tmps.toList) (hK : resK T fn.results.toList fr h fun vs => K (one vs)) :
    ∃ x v, (results fn tmps).run P w = .ok x w ∧ K v ∧ VR μ h v x := by
  obtain ⟨vs, ds', k1, k2, k3⟩ := resK_sound (P := P) hT r hf _ _ hK
  have hone : ∃ x, (results fn tmps).run P w = .ok x w ∧ VR μ h (one vs) x := by
    rw [results_eq, Sem.run_bind, Array.mapM_eq_mapM_toList, Sem.run_map, k1]
    simp only [Result.andThen_ok]
    cases vs with
    | nil =>
      simp only [VRs] at k3
      subst k3
      exact ⟨_, rfl, by simp only [one, VR]; exact ⟨#[], rfl, VRs.nil⟩⟩
    | cons v1 vs =>
      have k3' := k3
      simp only [VRs] at k3'
      obtain ⟨d1, ds'', rfl, hv1, hvs⟩ := k3'
      cases vs with
      | nil =>
        simp only [VRs] at hvs
        subst hvs
        exact ⟨d1, rfl, hv1⟩
      | cons v2 vs =>
        have k4 := hvs
        simp only [VRs] at k4
        obtain ⟨d2, ds3, rfl, _, _⟩ := k4
        refine ⟨.tuple (d1 :: d2 :: ds3).toArray, ?_, by simp only [one, VR]; exact ⟨_, rfl, k3⟩⟩
        simp
  obtain ⟨x, hx, hvx⟩ := hone
  exact ⟨x, _, hx, k2, hvx⟩
theorem appSeq_sat (hT : TOK P T) {p : IterP} {q : AppP} {i0 i1 i2 i3 i4 j0 j1 j2 j3 j4 b0 b1 bb c0 : Nat} {V3 : Array Oper} {tt : Nat} {yc : Call} {fV f : FuncId} {fnv fna : Func} {N : Nat}
    (hfn : P.funcs[fV]? = some fnv)
    (hb : fnv.body = some (.seq (.region i0 p.V0 false) (.block b0 (.loop (.seq (.region i1 p.V1 false) (.seq (.cond (.tmp p.tc) .skip (.exit b0)) (.seq (.block b1 (.seq (.region i2 p.V2 false) (.seq (.region i3 V3 false) (.cond (.tmp p.d14) .ret .skip)))) (.region i4 p.V4 false))))))))
    (hres : fnv.results = #[])
    (hV3 : V3.toList.map plainO = [some (.move (.tmp p.y), p.d11), some (p.o1.op, p.d12), some (.call yc, p.d13), some (.unOp .not tt (.tmp p.d13), p.d14)]) (ho1 : V3[1]? = some p.o1) (hyc : yc.callee = .value (.tmp p.d11)) (hya : yc.args = #[.tmp p.d12])
    (hnd : [p.y, p.d11, p.d12, p.d13, p.d14].Nodup) (hyk : ∀ V ∈ [p.V0, p.V1, p.V2, p.V4], ∀ o ∈ V.toList, ∀ d ∈ [p.y, p.d11, p.d12, p.d13, p.d14], o.dst ≠ some d)
    (hy0 : p.y = 0) (hsz : ∀ d ∈ [p.y, p.d11, p.d12, p.d13, p.d14], d < fnv.ntmps)
    (hfa : P.funcs[f]? = some fna)
    (hba : fna.body = some (.seq (.region j0 q.A0 false) (.seq (.seq (.region j1 q.A1 false) (.block c0 (.rangeFunc (.tmp q.g) #[q.prm] (.region j2 q.A2 false) (.block bb (.region j3 q.A3 false))))) (.seq (.region j4 q.A4 false) .ret))))
    (hcall : ∀ (a : Array Value) (w : World), (callFunc f a).run P w = .ok (.enter f a) w) (hcallV : ∀ (a : Array Value) (w : World), (callFunc fV a).run P w = .ok (.enter fV a) w)
    {args : List AVal} {h : H} {K : AVal → H → Prop} (hcp : 2 ≤ fnv.ntmps)
    (hH : seqAll (Sat P) T p q fV N (fun cap => fr0 fnv (.undef :: cap)) (fr0 fna args) fna.results.toList h K) : ∃ v h2, Sat P f args h v h2 ∧ K v h2 := by
  have hl := seqAll_lin (S := Sat P) (T := T) p q fV N (fun cap => fr0 fnv (.undef :: cap)) (fr0 fna args) fna.results.toList h
  obtain ⟨⟨v, h2⟩, hk, hx⟩ := Lin.wit hl (K := fun p => K p.1 p.2) hH
  refine ⟨v, h2, ⟨hcall, fun μ w ds r hd => callsIn_wide.1 (callsIn_of_wp_marks (n := 2) hfa hba trivial ?_)⟩, hk⟩
  clear hk hH hl
  have hS : ∀ f args h v h2, Sat P f args h v h2 → Sat P f args h v h2 := fun _ _ _ _ _ h => h
  have hfr : VRs μ h (fr0 fna args) (ds.toArray ++ Array.replicate (fna.ntmps - ds.toArray.size) undef).toList := by
    unfold fr0
    rw [Array.toList_append]
    refine hd.append ?_
    have : ds.toArray.size = args.length := by simp [hd.len]
    rw [this]
    refine VRs.mk (by simp) fun i v d h1 h2 => ?_
    rw [List.getElem?_replicate] at h1
    simp only [Array.toList_replicate, List.getElem?_replicate] at h2
    split at h1
    · next hi =>
      rw [if_pos hi] at h2
      cases h1
      cases h2
      simp only [VR]
      rfl
    · cases h1
  refine wpIn_seq (region_in hS hT (wide_wide 2 P) r hfr hx fun μ1 h1 w1 fr1 a1 t1 f1 d1 _ k1 => ?_)
  refine wpIn_seq (wpIn_seq (region_in hS hT (wide_wide 2 P) t1.rel f1 k1 fun μ2 h2' w2 fr2 a2 t2 f2 d2 _ k2 => ?_))
  have t := t1.trans t2
  obtain ⟨cap, ⟨hcap, hcl⟩, k3⟩ := k2
  have hg := ev_sound (a := a2) f2 (.tmp q.g)
  rw [show ev fr2 (.tmp q.g) = .func fV cap from hcap] at hg
  simp only [VR] at hg
  obtain ⟨dsc, hg, hvc⟩ := hg
  have ad2 : a2.defers = [] := by rw [d2, d1]
  refine wpIn_block (wpIn_rangeFunc fun fn _ => ?_)
  generalize hW1 : (w2.alloc (.deferred (some []))).alloc (.loop (recOf fn a2.tmps q.prm (.region j2 q.A2 false) (.block bb (.region j3 q.A3 false)) w2.heap.size .ready)) = W1
  have sz1 : (w2.alloc (.deferred (some []))).heap.size = w2.heap.size + 1 := alloc_size _ _
  have rs : RSt .ready μ h w fr2 a2.tmps fn q.prm (.region j2 q.A2 false) (.block bb (.region j3 q.A3 false)) (w2.heap.size + 1) w2.heap.size μ2 h2' W1 := by
    have e1 := Tr.extra t.rel (.deferred (some []))
    have e2 := Tr.extra e1.rel (.loop (recOf fn a2.tmps q.prm (.region j2 q.A2 false) (.block bb (.region j3 q.A3 false)) w2.heap.size .ready))
    rw [hW1] at e2
    refine ⟨t.trans (e1.trans e2), f2, ?_, ?_, ?_, ?_, ?_, t.keep.size, by omega⟩
    · rw [← hW1, ← sz1]; exact heap_alloc_new _ _
    · rw [← hW1, heap_alloc_old _ _ (by omega)]; exact heap_alloc_new _ _
    · intro hc; have := t.rel.mine_lt hc; omega
    · intro hc; have := t.rel.mine_lt hc; omega
    · have := t.keep.size; omega
  refine ⟨w2.heap.size + 1, [{ target := .collected w2.heap.size, args := #[] }], W1, { target := .fn (.func fV) dsc, args := #[.func (.yield (w2.heap.size + 1)) #[] #[]] }, W1, fV, #[.func (.yield (w2.heap.size + 1)) #[] #[]] ++ dsc, W1, ?_, ?_, ?_, ?_, fun hh => (by cases hh), ?_⟩
  · rw [← hW1]; exact run_enterLoop_outer _ _ _ _ _
  · simp only [resolve, hg]
    simp [Deferred.ofValue, Act.eval]
  · intro f' hf'; trivial
  · simp only [invoke]; exact hcallV _ _
  refine values_in hS hT hfn hb hres hV3 ho1 hyc hya hnd hyk rs hvc hy0 hsz ?_ k3 fun μ3 h3 w3 vr r3 k4 => ?_
  · have := hvc.len
    rw [Array.length_toList] at this
    omega
  refine ⟨none, _, run_endLoop r3.rl (by simp [recOf]), ?_⟩
  have r4 : RSt .exhausted μ h w fr2 a2.tmps fn q.prm (.region j2 q.A2 false) (.block bb (.region j3 q.A3 false)) (w2.heap.size + 1) w2.heap.size μ3 h3 _ := r3.turn
  show Code.wpIn Fence.wide 2 P (.seq (.region j4 q.A4 false) .ret) _ _ (w3.putObj (w2.heap.size + 1) (.loop (recOf fn a2.tmps q.prm (.region j2 q.A2 false) (.block bb (.region j3 q.A3 false)) w2.heap.size .exhausted)))
  refine wpIn_seq (region_in hS hT (wide_wide 2 P) r4.tr.rel (a := { a2 with defers := [{ target := .collected w2.heap.size, args := #[] }] ++ a2.defers }) r4.fa k4 fun μ5 h5 w5 fr5 a5 t5 f5 d5 _ k5 => ?_)
  refine wpIn_ret ?_
  have r5 := r4.step t5
  show LeavesInM Fence.wide 2 P fna a5.tmps _ a5.defers .returning w5
  rw [d5, ad2]
  refine ⟨by simp, .inl ⟨w2.heap.size, _, rfl, run_takeDeferred r5.rd, ?_⟩⟩
  have rr : Tr μ h w μ5 h5 (w5.putObj w2.heap.size (.deferred none)) := r5.tr.turn r5.rd trivial trivial r5.gd
  generalize w5.putObj w2.heap.size (.deferred none) = w6 at rr
  obtain ⟨x, v', hxr, hve, hv⟩ := results_of (P := P) hT (fn := fna) (tmps := a5.tmps) (K := fun v' => (v', h5) = (v, h2)) rr.rel f5 k5
  cases hve
  exact ⟨x, hxr, x, μ5, rfl, rr, hv⟩
end
end Go.Proofs.Ytlcgclmobfdbcaa.Cl

/- The clean machine: slices.SortFunc by its contract of the shelf. No claim is stated here. -/
set_option linter.unusedVariables false
set_option linter.unusedSimpArgs false
namespace Go.Proofs.Ytlcgclmobfdbcaa.Cl
open Go Go.Sort Go.Shelf Go.Lib
theorem world_grow (w w' : World) (hos : w'.os = w.os) (htp : w'.tape = w.tape) (hout : w'.output = w.output) (hsz : w.heap.size ≤ w'.heap.size) (hblk : ∀ k, k < w.heap.size → w'.heap[k]? = w.heap[k]?) (hdr : w.drawn ≤ w'.drawn) :
    ∃ q os', w' = Sort.grow (w.drewN q) os' := by
  refine ⟨w'.drawn - w.drawn, w'.heap.extract w.heap.size w'.heap.size, ?_⟩
  have hh : w'.heap = w.heap ++ w'.heap.extract w.heap.size w'.heap.size := by
    apply Array.ext_getElem?
    intro i
    rw [Array.getElem?_append]
    split
    · next h => exact hblk i h
    · next h =>
      rw [Array.getElem?_extract]
      split
      · next h2 => congr 1; omega
      · next h2 =>
        rw [Array.getElem?_eq_none]
        omega
  have hd : w.drawn + (w'.drawn - w.drawn) = w'.drawn := by omega
  cases w
  cases w'
  simp only [Sort.grow, World.drewN] at *
  rw [hd]
  subst hos htp hout
  congr 1
theorem Tr.grown {μ h w} (r : Rel μ h w) (os : Array Go.Obj) : Tr μ h w μ h (Sort.grow w os) := by
  have hs : (Sort.grow w os).heap.size = w.heap.size + os.size := size_grow _ _
  have hold : ∀ k, k < w.heap.size → (Sort.grow w os).heap[k]? = w.heap[k]? := fun k hk => heap_grow_old w os hk
  have hc : ∀ a : Addr, a.block < w.heap.size → (Sort.grow w os).cell? a = w.cell? a := fun a ha => World.cell?_of_block (hold _ ha)
  have hf : ∀ a : Addr, a.block < w.heap.size → (Sort.grow w os).frozen? a = w.frozen? a := fun a ha => World.frozen?_of_block (hold _ ha)
  refine ⟨⟨fun o cs ho => ?_, fun o cs ho i v hv => ?_, fun o es ho => ?_, r.sep⟩, Step.refl _ _, ⟨rfl, rfl, rfl, by rw [hs]; omega, fun k hk _ => hold k hk, Nat.le_refl _⟩, fun _ h => .inl h, fun _ h => .inl h⟩
  · obtain ⟨h1, h2, h3, h4⟩ := r.own o cs ho
    refine ⟨by rw [hs]; omega, h2, fun i hi => ?_, fun i v hv => ?_⟩
    · rw [hc _ h1, hf _ h1]; exact h3 i hi
    · obtain ⟨q, d, h5, h6⟩ := h4 i v hv
      exact ⟨q, d, by rw [hc _ h1]; exact h5, h6⟩
  · obtain ⟨q, d, h5, h6⟩ := r.ro o cs ho i v hv
    exact ⟨q, d, by rw [hc _ (cell_lt h5)]; exact h5, h6⟩
  · obtain ⟨h1, ms, ck, h2, h3, h4⟩ := r.mp o es ho
    exact ⟨by rw [hs]; omega, ms, ck, by rw [hold _ h1]; exact h2, h3, h4⟩
theorem flat_get {α β : Type} (cl : α → List β) {k : Nat} (hk : ∀ x, (cl x).length = k) (k0 : 0 < k) : ∀ (ts : List α) (i : Nat), (ts.map cl).flatten[i]? = (ts[i / k]?).bind fun x => (cl x)[i % k]?
  | [], i => by simp
  | t :: ts, i => by
    rw [List.map_cons, List.flatten_cons, List.getElem?_append, hk]
    by_cases h : i < k
    · rw [if_pos h, Nat.div_eq_of_lt h, Nat.mod_eq_of_lt h]; rfl
    · rw [if_neg h, flat_get cl hk k0 ts (i - k)]
      have e1 : i / k = (i - k) / k + 1 := Nat.div_eq_sub_div k0 (by omega)
      have e2 : i % k = (i - k) % k := Nat.mod_eq_sub_mod (by omega)
      rw [e1, e2]; simp
theorem flat_len {α β : Type} (cl : α → List β) {k : Nat} (hk : ∀ x, (cl x).length = k) : ∀ (ts : List α), (ts.map cl).flatten.length = ts.length * k
  | [] => by simp
  | t :: ts => by rw [List.map_cons, List.flatten_cons, List.length_append, hk, flat_len cl hk ts, List.length_cons, Nat.add_mul]; omega
section
variable {P : Program} {α : Type} [Inhabited α]
theorem cmp_lays {g : Nat} {enc : α → List Value} {cl : α → List AVal} {cf : α → α → Int} (hec : ∀ x (μ : Mu) (h : H), VRs μ h (cl x) (enc x)) (hcl : ∀ x, (cl x).all AVal.isCell = true)
    (hcmp : ∀ x y, ∃ h2, Sat P g [.agg (cl x), .agg (cl y)] [] (.int .i64 (cf x y)) h2) (k blk off size : Nat) (w : World) : CmpLays P g #[] enc k cf blk off size w := by
  intro m os dk hs x y
  generalize sortWorldK enc k w blk off m dk os = W
  obtain ⟨h2, _, hsat⟩ := hcmp x y
  have hrel : Rel (fun _ => ⟨0, 0, 0⟩) [] W := ⟨fun o cs e => by simp at e, fun o cs e => by simp at e, fun o es e => by simp at e, fun o o' t m t' m' e => by simp [inf] at e⟩
  have hv : VRs (fun _ => (⟨0, 0, 0⟩ : Loc)) [] [.agg (cl x), .agg (cl y)] [.agg (enc x).toArray, .agg (enc y).toArray] :=
    VRs.cons (by simp only [VR]; exact ⟨_, rfl, hec _ _ _, hcl _⟩) (VRs.cons (by simp only [VR]; exact ⟨_, rfl, hec _ _ _, hcl _⟩) VRs.nil)
  refine Calls.mono (hsat _ W _ hrel hv) ?_
  rintro e w' ⟨v, μ', rfl, t, hvx⟩
  simp only [VR] at hvx
  subst hvx
  refine ⟨rfl, world_grow W w' t.keep.os t.keep.tape t.keep.output t.keep.size (fun k hk => t.keep.block k hk ?_) t.keep.drawn⟩
  rintro ⟨o, t, m, e, _⟩
  simp [inf] at e
theorem sort_sat {f g : Nat} {k : Nat} {enc : α → List Value} {cl : α → List AVal} {srt : Array α → Array α} (k0 : 0 < k) (hk : ∀ x, (cl x).length = k) (hec : ∀ x (μ : Mu) (h : H), VRs μ h (cl x) (enc x)) (hcl : ∀ x, (cl x).all AVal.isCell = true)
    (hdet : ∀ x (μ : Mu) (h : H) (i : Nat) v d, (cl x)[i]? = some v → VR μ h v d → (enc x)[i]? = some d) (hss : ∀ d, (srt d).size = d.size)
    (hcall : ∀ (a : Array Value) (w : World), (callFunc f a).run P w = .ok (.enter f a) w)
    (hcon : ∀ (blk off cap : Nat) (d : Array α) (w : World), HoldsK enc k w blk off d → blk < w.heap.size → d.size < 4611686018427387904 → Calls P f #[.slice (some ⟨blk, off, none⟩) d.size cap, .func (.func g) #[] #[]] w fun e w' => e = .returned (.tuple #[]) ∧ ∃ n os, w' = sortWorldK enc k w blk off n (srt d) os)
    (hnone : ∀ (p : Option Addr) (cap : Nat) (fv : Value) (w : World), Calls P f #[.slice p 0 cap, fv] w fun e w' => e = .returned (.tuple #[]) ∧ w' = w)
    {h : H} {s : Sl} {ts : List α} (ho : Ow h s k (ts.map cl).flatten) (hl : ts.length < 4611686018427387904) :
    callV (Sat P) f [.sl s, .func g []] h fun v h' => v = .tuple [] ∧ Ow h' s k ((srt ts.toArray).toList.map cl).flatten ∧ But s.o h h' ∧ h'.length = h.length := by
  have hel : ∀ x, (enc x).length = k := fun x => by rw [(hec x (fun _ => ⟨0, 0, 0⟩) []).len, hk]
  have hslen : s.len = ts.length := by
    have := ho.len
    rw [flat_len cl hk] at this
    exact (Nat.eq_of_mul_eq_mul_right k0 this).symm
  by_cases hz : ts.length = 0
  · have hts : ts = [] := List.length_eq_zero_iff.1 hz
    subst hts
    have hs0 : (srt (#[] : Array α)).toList = [] := by
      have := hss #[]
      simp at this
      simpa using this
    refine ⟨.tuple [], h, ⟨hcall, fun μ w ds r hd => ?_⟩, rfl, by rw [hs0]; exact ho, ⟨Nat.le_refl _, fun _ _ _ => rfl⟩, rfl⟩
    simp only [VRs] at hd
    obtain ⟨d1, ds1, rfl, hv1, d2, ds2, rfl, hv2, rfl⟩ := hd
    have : ∃ p cap, d1 = .slice p 0 cap := by
      simp only [VR, SR] at hv1
      split at hv1
      · exact ⟨_, _, hv1.2⟩
      · obtain ⟨_, _, a, cap, e, _⟩ := hv1
        rw [hslen] at e
        exact ⟨_, _, e⟩
    obtain ⟨p, cap, rfl⟩ := this
    refine Calls.mono (hnone p cap d2 w) ?_
    rintro e w' ⟨rfl, rfl⟩
    exact ⟨_, μ, rfl, Tr.refl r, by simp only [VR]; exact ⟨#[], rfl, VRs.nil⟩⟩
  · obtain ⟨a, b⟩ | ⟨o, hso, hsz, hoff, hn, hob⟩ := ho.at_
    · omega
    have hol : o < h.length := (List.getElem?_eq_some_iff.1 hob).1
    have hlen2 : ((srt ts.toArray).toList.map cl).flatten.length = s.n := by
      rw [flat_len cl hk, Array.length_toList, hss, hn, hslen]; simp
    have hlen1 : (ts.map cl).flatten.length = s.n := by rw [flat_len cl hk, hn, hslen]
    refine ⟨.tuple [], h.set o (.own ((srt ts.toArray).toList.map cl).flatten), ⟨hcall, fun μ w ds r hd => ?_⟩, rfl, ⟨by rw [hlen2, hn], .inr ⟨o, hso, hsz, hoff, hn, by simp [hol]⟩⟩, ⟨by simp, fun i hi hne => by rw [List.getElem?_set, if_neg (fun e => hne (by rw [hso, e]))]⟩, by simp⟩
    simp only [VRs] at hd
    obtain ⟨d1, ds1, rfl, hv1, d2, ds2, rfl, hv2, rfl⟩ := hd
    have hv2' := hv2
    simp only [VR] at hv2'
    obtain ⟨cap2, rfl, hc2⟩ := hv2'
    simp only [VRs] at hc2
    obtain rfl : cap2 = #[] := by simpa using hc2
    simp only [VR, SR, hso] at hv1
    obtain ⟨hin, hz0, a, cap, rfl, hcap, hall⟩ := hv1
    have hio : inf h o = some (0, s.n) := by unfold inf; rw [hob]; simp only; rw [hlen1]
    obtain ⟨_, hfin⟩ := hall 0 s.n hio
    obtain ⟨q1, q2, q3, q4⟩ := hfin rfl
    have ha : a = place (μ o) s.off := by
      rcases q3 with q | q | q
      · omega
      · omega
      · exact q
    rw [hoff] at ha
    subst ha
    obtain ⟨g1, g2, g3, g4⟩ := r.own o _ hob
    have hd0 : ts.toArray.size = s.len := by simp [hslen]
    have hH : HoldsK enc k w (μ o).b (μ o).off ts.toArray := by
      intro j hj
      have hj' : j < ts.length * k := by simpa using hj
      have hjk : j / k < ts.length := (Nat.div_lt_iff_lt_mul k0).2 hj'
      have hmk : j % k < k := Nat.mod_lt _ k0
      obtain ⟨v, hv⟩ : ∃ v, (cl (ts[j / k]'hjk))[j % k]? = some v := ⟨_, List.getElem?_eq_getElem (by rw [hk]; exact hmk)⟩
      have hcs : (ts.map cl).flatten[j]? = some v := by rw [flat_get cl hk k0, List.getElem?_eq_getElem hjk]; exact hv
      obtain ⟨_, d, h5, h6⟩ := g4 j v hcs
      have hed := hdet _ _ _ _ _ _ hv h6
      have hfl : (flatK enc k ts.toArray)[j]! = d := by
        rw [get_flatK enc k _ j (by simpa using hj')]
        have : ts.toArray[j / k]! = ts[j / k]'hjk := by simp [hjk]
        rw [this]
        rw [List.getElem!_eq_getElem?_getD, hed]; rfl
      refine ⟨?_, (g3 j (by rw [hlen1] at g2; rw [hn, hslen] at g2; omega)).2⟩
      rw [hfl]
      exact h5
    have hcc := hcon (μ o).b (μ o).off cap ts.toArray w hH g1 (by simpa using hl)
    have hargs : (#[.slice (some (place (μ o) 0)) s.len cap, .func (.func g) #[] #[]] : Array Value) = #[.slice (some ⟨(μ o).b, (μ o).off, none⟩) ts.toArray.size cap, .func (.func g) #[] #[]] := by rw [hd0]; rfl
    show Calls P f #[.slice (some (place (μ o) 0)) s.len cap, .func (.func g) #[] #[]] w _
    rw [hargs]
    refine Calls.mono hcc ?_
    rintro e w' ⟨rfl, n, os, rfl⟩
    refine ⟨_, μ, rfl, ?_, by simp only [VR]; exact ⟨#[], rfl, VRs.nil⟩⟩
    unfold sortWorldK
    have hsz2 : (srt ts.toArray).size = ts.toArray.size := hss _
    have hH' : HoldsK enc k (Sort.ahead w n) (μ o).b (μ o).off ts.toArray := holdsK_ahead enc k w n _ _ _ hH
    have tw : Tr μ h w μ (h.set o (.own ((srt ts.toArray).toList.map cl).flatten)) (putRowK enc k (Sort.ahead w n) (μ o).b (μ o).off (srt ts.toArray)) := by
      refine Tr.wrote r hob (by rw [hlen2, hlen1]) rfl rfl ⟨rfl, Nat.le_add_right _ _⟩ (by rw [putRowK, size_putRow]; rfl) (fun j hj => ?_) ?_ (fun i hi => ?_) fun i v hv => ?_
      · show (Array.modify _ _ _)[j]? = _
        rw [Array.getElem?_modify, if_neg (fun e => hj e.symm)]; rfl
      · rw [List.all_flatten, List.all_map]
        rw [List.all_eq_true]
        intro x _
        exact hcl x
      · have hi' := g3 i hi
        refine ⟨?_, by rw [putRowK, frozen?_putRow]; exact hi'.2⟩
        by_cases hlt : i < (flatK enc k (srt ts.toArray)).size
        · have := cell?_putRow id (Sort.ahead w n) (μ o).b (μ o).off _ (flatK enc k (srt ts.toArray)) hH' (by simp [hsz2]) i hlt
          show (World.cell? (putRow id (Sort.ahead w n) (μ o).b (μ o).off (flatK enc k (srt ts.toArray))) ⟨(μ o).b, (μ o).off + i, none⟩).isSome = true
          rw [this]; rfl
        · have := cell?_putRow_other id (Sort.ahead w n) (μ o).b (μ o).off (flatK enc k (srt ts.toArray)) (place (μ o) i) (.inr (.inr (by show _ ≤ (μ o).off + i; omega)))
          rw [putRowK, this]; exact hi'.1
      · have hvi := hv
        rw [flat_get cl hk k0] at hv
        cases hq : (srt ts.toArray).toList[i / k]? with
        | none => rw [hq] at hv; cases hv
        | some x =>
          rw [hq] at hv
          have hv : (cl x)[i % k]? = some v := hv
          obtain ⟨d, hd1, hd2⟩ := (hec x μ h).get hv
          have hik : i / k < (srt ts.toArray).size := by have := (List.getElem?_eq_some_iff.1 hq).1; simpa using this
          have hlt : i < (srt ts.toArray).size * k := (Nat.div_lt_iff_lt_mul k0).1 hik
          refine ⟨d, ?_, hd2⟩
          have := cell?_putRow id (Sort.ahead w n) (μ o).b (μ o).off _ (flatK enc k (srt ts.toArray)) hH' (by simp [hsz2]) i (by simpa using hlt)
          show World.cell? (putRow id (Sort.ahead w n) (μ o).b (μ o).off (flatK enc k (srt ts.toArray))) ⟨(μ o).b, (μ o).off + i, none⟩ = some d
          rw [this]
          congr 1
          show (flatK enc k (srt ts.toArray))[i]! = d
          rw [get_flatK enc k _ i hlt]
          have hx : (srt ts.toArray)[i / k]! = x := by
            rw [Array.getElem?_toList] at hq
            simp [hq, getElem!_def]
          rw [hx, List.getElem!_eq_getElem?_getD, hd1]; rfl
    exact tw.trans (Tr.grown tw.rel os)
end
end Go.Proofs.Ytlcgclmobfdbcaa.Cl

/- Sorting of tiles. No claim is stated here. -/
set_option linter.unusedVariables false
set_option linter.unusedSimpArgs false
namespace Go.Proofs
open Go.Shelf
def sortT77_ren : Go.Shelf.Ren := ⟨fun | 6 => 78 | 15 => 84 | 14 => 83 | 28 => 93 | 29 => 94 | 20 => 85 | 21 => 86 | 22 => 87 | 23 => 88 | 24 => 89 | 25 => 90 | 26 => 91 | 27 => 92 | 46 => 95 | 47 => 96 | 48 => 97 | 49 => 98 | 50 => 99 | 57 => 100 | n => n, fun | 22 => 24 | 24 => 39 | 25 => 71 | 3 => 3 | 39 => 77 | 0 => 0 | 53 => 97 | 55 => 67 | 4 => 4 | 46 => 116 | 45 => 115 | 50 => 120 | 5 => 5 | 9 => 9 | 66 => 124 | 70 => 128 | 76 => 130 | 77 => 131 | n => n, fun | n => n⟩
theorem sortT77 : Go.Proofs.SlLaysF0.n6 Try.prog sortT77_ren := {
  mixed := by kernel_rfl
  f6 := ⟨Try.f78.name, by decide, Try.func78.trans (congrArg some (by kernel_rfl))⟩
  f14 := ⟨Try.f83.name, by decide, Try.func83.trans (congrArg some (by kernel_rfl))⟩
  f15 := Try.func84.trans (congrArg some (by kernel_rfl))
  f20 := ⟨Try.f85.name, by decide, Try.func85.trans (congrArg some (by kernel_rfl))⟩
  f21 := ⟨Try.f86.name, by decide, Try.func86.trans (congrArg some (by kernel_rfl))⟩
  f22 := ⟨Try.f87.name, by decide, Try.func87.trans (congrArg some (by kernel_rfl))⟩
  f23 := ⟨Try.f88.name, by decide, Try.func88.trans (congrArg some (by kernel_rfl))⟩
  f24 := ⟨Try.f89.name, by decide, Try.func89.trans (congrArg some (by kernel_rfl))⟩
  f25 := ⟨Try.f90.name, by decide, Try.func90.trans (congrArg some (by kernel_rfl))⟩
  f26 := ⟨Try.f91.name, by decide, Try.func91.trans (congrArg some (by kernel_rfl))⟩
  f27 := ⟨Try.f92.name, by decide, Try.func92.trans (congrArg some (by kernel_rfl))⟩
  f28 := Try.func93.trans (congrArg some (by kernel_rfl))
  f29 := Try.func94.trans (congrArg some (by kernel_rfl))
  f46 := ⟨Try.f95.name, by decide, Try.func95.trans (congrArg some (by kernel_rfl))⟩
  f47 := Try.func96.trans (congrArg some (by kernel_rfl))
  f48 := Try.func97.trans (congrArg some (by kernel_rfl))
  f49 := ⟨Try.f98.name, by decide, Try.func98.trans (congrArg some (by kernel_rfl))⟩
  f50 := ⟨Try.f99.name, by decide, Try.func99.trans (congrArg some (by kernel_rfl))⟩
  f57 := ⟨Try.f100.name, by decide, Try.func100.trans (congrArg some (by kernel_rfl))⟩
  t0 := Try.underlying0
  a0 := Try.isAgg0
  z0 := Try.sizeOf0
  v0 := Try.zeroValue0
  t3 := Try.underlying3
  a3 := Try.isAgg3
  z3 := Try.sizeOf3
  v3 := Try.zeroValue3
  t4 := Try.underlying4
  a4 := Try.isAgg4
  z4 := Try.sizeOf4
  v4 := Try.zeroValue4
  t5 := Try.underlying5
  a5 := Try.isAgg5
  z5 := Try.sizeOf5
  v5 := Try.zeroValue5
  t9 := Try.underlying9
  a9 := Try.isAgg9
  z9 := Try.sizeOf9
  v9 := Try.zeroValue9
  t22 := Try.underlying24
  a22 := Try.isAgg24
  z22 := Try.sizeOf24
  v22 := Try.zeroValue24
  t25 := Try.underlying71
  a25 := Try.isAgg71
  z25 := Try.sizeOf71
  v25 := Try.zeroValue71
  t39 := Try.underlying77
  a39 := Try.isAgg77
  z39 := Try.sizeOf77
  v39 := Try.zeroValue77
  t45 := Try.underlying115
  a45 := Try.isAgg115
  z45 := Try.sizeOf115
  v45 := Try.zeroValue115
  t46 := Try.underlying116
  a46 := Try.isAgg116
  z46 := Try.sizeOf116
  v46 := Try.zeroValue116
  t50 := Try.underlying120
  a50 := Try.isAgg120
  z50 := Try.sizeOf120
  v50 := Try.zeroValue120
  t53 := Try.underlying97
  a53 := Try.isAgg97
  z53 := Try.sizeOf97
  v53 := Try.zeroValue97
  t55 := Try.underlying67
  a55 := Try.isAgg67
  z55 := Try.sizeOf67
  v55 := Try.zeroValue67
  t66 := Try.underlying124
  a66 := Try.isAgg124
  z66 := Try.sizeOf124
  v66 := Try.zeroValue124
  t70 := Try.underlying128
  a70 := Try.isAgg128
  z70 := Try.sizeOf128
  v70 := Try.zeroValue128
  t76 := Try.underlying130
  a76 := Try.isAgg130
  z76 := Try.sizeOf130
  v76 := Try.zeroValue130
  t77 := Try.underlying131
  a77 := Try.isAgg131
  z77 := Try.sizeOf131
  v77 := Try.zeroValue131 }
end Go.Proofs
namespace Go.Proofs.Ytlcgclmobfdbcaa.Cl
open Go Go.Proofs Go.Shelf Go.Lib
theorem swo_of {α : Type} {lt : α → α → Prop} (o : STO lt) {cf : α → α → Int} (h : ∀ a b, lt a b ↔ cf a b < 0) : Go.Sort.SWO (ltOf cf) := by
  have e : ∀ a b, ltOf cf a b = true ↔ lt a b := fun a b => by unfold ltOf; rw [decide_eq_true_eq, h]
  have e' : ∀ a b, ltOf cf a b = false ↔ ¬ lt a b := fun a b => by rw [← e, Bool.not_eq_true]
  refine ⟨fun x => (e' x x).2 (o.irr x), fun x y z h1 h2 => (e x z).2 (o.trans _ _ _ ((e _ _).1 h1) ((e _ _).1 h2)), fun x y z h1 h2 => (e' x z).2 fun h3 => ?_⟩
  have h1 := (e' _ _).1 h1
  have h2 := (e' _ _).1 h2
  by_cases hxy : x = y
  · subst hxy; exact h2 h3
  · have hyx := (o.tri x y hxy).resolve_left h1
    exact h2 (o.trans _ _ _ hyx h3)
theorem total_of {α : Type} {lt : α → α → Prop} (o : STO lt) {cf : α → α → Int} (h : ∀ a b, lt a b ↔ cf a b < 0) : ∀ x y, ltOf cf x y = false → ltOf cf y x = false → x = y := fun x y h1 h2 => Classical.byContradiction fun hne => by
  unfold ltOf at h1 h2
  rw [decide_eq_false_iff_not, ← h] at h1 h2
  rcases o.tri x y hne with h3 | h3
  · exact h1 h3
  · exact h2 h3
def srtOf {α : Type} (cf : α → α → Int) (d : Array α) : Array α := (d.toList.mergeSort fun x y => !(ltOf cf) y x).toArray
theorem srtOf_size {α : Type} (cf : α → α → Int) (d : Array α) : (srtOf cf d).size = d.size := by simp [srtOf]
theorem srtOf_perm {α : Type} (cf : α → α → Int) (l : List α) : (srtOf cf l.toArray).toList.Perm l := by simpa [srtOf] using List.mergeSort_perm l _
theorem srtOf_sorted {α : Type} {lt : α → α → Prop} (o : STO lt) {cf : α → α → Int} (h : ∀ a b, lt a b ↔ cf a b < 0) (l : List α) : (srtOf cf l.toArray).toList.Pairwise fun a b => ¬ lt b a := by
  have sw := swo_of o h
  have := List.pairwise_mergeSort (le := fun x y => !(ltOf cf) y x) (fun a b c h1 h2 => by
    simp only [Bool.not_eq_true'] at *
    exact sw.ntrans _ _ _ h2 h1) (fun a b => by
    rw [Bool.or_eq_true, Bool.not_eq_true', Bool.not_eq_true']
    by_cases h1 : ltOf cf b a = true
    · right
      rw [← Bool.not_eq_true]
      intro h2
      have := sw.trans _ _ _ h1 h2
      rw [sw.irrefl] at this; cases this
    · left; simpa using h1) l
  have e : (srtOf cf l.toArray).toList = l.mergeSort fun x y => !(ltOf cf) y x := by simp [srtOf]
  rw [e]
  refine this.imp fun {a b} h1 h2 => ?_
  simp only [Bool.not_eq_true'] at h1
  unfold ltOf at h1
  rw [decide_eq_false_iff_not, ← h] at h1
  exact h1 h2
def encT (t : Tile) : List Value := [.int .i64 t.1, .int .i64 t.2.1, .int .i64 t.2.2.1, .int .i64 t.2.2.2]
theorem agg55 : ∀ w, (isAgg 39).run Try.prog w = .ok true w := fun w => by kernel_rfl
theorem siz55 : ∀ w, (Go.sizeOf 39).run Try.prog w = .ok 4 w := fun w => by kernel_rfl
theorem ints_det {l : List Int} {μ : Mu} {h : H} {i : Nat} {v : AVal} {d : Value} (e : (l.map (AVal.int .i64))[i]? = some v) (hv : VR μ h v d) : (l.map (Value.int .i64))[i]? = some d := by
  rw [List.getElem?_map] at e ⊢
  cases hq : l[i]? with
  | none => rw [hq] at e; cases e
  | some x =>
    rw [hq] at e
    simp only [Option.map_some, Option.some.injEq] at e ⊢
    subst e
    simp only [VR] at hv
    exact hv.symm
theorem ints_VRl : ∀ (l : List Int) (μ : Mu) (h : H), VRs μ h (l.map (AVal.int .i64)) (l.map (Value.int .i64))
  | [], μ, h => VRs.nil
  | a :: l, μ, h => VRs.cons (by simp only [VR]) (ints_VRl l μ h)
theorem tc_tl2 (t : Tile) : tc t = (tl t).map (AVal.int .i64) := rfl
theorem encT_tl (t : Tile) : encT t = (tl t).map (Value.int .i64) := rfl
theorem ltOf_T (a b : Tile) : ltT a b ↔ cmpT a b < 0 := Iff.rfl
theorem sortT_c {h : H} {s : Sl} {l : List Tile} (o : Ow h s 4 (tcs l)) (hl : l.length ≤ 1000000000) :
    callV SP i_slices_SortFunc_s_impl_Tile_impl_Tile_ [.sl s, .func i_impl_compare []] h fun v h' => v = .tuple [] ∧ ∃ l', Ow h' s 4 (tcs l') ∧ l'.Perm l ∧ l'.Pairwise (fun a b => ¬ ltT b a) ∧ But s.o h h' ∧ h'.length = h.length := by
  have hcmp : ∀ x y, ∃ h2, Sat Try.prog i_impl_compare [.agg (tc x), .agg (tc y)] [] (.int .i64 (cmpT x y)) h2 := fun x y => by
    obtain ⟨n, h2, hs, rfl, _⟩ := compare_c x y []
    exact ⟨h2, hs⟩
  have hc : ∀ (a : Array Value) (w : World), (callFunc i_slices_SortFunc_s_impl_Tile_impl_Tile_ a).run Try.prog w = .ok (.enter i_slices_SortFunc_s_impl_Tile_impl_Tile_ a) w := calls_of (fn := Try.f78) (c := bodyOf Try.f78) (by kernel_rfl) (by kernel_rfl) (by kernel_rfl)
  have hcc : ∀ (a : Array Value) (w : World), (callFunc i_impl_compare a).run Try.prog w = .ok (.enter i_impl_compare a) w := calls_of (fn := Try.f47) (c := bodyOf Try.f47) (by kernel_rfl) (by kernel_rfl) (by kernel_rfl)
  refine (sort_sat (P := Try.prog) (f := i_slices_SortFunc_s_impl_Tile_impl_Tile_) (g := i_impl_compare) (k := 4) (enc := encT) (cl := tc) (srt := srtOf cmpT) (by omega) (fun _ => rfl) (fun x μ h => by rw [tc_tl2, encT_tl]; exact ints_VRl _ _ _) (fun _ => rfl)
    (fun x μ h i v d e hv => by rw [tc_tl2] at e; rw [encT_tl]; exact ints_det e hv) (srtOf_size _) hc ?_ ?_ o (by omega)).to ?_
  · intro blk off cap d w hH hb hsz
    exact AnyQ.slices_SortFunc_total sortT77 4 agg55 siz55 encT (fun _ => rfl) (fun x v hv => by rw [encT_tl] at hv; obtain ⟨n, _, rfl⟩ := List.mem_map.1 hv; rfl) cmpT (swo_of ltT_sto ltOf_T) i_impl_compare #[] blk off cap d w hcc
      (cmp_lays (fun x μ h => by rw [tc_tl2, encT_tl]; exact ints_VRl _ _ _) (fun _ => rfl) hcmp 4 blk off d.size w) hH hb hsz (total_of ltT_sto ltOf_T)
  · intro p cap fv w
    exact AnyF.slices_SortFunc_none sortT77 p cap fv w
  · rintro v h' ⟨rfl, o', b, ln⟩
    exact ⟨rfl, _, o', srtOf_perm _ _, srtOf_sorted ltT_sto ltOf_T l, b, ln⟩
end Go.Proofs.Ytlcgclmobfdbcaa.Cl

/- slices.AppendSeq over slices.Values, at tiles. No claim is stated here. -/
set_option linter.unusedVariables false
set_option linter.unusedSimpArgs false
namespace Go.Proofs.Ytlcgclmobfdbcaa.Cl
open Go
noncomputable def opsAt : Code → Array Oper | .region _ o _ => o | _ => #[]
noncomputable def rfA : Code → Code | .rangeFunc _ _ a _ => a | c => c
noncomputable def rfB : Code → Code | .rangeFunc _ _ _ b => b | c => c
noncomputable def opN (l : Array Oper) (i : Nat) : Oper := l.toList.getD i ⟨none, .move (.tmp 0), 0, "", #[], none⟩
noncomputable def vpT : IterP := ⟨0, 11, 12, 13, 14, 8, opsAt (sub [0] (bodyOf Try.f79)), opsAt (sub [1, 0, 0, 0] (bodyOf Try.f79)), opsAt (sub [1, 0, 0, 1, 1, 0, 0, 0] (bodyOf Try.f79)), opsAt (sub [1, 0, 0, 1, 1, 1] (bodyOf Try.f79)),
  opN (opsAt (sub [1, 0, 0, 1, 1, 0, 0, 1, 0] (bodyOf Try.f79))) 1, [5, 6, 7]⟩
noncomputable def apT : AppP := ⟨7, opsAt (sub [0] (bodyOf Try.f82)), opsAt (sub [1, 0, 0] (bodyOf Try.f82)), opsAt (rfA (sub [1, 0, 1, 0] (bodyOf Try.f82))), opsAt (sub [0] (rfB (sub [1, 0, 1, 0] (bodyOf Try.f82)))), opsAt (sub [1, 1, 0] (bodyOf Try.f82)), 6⟩
def frV (s : Sl) (len i : Int) : Frame := [.undef, .undef, .undef, .undef, .undef, .sl s, i64 len, i64 i, .undef, .undef, .undef, .undef, .undef, .undef, .undef, .undef]
def frQ (s0 : Sl) (g : AVal) (p : Pt) : Frame := [.sl s0, g, .ptr p, .gone, .sl Sl.nil, .gone, g, .gone, .gone, .gone, .gone, .gone, .gone]
theorem A0_k (s0 : Sl) (g : AVal) (k : Frame → H → Prop) (h : H) : runOps SP tab apT.A0.toList apT.A0.toList k (fr0 Try.f82 [.sl s0, g]) h =
    newO [.sl s0] h fun p h1 => k [.sl s0, g, .ptr p, .gone, .sl Sl.nil, .gone, .gone, .gone, .gone, .gone, .gone, .gone, .gone] h1 := by kernel_rfl
theorem A1_k (s0 : Sl) (g : AVal) (p : Pt) (k : Frame → H → Prop) (h : H) : runOps SP tab apT.A1.toList apT.A1.toList k [.sl s0, g, .ptr p, .gone, .sl Sl.nil, .gone, .gone, .gone, .gone, .gone, .gone, .gone, .gone] h = k (frQ s0 g p) h := by kernel_rfl
theorem V0_k (ps : Pt) (k : Frame → H → Prop) (h : H) : runOps SP tab vpT.V0.toList vpT.V0.toList (fun fr h => k (mask vpT.mm fr) h) (fr0 Try.f79 [.undef, .ptr ps]) h = ldS ps h fun s => k (frV s s.len 0) h := by kernel_rfl
theorem A4_k (s0 : Sl) (g : AVal) (p : Pt) (K : AVal → H → Prop) (h : H) : runOps SP tab apT.A4.toList apT.A4.toList (fun fr h => resK tab Try.f82.results.toList fr h fun vs => K (one vs) h) (frQ s0 g p) h = ldS p h fun s => K (.sl s) h := by kernel_rfl
theorem L0_k (s : Sl) (s0 : Sl) (g : AVal) (p : Pt) (len i : Int) (K : H → Prop) (h : H) : seqLoop SP tab vpT apT (frQ s0 g p) K 0 (frV s len i) h = (AVal.bool (decide (i < len)) = .bool false ∧ K h) := by kernel_rfl
theorem L1_k (s : Sl) (s0 : Sl) (g : AVal) (p : Pt) (len i : Int) (n : Nat) (K : H → Prop) (h : H) : seqLoop SP tab vpT apT (frQ s0 g p) K (n + 1) (frV s len i) h =
    (AVal.bool (decide (i < len)) = .bool true ∧ ixS s 4 i fun a => ldA a 4 h fun cs => newO [i64 0, i64 0, i64 0, i64 0] h fun b h1 => stN b 4 cs h1 fun h2 => ldA b 4 h2 fun c2 =>
      newO [i64 0, i64 0, i64 0, i64 0] h2 fun d h3 => stN d 4 c2 h3 fun h4 => ldS p h4 fun x => ldA d 4 h4 fun c3 => lenA c3 4 (newS 1 4 (spl [i64 0, i64 0, i64 0, i64 0] 0 4 c3) h4 fun t h5 => app x t 4 h5 fun x' h6 => st1 p (.sl x') h6 fun h7 =>
        seqLoop SP tab vpT apT (frQ s0 g p) K n (frV s len (w64 (i + 1))) h7)) := by kernel_rfl
section
variable {h0 : H} {s : Sl} {ts : List Tile} {ps : Nat}
theorem seqLoop_c {ob : Nat} {s0 : Sl} {g : AVal} (r : Rd h0 s 4 (tcs ts)) (hl : ts.length ≤ 1000000) (hob : h0.length ≤ ob) {K : H → Prop} {ha : H} (ea : Ext h0 ha) :
    ∀ (n i : Nat) (x : Sl) (h : H), i + n = ts.length → Ext h0 h → ob < h.length → h0.length < h.length → Var h ob (.sl x) → Ow h x 4 (tcs (ts.take i)) → Fr h0.length x → x.o ≠ some ob → (0 < i → x.o.isSome = true) →
      (∀ x h, Ext h0 h → Var h ob (.sl x) → Ow h x 4 (tcs ts) → Fr h0.length x → (0 < ts.length → x.o.isSome = true) → K h) → seqLoop SP tab vpT apT (frQ s0 g (pt ob)) K n (frV s s.len i) h
  | 0, i, x, h, hi, e, hol, hln, vx, ox, fx, hx, hs, hK => by
    have hsl := r.tlen
    rw [L0_k]
    refine ⟨by rw [decide_eq_false (by omega)], hK x h e vx ?_ fx fun hp => hs (by omega)⟩
    rw [show i = ts.length by omega, List.take_length] at ox
    exact ox
  | n + 1, i, x, h, hi, e, hol, hln, vx, ox, fx, hx, hs, hK => by
    have hsl := r.tlen
    have hi' : i < ts.length := by omega
    rw [L1_k]
    refine ⟨by rw [decide_eq_true (by omega)], ?_⟩
    refine (r.ext e).tileG (by omega) (by omega) ?_
    refine newO_obj fun h1 o1 x1 l1 => ?_
    refine o1.stA fun h2 o2 b2 l2 => ?_
    have y2 : Ext h h2 := x1.but_ b2 (some_le (Nat.le_refl _))
    refine o2.ldA rfl ?_
    refine newO_obj fun h3 o3 x3 l3 => ?_
    refine o3.stA fun h4 o4 b4 l4 => ?_
    have y4 : Ext h2 h4 := x3.but_ b4 (some_le (Nat.le_refl _))
    have y := y2.trans y4
    refine (vx.ext y).ldS ?_
    refine o4.ldA rfl ⟨rfl, ?_⟩
    refine newS_ow (by rfl) fun t h5 ot lt to e5 => ?_
    have x5 : Ext h4 h5 := by rw [e5]; exact Ext.app _ _
    have y5 := y.trans x5
    have hxl := (ox.rd).tlen
    have htl : (ts.take i).length = i := by rw [List.length_take]; omega
    refine app_ow (by omega) (ox.ext y5) ot.rd (by rw [lt, hxl, htl]; unfold lim; omega) fun x' h6 ox' lx' b6 k1 k2 => ?_
    have hyl := y5.len
    have v6 : Var h6 ob (.sl x) := (vx.ext y5).but b6 hx
    have hx'o : ∀ o, x'.o = some o → x.o = some o ∨ h5.length ≤ o := fun o eo => by
      cases hq : x.o with
      | none => exact .inr (k2 hq o eo)
      | some p => rw [k1 p hq] at eo; exact .inl eo
    have hx' : x'.o ≠ some ob := fun eo => by
      rcases hx'o ob eo with h' | h'
      · exact hx h'
      · omega
    refine v6.st _ fun h7 v7 b7 l7 => ?_
    have e6 : Ext h0 h6 := (e.trans y5).but_ b6 fun o eo => fx o eo
    have e7 : Ext h0 h7 := e6.but_ b7 (some_le hob)
    have l6 := b6.1
    rw [w64_of (n := (i : Int) + 1) (by omega) (by omega), show (i : Int) + 1 = ((i + 1 : Nat) : Int) by push_cast; rfl]
    have hts : tcs (ts.take (i + 1)) = tcs (ts.take i) ++ tc (tat ts (i : Int)) := by
      rw [List.take_succ_eq_append_getElem hi', tcs_app]
      congr 1
      have : tat ts (i : Int) = ts[i] := tat_at (by rw [Int.toNat_natCast, List.getElem?_eq_getElem hi'])
      rw [this, tcs_cons]
      simp [tcs]
    refine seqLoop_c r hl hob ea n (i + 1) x' h7 (by omega) e7 (by omega) (by omega) v7 ?_ ?_ hx' (fun _ => ?_) hK
    · rw [hts]
      exact ox'.but b7 (.inl fun eo => hx' eo.symm)
    · intro o eo
      rcases hx'o o eo with h' | h'
      · exact fx o h'
      · omega
    · have hlen : 0 < x'.len := by rw [lx', lt]; omega
      obtain ⟨ha, hb⟩ | ⟨o, ha, _⟩ := ox'.at_
      · omega
      · rw [ha]; rfl
theorem appendSeq_c (hv : Var h0 ps (.sl s)) (r : Rd h0 s 4 (tcs ts)) (hl : ts.length ≤ 1000000) :
    callS SP i_slices_AppendSeq_s_impl_Tile_impl_Tile_ [.sl Sl.nil, .func i_slices_Values_s_impl_Tile_impl_Tile__1 [.ptr (pt ps)]] h0 fun u h' => Ow h' u 4 (tcs ts) ∧ Fr h0.length u ∧ Ext h0 h' ∧ (0 < ts.length → u.o.isSome = true) := by
  have key := appSeq_sat (P := Try.prog) (T := tab) tok (p := vpT) (q := apT) (fV := i_slices_Values_s_impl_Tile_impl_Tile__1) (f := i_slices_AppendSeq_s_impl_Tile_impl_Tile_) (fnv := Try.f79) (fna := Try.f82) (N := ts.length)
    (V3 := opsAt (sub [1, 0, 0, 1, 1, 0, 0, 1, 0] (bodyOf Try.f79))) (i0 := 0) (i1 := 1) (i2 := 2) (i3 := 3) (i4 := 4) (j0 := 0) (j1 := 1) (j2 := 2) (j3 := 3) (j4 := 4) (b0 := 0) (b1 := 1) (bb := 1) (c0 := 0) (tt := 4)
    (yc := ⟨.value (.tmp 11), #[.tmp 12], #[39]⟩)
    (by kernel_rfl) (by kernel_rfl) (by kernel_rfl) (by kernel_rfl) (by kernel_rfl) rfl rfl (by decide) ?_ rfl ?_ (by kernel_rfl) (by kernel_rfl) (calls_of (fn := Try.f82) (c := bodyOf Try.f82) (by kernel_rfl) (by kernel_rfl) (by kernel_rfl)) (calls_of (fn := Try.f79) (c := bodyOf Try.f79) (by kernel_rfl) (by kernel_rfl) (by kernel_rfl))
    (args := [.sl Sl.nil, .func i_slices_Values_s_impl_Tile_impl_Tile__1 [.ptr (pt ps)]]) (h := h0) (K := fun v h' => ∃ u, v = .sl u ∧ Ow h' u 4 (tcs ts) ∧ Fr h0.length u ∧ Ext h0 h' ∧ (0 < ts.length → u.o.isSome = true)) ?_ ?_
  · obtain ⟨v, h2, hs, u, rfl, hk⟩ := key
    exact ⟨u, h2, hs, hk⟩
  · have e0 : vpT.V0.toList.map (·.dst) = [some 5, some 6, some 7] := by kernel_rfl
    have e1 : vpT.V1.toList.map (·.dst) = [some 8] := by kernel_rfl
    have e2 : vpT.V2.toList.map (·.dst) = [some 9, some 10, some 4, none] := by kernel_rfl
    have e4 : vpT.V4.toList.map (·.dst) = [some 15, some 7] := by kernel_rfl
    intro V hV o ho d hd e
    have hm : o.dst ∈ V.toList.map (·.dst) := List.mem_map_of_mem ho
    simp only [List.mem_cons, List.not_mem_nil, or_false] at hV
    simp only [vpT, List.mem_cons, List.not_mem_nil, or_false] at hd
    rcases hV with rfl | rfl | rfl | rfl
    · rw [e0, e] at hm; simp at hm; omega
    · rw [e1, e] at hm; simp at hm; omega
    · rw [e2, e] at hm; simp at hm; omega
    · rw [e4, e] at hm; simp at hm; omega
  · have hn : Try.f79.ntmps = 16 := by kernel_rfl
    intro d hd
    simp only [vpT, List.mem_cons, List.not_mem_nil, or_false] at hd
    omega
  · have hn : Try.f79.ntmps = 16 := by kernel_rfl
    omega
  · unfold seqAll
    rw [A0_k]
    refine newO_var fun h1 v1 x1 l1 => ?_
    rw [A1_k]
    refine ⟨_, ⟨rfl, rfl⟩, ?_⟩
    rw [V0_k]
    refine (hv.ext x1).ldS ?_
    refine seqLoop_c r hl (Nat.le_refl _) x1 ts.length 0 Sl.nil h1 (by omega) x1 (by omega) (by omega) v1 (by simpa [tcs] using Ow.nil _ _) (Fr.nil _) (by simp [Sl.nil]) (fun h => by omega) fun x h e vx ox fx hs => ?_
    refine (A4_k Sl.nil _ _ (fun v h' => ∃ u, v = .sl u ∧ Ow h' u 4 (tcs ts) ∧ Fr h0.length u ∧ Ext h0 h' ∧ (0 < ts.length → u.o.isSome = true)) h).mpr ?_
    exact vx.ldS ⟨x, rfl, ox, fx, e, hs⟩
end
end Go.Proofs.Ytlcgclmobfdbcaa.Cl
