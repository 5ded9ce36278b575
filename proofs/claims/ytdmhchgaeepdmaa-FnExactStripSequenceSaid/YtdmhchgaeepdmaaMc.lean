/- Contracts of the functions that tell sets, rows of numbers of tiles, fillings, cylinders and tori. No claim is stated here. -/
import Derived.Test.YtdmhchgaeepdmaaMb
set_option linter.unusedVariables false
set_option linter.unusedSimpArgs false
namespace Go.Proofs.Ytdmhchgaeepdmaa.Cl
open Go
/-! ### reading, by place -/
def sd (t : Tile) : Nat → Int | 0 => t.1 | 1 => t.2.1 | 2 => t.2.2.1 | _ => t.2.2.2
def tat (ts : List Tile) (n : Int) : Tile := ts.getD n.toNat (0, 0, 0, 0)
theorem tat_at {ts : List Tile} {n : Int} {t : Tile} (h : ts[n.toNat]? = some t) : tat ts n = t := by unfold tat; rw [List.getD_eq_getElem?_getD, h]; rfl
theorem at_tat {ts : List Tile} {n : Int} (h1 : n.toNat < ts.length) : ts[n.toNat]? = some (tat ts n) := by unfold tat; rw [List.getD_eq_getElem?_getD, List.getElem?_eq_getElem h1]; rfl
theorem tc_sd (t : Tile) {k : Nat} (hk : k < 4) : (tc t)[k]? = some (i64 (sd t k)) := by
  match k with
  | 0 => rfl
  | 1 => rfl
  | 2 => rfl
  | 3 => rfl
theorem Rd.sideG {h : H} {s : Sl} {ts : List Tile} (r : Rd h s 4 (tcs ts)) {n k : Int} (h0 : 0 ≤ n) (h1 : n < ts.length) (k0 : 0 ≤ k) (k1 : k < 4) {K : Int → Prop} (hk : K (sd (tat ts n) k.toNat)) : ixS s 4 n fun p => ixA p 4 1 k fun q => Cl.ldI .i64 q h K := by
  have hl := r.tlen
  refine r.ix h0 (by omega) fun p po pr => ⟨⟨k0, by omega⟩, po, _, ?_, hk⟩
  have := cell_of_range pr (i := k.toNat) (by omega)
  rw [Pt.add, Nat.mul_one, this, tcs_at ts n.toNat _ (at_tat (by omega)), tc_sd _ (by omega)]
theorem Rd.tileG {h : H} {s : Sl} {ts : List Tile} (r : Rd h s 4 (tcs ts)) {n : Int} (h0 : 0 ≤ n) (h1 : n < ts.length) {K : List AVal → Prop} (hk : K (tc (tat ts n))) : ixS s 4 n fun p => Cl.ldA p 4 h K :=
  r.ldT h0 h1 fun t ht => by rw [← tat_at ht]; exact hk
theorem Rd.ldG {h : H} {s : Sl} {l : List Int} (r : Rd h s 1 (ic l)) {i : Int} (h0 : 0 ≤ i) (h1 : i < l.length) {K : Int → Prop} (hk : K (l.getD i.toNat 0)) : ixS s 1 i fun p => Cl.ldI .i64 p h K :=
  r.ldI h0 h1 fun x hx => by rw [List.getD_eq_getElem?_getD, hx] at hk; exact hk
theorem Rd.ixC {h : H} {s : Sl} {l : List Int} (r : Rd h s 1 (ic l)) {i : Int} (h0 : 0 ≤ i) (h1 : i < l.length) {K : Pt → Prop} (hk : ∀ p : Pt, cell h p = some (i64 (l.getD i.toNat 0)) → K p) : ixS s 1 i K := by
  have hlen := r.ilen
  obtain hl | ⟨a, b, c⟩ := r.at_
  · omega
  · refine ⟨⟨h0, by omega⟩, a, b, hk _ ?_⟩
    have := cell_of_range c (i := i.toNat) (by omega)
    rw [Nat.mul_one, this]
    unfold ic
    rw [List.getElem?_map, List.getElem?_eq_getElem (by omega), List.getD_eq_getElem?_getD, List.getElem?_eq_getElem (by omega)]
    rfl
theorem Rd.ixT {h : H} {s : Sl} {ts : List Tile} (r : Rd h s 4 (tcs ts)) {n : Int} (h0 : 0 ≤ n) (h1 : n < ts.length) {K : Pt → Prop} (hk : ∀ p : Pt, p.o.isSome = true → range h p.o p.n p.off 4 = some (tc (tat ts n)) → K p) : ixS s 4 n K := by
  have hl := r.tlen
  refine r.ix h0 (by omega) fun p po pr => hk p po ?_
  rw [pr, tcs_at ts n.toNat _ (at_tat (by omega))]
theorem Ext.rangeE {h h' : H} (x : Ext h h') {o n off k cs} (e : Cl.range h o n off k = some cs) : Cl.range h' o n off k = Cl.range h o n off k := by rw [x.range e, e]
theorem Obj.sdI {h : H} {o : Nat} {t : Tile} (x : Obj h o (tc t)) {k : Int} (k0 : 0 ≤ k) (k1 : k < 4) {K : Int → Prop} (hk : K (sd t k.toNat)) : ixA ⟨some o, 4, 0⟩ 4 1 k fun p => Cl.ldI .i64 p h K :=
  ixA_ldI x rfl k0 (by omega) (tc_sd t (by omega)) hk
def rw_ (rows : List (List Int)) (y : Nat) : List Int := rows.getD y []
def G (rows : List (List Int)) (y x : Nat) : Int := (rw_ rows y).getD x 0
theorem rw_at {rows : List (List Int)} {y : Nat} {l : List Int} (h : rows[y]? = some l) : rw_ rows y = l := by unfold rw_; rw [List.getD_eq_getElem?_getD, h]; rfl
theorem at_rw {rows : List (List Int)} {y : Nat} (h : y < rows.length) : rows[y]? = some (rw_ rows y) := by unfold rw_; rw [List.getD_eq_getElem?_getD, List.getElem?_eq_getElem h]; rfl
theorem RdSS.ldG {h s ls} (r : RdSS h s ls) {i : Int} (h0 : 0 ≤ i) (h1 : i < ls.length) {K : Sl → Prop} (hk : ∀ v, Rd h v 1 (ic (rw_ ls i.toNat)) → v.len = (rw_ ls i.toNat).length → K v) : ixS s 1 i fun p => Cl.ldS p h K :=
  r.ld h0 h1 fun v l hv rv lv => by rw [← rw_at hv] at rv lv; exact hk v rv lv
theorem RdSS.ixC {h s ls} (r : RdSS h s ls) {i : Int} (h0 : 0 ≤ i) (h1 : i < ls.length) {K : Pt → Prop} (hk : ∀ (p : Pt) v, cell h p = some (.sl v) → Rd h v 1 (ic (rw_ ls i.toNat)) → v.len = (rw_ ls i.toNat).length → K p) : ixS s 1 i K := by
  have hlen := r.len
  obtain ⟨vs, e1, e2, e3⟩ := r
  have hv : vs[i.toNat]? = some vs[i.toNat] := List.getElem?_eq_getElem (by omega)
  have hr := e3 _ _ _ hv (at_rw (by omega))
  obtain hl | ⟨a, b, c⟩ := e2.at_
  · omega
  · refine ⟨⟨h0, by omega⟩, a, b, hk _ _ ?_ hr hr.ilen⟩
    have := cell_of_range c (i := i.toNat) (by omega)
    rw [Nat.mul_one, this, List.getElem?_map, hv]
    rfl
theorem within_k {a b c : Int} {h : H} {K : Bool → H → Prop} (hk : K (decide (b ≤ a ∧ a ≤ c)) h) : callB SP i_impl_within [i64 a, i64 b, i64 c] h K :=
  (within_c a b c h).to (by rintro _ _ ⟨rfl, rfl⟩; exact hk)
theorem l01In_k {a b c : Int} {h : H} {K : Bool → H → Prop} (hk : K (decide (b ≤ a ∧ a ≤ c)) h) : callB SP i_spec_l01In [i64 a, i64 b, i64 c] h K :=
  (l01In_c a b c h).to (by rintro _ _ ⟨rfl, rfl⟩; exact hk)
/-! ### sets -/
def Qset (c : Int) (ts : List Tile) (j : Nat) : Prop := tileok c (tat ts j) = true ∧ (0 < j → cmpT (tat ts ((j : Int) - 1)) (tat ts j) < 0)
def setOK (c : Int) (ts : List Tile) : Prop := (1 ≤ c ∧ c ≤ 6) ∧ ts.length ≤ 16 ∧ ∀ j, j < ts.length → Qset c ts j
theorem l01Is_c {h0 : H} {c : Int} {s : Sl} {ts : List Tile} (r : Rd h0 s 4 (tcs ts)) : callB SP i_spec_l01Is [.agg (SetC c s)] h0 fun b h' => (b = true ↔ setOK c ts) ∧ Ext h0 h' := by
  have hl := r.tlen
  apply spec_l01Is_call
  unfold spec_l01Is_main
  refine newK_obj fun h1 o1 x1 n1 => ?_
  refine isPt_in (o1.ldI rfl rfl ?_)
  refine l01In_k ?_
  refine bif_not (fun hc => ⟨_, rfl, ?_, x1⟩) (fun hc => ?_)
  · simp only [Bool.false_eq_true, false_iff]
    intro hs
    simp at hc
    have := hs.1; omega
  have hc' : 1 ≤ c ∧ c ≤ 6 := by simpa using hc
  refine isPt_in (o1.ldS rfl rfl ?_)
  refine bif_dec (fun hq => ⟨_, rfl, ?_, x1⟩) (fun hq => ?_)
  · simp only [Bool.false_eq_true, false_iff]
    intro hs
    have := hs.2.1; omega
  refine spec_l01Is_rule0 _ _ _ (fun i h => 0 ≤ i ∧ i ≤ ts.length ∧ Ext h1 h ∧ ∀ j, j < i.toNat → Qset c ts j) (fun i _ => (ts.length - i).toNat) ?_ _ ⟨by omega, by omega, Ext.refl _, fun j hj => by omega⟩
  rintro X i h ⟨i0, i1, x, hj⟩ hX
  unfold spec_l01Is_b0 spec_l01Is_C0
  have o := o1.ext x
  refine isPt_in (o.ldS rfl rfl ?_)
  have no : ∀ {h'}, Ext h h' → ¬ Qset c ts i.toNat → i < ts.length → ∃ b, AVal.bool false = .bool b ∧ (b = true ↔ setOK c ts) ∧ Ext h0 h' := fun {h'} x' hn hi =>
    ⟨_, rfl, by simp only [Bool.false_eq_true, false_iff]; exact fun hs => hn (hs.2.2 _ (by omega)), (x1.trans x).trans x'⟩
  refine bif_dec (fun hi => ?_) (fun hi => ?_)
  · refine isPt_in (o.ldI rfl rfl ?_)
    refine isPt_in (o.ldS rfl rfl ?_)
    have hn : ((i.toNat : Nat) : Int) = i := by omega
    refine (r.ext (x1.trans x)).tileG i0 (by omega) ?_
    refine (l01Tile_c c ⟨by omega, by omega⟩ (tat ts i) h).to ?_
    rintro _ h2 ⟨rfl, x2⟩
    refine bif_not (fun hq => no x2 (fun q => ?_) (by omega)) (fun hq => ?_)
    · have := q.1; rw [hn, hq] at this; cases this
    refine bif_dec (fun hp => ?_) (fun hp => ?_)
    · have o2 := o.ext x2
      have r2 := r.ext ((x1.trans x).trans x2)
      refine isPt_in (o2.ldS rfl rfl ?_)
      rw [w64_of (by omega) (by omega)]
      refine r2.tileG (by omega) (by omega) ?_
      refine isPt_in (o2.ldS rfl rfl ?_)
      refine r2.tileG i0 (by omega) ?_
      refine (l01Before_c _ _ _).to ?_
      rintro _ h3 ⟨rfl, x3⟩
      refine bif_not (fun hb => no (x2.trans x3) (fun q => ?_) (by omega)) (fun hb => ?_)
      · have := q.2 (by omega); rw [hn] at this; simp at hb; omega
      · rw [w64_of (by omega) (by omega)]
        refine hX _ _ ⟨by omega, by omega, (x.trans x2).trans x3, fun j hjj => ?_⟩ (by omega)
        by_cases e : j = i.toNat
        · subst e; refine ⟨by rw [hn]; exact hq, fun _ => ?_⟩; rw [hn]; simpa using hb
        · exact hj j (by omega)
    · rw [w64_of (by omega) (by omega)]
      refine hX _ _ ⟨by omega, by omega, x.trans x2, fun j hjj => ?_⟩ (by omega)
      by_cases e : j = i.toNat
      · subst e; exact ⟨by rw [hn]; exact hq, fun h => by omega⟩
      · exact hj j (by omega)
  · exact ⟨_, rfl, ⟨fun _ => ⟨hc', by omega, fun j hjj => hj j (by omega)⟩, fun _ => rfl⟩, x1.trans x⟩
theorem IsSet_c {h0 : H} {c : Int} {s : Sl} {ts : List Tile} (r : Rd h0 s 4 (tcs ts)) (hbig : ts.length < 4000000000000000000) : callB SP i_impl_IsSet [.agg (SetC c s)] h0 fun b h' => (b = true ↔ setOK c ts) ∧ Ext h0 h' := by
  have hl := r.tlen
  apply impl_IsSet_call
  unfold impl_IsSet_main
  refine newK_obj fun h1 o1 x1 n1 => ?_
  refine isPt_in (o1.ldS rfl rfl ?_)
  have hw : 1 ≤ c ∧ c ≤ 6 → w64 (c - 1) + 1 = c := fun hc => by rw [w64_of (by omega) (by omega)]; omega
  refine impl_IsSet_rule0 _ _ _ _ _ (fun i h => 0 ≤ i ∧ i ≤ ts.length ∧ Ext h1 h ∧ (1 ≤ c ∧ c ≤ 6 → ∀ j, j < i.toNat → Qset c ts j)) (fun i _ => (ts.length - i).toNat) ?_ _ ⟨by omega, by omega, Ext.refl _, fun _ j hj => by omega⟩
  rintro X i h ⟨i0, i1, x, hj⟩ hX
  unfold impl_IsSet_b0 impl_IsSet_C0
  have o := o1.ext x
  have no : ∀ {h'}, Ext h h' → (1 ≤ c ∧ c ≤ 6 → ¬ Qset c ts i.toNat) → i < ts.length → ∃ b, AVal.bool false = .bool b ∧ (b = true ↔ setOK c ts) ∧ Ext h0 h' := fun {h'} x' hn hi =>
    ⟨_, rfl, by simp only [Bool.false_eq_true, false_iff]; exact fun hs => hn hs.1 (hs.2.2 _ (by omega)), (x1.trans x).trans x'⟩
  refine bif_dec (fun hi => ?_) (fun hi => ?_)
  · have hn : ((i.toNat : Nat) : Int) = i := by omega
    refine (r.ext (x1.trans x)).tileG i0 (by omega) ?_
    refine newO_obj fun h2 o2 x2 n2 => ?_
    refine o2.stA fun h3 o3 b3 n3 => ?_
    have x3 : Ext h h3 := x2.but_ b3 (some_le (Nat.le_refl _))
    refine o3.ldA rfl ?_
    refine isPt_in ((o.ext x3).ldI rfl rfl ?_)
    refine (isTile_w (tat ts i) c h3).to ?_
    rintro _ h4 ⟨rfl, x4⟩
    refine bif_not (fun hq => no (x3.trans x4) (fun hc q => ?_) (by omega)) (fun hq => ?_)
    · have := q.1; rw [hn] at this; rw [hw hc, this] at hq; cases hq
    refine bif_dec (fun hp => ?_) (fun hp => ?_)
    · have o4 := o.ext (x3.trans x4)
      have r4 := r.ext ((x1.trans x).trans (x3.trans x4))
      refine isPt_in (o4.ldS rfl rfl ?_)
      rw [w64_of (n := i - 1) (by omega) (by omega)]
      refine r4.tileG (by omega) (by omega) ?_
      refine (o3.ext x4).ldA rfl ?_
      refine (compare_c _ _ _).to ?_
      rintro _ h5 ⟨rfl, x5⟩
      refine bif_dec (fun hb => no ((x3.trans x4).trans x5) (fun hc q => ?_) (by omega)) (fun hb => ?_)
      · have := q.2 (by omega); rw [hn] at this; omega
      · rw [w64_of (n := i + 1) (by omega) (by omega)]
        refine hX _ _ ⟨by omega, by omega, x.trans ((x3.trans x4).trans x5), fun hc j hjj => ?_⟩ (by omega)
        by_cases e : j = i.toNat
        · subst e; refine ⟨by rw [hn, ← hw hc]; exact hq, fun _ => ?_⟩; rw [hn]; omega
        · exact hj hc j (by omega)
    · rw [w64_of (n := i + 1) (by omega) (by omega)]
      refine hX _ _ ⟨by omega, by omega, x.trans (x3.trans x4), fun hc j hjj => ?_⟩ (by omega)
      by_cases e : j = i.toNat
      · subst e; exact ⟨by rw [hn, ← hw hc]; exact hq, fun h => by omega⟩
      · exact hj hc j (by omega)
  · refine isPt_in (o.ldI rfl rfl ?_)
    refine within_k ?_
    refine bif_dec (fun hc => ?_) (fun hc => ⟨_, rfl, ?_, x1.trans x⟩)
    · refine isPt_in (o.ldS rfl rfl ⟨_, rfl, ?_, x1.trans x⟩)
      rw [decide_eq_true_eq]
      exact ⟨fun hs => ⟨hc, by omega, fun j hjj => hj hc j (by omega)⟩, fun hs => by have := hs.2.1; omega⟩
    · simp only [Bool.false_eq_true, false_iff]
      exact fun hs => hc hs.1
/-! ### codes -/
open Classical in
noncomputable def bP (A : Prop) : Bool := decide A
theorem bP_iff (A : Prop) : bP A = true ↔ A := by unfold bP; simp
theorem bP_of {b : Bool} {A : Prop} (h : b = true ↔ A) : b = bP A := by rw [Bool.eq_iff_iff, h, bP_iff]
theorem bP_yes {A : Prop} (h : A) : bP A = true := (bP_iff A).2 h
theorem bP_no {A : Prop} (h : ¬ A) : bP A = false := by
  cases hb : bP A with
  | false => rfl
  | true => exact absurd ((bP_iff A).1 hb) h
open Classical in
noncomputable def codeOf (A B : Prop) : Int := if A then (if B then 0 else 2) else 1
theorem codeOf_no {A B : Prop} (h : ¬ A) : codeOf A B = 1 := by unfold codeOf; rw [if_neg h]
theorem codeOf_range {A B : Prop} (h : A) (h2 : ¬ B) : codeOf A B = 2 := by unfold codeOf; rw [if_pos h, if_neg h2]
theorem codeOf_yes {A B : Prop} (h : A) (h2 : B) : codeOf A B = 0 := by unfold codeOf; rw [if_pos h, if_pos h2]
theorem codeOf_zero {A B : Prop} (h : codeOf A B = 0) : A ∧ B := by
  unfold codeOf at h
  split at h
  · split at h
    · exact ⟨by assumption, by assumption⟩
    · cases h
  · cases h
theorem codeOf_cond {A B : Prop} (h : codeOf A B ≠ 0) : ¬ (A ∧ B) := fun ⟨a, b⟩ => h (codeOf_yes a b)
theorem setCode_c {h0 : H} {c : Int} {s : Sl} {ts : List Tile} (r : Rd h0 s 4 (tcs ts)) (hbig : ts.length < 4000000000000000000) (g : Nat) (cap : List AVal) (Q : Prop)
    (hg : setOK c ts → ∀ h, Ext h0 h → callB SP g cap h fun b h' => (b = true ↔ Q) ∧ Ext h h') : callI SP .i64 i_impl_setCode [.agg (SetC c s), .func g cap] h0 fun n h' => n = codeOf (setOK c ts) Q ∧ Ext h0 h' := by
  apply impl_setCode_call
  unfold impl_setCode_main
  refine newK_obj fun h1 o1 x1 n1 => ?_
  refine o1.ldA rfl ?_
  refine (IsSet_c (r.ext x1) hbig).to ?_
  rintro b h2 ⟨hb, x2⟩
  refine bif_not (fun hq => ⟨_, rfl, (codeOf_no fun hs => ?_).symm, x1.trans x2⟩) (fun hq => ?_)
  · rw [hb.2 hs] at hq; cases hq
  have hs := hb.1 hq
  refine via_func ?_
  rw [List.nil_append]
  refine (hg hs h2 (x1.trans x2)).to ?_
  rintro b h3 ⟨hb3, x3⟩
  refine bif_not (fun hq => ⟨_, rfl, (codeOf_range hs fun q => ?_).symm, (x1.trans x2).trans x3⟩) (fun hq => ⟨_, rfl, (codeOf_yes hs (hb3.1 hq)).symm, (x1.trans x2).trans x3⟩)
  rw [hb3.2 q] at hq; cases hq
/-! ### rows of numbers -/
def Tabl (rows : List (List Int)) (most : Int) : Prop := (1 ≤ rows.length ∧ (rows.length : Int) ≤ most) ∧ ∀ y, y < rows.length → (rw_ rows y).length = (rw_ rows 0).length ∧ 1 ≤ (rw_ rows y).length ∧ ((rw_ rows y).length : Int) ≤ most
def Nums (n : Nat) (rows : List (List Int)) : Prop := (∀ y x, y < rows.length → x < (rw_ rows y).length → 0 ≤ G rows y x ∧ G rows y x < n) ∧ Tabl rows 8
end Go.Proofs.Ytdmhchgaeepdmaa.Cl
