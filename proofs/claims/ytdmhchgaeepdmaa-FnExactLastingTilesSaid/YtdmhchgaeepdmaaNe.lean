/- Contracts of the reference's LastingTiles. No claim is stated here. -/
import Derived.Test.YtdmhchgaeepdmaaNd
set_option linter.unusedVariables false
set_option linter.unusedSimpArgs false
namespace Go.Proofs.Ytdmhchgaeepdmaa.Cl
open Go
def isT : AVal → Bool | .bool b => b | _ => false
/-- How many truths a view's object has. -/
def trues (h : H) (s : Sl) : Nat := match s.o with
  | some o => (match h[o]? with | some (.own cs) => cs.countP isT | _ => 0)
  | none => 0
theorem trues_ow {h : H} {s : Sl} {n : Nat} {A : Nat → Bool} (r : Ow h s 1 ((bl n A).map .bool)) (hs : s.o.isSome = true) : trues h s = cntB n A := by
  obtain ⟨a, b⟩ | ⟨o, a, b, c, d, e⟩ := r.at_
  · rw [a] at hs; cases hs
  · unfold trues
    rw [a]
    simp only [e]
    unfold cntB bl
    rw [List.countP_map, List.countP_map]
    rfl
section
variable (ts : List Tile) (Q : Nat → Bool)
def prB (i j : Nat) : Bool := (List.range j).any fun k => Q k && (sd (tat ts (k : Nat)) 2 == sd (tat ts (i : Nat)) 0)
def suB (i j : Nat) : Bool := (List.range j).any fun k => Q k && (sd (tat ts (k : Nat)) 0 == sd (tat ts (i : Nat)) 2)
end
theorem prB_succ {ts Q i j} : prB ts Q i (j + 1) = (prB ts Q i j || (Q j && (sd (tat ts (j : Nat)) 2 == sd (tat ts (i : Nat)) 0))) := by
  unfold prB; rw [List.range_succ, List.any_append]; simp
theorem suB_succ {ts Q i j} : suB ts Q i (j + 1) = (suB ts Q i j || (Q j && (sd (tat ts (j : Nat)) 0 == sd (tat ts (i : Nat)) 2))) := by
  unfold suB; rw [List.range_succ, List.any_append]; simp
theorem range_any {n : Nat} {p : Nat → Bool} : (List.range n).any p = true ↔ ∃ k, k < n ∧ p k = true := by
  rw [List.any_eq_true]
  exact ⟨fun ⟨k, hk, h⟩ => ⟨k, List.mem_range.1 hk, h⟩, fun ⟨k, hk, h⟩ => ⟨k, List.mem_range.2 hk, h⟩⟩
section
variable {c : Int} {ts : List Tile}
theorem ed_at {f g i : Nat} (h : i < ts.length) : ((sd (tat ts (i : Nat)) f).toNat, (sd (tat ts (i : Nat)) g).toNat) ∈ edT ts f g := by
  refine List.mem_map.2 ⟨tat ts (i : Nat), ?_, rfl⟩
  have := at_tat (ts := ts) (n := (i : Int)) (by rw [Int.toNat_natCast]; exact h)
  exact List.mem_of_getElem? this
theorem ed_of {f g : Nat} {e : Edge} (h : e ∈ edT ts f g) : ∃ i, i < ts.length ∧ e = ((sd (tat ts (i : Nat)) f).toNat, (sd (tat ts (i : Nat)) g).toNat) := by
  obtain ⟨t, ht, rfl⟩ := List.mem_map.1 h
  obtain ⟨i, hi, rfl⟩ := List.getElem_of_mem ht
  refine ⟨i, hi, ?_⟩
  rw [tat_at (n := (i : Int)) (t := ts[i]) (by rw [Int.toNat_natCast]; exact List.getElem?_eq_getElem hi)]
theorem sd_at (T : TS c ts) {i k : Nat} (h : i < ts.length) (hk : k < 4) : 0 ≤ sd (tat ts (i : Nat)) k ∧ sd (tat ts (i : Nat)) k < c := by
  have := at_tat (ts := ts) (n := (i : Int)) (by rw [Int.toNat_natCast]; exact h)
  exact T.2 _ (List.mem_of_getElem? this) k hk
/-- A lasting tile has lasting ones on both sides, in each set with all lasting ones. -/
theorem last_keeps (T : TS c ts) {Q : Nat → Bool} (hQ : ∀ i, i < ts.length → lastT c ts i = true → Q i = true) {i : Nat} (hi : i < ts.length) (h : lastT c ts i = true) : prB ts Q i ts.length = true ∧ suB ts Q i ts.length = true := by
  have L := lst_tiles T
  constructor
  · obtain ⟨e, he, h1, h2⟩ := L.pred (ed_at (f := 0) (g := 2) hi) h
    obtain ⟨k, hk, rfl⟩ := ed_of he
    refine range_any.2 ⟨k, hk, ?_⟩
    rw [hQ k hk h1, Bool.true_and]
    have a := sd_at T hk (k := 2) (by omega)
    have b := sd_at T hi (k := 0) (by omega)
    have h2' : (sd (tat ts (k : Nat)) 2).toNat = (sd (tat ts (i : Nat)) 0).toNat := h2
    have : sd (tat ts (k : Nat)) 2 = sd (tat ts (i : Nat)) 0 := by omega
    rw [this]; simp
  · obtain ⟨e, he, h1, h2⟩ := L.succ (ed_at (f := 0) (g := 2) hi) h
    obtain ⟨k, hk, rfl⟩ := ed_of he
    refine range_any.2 ⟨k, hk, ?_⟩
    rw [hQ k hk h1, Bool.true_and]
    have a := sd_at T hk (k := 0) (by omega)
    have b := sd_at T hi (k := 2) (by omega)
    have h2' : (sd (tat ts (k : Nat)) 0).toNat = (sd (tat ts (i : Nat)) 2).toNat := h2
    have : sd (tat ts (k : Nat)) 0 = sd (tat ts (i : Nat)) 2 := by omega
    rw [this]; simp
/-- A stable set has lasting tiles alone. -/
theorem last_top (T : TS c ts) {Q : Nat → Bool} (hQ : ∀ i, i < ts.length → Q i = true → prB ts Q i ts.length = true ∧ suB ts Q i ts.length = true) {i : Nat} (hi : i < ts.length) (h : Q i = true) : lastT c ts i = true := by
  have L := lst_tiles T
  let E : Nat → Edge := fun i => ((sd (tat ts (i : Nat)) 0).toNat, (sd (tat ts (i : Nat)) 2).toNat)
  have QE : ∀ e, ((List.range ts.length).any fun i => Q i && (E i == e)) = true ↔ ∃ i, i < ts.length ∧ Q i = true ∧ E i = e := fun e => by
    rw [range_any]
    constructor
    · rintro ⟨k, hk, h⟩
      rw [Bool.and_eq_true, beq_iff_eq] at h
      exact ⟨k, hk, h.1, h.2⟩
    · rintro ⟨k, hk, h1, h2⟩
      exact ⟨k, hk, by rw [Bool.and_eq_true, beq_iff_eq]; exact ⟨h1, h2⟩⟩
  refine L.top (Q := fun e => (List.range ts.length).any fun i => Q i && (E i == e)) (fun e he h => ?_) (fun e he h => ?_) (ed_at (f := 0) (g := 2) hi) ((QE _).2 ⟨i, hi, h, rfl⟩)
  · obtain ⟨i, hi, hq, rfl⟩ := (QE e).1 h
    obtain ⟨k, hk, h2⟩ := range_any.1 (hQ i hi hq).1
    rw [Bool.and_eq_true, beq_iff_eq] at h2
    exact ⟨E k, ed_at (f := 0) (g := 2) hk, (QE _).2 ⟨k, hk, h2.1, rfl⟩, by show (sd _ 2).toNat = _; rw [h2.2]⟩
  · obtain ⟨i, hi, hq, rfl⟩ := (QE e).1 h
    obtain ⟨k, hk, h2⟩ := range_any.1 (hQ i hi hq).2
    rw [Bool.and_eq_true, beq_iff_eq] at h2
    exact ⟨E k, ed_at (f := 0) (g := 2) hk, (QE _).2 ⟨k, hk, h2.1, rfl⟩, by show (sd _ 0).toNat = _; rw [h2.2]⟩
end
section
variable {h0 : H} {c : Int} {s : Sl} {ts : List Tile}
theorem l02Lasting_c (r : Rd h0 s 4 (tcs ts)) (T : TS c ts) (hN : ts.length ≤ 16) :
    callS SP i_spec_l02Lasting [.agg (SetC c s)] h0 fun u h' => Ow h' u 1 ((bl ts.length (lastT c ts)).map .bool) ∧ Fr h0.length u ∧ Ext h0 h' := by
  have htl := r.tlen
  apply spec_l02Lasting_call
  unfold spec_l02Lasting_main
  refine newK_obj fun h1 o1 x1 n1 => ?_
  refine isPt_in (o1.ldS rfl rfl ?_)
  refine mkS_ow (by omega) (by unfold lim; omega) fun v h2 ov lv vo e2 => ?_
  have x2 : Ext h1 h2 := by rw [e2]; exact Ext.app _ _
  rw [bl_false, Int.toNat_natCast, htl] at ov
  rw [Int.toNat_natCast, htl] at lv
  have hvs : v.o.isSome = true := by rw [vo]; rfl
  have fv : Fr h1.length v := fun o e => by rw [vo] at e; cases e; exact Nat.le_refl _
  refine spec_l02Lasting_rule0 _ _ _ _ (fun i h => ∃ k : Nat, i = k ∧ k ≤ ts.length ∧ Ow h v 1 ((bl ts.length fun j => decide (j < k)).map .bool) ∧ Ext h1 h) (fun i _ => (ts.length - i).toNat) ?_ _ ⟨0, rfl, by omega, by simpa using ov, x2⟩
  rintro X _ h ⟨k, rfl, hk, ok, x⟩ hX
  unfold spec_l02Lasting_b0 spec_l02Lasting_C0
  refine bif_dec (fun hi => ?_) (fun hi => ?_)
  · refine ok.stBl (by omega) (by omega) _ fun h' o' b' l' => ?_
    rw [w64_of (by omega) (by omega)]
    refine hX _ _ ⟨k + 1, by push_cast; rfl, by omega, ?_, x.but_ b' fun o e => fv o e⟩ (by omega)
    rw [show bl ts.length (fun j => decide (j < k + 1)) = bl ts.length (fun w => if w = (k : Int).toNat then true else decide (w < k)) from bl_congr fun w _ => ?_]
    · exact o'
    · rw [Int.toNat_natCast]
      split
      · next e => simp [e]
      · next e => by_cases q : w < k <;> simp [q] <;> omega
  clear hX
  have hkn : k = ts.length := by omega
  subst hkn
  have ok1 : Ow h v 1 ((bl ts.length fun _ => true).map .bool) := by
    rw [show bl ts.length (fun _ => true) = bl ts.length (fun j => decide (j < ts.length)) from bl_congr fun w hw => by simp [hw]]
    exact ok
  refine spec_l02Lasting_rule2 _ _ _ _ (fun b h => Ext h1 h ∧ ∃ Q, Ow h v 1 ((bl ts.length Q).map .bool) ∧ (∀ i, i < ts.length → lastT c ts i = true → Q i = true) ∧ (b = false → ∀ i, i < ts.length → Q i = true → prB ts Q i ts.length = true ∧ suB ts Q i ts.length = true)) (fun b h => 2 * trues h v + if b then 1 else 0) ?_ _ ⟨x, fun _ => true, ok1, fun _ _ _ => rfl, fun f => by cases f⟩
  clear ok ok1 hi x
  rintro X more h ⟨x, Q, oq, hQ, hst⟩ hX
  unfold spec_l02Lasting_b2 spec_l02Lasting_C2
  refine bif_b (fun hm => ?_) (fun hm => ⟨_, rfl, ?_, fv.le (by omega), x1.trans x⟩)
  rotate_left
  · have e : bl ts.length (lastT c ts) = bl ts.length Q := bl_congr fun w hw => by
      have a := hQ w hw
      have b : Q w = true → lastT c ts w = true := fun q => last_top T (hst hm) hw q
      revert a b
      cases lastT c ts w <;> cases Q w <;> simp
    rw [e]; exact oq
  subst hm
  have hN0 := trues_ow oq hvs
  refine spec_l02Lasting_rule4 _ _ X _ _ (fun b i g => Ext h1 g ∧ ∃ k : Nat, i = k ∧ k ≤ ts.length ∧ ∃ Q', Ow g v 1 ((bl ts.length Q').map .bool) ∧ (∀ i, i < ts.length → lastT c ts i = true → Q' i = true) ∧ cntB ts.length Q' ≤ cntB ts.length Q ∧ (b = true → cntB ts.length Q' < cntB ts.length Q) ∧ (b = false → ∀ i, i < k → Q' i = true → prB ts Q' i ts.length = true ∧ suB ts Q' i ts.length = true)) (fun _ i _ => (ts.length - i).toNat) ?_ _ _ ⟨x, 0, rfl, by omega, Q, oq, hQ, Nat.le_refl _, (fun f => by cases f), fun _ i hi => by omega⟩
  rintro Y b _ g ⟨xg, i, rfl, hi, P, op, hP, hle, hlt, hdone⟩ hY
  unfold spec_l02Lasting_b4 spec_l02Lasting_C4
  refine bif_dec (fun hin => ?_) (fun hin => ?_)
  rotate_left
  · refine hX _ _ ⟨xg, P, op, hP, fun hb j hj => ?_⟩ ?_
    · rw [show i = ts.length by omega] at hdone
      exact hdone hb j hj
    · rw [trues_ow op hvs, hN0]
      cases b
      · simp only [Bool.false_eq_true, if_false, if_true]; omega
      · have := hlt rfl
        simp only [if_true]; omega
  have hin' : i < ts.length := by omega
  refine spec_l02Lasting_rule6 _ _ X Y _ _ _ _ (fun w e j g' => g = g' ∧ ∃ k : Nat, j = k ∧ k ≤ ts.length ∧ w = prB ts P i k ∧ e = suB ts P i k) (fun _ _ j _ => (ts.length - j).toNat) ?_ _ _ _ ⟨rfl, 0, rfl, by omega, rfl, rfl⟩
  rintro Z w e _ _ ⟨rfl, k, rfl, hk, rfl, rfl⟩ hZ
  have o := o1.ext xg
  have rg := r.ext (x1.trans xg)
  unfold spec_l02Lasting_b6 spec_l02Lasting_C6 spec_l02Lasting_C5
  refine bif_dec (fun hkn => ?_) (fun hkn => ?_)
  · have hk' : k < ts.length := by omega
    have next : ∀ (w e : Bool), w = prB ts P i (k + 1) → e = suB ts P i (k + 1) → Z (spec_l02Lasting_e6 ⟨some h0.length, 2, 0⟩ v b (i : Int) w e (w64 ((k : Int) + 1))) g := fun w e hw he => by
      rw [w64_of (by omega) (by omega)]
      exact hZ _ _ _ _ ⟨rfl, k + 1, by push_cast; rfl, by omega, hw, he⟩ (by omega)
    have hpr := prB_succ (ts := ts) (Q := P) (i := i) (j := k)
    have hsu := suB_succ (ts := ts) (Q := P) (i := i) (j := k)
    have rdP : ∀ {K : Bool → Prop}, K (P k) → ixS v 1 (k : Int) fun p => Cl.ldB p g K := fun hk => op.rd.ldBl (by omega) (by omega) (by rw [Int.toNat_natCast]; exact hk)
    have rdS : ∀ {m q : Nat} {K : Int → Prop}, m < ts.length → q < 4 → K (sd (tat ts (m : Nat)) q) → isPt ⟨some h0.length, 2, 0⟩ (Cl.ldS (Pt.add ⟨some h0.length, 2, 0⟩ 1) g fun s2 => ixS s2 4 (m : Int) fun p => ixA p 4 1 (q : Int) fun p => Cl.ldI .i64 p g K) := fun hm hq hk => side_of o rg (by omega) (by omega) (by omega) (by omega) hk
    generalize prB ts P i k = W at *
    generalize suB ts P i k = U at *
    refine bif_b (fun hw => ?_) (fun hw => ?_)
    · refine bif_b (fun he => ?_) (fun he => ?_)
      · exact next _ _ (by rw [hpr, hw]; rfl) (by rw [hsu, he]; rfl)
      · refine rdP (bif_b (fun hp => ?_) (fun hp => ?_))
        · refine rdS (q := 0) hk' (by omega) (rdS (q := 2) hin' (by omega) ?_)
          exact next _ _ (by rw [hpr, hw]; rfl) (by rw [hsu, he, hp]; rfl)
        · exact next _ _ (by rw [hpr, hw]; rfl) (by rw [hsu, he, hp]; rfl)
    · refine rdP (bif_b (fun hp => ?_) (fun hp => ?_))
      · refine rdS (q := 2) hk' (by omega) (rdS (q := 0) hin' (by omega) ?_)
        refine bif_b (fun he => ?_) (fun he => ?_)
        · exact next _ _ (by rw [hpr, hw, hp]; rfl) (by rw [hsu, he]; rfl)
        · refine rdP (bif_b (fun hp => ?_) (fun hp' => absurd hp (by rw [hp']; decide)))
          refine rdS (q := 0) hk' (by omega) (rdS (q := 2) hin' (by omega) ?_)
          exact next _ _ (by rw [hpr, hw, hp]; rfl) (by rw [hsu, he, hp]; rfl)
      · refine bif_b (fun he => ?_) (fun he => ?_)
        · exact next _ _ (by rw [hpr, hw, hp]; rfl) (by rw [hsu, he]; rfl)
        · refine rdP (bif_b (fun hp' => absurd hp' (by rw [hp]; decide)) (fun hp => ?_))
          exact next _ _ (by rw [hpr, hw, hp]; rfl) (by rw [hsu, he, hp]; rfl)
  · have : k = ts.length := by omega
    subst this
    have rdP : ∀ {K : Bool → Prop}, K (P i) → ixS v 1 (i : Int) fun p => Cl.ldB p g K := fun hk => op.rd.ldBl (by omega) (by omega) (by rw [Int.toNat_natCast]; exact hk)
    -- the tile stays
    have stay : (P i = true → prB ts P i ts.length = true ∧ suB ts P i ts.length = true) → Y (spec_l02Lasting_e4 ⟨some h0.length, 2, 0⟩ v b (w64 ((i : Int) + 1))) g := fun hs => by
      rw [w64_of (by omega) (by omega)]
      refine hY _ _ _ ⟨xg, i + 1, by push_cast; rfl, by omega, P, op, hP, hle, hlt, fun hb j hj hpj => ?_⟩ (by omega)
      by_cases e : j = i
      · subst e; exact hs hpj
      · exact hdone hb j (by omega) hpj
    -- the tile goes
    have go : P i = true → ¬ (prB ts P i ts.length = true ∧ suB ts P i ts.length = true) → ixS v 1 (i : Int) fun p => Cl.st1 p (.bool false) g fun g' => Y (spec_l02Lasting_e4 ⟨some h0.length, 2, 0⟩ v true (w64 ((i : Int) + 1))) g' := fun hp hn => by
      refine op.stBl (by omega) (by omega) _ fun g' o' b' l' => ?_
      rw [w64_of (by omega) (by omega)]
      rw [Int.toNat_natCast] at o'
      have hcl : cntB ts.length (fun w => if w = i then false else P w) < cntB ts.length P := cntB_lt (fun w hw hq => by
        have hq' : (if w = i then false else P w) = true := hq
        split at hq'
        · cases hq'
        · exact hq') ⟨i, hin', by simp [hp]⟩
      refine hY _ _ _ ⟨xg.but_ b' (fun o e => fv o e), i + 1, by push_cast; rfl, by omega, _, o', fun j hj hlj => ?_, by omega, fun _ => by omega, fun f => by cases f⟩ (by omega)
      by_cases e : j = i
      · subst e; exact absurd (last_keeps T hP hj hlj) hn
      · simp only [if_neg e]; exact hP j hj hlj
    refine rdP (bif_b (fun hp => ?_) (fun hp => stay fun q => by rw [hp] at q; cases q))
    refine bif_b (fun hw => ?_) (fun hw => ?_)
    · refine bif_not (fun he => go hp fun f => by rw [he] at f; cases f.2) (fun he => stay fun _ => ⟨hw, he⟩)
    · exact go hp fun f => by rw [hw] at f; cases f.1
theorem spec_LastingTiles_c (r : Rd h0 s 4 (tcs ts)) (sz : ts.length ≤ 1048576) :
    callV SP i_spec_LastingTiles [.agg (SetC c s)] h0 fun v h' => ∃ w, v = .tuple [.sl w, i64 (codeOf (setOK c ts) True)] ∧ Ow h' w 1 (ic (F_LastingTiles_0 c ts)) ∧ Fr h0.length w ∧ Ext h0 h' := by
  apply spec_LastingTiles_call
  unfold spec_LastingTiles_main
  refine newK_obj fun h1 o1 x1 n1 => ?_
  refine o1.ldA rfl ?_
  refine (l01Is_c (r.ext x1)).to ?_
  rintro e h2 ⟨he, x2⟩
  have X := x1.trans x2
  refine bif_not (fun hq => ⟨Sl.nil, ?_, ?_, Fr.nil _, X⟩) (fun hq => ?_)
  · rw [codeOf_no fun hs => by rw [he.2 hs] at hq; cases hq]
  · rw [F_LastingTiles_0, sel0_no fun hs => by rw [he.2 hs] at hq; cases hq]; exact Ow.nil _ _
  have hs := he.1 hq
  refine (o1.ext x2).ldA rfl ?_
  refine (l02Lasting_c (r.ext X) hs.ts hs.2.1).to ?_
  rintro a h6 ⟨oa, fa, x6⟩
  have hN := hs.2.1
  have hal := oa.blen
  refine newS_ow (by rfl) fun u h9 ou lu uo e9 => ?_
  have x9 : Ext h6 h9 := by rw [e9]; exact Ext.app _ _
  have oa9 := oa.ext x9
  have l2 := X.len
  have l6 := x6.len
  have hlt : ∀ o, a.o = some o → o < h6.length := fun o e => oa.lt e
  refine spec_LastingTiles_rule0 _ _ _ (fun u i h => ∃ k : Nat, i = k ∧ k ≤ ts.length ∧ Ow h u 1 (ic (lastL c ts k)) ∧ Fr h6.length u ∧ Ext h6 h) (fun _ i _ => (ts.length - i).toNat) ?_ _ _ ⟨0, rfl, by omega, ou, (fun o e => by rw [uo] at e; cases e; exact Nat.le_refl _), x9⟩
  rintro Y u _ h ⟨k, rfl, hk, ou, fu, x⟩ hY
  unfold spec_LastingTiles_b0 spec_LastingTiles_C0
  refine bif_dec (fun hi => ?_) (fun hi => ⟨u, by rw [codeOf_yes hs trivial], ?_, fu.le (by omega), (X.trans x6).trans x⟩)
  rotate_left
  · rw [F_LastingTiles_0, sel0_yes hs, show ts.length = k by omega]; exact ou
  have hsuc := lastL_succ (c := c) (ts := ts) k
  have hll := lastL_len (c := c) (ts := ts) k
  refine (oa.ext x).rd.ldBl (by omega) (by omega) ?_
  rw [Int.toNat_natCast]
  refine bif_b (fun hb => ?_) (fun hb => ?_)
  · refine pushI ou (by unfold lim; omega) fun u' g ou' bu fu' => ?_
    rw [w64_of (by omega) (by omega)]
    refine hY _ _ _ ⟨k + 1, by push_cast; rfl, by omega, ?_, fu' _ fu x.len, x.but_ bu (fun o e => fu o e)⟩ (by omega)
    rw [hsuc, hb]; exact ou'
  · rw [w64_of (by omega) (by omega)]
    refine hY _ _ _ ⟨k + 1, by push_cast; rfl, by omega, ?_, fu, x⟩ (by omega)
    rw [hsuc, hb]; exact ou
theorem LastingTiles_small0 (sz : ts.length ≤ 1048576) : (F_LastingTiles_0 c ts).length < 1000000 := by
  by_cases hs : setOK c ts
  · rw [F_LastingTiles_0, sel0_yes hs]
    have := lastL_len (c := c) (ts := ts) ts.length
    have := hs.2.1
    omega
  · rw [F_LastingTiles_0, sel0_no hs]; decide
end
end Go.Proofs.Ytdmhchgaeepdmaa.Cl
