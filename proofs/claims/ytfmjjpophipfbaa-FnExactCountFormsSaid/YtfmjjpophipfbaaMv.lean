/- Least forms of tori: their count. No claim is stated here. -/
import Derived.Test.YtfmjjpophipfbaaMu
set_option linter.unusedVariables false
set_option linter.unusedSimpArgs false
namespace Go.Proofs.Ytfmjjpophipfbaa.Cl
open Go
theorem cmpL_zero : ∀ {a b : List Int}, cmpL a b = 0 → a = b
  | [], [], _ => rfl
  | [], _ :: _, h => by simp [cmpL] at h
  | _ :: _, [], h => by simp [cmpL] at h
  | a :: l, b :: m, h => by
    simp only [cmpL] at h
    split at h
    · omega
    · split at h
      · omega
      · rw [cmpL_zero h, show a = b by omega]
theorem cmpL_trans : ∀ {a b c : List Int}, cmpL a b ≤ 0 → cmpL b c ≤ 0 → cmpL a c ≤ 0
  | [], _, [], _, _ => by simp [cmpL]
  | [], _, _ :: _, _, _ => by simp [cmpL]
  | _ :: _, [], _, h, _ => by simp [cmpL] at h
  | _ :: _, _ :: _, [], _, h => by simp [cmpL] at h
  | a :: l, b :: m, c :: n, h1, h2 => by
    have ih := @cmpL_trans l m n
    simp only [cmpL] at h1 h2 ⊢
    split at h1
    · split at h2
      · rw [if_pos (by omega)]; omega
      · split at h2
        · omega
        · rw [if_pos (by omega)]; omega
    · split at h1
      · omega
      · split at h2
        · rw [if_pos (by omega)]; omega
        · split at h2
          · omega
          · rw [if_neg (by omega), if_neg (by omega)]; exact ih h1 h2
theorem cmpLL_trans : ∀ {a b c : List (List Int)}, cmpLL a b ≤ 0 → cmpLL b c ≤ 0 → cmpLL a c ≤ 0
  | [], _, [], _, _ => by simp [cmpLL]
  | [], _, _ :: _, _, _ => by simp [cmpLL]
  | _ :: _, [], _, h, _ => by simp [cmpLL] at h
  | _ :: _, _ :: _, [], _, h => by simp [cmpLL] at h
  | a :: l, b :: m, c :: n, h1, h2 => by
    have ih := @cmpLL_trans l m n
    simp only [cmpLL] at h1 h2 ⊢
    by_cases q1 : cmpL a b = 0
    · rw [if_neg (by omega)] at h1
      have := cmpL_zero q1
      subst this
      by_cases q2 : cmpL a c = 0
      · rw [if_neg (by omega)] at h2
        rw [if_neg (by omega)]
        exact ih h1 h2
      · rw [if_pos q2] at h2 ⊢
        exact h2
    · rw [if_pos q1] at h1
      by_cases q2 : cmpL b c = 0
      · have := cmpL_zero q2
        subst this
        rw [if_pos q1]; exact h1
      · rw [if_pos q2] at h2
        have h3 := cmpL_trans h1 h2
        have q3 : cmpL a c ≠ 0 := fun e => by
          have := cmpL_zero e
          subst this
          rw [cmpL_anti] at h2
          omega
        rw [if_pos q3]; exact h3
theorem least_le {rows : List (List Int)} (R : Rect rows) : cmpLL (leastG rows) rows ≤ 0 := by
  unfold leastG
  refine nest_keeps (I := fun b => cmpLL b rows ≤ 0) ?_ ?_
  · rw [shift_zero R, cmpLL_self]; exact Int.le_refl _
  · intro x a b _ _ h
    unfold leastStep
    split
    · exact cmpLL_trans (by omega) h
    · exact h
def isForm (rows : List (List Int)) : Bool := decide (cmpLL rows (leastG rows) = 0)
theorem isForm_iff {rows : List (List Int)} (R : Rect rows) : isForm rows = !decide (cmpLL (leastG rows) rows < 0) := by
  have h := least_le R
  have e := cmpLL_anti (leastG rows) rows
  unfold isForm
  by_cases q : cmpLL (leastG rows) rows < 0
  · rw [decide_eq_true q, decide_eq_false (by omega)]; rfl
  · rw [decide_eq_false q, decide_eq_true (by omega)]; rfl
theorem rect_of {W H : Nat} {T : List (List Int)} (hl : T.length = H) (hw : ∀ w ∈ T, w.length = W) (h1 : 1 ≤ H) (h2 : H ≤ 8) (w1 : 1 ≤ W) (w2 : W ≤ 8) : Rect T := by
  have hr : ∀ y, y < T.length → (rw_ T y).length = W := fun y hy => hw _ (List.mem_of_getElem? (at_rw hy))
  have h0 := hr 0 (by omega)
  exact ⟨by omega, by omega, fun y hy => by rw [hr y hy, wide, h0], by rw [wide, h0]; exact w1, by rw [wide, h0]; exact w2⟩
/-- The program's count, with a stop. -/
def frmF (x y : Nat) (t : Int × Int) (l : List Int) : (Int × Int) × Bool :=
  ((w64 (t.1 + 1), if w64 (t.1 + 1) ≤ 4000 ∧ isForm (rowsG x y l) = true then w64 (t.2 + 1) else t.2), decide (w64 (t.1 + 1) ≤ 4000))
theorem runU_frm (x y : Nat) : ∀ (l : List (List Int)) (a b : Nat), a ≤ 4000 → b ≤ a →
    (a + l.length ≤ 4000 → (runU (frmF x y) l ((a : Int), (b : Int))).1 = (((a + l.length : Nat) : Int), ((b + l.countP (fun w => isForm (rowsG x y w)) : Nat) : Int))) ∧ (4000 < a + l.length → (runU (frmF x y) l ((a : Int), (b : Int))).1.1 = 4001)
  | [], a, b, h, _ => ⟨fun _ => by simp [runU], fun h2 => by simp at h2; omega⟩
  | w :: l, a, b, h, hb => by
    have e1 : w64 ((a : Int) + 1) = ((a + 1 : Nat) : Int) := by rw [w64_of (by omega) (by omega)]; push_cast; rfl
    have e2 : w64 ((b : Int) + 1) = ((b + 1 : Nat) : Int) := by rw [w64_of (by omega) (by omega)]; push_cast; rfl
    rw [runU]
    by_cases q : a + 1 ≤ 4000
    · have hb2 : (frmF x y ((a : Int), (b : Int)) w).2 = true := by
        simp only [frmF, e1]; exact decide_eq_true (by omega)
      rw [if_pos hb2]
      by_cases f : isForm (rowsG x y w) = true
      · have hs : (frmF x y ((a : Int), (b : Int)) w).1 = (((a + 1 : Nat) : Int), ((b + 1 : Nat) : Int)) := by
          simp only [frmF, e1, e2]
          rw [if_pos ⟨by omega, f⟩]
        rw [hs]
        have ih := runU_frm x y l (a + 1) (b + 1) q (by omega)
        rw [List.length_cons, List.countP_cons_of_pos (p := fun w => isForm (rowsG x y w)) f]
        refine ⟨fun hl => ?_, fun hl => ih.2 (by omega)⟩
        rw [ih.1 (by omega)]
        congr 2 <;> omega
      · have hs : (frmF x y ((a : Int), (b : Int)) w).1 = (((a + 1 : Nat) : Int), (b : Int)) := by
          simp only [frmF, e1]
          rw [if_neg fun c => f c.2]
        rw [hs]
        have ih := runU_frm x y l (a + 1) b q (by omega)
        rw [List.length_cons, List.countP_cons_of_neg (p := fun w => isForm (rowsG x y w)) f]
        refine ⟨fun hl => ?_, fun hl => ih.2 (by omega)⟩
        rw [ih.1 (by omega)]
        congr 2; omega
    · have hb2 : ¬ (frmF x y ((a : Int), (b : Int)) w).2 = true := by
        simp only [frmF, e1, decide_eq_true_eq]; omega
      rw [if_neg hb2]
      refine ⟨fun hl => by rw [List.length_cons] at hl; omega, fun _ => ?_⟩
      simp only [frmF, e1]
      omega
noncomputable def formsN (c : Int) (ts : List Tile) (a b : Int) : Nat := (toriL c ts b.toNat a.toNat).countP isForm
open Classical in
noncomputable def code3 (A B : Prop) (n : Int) : Int := if codeOf A B = 0 then (if n > 4000 then 3 else 0) else codeOf A B
theorem code3_no {A B : Prop} {n : Int} (h : codeOf A B ≠ 0) : code3 A B n = codeOf A B := by unfold code3; rw [if_neg h]
theorem code3_3 {A B : Prop} {n : Int} (h : codeOf A B = 0) (t : n > 4000) : code3 A B n = 3 := by unfold code3; rw [if_pos h, if_pos t]
theorem code3_0 {A B : Prop} {n : Int} (h : codeOf A B = 0) (t : ¬ n > 4000) : code3 A B n = 0 := by unfold code3; rw [if_pos h, if_neg t]
noncomputable def F_CountForms_0 (c : Int) (ts : List Tile) (a b : Int) : Int := sel ((setOK c ts ∧ Size a b) ∧ ¬ tcount c ts a b > 4000) ((formsN c ts a b : Nat) : Int) 0
theorem TL.ld {hW : H} {n : Nat} {h : H} {s : Sl} {Ts : List (List (List Int))} (r : TL hW n h s Ts) (e : Ext hW h) {i : Nat} (h1 : i < Ts.length) {K : Sl → Prop} (hk : ∀ v, RdSS h v Ts[i] → K v) : ixS s 1 (i : Int) fun p => Cl.ldS p h K := by
  obtain ⟨vs, a, b, c, d⟩ := r
  refine b.rd.ldS (by omega) (by omega) fun x hx => ?_
  rw [Int.toNat_natCast] at hx
  exact hk x ((d _ x _ hx (List.getElem?_eq_getElem h1)).1.rd e)
theorem least_like {rows : List (List Int)} : Like rows (leastG rows) := nest_keeps (shift_like _ _ _) fun _ _ _ _ _ h => leastStep_like h
section
variable {h0 : H} {c : Int} {s : Sl} {ts : List Tile} {a b : Int}
theorem spec_CountForms_c (r : Rd h0 s 4 (tcs ts)) (sz : ts.length ≤ 1048576) (ba : i64ok a) (bb : i64ok b) :
    callV SP i_spec_CountForms [.agg (SetC c s), i64 a, i64 b] h0 fun v h' => v = .tuple [i64 (F_CountForms_0 c ts a b), i64 (code3 (setOK c ts) (Size a b) (tcount c ts a b))] ∧ Ext h0 h' := by
  apply spec_CountForms_call
  unfold spec_CountForms_main
  refine newK_obj fun h1 o1 x1 n1 => ?_
  refine o1.ldA rfl ?_
  refine (l05Code_c (r.ext x1)).to ?_
  rintro n h4 ⟨rfl, x4⟩
  have X := x1.trans x4
  refine bif_ne (fun hq => ⟨?_, X⟩) (fun hq => ?_)
  · rw [code3_no hq, F_CountForms_0, sel_no fun f => codeOf_cond hq f.1]
  have hc := codeOf_zero hq
  obtain ⟨x, rfl⟩ : ∃ x : Nat, a = x := ⟨a.toNat, by have := hc.2.1; omega⟩
  obtain ⟨y, rfl⟩ : ∃ y : Nat, b = y := ⟨b.toNat, by have := hc.2.2; omega⟩
  have hx := hc.2.1
  have hy := hc.2.2
  have S := hc.1.sides
  refine (o1.ext x4).ldA rfl ?_
  refine (l05Count_c (r.ext X) hc.1 hc.2).to ?_
  rintro n h6 ⟨rfl, x6⟩
  have X6 := X.trans x6
  refine bif_dec (fun hg => ⟨?_, X6⟩) (fun hg => ?_)
  · rw [code3_3 hq hg, F_CountForms_0, sel_no fun f => f.2 hg]
  refine (o1.ext (x4.trans x6)).ldA rfl ?_
  refine (l05Words_c (r.ext X6) hc.1.2.1 S hc.1.1.2 (W := y) (by omega)).to ?_
  rintro _ h9 ⟨wq, tq, bq, rfl, nw, rt, rb, x9⟩
  refine ⟨_, rfl, _, rfl, _, rfl, _, rfl, _, rfl, _, rfl, ?_⟩
  have X9 := X6.trans x9
  refine (o1.ext ((x4.trans x6).trans x9)).ldA rfl ?_
  refine newS_ow (by rfl) fun z h19 oz lz zo e19 => ?_
  have x19 : Ext h9 h19 := by rw [e19]; exact Ext.app _ _
  have hlen : (toriL c ts y x).length ≤ 4000 := by
    unfold tcount at hg
    rw [Int.toNat_natCast, Int.toNat_natCast] at hg
    omega
  refine (allTop (n := h19.length) nw.rd rt rb hc.1.2.1 (by omega) (H_ := x) (by omega) lz x19 (Nat.le_refl _) hlen).to ?_
  rintro q h20 ⟨tl, x20⟩
  have E9 := x19.trans x20
  have hlt := tl.len
  refine spec_CountForms_rule0 _ _ _ (fun n i h => 0 ≤ i ∧ i ≤ (toriL c ts y x).length ∧ n = (((toriL c ts y x).take i.toNat).countP isForm : Nat) ∧ Ext h20 h) (fun _ i _ => ((toriL c ts y x).length - i).toNat) ?_ _ _ ⟨by omega, by omega, rfl, Ext.refl _⟩
  rintro Y n i h ⟨i0, i1, hn, e⟩ hY
  unfold spec_CountForms_b0 spec_CountForms_C0
  refine bif_dec (fun hi => ?_) (fun hi => ?_)
  rotate_left
  · rw [show i.toNat = (toriL c ts y x).length by omega, List.take_length] at hn
    refine ⟨?_, (X9.trans E9).trans e⟩
    rw [code3_0 hq hg, F_CountForms_0, sel_yes ⟨hc, hg⟩, hn]
    unfold formsN
    rw [Int.toNat_natCast, Int.toNat_natCast]
  obtain ⟨k, rfl⟩ : ∃ k : Nat, i = k := ⟨i.toNat, by omega⟩
  rw [Int.toNat_natCast] at hn
  have hk : k < (toriL c ts y x).length := by omega
  have hcp := List.countP_le_length (p := isForm) (l := (toriL c ts y x).take k)
  rw [List.length_take] at hcp
  obtain ⟨f1, f2⟩ := tori_form (by omega) (List.getElem_mem hk)
  have R : Rect (toriL c ts y x)[k] := rect_of f1 (fun w hw => (f2 w hw).1) (by omega) (by omega) (by omega) (by omega)
  have hR1 := R.h1
  have hR2 := R.w1
  refine (tl.ext e).ld (E9.trans e) hk fun v rv => ?_
  refine (l05Least_c rv R).to ?_
  rintro u g ⟨nu, eg⟩
  refine ((tl.ext e).ext eg).ld ((E9.trans e).trans eg) hk fun v2 rv2 => ?_
  have hlk := least_like (rows := (toriL c ts y x)[k])
  refine l05Less_k nu.rd rv2 hlk.1 (fun y' hy' => by rw [hlk.2 _ (by have := hlk.1; omega), R.w _ (by have := hlk.1; omega)]) (by have := hlk.1; omega) (fun y' hy' => by rw [hlk.2 _ (by have := hlk.1; omega)]; omega) ?_
  have hf := isForm_iff R
  have step : ∀ n' : Int, n' = (((toriL c ts y x).take (k + 1)).countP isForm : Nat) → Y (spec_CountForms_e0 q n' (w64 ((k : Int) + 1))) g := fun n' hn' => by
    rw [w64_of (by omega) (by omega)]
    refine hY _ _ _ ⟨by omega, by omega, ?_, e.trans eg⟩ (by omega)
    rw [show ((k : Int) + 1).toNat = k + 1 by omega]
    exact hn'
  rw [List.take_succ_eq_append_getElem hk, List.countP_append] at step
  refine bif_not (fun hb => ?_) (fun hb => ?_)
  · rw [hb] at hf
    refine step _ ?_
    rw [List.countP_cons_of_pos (by rw [hf]; rfl), hn, w64_of (by omega) (by omega)]
    simp
  · rw [hb] at hf
    refine step _ ?_
    rw [List.countP_cons_of_neg (by rw [hf]; decide), hn]
    simp
theorem impl_CountForms_c (r : Rd h0 s 4 (tcs ts)) (sz : ts.length ≤ 1048576) (ba : i64ok a) (bb : i64ok b) :
    callV SP i_impl_CountForms [.agg (SetC c s), i64 a, i64 b] h0 fun v h' => v = .tuple [i64 (F_CountForms_0 c ts a b), i64 (code3 (setOK c ts) (Size a b) (tcount c ts a b))] ∧ Ext h0 h' := by
  apply impl_CountForms_call
  unfold impl_CountForms_main
  refine newK_obj fun h1 o1 x1 n1 => ?_
  refine newO_var fun h2 v2 x2 n2 => ?_
  refine newO_var fun h3 v3 x3 n3 => ?_
  have o3 := o1.ext (x2.trans x3)
  have w2 := v2.ext x3
  have x13 := x1.trans (x2.trans x3)
  refine o3.ldA rfl ?_
  refine (setCode_c (r.ext x13) (by omega) _ _ (Size a b) fun _ h x => ?_).to ?_
  · apply impl_CountForms_1_call
    unfold impl_CountForms_1_main
    refine (w2.ext x).ldI ?_
    refine (v3.ext x).ldI ?_
    exact areSizes_k.to fun b h' e => ⟨_, rfl, e⟩
  rintro n h4 ⟨rfl, x4⟩
  have X := x13.trans x4
  refine bif_ne (fun hq => ⟨?_, X⟩) (fun hq => ?_)
  · rw [code3_no hq, F_CountForms_0, sel_no fun f => codeOf_cond hq f.1]
  have hc := codeOf_zero hq
  obtain ⟨x, rfl⟩ : ∃ x : Nat, a = x := ⟨a.toNat, by have := hc.2.1; omega⟩
  obtain ⟨y, rfl⟩ : ∃ y : Nat, b = y := ⟨b.toNat, by have := hc.2.2; omega⟩
  have hx := hc.2.1
  have hy := hc.2.2
  have S := hc.1.sides
  have l4 := x4.len
  refine newO_var fun h10 v10 x10 n10 => ?_
  refine newO_var fun h12 v12 x12 n12 => ?_
  refine (v10.ext x12).st _ fun h13 v13 b13 n13 => ?_
  have v13' := v12.but b13 (fun e => by have := Option.some.inj e; omega)
  refine v13'.st _ fun h14 v14 b14 n14 => ?_
  have u14 := v13.but b14 (fun e => by have := Option.some.inj e; omega)
  have x14 : Ext h4 h14 := (((x10.trans x12).but_ b13 (some_le (by omega)))).but_ b14 (some_le (by omega))
  have X14 := X.trans x14
  have Y14 := x4.trans x14
  refine (o3.ext Y14).ldA rfl ?_
  refine (w2.ext Y14).ldI ?_
  refine (v3.ext Y14).ldI ?_
  refine (tori_c (σ := Int × Int) (f := frmF x y) (H_ := x) (W := y) (I := fun t h => Var h h4.length (i64 t.1) ∧ Var h h10.length (i64 t.2)) (t := ((0 : Nat), (0 : Nat))) r hc.1.2.1 (by omega) (by omega) X14 ?_ ?_ ⟨u14, v14⟩).to ?_
  · intro t h h' i e
    exact ⟨i.1.but e (fun e => by have := Option.some.inj e; omega), i.2.but e (fun e => by have := Option.some.inj e; omega)⟩
  · intro t l h h' u hl hxs i hlen n e
    obtain ⟨i1, i2⟩ := i
    apply impl_CountForms_2_call
    unfold impl_CountForms_2_main
    refine i1.ldI ?_
    refine i1.st _ fun g1 j1 b1 m1 => ?_
    refine j1.ldI ?_
    have k2 := i2.but b1 (fun e => by have := Option.some.inj e; omega)
    have hgl := i1.lt
    have c1 : Chg (fun o => o < h14.length ∧ h0.length ≤ o) h' g1 := b1.chg fun i e => by cases e; have := X.len; omega
    have hrl : ∀ w ∈ rowsG x y l, w.length = y := fun w hw => by
      unfold rowsG tab2 at hw
      obtain ⟨k, hk, rfl⟩ := List.mem_map.1 hw
      have := List.mem_range.1 hk
      have h5 : (k + 1) * y ≤ x * y := Nat.mul_le_mul_right _ this
      rw [Nat.add_mul] at h5
      rw [List.length_take, List.length_drop]; omega
    have R : Rect (rowsG x y l) := rect_of (by unfold rowsG; rw [tab2_len]) hrl (by omega) (by omega) (by omega) (by omega)
    have hR1 := R.h1
    have hlo : ∀ w ∈ rowsG x y l, w.length < 1000000 := fun w hw => by have := hrl w hw; omega
    have rg1 : RdSS g1 u (rowsG x y l) := by
      refine (n.chg (b1.chg (P := fun o => o = h4.length) fun i e => by cases e; rfl) fun i hi _ e => ?_).rd
      have := X14.len
      omega
    unfold frmF
    refine bif_dec (fun hs => ?_) (fun hs => ?_)
    rotate_left
    · refine j1.ldI ⟨_, rfl, ?_, ⟨j1, ?_⟩, c1⟩
      · rfl
      · rw [if_neg fun c => hs c.1]; exact k2
    refine (leastForm_c rg1 R).to ?_
    rintro z g3 ⟨nz, x3⟩
    refine compareRows_k (rg1.ext x3) nz.rd (by omega) (by have := least_like (rows := rowsG x y l); have := this.1; omega) hlo ?_
    refine bif_eq (fun hz => ?_) (fun hz => ?_)
    · refine (k2.ext x3).ldI ?_
      refine (k2.ext x3).st _ fun g8 j8 b8 m8 => ?_
      refine ((j1.ext x3).but b8 (fun e => by have := Option.some.inj e; omega)).ldI ⟨_, rfl, rfl, ⟨(j1.ext x3).but b8 (fun e => by have := Option.some.inj e; omega), ?_⟩, ?_⟩
      · rw [if_pos ⟨hs, decide_eq_true hz⟩]; exact j8
      · exact (c1.trans (x3.chg _)).trans (b8.chg fun i e => by cases e; have := X.len; omega)
    · refine (j1.ext x3).ldI ⟨_, rfl, rfl, ⟨j1.ext x3, ?_⟩, c1.trans (x3.chg _)⟩
      rw [if_neg fun c => hz (of_decide_eq_true c.2)]; exact k2.ext x3
  · rintro _ h18 ⟨⟨i1, i2⟩, e⟩
    have hrun := runU_frm x y (flat ts x y (x * y) []) 0 0 (by omega) (by omega)
    have hfl := flat_tori (W := y) (H := x) S (by omega) (by omega)
    have hcount : (flat ts x y (x * y) []).countP (fun w => isForm (rowsG x y w)) = formsN c ts (x : Int) (y : Int) := by
      unfold formsN
      rw [hfl, List.countP_map, Int.toNat_natCast, Int.toNat_natCast]
      refine List.countP_congr fun T hT => ?_
      obtain ⟨f1, f2⟩ := tori_form (by omega) hT
      have := rowsG_flatten (W := y) T fun w hw => (f2 w hw).1
      rw [f1] at this
      simp only [Function.comp]
      rw [this]
    have hlen : ((flat ts x y (x * y) []).length : Int) = tcount c ts x y := by
      unfold tcount
      rw [hfl, List.length_map, Int.toNat_natCast, Int.toNat_natCast]
    rw [Nat.zero_add] at hrun
    refine i1.ldI ?_
    by_cases hg : tcount c ts x y > 4000
    · rw [hrun.2 (by omega)]
      refine bif_dec (fun _ => ⟨?_, e⟩) (fun f => absurd (by omega) f)
      rw [code3_3 hq hg, F_CountForms_0, sel_no fun f => f.2 hg]
    · have h2 := hrun.1 (by omega)
      rw [h2] at i2 ⊢
      refine bif_dec (fun f => absurd f (by simp only []; omega)) (fun _ => i2.ldI ⟨?_, e⟩)
      rw [code3_0 hq hg, F_CountForms_0, sel_yes ⟨hc, hg⟩, Nat.zero_add, hcount]
end
end Go.Proofs.Ytfmjjpophipfbaa.Cl
