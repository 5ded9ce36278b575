/- Contracts of ShiftTorus, LeastForm, ShiftsKept and ShiftNumber. No claim is stated here. -/
import Derived.Test.YtfmjjpophipfbaaMg
import Derived.Test.YtfmjjpophipfbaaMe
set_option linter.unusedVariables false
set_option linter.unusedSimpArgs false
namespace Go.Proofs.Ytfmjjpophipfbaa.Cl
open Go
def Torus (ts : List Tile) (rows : List (List Int)) : Prop := Filling ts rows ∧ CylEnds ts rows ∧ TorEnds ts rows
open Classical in
noncomputable def sel {α : Type} (A : Prop) (x d : α) : α := if A then x else d
theorem sel_yes {α : Type} {A : Prop} {x d : α} (h : A) : sel A x d = x := by unfold sel; rw [if_pos h]
theorem sel_no {α : Type} {A : Prop} {x d : α} (h : ¬ A) : sel A x d = d := by unfold sel; rw [if_neg h]
open Classical in
noncomputable def code5 (A B T : Prop) : Int := if codeOf A B = 0 then (if T then 0 else 5) else codeOf A B
theorem code5_no {A B T : Prop} (h : codeOf A B ≠ 0) : code5 A B T = codeOf A B := by unfold code5; rw [if_neg h]
theorem code5_5 {A B T : Prop} (h : codeOf A B = 0) (t : ¬ T) : code5 A B T = 5 := by unfold code5; rw [if_pos h, if_neg t]
theorem code5_0 {A B T : Prop} (h : codeOf A B = 0) (t : T) : code5 A B T = 0 := by unfold code5; rw [if_pos h, if_pos t]
theorem code5_zero {A B T : Prop} (h : code5 A B T = 0) : (A ∧ B) ∧ T := by
  unfold code5 at h
  split at h
  · next e =>
    split at h
    · next t => exact ⟨codeOf_zero e, t⟩
    · cases h
  · next e => exact absurd h e
theorem code5_nz {A B T : Prop} (h : code5 A B T ≠ 0) : ¬ ((A ∧ B) ∧ T) := fun ⟨e, t⟩ => h (code5_0 (codeOf_yes e.1 e.2) t)
/-! ### the laws' numbers -/
def Given (c : Int) (ts : List Tile) (rows : List (List Int)) : Prop := (setOK c ts ∧ Nums ts.length rows) ∧ Torus ts rows
noncomputable def codeG (c : Int) (ts : List Tile) (rows : List (List Int)) : Int := code5 (setOK c ts) (Nums ts.length rows) (Torus ts rows)
def Rng (rows : List (List Int)) (a b : Int) : Prop := (0 ≤ a ∧ a < rows.length) ∧ 0 ≤ b ∧ b < wide rows
noncomputable def F_ShiftTorus_0 (c : Int) (ts : List Tile) (rows : List (List Int)) (a b : Int) : List (List Int) := sel ((setOK c ts ∧ Nums ts.length rows ∧ Rng rows a b) ∧ Torus ts rows) (shiftG rows a.toNat b.toNat) []
noncomputable def C_ShiftTorus (c : Int) (ts : List Tile) (rows : List (List Int)) (a b : Int) : Int := code5 (setOK c ts) (Nums ts.length rows ∧ Rng rows a b) (Torus ts rows)
noncomputable def F_LeastForm_0 (c : Int) (ts : List Tile) (rows : List (List Int)) : List (List Int) := sel (Given c ts rows) (leastG rows) []
noncomputable def F_ShiftsKept_0 (c : Int) (ts : List Tile) (rows : List (List Int)) : List (List Int) := sel (Given c ts rows) (keptG rows) []
noncomputable def F_ShiftNumber_0 (c : Int) (ts : List Tile) (rows : List (List Int)) : Int := sel (Given c ts rows) (w64 (Int.tdiv (w64 ((rows.length : Int) * ((wide rows : Nat) : Int))) ((keptG rows).length : Int))) 0
theorem small_nil : ([] : List (List Int)).length < 1000000 ∧ sumLen [] < 1000000 := by constructor <;> decide
theorem sel_small {A : Prop} {x : List (List Int)} (h : A → x.length < 1000000 ∧ sumLen x < 1000000) : (sel A x []).length < 1000000 ∧ sumLen (sel A x []) < 1000000 := by
  by_cases a : A
  · rw [sel_yes a]; exact h a
  · rw [sel_no a]; exact small_nil
theorem ShiftTorus_small0 {c : Int} {ts : List Tile} {rows : List (List Int)} {a b : Int} (sz : ts.length ≤ 1048576) (szr : rows.length ≤ 1048576) (sd : ∀ l ∈ rows, l.length ≤ 1048576) (ba : i64ok a) (bb : i64ok b) : (F_ShiftTorus_0 c ts rows a b).length < 1000000 ∧ sumLen (F_ShiftTorus_0 c ts rows a b) < 1000000 :=
  sel_small fun h => (shift_like _ _ _).small h.1.2.1.rect
theorem LeastForm_small0 {c : Int} {ts : List Tile} {rows : List (List Int)} (sz : ts.length ≤ 1048576) (szr : rows.length ≤ 1048576) (sd : ∀ l ∈ rows, l.length ≤ 1048576) : (F_LeastForm_0 c ts rows).length < 1000000 ∧ sumLen (F_LeastForm_0 c ts rows) < 1000000 :=
  sel_small fun h => (nest_keeps (I := Like rows) (shift_like _ _ _) fun x a b _ _ hx => leastStep_like hx).small h.1.2.rect
theorem ShiftsKept_small0 {c : Int} {ts : List Tile} {rows : List (List Int)} (sz : ts.length ≤ 1048576) (szr : rows.length ≤ 1048576) (sd : ∀ l ∈ rows, l.length ≤ 1048576) : (F_ShiftsKept_0 c ts rows).length < 1000000 ∧ sumLen (F_ShiftsKept_0 c ts rows) < 1000000 :=
  sel_small fun h => by
    have R := h.1.2.rect
    have R1 := R.h1; have W1 := R.w1
    have k := kept_upto rows rows.length 0
    have e : (List.range 0).foldl (fun acc b => keptStep rows acc rows.length b) ((List.range rows.length).foldl (fun acc a => (List.range (wide rows)).foldl (fun acc b => keptStep rows acc a b) acc) []) = keptG rows := rfl
    rw [e] at k
    have hm : wide rows * rows.length ≤ 8 * 8 := Nat.mul_le_mul W1 R1
    have hs := sumLen_le (ls := keptG rows) (n := 2) fun l hl => by rw [k.2 l hl]; omega
    omega
/-! ### the shift by nothing -/
theorem rows_eq {a b : List (List Int)} (hl : a.length = b.length) (h : ∀ y, y < a.length → rw_ a y = rw_ b y) : a = b := by
  apply List.ext_getElem hl
  intro i h1 h2
  have := h i h1
  unfold rw_ at this
  rw [List.getD_eq_getElem?_getD, List.getD_eq_getElem?_getD, List.getElem?_eq_getElem h1, List.getElem?_eq_getElem h2] at this
  exact this
theorem tab1_getD (l : List Int) : tab1 l.length (fun x => l.getD x 0) = l := by
  apply List.ext_getElem (by rw [tab1_len])
  intro i h1 h2
  simp [tab1, List.getElem?_eq_getElem h2]
theorem shift_zero {rows} (R : Rect rows) : shiftG rows 0 0 = rows := by
  refine rows_eq (shiftG_len _ _ _) fun y hy => ?_
  rw [shiftG_len] at hy
  unfold shiftG
  rw [tab2_row hy]
  rw [← tab1_getD (rw_ rows y), R.w y hy]
  unfold tab1
  apply List.map_congr_left
  intro x hx
  have hx' := List.mem_range.1 hx
  rw [Nat.add_zero, Nat.add_zero, Nat.mod_eq_of_lt hy, Nat.mod_eq_of_lt hx']
  rfl
theorem keptStep_le (rows acc a b) : acc.length ≤ (keptStep rows acc a b).length := by
  unfold keptStep
  split
  · simp
  · exact Nat.le_refl _
theorem foldl_first {α : Type} (I J : α → Prop) (g : α → Nat → α) {n : Nat} (hn : 0 < n) {x : α} (hx : I x) (h0 : ∀ x, I x → J (g x 0)) (hs : ∀ x b, J x → J (g x b)) : J ((List.range n).foldl g x) := by
  obtain ⟨m, rfl⟩ : ∃ m, n = m + 1 := ⟨n - 1, by omega⟩
  rw [List.range_succ_eq_map, List.foldl_cons]
  exact foldl_keeps _ _ (h0 x hx) fun x b _ h => hs x b h
theorem kept_pos {rows} (R : Rect rows) : 1 ≤ (keptG rows).length := by
  have R0 := R.h0; have W0 := R.w0
  unfold keptG nest
  refine foldl_first (fun _ => True) (fun x : List (List Int) => 1 ≤ x.length) _ R0 trivial (fun x _ => ?_) fun x a h => foldl_keeps (I := fun x : List (List Int) => 1 ≤ x.length) _ _ h fun x b _ h => Nat.le_trans h (keptStep_le _ _ _ _)
  refine foldl_first (fun _ => True) (fun x : List (List Int) => 1 ≤ x.length) _ W0 trivial (fun x _ => ?_) fun x b h => Nat.le_trans h (keptStep_le _ _ _ _)
  rw [keptStep, shift_zero R, if_pos (cmpLL_self _)]
  simp
section
variable {h0 : H} {c : Int} {s q : Sl} {ts : List Tile} {rows : List (List Int)} {a b : Int}
theorem torusCode_c (r : Rd h0 s 4 (tcs ts)) (rr : RdSS h0 q rows) (sz : ts.length ≤ 1048576) (szr : rows.length ≤ 1048576) (sd : ∀ l ∈ rows, l.length ≤ 1048576) :
    callI SP .i64 i_impl_torusCode [.agg (SetC c s), .sl q] h0 fun n h' => n = codeG c ts rows ∧ Ext h0 h' := by
  apply impl_torusCode_call
  unfold impl_torusCode_main
  refine newK_obj fun h1 o1 x1 n1 => ?_
  refine newO_var fun h2 v2 x2 n2 => ?_
  have o2 := o1.ext x2
  have x12 := x1.trans x2
  refine o2.ldA rfl ?_
  refine (setCode_c (r.ext x12) (by omega) _ _ (Nums ts.length rows) fun _ h x => ?_).to ?_
  · apply impl_torusCode_1_call
    unfold impl_torusCode_1_main
    refine (o2.ext x).ldA rfl ?_
    refine (v2.ext x).ldS ?_
    refine (areNumbers_1 (r.ext (x12.trans x)) (rr.ext (x12.trans x)) sz szr sd).to ?_
    exact fun b h' e => ⟨_, rfl, e⟩
  rintro n h3 ⟨rfl, x3⟩
  have X := x12.trans x3
  refine bif_eq (fun hq => ?_) (fun hq => ⟨_, rfl, (code5_no hq).symm, X⟩)
  have hc := codeOf_zero hq
  refine (o2.ext x3).ldA rfl ?_
  refine (v2.ext x3).ldS ?_
  refine (isTorus_c (r.ext X) (rr.ext X) hc.2).to ?_
  rintro b h4 ⟨hb, x4⟩
  refine bif_not (fun hf => ⟨_, rfl, (code5_5 hq fun t => ?_).symm, X.trans x4⟩) (fun ht => ⟨_, rfl, ?_, X.trans x4⟩)
  · rw [hb.2 t] at hf; cases hf
  · rw [hq]; exact (code5_0 hq (hb.1 ht)).symm
theorem l05Given_c (r : Rd h0 s 4 (tcs ts)) (rr : RdSS h0 q rows) :
    callI SP .i64 i_spec_l05Given [.agg (SetC c s), .sl q] h0 fun n h' => n = codeG c ts rows ∧ Ext h0 h' := by
  apply spec_l05Given_call
  unfold spec_l05Given_main
  refine newK_obj fun h1 o1 x1 n1 => ?_
  refine o1.ldA rfl ?_
  refine (l01Rows_c (r.ext x1) (rr.ext x1)).to ?_
  rintro n h3 ⟨rfl, x3⟩
  have X := x1.trans x3
  refine bif_ne (fun hq => ⟨_, rfl, (code5_no hq).symm, X⟩) (fun hq => ?_)
  have hc := codeOf_zero hq
  refine (o1.ext x3).ldA rfl ?_
  refine (l05Torus_c (r.ext X) (rr.ext X) hc.2).to ?_
  rintro b h4 ⟨hb, x4⟩
  refine bif_not (fun hf => ⟨_, rfl, (code5_5 hq fun t => ?_).symm, X.trans x4⟩) (fun ht => ⟨_, rfl, (code5_0 hq (hb.1 ht)).symm, X.trans x4⟩)
  rw [hb.2 t] at hf; cases hf
theorem impl_LeastForm_c (r : Rd h0 s 4 (tcs ts)) (rr : RdSS h0 q rows) (sz : ts.length ≤ 1048576) (szr : rows.length ≤ 1048576) (sd : ∀ l ∈ rows, l.length ≤ 1048576) :
    callV SP i_impl_LeastForm [.agg (SetC c s), .sl q] h0 fun v h' => ∃ w, v = .tuple [.sl w, i64 (codeG c ts rows)] ∧ NewSS h0.length h' w (F_LeastForm_0 c ts rows) ∧ Ext h0 h' := by
  apply impl_LeastForm_call
  unfold impl_LeastForm_main
  refine newK_obj fun h1 o1 x1 n1 => ?_
  refine o1.ldA rfl ?_
  refine (torusCode_c (r.ext x1) (rr.ext x1) sz szr sd).to ?_
  rintro n h3 ⟨rfl, x3⟩
  have X := x1.trans x3
  refine bif_ne (fun hq => ⟨_, rfl, ?_, X⟩) (fun hq => ?_)
  · rw [F_LeastForm_0, sel_no (A := Given c ts rows) (code5_nz hq)]; exact NewSS.nil _ _
  refine (leastForm_c (rr.ext X) (code5_zero hq).1.2.rect).to ?_
  rintro w h4 ⟨nw, x4⟩
  refine ⟨w, by rw [hq], ?_, X.trans x4⟩
  rw [F_LeastForm_0, sel_yes (A := Given c ts rows) (code5_zero hq)]
  exact nw.le X.len
theorem spec_LeastForm_c (r : Rd h0 s 4 (tcs ts)) (rr : RdSS h0 q rows) (sz : ts.length ≤ 1048576) (szr : rows.length ≤ 1048576) (sd : ∀ l ∈ rows, l.length ≤ 1048576) :
    callV SP i_spec_LeastForm [.agg (SetC c s), .sl q] h0 fun v h' => ∃ w, v = .tuple [.sl w, i64 (codeG c ts rows)] ∧ NewSS h0.length h' w (F_LeastForm_0 c ts rows) ∧ Ext h0 h' := by
  apply spec_LeastForm_call
  unfold spec_LeastForm_main
  refine newK_obj fun h1 o1 x1 n1 => ?_
  refine o1.ldA rfl ?_
  refine (l05Given_c (r.ext x1) (rr.ext x1)).to ?_
  rintro n h3 ⟨rfl, x3⟩
  have X := x1.trans x3
  refine bif_ne (fun hq => ⟨_, rfl, ?_, X⟩) (fun hq => ?_)
  · rw [F_LeastForm_0, sel_no (A := Given c ts rows) (code5_nz hq)]; exact NewSS.nil _ _
  refine (l05Least_c (rr.ext X) (code5_zero hq).1.2.rect).to ?_
  rintro w h4 ⟨nw, x4⟩
  refine ⟨w, by rw [hq], ?_, X.trans x4⟩
  rw [F_LeastForm_0, sel_yes (A := Given c ts rows) (code5_zero hq)]
  exact nw.le X.len
theorem impl_ShiftsKept_c (r : Rd h0 s 4 (tcs ts)) (rr : RdSS h0 q rows) (sz : ts.length ≤ 1048576) (szr : rows.length ≤ 1048576) (sd : ∀ l ∈ rows, l.length ≤ 1048576) :
    callV SP i_impl_ShiftsKept [.agg (SetC c s), .sl q] h0 fun v h' => ∃ w, v = .tuple [.sl w, i64 (codeG c ts rows)] ∧ NewSS h0.length h' w (F_ShiftsKept_0 c ts rows) ∧ Ext h0 h' := by
  apply impl_ShiftsKept_call
  unfold impl_ShiftsKept_main
  refine newK_obj fun h1 o1 x1 n1 => ?_
  refine o1.ldA rfl ?_
  refine (torusCode_c (r.ext x1) (rr.ext x1) sz szr sd).to ?_
  rintro n h3 ⟨rfl, x3⟩
  have X := x1.trans x3
  refine bif_ne (fun hq => ⟨_, rfl, ?_, X⟩) (fun hq => ?_)
  · rw [F_ShiftsKept_0, sel_no (A := Given c ts rows) (code5_nz hq)]; exact NewSS.nil _ _
  refine (keeping_c (rr.ext X) (code5_zero hq).1.2.rect).to ?_
  rintro w h4 ⟨nw, x4⟩
  refine ⟨w, by rw [hq], ?_, X.trans x4⟩
  rw [F_ShiftsKept_0, sel_yes (A := Given c ts rows) (code5_zero hq)]
  exact nw.le X.len
theorem spec_ShiftsKept_c (r : Rd h0 s 4 (tcs ts)) (rr : RdSS h0 q rows) (sz : ts.length ≤ 1048576) (szr : rows.length ≤ 1048576) (sd : ∀ l ∈ rows, l.length ≤ 1048576) :
    callV SP i_spec_ShiftsKept [.agg (SetC c s), .sl q] h0 fun v h' => ∃ w, v = .tuple [.sl w, i64 (codeG c ts rows)] ∧ NewSS h0.length h' w (F_ShiftsKept_0 c ts rows) ∧ Ext h0 h' := by
  apply spec_ShiftsKept_call
  unfold spec_ShiftsKept_main
  refine newK_obj fun h1 o1 x1 n1 => ?_
  refine o1.ldA rfl ?_
  refine (l05Given_c (r.ext x1) (rr.ext x1)).to ?_
  rintro n h3 ⟨rfl, x3⟩
  have X := x1.trans x3
  refine bif_ne (fun hq => ⟨_, rfl, ?_, X⟩) (fun hq => ?_)
  · rw [F_ShiftsKept_0, sel_no (A := Given c ts rows) (code5_nz hq)]; exact NewSS.nil _ _
  refine (l05Kept_c (rr.ext X) (code5_zero hq).1.2.rect).to ?_
  rintro w h4 ⟨nw, x4⟩
  refine ⟨w, by rw [hq], ?_, X.trans x4⟩
  rw [F_ShiftsKept_0, sel_yes (A := Given c ts rows) (code5_zero hq)]
  exact nw.le X.len
theorem impl_ShiftNumber_c (r : Rd h0 s 4 (tcs ts)) (rr : RdSS h0 q rows) (sz : ts.length ≤ 1048576) (szr : rows.length ≤ 1048576) (sd : ∀ l ∈ rows, l.length ≤ 1048576) :
    callV SP i_impl_ShiftNumber [.agg (SetC c s), .sl q] h0 fun v h' => v = .tuple [i64 (F_ShiftNumber_0 c ts rows), i64 (codeG c ts rows)] ∧ Ext h0 h' := by
  have hql := rr.len
  apply impl_ShiftNumber_call
  unfold impl_ShiftNumber_main
  refine newK_obj fun h1 o1 x1 n1 => ?_
  refine o1.ldA rfl ?_
  refine (torusCode_c (r.ext x1) (rr.ext x1) sz szr sd).to ?_
  rintro n h3 ⟨rfl, x3⟩
  have X := x1.trans x3
  refine bif_ne (fun hq => ⟨?_, X⟩) (fun hq => ?_)
  · rw [F_ShiftNumber_0, sel_no (A := Given c ts rows) (code5_nz hq)]
  have R := (code5_zero hq).1.2.rect
  have R0 := R.h0
  refine (rr.ext X).ixC (by omega) (by omega) fun p v e3 rv lv => ⟨v, e3, ?_⟩
  have lv0 : v.len = wide rows := lv
  refine (keeping_c (rr.ext X) R).to ?_
  rintro w h4 ⟨nw, x4⟩
  have hw := nw.rd.len
  have := kept_pos R
  refine ⟨x4.cellE e3, by omega, ?_, X.trans x4⟩
  rw [F_ShiftNumber_0, sel_yes (A := Given c ts rows) (code5_zero hq), hq, hw, hql, lv0]
theorem spec_ShiftNumber_c (r : Rd h0 s 4 (tcs ts)) (rr : RdSS h0 q rows) (sz : ts.length ≤ 1048576) (szr : rows.length ≤ 1048576) (sd : ∀ l ∈ rows, l.length ≤ 1048576) :
    callV SP i_spec_ShiftNumber [.agg (SetC c s), .sl q] h0 fun v h' => v = .tuple [i64 (F_ShiftNumber_0 c ts rows), i64 (codeG c ts rows)] ∧ Ext h0 h' := by
  have hql := rr.len
  apply spec_ShiftNumber_call
  unfold spec_ShiftNumber_main
  refine newK_obj fun h1 o1 x1 n1 => ?_
  refine o1.ldA rfl ?_
  refine (l05Given_c (r.ext x1) (rr.ext x1)).to ?_
  rintro n h3 ⟨rfl, x3⟩
  have X := x1.trans x3
  refine bif_ne (fun hq => ⟨?_, X⟩) (fun hq => ?_)
  · rw [F_ShiftNumber_0, sel_no (A := Given c ts rows) (code5_nz hq)]
  have R := (code5_zero hq).1.2.rect
  have R0 := R.h0
  refine (rr.ext X).ixC (by omega) (by omega) fun p v e3 rv lv => ⟨v, e3, ?_⟩
  have lv0 : v.len = wide rows := lv
  refine (l05Kept_c (rr.ext X) R).to ?_
  rintro w h4 ⟨nw, x4⟩
  have hw := nw.rd.len
  have := kept_pos R
  refine ⟨x4.cellE e3, by omega, ?_, X.trans x4⟩
  rw [F_ShiftNumber_0, sel_yes (A := Given c ts rows) (code5_zero hq), hq, hw, hql, lv0]
theorem impl_ShiftTorus_c (r : Rd h0 s 4 (tcs ts)) (rr : RdSS h0 q rows) (sz : ts.length ≤ 1048576) (szr : rows.length ≤ 1048576) (sd : ∀ l ∈ rows, l.length ≤ 1048576) (ba : i64ok a) (bb : i64ok b) :
    callV SP i_impl_ShiftTorus [.agg (SetC c s), .sl q, i64 a, i64 b] h0 fun v h' => ∃ w, v = .tuple [.sl w, i64 (C_ShiftTorus c ts rows a b)] ∧ NewSS h0.length h' w (F_ShiftTorus_0 c ts rows a b) ∧ Ext h0 h' := by
  have hql := rr.len
  apply impl_ShiftTorus_call
  unfold impl_ShiftTorus_main
  refine newK_obj fun h1 o1 x1 n1 => ?_
  refine newO_var fun h2 v2 x2 n2 => ?_
  refine newO_var fun h3 v3 x3 n3 => ?_
  refine newO_var fun h4 v4 x4 n4 => ?_
  have o4 := o1.ext (x2.trans (x3.trans x4))
  have w2 := v2.ext (x3.trans x4)
  have w3 := v3.ext x4
  have x14 := x1.trans (x2.trans (x3.trans x4))
  refine o4.ldA rfl ?_
  refine (setCode_c (r.ext x14) (by omega) _ _ (Nums ts.length rows ∧ Rng rows a b) fun _ h x => ?_).to ?_
  · apply impl_ShiftTorus_1_call
    unfold impl_ShiftTorus_1_main
    refine (o4.ext x).ldA rfl ?_
    refine (w2.ext x).ldS ?_
    refine (areNumbers_1 (r.ext (x14.trans x)) (rr.ext (x14.trans x)) sz szr sd).to ?_
    rintro e h' ⟨he, y⟩
    refine bif_b (fun het => ?_) (fun hef => ⟨_, rfl, ⟨fun f => by simp at f, fun f => by rw [he.2 f.1] at hef; cases hef⟩, y⟩)
    have hN := he.1 het
    have R := hN.rect
    have R0 := R.h0; have R1 := R.h1; have W1 := R.w1
    refine (w3.ext (x.trans y)).ldI ?_
    refine (w2.ext (x.trans y)).ldS ?_
    refine within_k ?_
    rw [w64_of (by omega) (by omega)]
    refine bif_dec (fun h1 => ?_) (fun h1 => ⟨_, rfl, ⟨fun f => by simp at f, fun f => by have := f.2.1; omega⟩, y⟩)
    refine (v4.ext (x.trans y)).ldI ?_
    refine (w2.ext (x.trans y)).ldS ?_
    refine (rr.ext (x14.trans (x.trans y))).ldG (by omega) (by omega) fun v rv lv => ?_
    have lv0 : v.len = wide rows := lv
    refine within_k ?_
    rw [w64_of (by omega) (by omega)]
    refine ⟨_, rfl, ?_, y⟩
    rw [decide_eq_true_eq]
    exact ⟨fun f => ⟨hN, ⟨by omega, by omega⟩, by omega, by omega⟩, fun f => by have := f.2.2; omega⟩
  rintro n h5 ⟨rfl, x5⟩
  have X := x14.trans x5
  refine bif_ne (fun hq => ⟨Sl.nil, ?_, ?_, X⟩) (fun hq => ?_)
  · rw [C_ShiftTorus, code5_no hq]
  · rw [F_ShiftTorus_0, sel_no fun t => codeOf_cond hq t.1]; exact NewSS.nil _ _
  have hc := codeOf_zero hq
  refine (o4.ext x5).ldA rfl ?_
  refine (w2.ext x5).ldS ?_
  refine (isTorus_c (r.ext X) (rr.ext X) hc.2.1).to ?_
  rintro e h6 ⟨he, x6⟩
  refine bif_not (fun hf => ⟨Sl.nil, ?_, ?_, X.trans x6⟩) (fun ht => ?_)
  · rw [C_ShiftTorus, code5_5 hq fun t => by rw [he.2 t] at hf; cases hf]
  · rw [F_ShiftTorus_0, sel_no fun t => by rw [he.2 t.2] at hf; cases hf]; exact NewSS.nil _ _
  refine (w2.ext (x5.trans x6)).ldS ?_
  refine (w3.ext (x5.trans x6)).ldI ?_
  refine (v4.ext (x5.trans x6)).ldI ?_
  have R := hc.2.1.rect
  have R1 := R.h1; have W1 := R.w1
  have g := hc.2.2
  refine (shifted_c (rr.ext (X.trans x6)) R a b g.1.1 (by have := g.1.2; omega) g.2.1 (by have := g.2.2; omega)).to ?_
  rintro w h7 ⟨nw, x7⟩
  refine ⟨w, ?_, ?_, (X.trans x6).trans x7⟩
  · rw [C_ShiftTorus, code5_0 (T := Torus ts rows) hq (he.1 ht)]
  · rw [F_ShiftTorus_0, sel_yes ⟨hc, he.1 ht⟩]
    exact nw.le (X.trans x6).len
theorem spec_ShiftTorus_c (r : Rd h0 s 4 (tcs ts)) (rr : RdSS h0 q rows) (sz : ts.length ≤ 1048576) (szr : rows.length ≤ 1048576) (sd : ∀ l ∈ rows, l.length ≤ 1048576) (ba : i64ok a) (bb : i64ok b) :
    callV SP i_spec_ShiftTorus [.agg (SetC c s), .sl q, i64 a, i64 b] h0 fun v h' => ∃ w, v = .tuple [.sl w, i64 (C_ShiftTorus c ts rows a b)] ∧ NewSS h0.length h' w (F_ShiftTorus_0 c ts rows a b) ∧ Ext h0 h' := by
  have hql := rr.len
  apply spec_ShiftTorus_call
  unfold spec_ShiftTorus_main
  refine newK_obj fun h1 o1 x1 n1 => ?_
  refine o1.ldA rfl ?_
  refine (l01Rows_c (r.ext x1) (rr.ext x1)).to ?_
  rintro n h3 ⟨rfl, x3⟩
  have X := x1.trans x3
  refine bif_eq (fun hq => ?_) (fun hq => ?_)
  · have hc := codeOf_zero hq
    have R := hc.2.rect
    have R0 := R.h0; have R1 := R.h1; have W1 := R.w1
    have no : ¬ Rng rows a b → ∀ h', Ext h0 h' → ∃ w, AVal.tuple [.sl Sl.nil, i64 2] = .tuple [.sl w, i64 (C_ShiftTorus c ts rows a b)] ∧ NewSS h0.length h' w (F_ShiftTorus_0 c ts rows a b) ∧ Ext h0 h' := fun hn h' x => by
      have e : codeOf (setOK c ts) (Nums ts.length rows ∧ Rng rows a b) = 2 := codeOf_range hc.1 fun f => hn f.2
      refine ⟨Sl.nil, ?_, ?_, x⟩
      · rw [C_ShiftTorus, code5_no (by rw [e]; omega), e]
      · rw [F_ShiftTorus_0, sel_no fun t => hn t.1.2.2]; exact NewSS.nil _ _
    refine l01In_k ?_
    rw [w64_of (by omega) (by omega)]
    refine bif_not (fun h1 => ?_) (fun h1 => ?_)
    · refine bif_b (fun hx => absurd hx (by decide)) fun _ => bif_b (fun _ => no (fun g => ?_) _ X) (fun hx => absurd hx (by decide))
      have := of_decide_eq_false h1
      have := g.1
      omega
    have g1 := of_decide_eq_true h1
    refine (rr.ext X).ldG (by omega) (by omega) fun v rv lv => ?_
    have lv0 : v.len = wide rows := lv
    refine l01In_k ?_
    rw [w64_of (by omega) (by omega)]
    refine bif_not (fun h2 => ?_) (fun h2 => ?_)
    · refine bif_b (fun hx => absurd hx (by decide)) fun _ => bif_b (fun _ => no (fun g => ?_) _ X) (fun hx => absurd hx (by decide))
      have := of_decide_eq_false h2
      have := g.2
      omega
    have g2 := of_decide_eq_true h2
    have g : Rng rows a b := ⟨⟨by omega, by omega⟩, by omega, by omega⟩
    have e0 : codeOf (setOK c ts) (Nums ts.length rows ∧ Rng rows a b) = 0 := codeOf_yes hc.1 ⟨hc.2, g⟩
    refine bif_eq (fun _ => ?_) (fun hn => absurd hq hn)
    refine (o1.ext x3).ldA rfl ?_
    refine (l05Given_c (r.ext X) (rr.ext X)).to ?_
    rintro _ h4 ⟨rfl, x4⟩
    refine bif_ne (fun hk => ⟨Sl.nil, ?_, ?_, X.trans x4⟩) (fun hk => ?_)
    · have ht : ¬ Torus ts rows := fun t => code5_nz hk ⟨hc, t⟩
      rw [C_ShiftTorus, code5_5 e0 ht, codeG, code5_5 hq ht]
    · rw [F_ShiftTorus_0, sel_no fun t => code5_nz hk ⟨hc, t.2⟩]; exact NewSS.nil _ _
    have ht := (code5_zero hk).2
    refine (l05Shift_c (rr.ext (X.trans x4)) R a b g.1.1 (by have := g.1.2; omega) g.2.1 (by have := g.2.2; omega)).to ?_
    rintro w h7 ⟨nw, x7⟩
    refine ⟨w, ?_, ?_, (X.trans x4).trans x7⟩
    · rw [C_ShiftTorus, code5_0 e0 ht]
    · rw [F_ShiftTorus_0, sel_yes ⟨⟨hc.1, hc.2, g⟩, ht⟩]
      exact nw.le (X.trans x4).len
  · refine bif_eq (fun hx => absurd hx hq) fun _ => bif_ne (fun _ => ⟨Sl.nil, ?_, ?_, X⟩) (fun hx => absurd hx hq)
    · have e : codeOf (setOK c ts) (Nums ts.length rows ∧ Rng rows a b) = codeOf (setOK c ts) (Nums ts.length rows) := by
        by_cases hs : setOK c ts
        · have : ¬ Nums ts.length rows := fun f => codeOf_cond hq ⟨hs, f⟩
          rw [codeOf_range hs this, codeOf_range hs fun f => this f.1]
        · rw [codeOf_no hs, codeOf_no hs]
      rw [C_ShiftTorus, code5_no (by rw [e]; exact hq), e]
    · rw [F_ShiftTorus_0, sel_no fun t => codeOf_cond hq ⟨t.1.1, t.1.2.1⟩]; exact NewSS.nil _ _
end
end Go.Proofs.Ytfmjjpophipfbaa.Cl
