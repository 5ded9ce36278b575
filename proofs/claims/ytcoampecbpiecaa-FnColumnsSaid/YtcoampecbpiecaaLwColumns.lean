/- The law FnColumns holds of all codes. The statement itself stands in another text. -/
import Derived.Test.YtcoampecbpiecaaFb0
import Derived.Test.YtcoampecbpiecaaFb1
set_option linter.unusedVariables false
set_option linter.unusedSimpArgs false
namespace Go.Proofs.Ytcoampecbpiecaa.Cl
open Go
/-! ### plain -/
theorem sum_set1 (l : List Int) (j : Nat) : (l.set j (l.getD j 0 + 1)).sum ≤ l.sum + 1 := by
  induction l generalizing j with
  | nil => simp
  | cons a l ih =>
    cases j with
    | zero => simp only [List.set_cons_zero, List.sum_cons, List.getD_cons_zero]; omega
    | succ j =>
      have := ih j
      simp only [List.set_cons_succ, List.sum_cons, List.getD_cons_succ]; omega
def totT (T : List (List Int)) : Int := (T.map List.sum).sum
theorem totT_set (T : List (List Int)) (i : Nat) (r : List Int) (h : r.sum ≤ (rw_ T i).sum + 1) : totT (T.set i r) ≤ totT T + 1 := by
  induction T generalizing i with
  | nil => simp [totT]
  | cons a T ih =>
    cases i with
    | zero =>
      have h' : r.sum ≤ a.sum + 1 := h
      simp only [totT, List.set_cons_zero, List.map_cons, List.sum_cons]; omega
    | succ i =>
      have := ih i h
      simp only [totT, List.set_cons_succ, List.map_cons, List.sum_cons] at this ⊢; omega
theorem totT_fold (A B : Nat → Bool) (pl : Nat → Nat) : ∀ (es : List (Int × Int)) (T : List (List Int)), totT (es.foldl (tabS A B pl) T) ≤ totT T + es.length
  | [], T => by simp
  | e :: es, T => by
    have h := totT_fold A B pl es (tabS A B pl T e)
    have h1 : totT (tabS A B pl T e) ≤ totT T + 1 := by
      unfold tabS
      split
      · exact totT_set T _ _ (sum_set1 _ _)
      · omega
    rw [List.foldl_cons, List.length_cons]; push_cast; omega
theorem totT_zero (n : Nat) : totT (zerT n) = 0 := by
  unfold totT zerT
  rw [List.map_replicate]
  have h0 : ∀ m : Nat, (List.replicate m (0 : Int)).sum = 0 := fun m => by
    induction m with
    | zero => rfl
    | succ m ih => rw [List.replicate_succ, List.sum_cons, ih]; rfl
  rw [h0]; exact h0 n
theorem tableS_tot (c : Int) (ts : List Tile) (a : Int) : totT (tableS c ts a) ≤ (colsOf c ts a).length := by
  have := totT_fold (eA c ts a) (eB c ts a) (plN (pW c ts a)) (colsOf c ts a) (zerT (plN (pW c ts a) (nW c a)))
  rw [totT_zero] at this
  unfold tableS
  omega
theorem codeQ_ok {c : Int} {ts : List Tile} {a n : Int} (h : codeQ c ts a n = 0) : SizeS a n ∧ codeS c ts a = 0 ∧ ∀ y ∈ strS c ts a n, y ≤ topS := by
  by_cases h1 : codeOf (setOK c ts) (SizeS a n) = 0
  · by_cases h2 : codeS c ts a = 0
    · by_cases h3 : ∀ y ∈ strS c ts a n, y ≤ topS
      · exact ⟨(codeOf_zero h1).2, h2, h3⟩
      · rw [codeQ_3 h1 h2 h3] at h; cases h
    · rw [codeQ_2 h1 h2] at h; exact absurd h h2
  · rw [codeQ_1 h1] at h; exact absurd h h1
theorem cols_inN {c : Int} {ts : List Tile} {a : Int} (k : StripOK c ts a) : InN (nW c a) (colsOf c ts a) := fun e he =>
  edN_in k (e.1.toNat, e.2.toNat) (List.mem_map.2 ⟨e, he, rfl⟩)
theorem strS_at {c : Int} {ts : List Tile} {a n : Int} {i : Nat} (hi : i < n.toNat) : (strS c ts a n)[i]? = some (totL fS (itL fS (colsOf c ts a) (nW c a) (i + 1) (List.replicate (nW c a) 1))) := seqL_at fS _ _ _ hi
theorem colsOf_1 (c : Int) (ts : List Tile) : colsOf c ts 1 = edR ts := by
  unfold colsOf edR
  show (ts.flatMap fun t => if 0 ≤ (-1 : Int) ∧ (-1 : Int) ≠ sd t 1 then [] else [(0 * c + sd t 0, 0 * c + sd t 2)]) = _
  have : (fun t : Tile => if 0 ≤ (-1 : Int) ∧ (-1 : Int) ≠ sd t 1 then [] else [(0 * c + sd t 0, 0 * c + sd t 2)]) = fun t => [(sd t 0, sd t 2)] := by
    funext t
    rw [if_neg (by omega)]
    simp
  rw [this]
  induction ts with
  | nil => rfl
  | cons t ts ih => rw [List.flatMap_cons, List.map_cons, ih]; rfl
theorem sum_c {h : H} {s : Sl} {l : List Int} (r : Rd h s 1 (ic l)) (hl : l.length ≤ 1000) (hb : ∀ x ∈ l, 0 ≤ x ∧ x ≤ 1000000) : callI SP .i64 i_laws_sum [.sl s] h fun n h' => n = l.sum ∧ h = h' := by
  have hsl := r.ilen
  apply laws_sum_call
  unfold laws_sum_main
  refine laws_sum_rule0 _ _ _ (fun t i g => ∃ k : Nat, i = k ∧ k ≤ l.length ∧ t = (l.take k).sum ∧ h = g) (fun _ i _ => ((l.length : Int) - i).toNat) ?_ _ _ ⟨0, rfl, by omega, by simp, rfl⟩
  rintro X t _ _ ⟨k, rfl, hk, rfl, rfl⟩ hX
  have hkb := take_sum_bd hb k hk
  have hk6 : (k : Int) * 1000000 ≤ 1000 * 1000000 := Int.mul_le_mul_of_nonneg_right (by omega) (by omega)
  unfold laws_sum_b0
  refine bif_dec (fun hi => ?_) (fun hi => ?_)
  · refine r.ldI (by omega) (by omega) fun x hx => ?_
    have hkl : k < l.length := by omega
    rw [Int.toNat_natCast, List.getElem?_eq_getElem hkl] at hx
    have hxe := Option.some.inj hx
    have hxb := hb x (by rw [← hxe]; exact List.getElem_mem _)
    rw [w64_of (n := (k : Int) + 1) (by omega) (by omega), w64_of (by omega) (by omega)]
    exact hX _ _ _ ⟨k + 1, by push_cast; rfl, by omega, by rw [take_sum hkl, hxe], rfl⟩ (by omega)
  · unfold laws_sum_C0
    have hkU : k = l.length := by omega
    exact ⟨_, rfl, by rw [hkU, List.take_length], rfl⟩
/-! ### the law -/
theorem law_Columns {h : H} {s0 : Sl} {q0 : List Int} (r0 : Rd h s0 1 (bc q0)) (hq0 : ∀ b ∈ q0, 0 ≤ b ∧ b < 256) : callB SP i_laws_FnColumns [.sl s0] h fun b _ => b = true := by
  have hsl := r0.blen
  apply laws_FnColumns_call
  unfold laws_FnColumns_main
  refine (big_c s0).to ?_
  rintro _ _ ⟨rfl, rfl⟩
  refine bif_dec (fun _ => ⟨_, rfl, rfl⟩) (fun hbig => ?_)
  have C0 : CodeB h s0 q0 := ⟨r0, by omega, hq0⟩
  refine (DrawColumnTable_c C0).to ?_
  rintro _ h2 ⟨u, c, ts, a, rfl, ru, hl, ba, fu, x2⟩
  refine ⟨_, rfl, _, rfl, _, rfl, _, rfl, ?_⟩
  refine newbox fun h3 o3 x3 n3 => ?_
  have ru3 := ru.ext x3
  refine (impl_ColumnTable_c ru3 (by omega) ba).to ?_
  rintro _ h4 ⟨w1, rfl, nw1, x4⟩
  refine ⟨_, rfl, _, rfl, _, rfl, _, rfl, ?_⟩
  refine (o3.ext x4).ldA rfl ?_
  refine (spec_ColumnTable_c (ru3.ext x4) (by omega) ba).to ?_
  rintro _ h5 ⟨v1, rfl, nv1, x5⟩
  refine ⟨_, rfl, _, rfl, _, rfl, _, rfl, ?_⟩
  refine bif_ne (fun hq => absurd rfl hq) (fun _ => ?_)
  have sm1 := ColumnTable_small0 (c := c) (ts := ts) (a := a) (by omega) ba
  refine rows9_yes (nw1.rd.ext x5) nv1.rd (by omega) (fun l hl => by have := sumLen_mem hl; omega) ?_
  have X5 := x4.trans x5
  refine (o3.ext X5).ldA rfl ?_
  refine (impl_ColumnWords_c (ru3.ext X5) (by omega) ba).to ?_
  rintro _ h6 ⟨w2, rfl, nw2, x6⟩
  refine ⟨_, rfl, _, rfl, _, rfl, _, rfl, ?_⟩
  refine (o3.ext (X5.trans x6)).ldA rfl ?_
  refine (spec_ColumnWords_c (ru3.ext (X5.trans x6)) (by omega) ba).to ?_
  rintro _ h7 ⟨v2, rfl, nv2, x7⟩
  refine ⟨_, rfl, _, rfl, _, rfl, _, rfl, ?_⟩
  refine bif_ne (fun hq => absurd rfl hq) (fun _ => ?_)
  have sm2 := ColumnWords_small0 (c := c) (ts := ts) (a := a) (by omega) ba
  refine rows9_yes (nw2.rd.ext x7) nv2.rd (by omega) (fun l hl => by have := sumLen_mem hl; omega) ?_
  have X7 := X5.trans (x6.trans x7)
  refine (o3.ext X7).ldA rfl ?_
  refine (impl_CountColumns_c (ru3.ext X7) (by omega) ba).to ?_
  rintro _ h8 ⟨rfl, x8⟩
  refine ⟨_, rfl, _, rfl, _, rfl, _, rfl, ?_⟩
  refine (o3.ext (X7.trans x8)).ldA rfl ?_
  refine (spec_CountColumns_c (ru3.ext (X7.trans x8)) (by omega) ba).to ?_
  rintro _ h9 ⟨rfl, x9⟩
  refine ⟨_, rfl, _, rfl, _, rfl, _, rfl, ?_⟩
  refine bif_ne (fun hq => absurd rfl hq) (fun _ => ?_)
  refine bif_ne (fun hq => absurd rfl hq) (fun _ => ?_)
  have X9 := X7.trans (x8.trans x9)
  -- the end, from any heap behind
  have fin : codeL c ts a = 0 → ∀ {g : H}, Ext h9 g → laws_FnColumns_L0 SP (fun v _ => ∃ b, v = AVal.bool b ∧ b = true) w1 w2 (codeL c ts a) (F_CountColumns_0 c ts a) (codeS c ts a) 0 0 g := fun hq {g} y => by
    have rw1 := (nw1.rd.ext (x5.trans (x6.trans (x7.trans (x8.trans x9))))).ext y
    have rw2 := (nw2.rd.ext (x7.trans (x8.trans x9))).ext y
    have l1 := rw1.len
    have l2 := rw2.len
    have k := codeL_ok hq
    have sq := table_sq k.1
    have hS := k.1.code
    have eT : F_ColumnTable_0 c ts a = tableS c ts a := by rw [F_ColumnTable_0, sel0_yes hq]
    have eW : F_ColumnWords_0 c ts a = (wordsS c ts a).map (dgs c a.toNat) := by rw [F_ColumnWords_0, sel0_yes hq]
    have eC : F_CountColumns_0 c ts a = ((colsOf c ts a).length : Int) := by rw [F_CountColumns_0, if_pos hS]
    rw [eT] at l1 rw1
    rw [eW, List.length_map] at l2
    have hTl := sq.1
    have hSb : ∀ x ∈ (tableS c ts a).map List.sum, 0 ≤ x ∧ x ≤ 40 * 5000 := fun x hx => by
      obtain ⟨l, hl, rfl⟩ := List.mem_map.1 hx
      obtain ⟨i, hi, rfl⟩ := List.getElem_of_mem hl
      have h1 := sq.2 i (by omega)
      have e1 : rw_ (tableS c ts a) i = (tableS c ts a)[i] := by unfold rw_; rw [List.getD_eq_getElem?_getD, List.getElem?_eq_getElem hi]; rfl
      rw [e1] at h1
      have h2 := take_sum_bd (l := (tableS c ts a)[i]) (B := 5000) (fun x hx => by
        obtain ⟨j, hj, rfl⟩ := List.getElem_of_mem hx
        have := h1.2 j
        unfold G at this
        rw [e1, List.getD_eq_getElem?_getD, List.getElem?_eq_getElem hj] at this
        exact this) _ (Nat.le_refl _)
      rw [List.take_length] at h2
      have := k.2
      have : ((tableS c ts a)[i].length : Int) * 5000 ≤ 40 * 5000 := Int.mul_le_mul_of_nonneg_right (by omega) (by omega)
      omega
    refine laws_FnColumns_rule0 _ _ _ _ _ _ _ (fun t i g' => ∃ z : Nat, i = z ∧ z ≤ (tableS c ts a).length ∧ t = (((tableS c ts a).map List.sum).take z).sum ∧ g = g') (fun _ i _ => (((tableS c ts a).length : Int) - i).toNat) ?_ _ _ ⟨0, rfl, by omega, by simp, rfl⟩
    rintro X t _ _ ⟨z, rfl, hz, rfl, rfl⟩ hX
    have hzb := take_sum_bd hSb z (by rw [List.length_map]; exact hz)
    have hz6 : (z : Int) * (40 * 5000) ≤ 40 * (40 * 5000) := Int.mul_le_mul_of_nonneg_right (by have := k.2; omega) (by omega)
    unfold laws_FnColumns_b0
    refine bif_dec (fun hi => ?_) (fun hi => ?_)
    · have hzl : z < (tableS c ts a).length := by omega
      have h1 := sq.2 z (by omega)
      have e1 : rw_ (tableS c ts a) z = (tableS c ts a)[z] := by unfold rw_; rw [List.getD_eq_getElem?_getD, List.getElem?_eq_getElem hzl]; rfl
      rw [e1] at h1
      refine rw1.ld (by omega) (by omega) fun v l hv rv lv => ?_
      rw [Int.toNat_natCast, List.getElem?_eq_getElem hzl] at hv
      have hle := Option.some.inj hv
      rw [hle] at h1
      refine bif_ne (fun hne => absurd (by omega) hne) (fun _ => ?_)
      refine rw1.ld (by omega) (by omega) fun v' l' hv' rv' lv' => ?_
      rw [Int.toNat_natCast, List.getElem?_eq_getElem hzl] at hv'
      have hle' := Option.some.inj hv'
      have hll : l' = l := by rw [← hle', hle]
      subst hll
      refine (sum_c rv' (by have := k.2; omega) fun x hx => by
        obtain ⟨j, hj, rfl⟩ := List.getElem_of_mem hx
        have := h1.2 j
        unfold G at this
        rw [e1, hle, List.getD_eq_getElem?_getD, List.getElem?_eq_getElem hj] at this
        have this' : 0 ≤ l'[j] ∧ l'[j] ≤ 5000 := this
        omega).to ?_
      rintro _ _ ⟨rfl, rfl⟩
      have hm := hSb l'.sum (List.mem_map.2 ⟨l', by rw [← hle]; exact List.getElem_mem _, rfl⟩)
      rw [w64_of (n := (z : Int) + 1) (by omega) (by omega), w64_of (by omega) (by omega)]
      refine hX _ _ _ ⟨z + 1, by push_cast; rfl, by omega, ?_, rfl⟩ (by omega)
      rw [take_sum (by rw [List.length_map]; exact hzl), List.getElem_map, hle]
    · unfold laws_FnColumns_C0
      have hzU : z = ((tableS c ts a).map List.sum).length := by rw [List.length_map]; omega
      rw [hzU, List.take_length]
      refine bif_eq (fun _ => ?_) (fun hne => absurd hq hne)
      refine bif_eq (fun _ => ?_) (fun hne => absurd (by omega) hne)
      refine bif_eq (fun _ => ?_) (fun hne => absurd hS hne)
      refine ⟨_, rfl, ?_⟩
      rw [decide_eq_true_eq, eC]
      exact tableS_tot c ts a
  have tail : ∀ {g : H}, Ext h9 g → bif codeL c ts a != 0 then (∃ b, AVal.bool ((w1.len : Int) == 0) = AVal.bool b ∧ b = true) else laws_FnColumns_L0 SP (fun v _ => ∃ b, v = AVal.bool b ∧ b = true) w1 w2 (codeL c ts a) (F_CountColumns_0 c ts a) (codeS c ts a) 0 0 g := fun {g} y => by
    refine bif_ne (fun hq => ⟨_, rfl, ?_⟩) (fun hq => fin hq y)
    have l1 := nw1.rd.len
    rw [F_ColumnTable_0, sel0_no hq] at l1
    rw [l1]; rfl
  refine (DrawStripSequence_c ((C0.ext x2).ext (x3.trans X9))).to ?_
  rintro _ g1 ⟨u', c', ts', k, n, rfl, ru', hl', bk, bn, fu', y1⟩
  refine ⟨_, rfl, _, rfl, _, rfl, _, rfl, _, rfl, _, rfl, ?_⟩
  refine newbox fun g2 p2 y2 m2 => ?_
  have ru2 := ru'.ext y2
  refine (impl_StripSequence_c ru2 (by omega) bk bn).to ?_
  rintro _ g3 ⟨w3, rfl, ow3, fw3, y3⟩
  refine ⟨_, rfl, _, rfl, _, rfl, _, rfl, ?_⟩
  refine (p2.ext y3).ldA rfl ?_
  refine (spec_StripSequence_c (ru2.ext y3) (by omega) bk bn).to ?_
  rintro _ g4 ⟨v3, rfl, ov3, fv3, y4⟩
  refine ⟨_, rfl, _, rfl, _, rfl, _, rfl, ?_⟩
  refine bif_ne (fun hq => absurd rfl hq) (fun _ => ?_)
  have sm3 := StripSequence_small0 (c := c') (ts := ts') (a := k) (n := n) (by omega) bk bn
  refine likeInts_yes (ow3.rd.ext y4) ov3.rd (by omega) ?_
  have Y4 := y3.trans y4
  have Y := (y1.trans y2).trans Y4
  refine bif_eq (fun hq => ?_) (fun _ => tail Y)
  obtain ⟨hz, hS, htop⟩ := codeQ_ok hq
  have ok := codeS_ok hS
  have eS : F_StripSequence_0 c' ts' k n = strS c' ts' k n := by rw [F_StripSequence_0, sel0_yes hq]
  have hn1 := hz.2
  have hlen : (strS c' ts' k n).length = n.toNat := by unfold strS; exact seqL_len _ _
  rw [eS] at ow3
  have l3 := ow3.rd.ilen
  refine (p2.ext Y4).ldA rfl ?_
  refine (impl_CountColumns_c (ru2.ext Y4) (by omega) bk).to ?_
  rintro _ g5 ⟨rfl, y5⟩
  refine ⟨_, rfl, _, rfl, _, rfl, _, rfl, ?_⟩
  refine bif_ne (fun hne => absurd hS hne) (fun _ => ?_)
  refine bif_ne (fun hne => absurd (by omega) hne) (fun _ => ?_)
  refine (ow3.rd.ext (y4.trans y5)).ldI (by omega) (by omega) fun x hx => ?_
  have hx' : x = F_CountColumns_0 c' ts' k := by
    rw [show (0 : Int).toNat = 0 from rfl, strS_at (by omega)] at hx
    rw [← Option.some.inj hx, F_CountColumns_0, if_pos hS]
    exact first_eq (cols_inN ok) ok.ln
  refine bif_ne (fun hne => absurd hx' hne) (fun _ => ?_)
  refine bif_eq (fun hk1 => ?_) (fun _ => tail (Y.trans y5))
  subst hk1
  refine (p2.ext (Y4.trans y5)).ldA rfl ?_
  refine (impl_CountRows_k (ru2.ext (Y4.trans y5)) ok.set (n := n) (by omega)).to ?_
  rintro _ g6 ⟨rfl, y6⟩
  refine ⟨_, rfl, _, rfl, _, rfl, _, rfl, ?_⟩
  have hN : nW c' 1 = c'.toNat := by unfold nW; rw [show (1 : Int).toNat = 1 from rfl, Int.pow_succ, Int.pow_zero, Int.one_mul]
  have hlast : (strS c' ts' 1 n)[n.toNat - 1]? = some (totL fS (itL fS (edR ts') c'.toNat n.toNat (List.replicate c'.toNat 1))) := by
    rw [strS_at (by omega), colsOf_1, hN, show n.toNat - 1 + 1 = n.toNat by omega]
  have hw := ways_eq (edR_in ok.set) (htop _ (List.mem_of_getElem? hlast))
  rw [if_neg (by omega), if_neg (by omega)]
  refine bif_ne (fun hne => absurd rfl hne) (fun _ => ?_)
  rw [w64_of (n := n - 1) (by omega) (by omega)]
  refine (ow3.rd.ext ((y4.trans y5).trans y6)).ldI (by omega) (by omega) fun z hz' => ?_
  rw [show (n - 1).toNat = n.toNat - 1 by omega, hlast] at hz'
  refine bif_ne (fun hne => absurd ?_ hne) (fun _ => tail ((Y.trans y5).trans y6))
  rw [hw.1]; exact Option.some.inj hz'
set_option maxRecDepth 100000 in
theorem law_Columns_in (h : H) (xs : List AVal) (hl : xs.length = Try.f3.params.toList.length) (ha : ∀ (i : Nat) t a, Try.f3.params.toList[i]? = some t → xs[i]? = some a → ArgIs Try.prog h t a) : callB (Sat Try.prog) 3 xs h fun b _ => b = true := by
  rw [show Try.f3.params.toList.length = 1 by kernel_rfl] at hl
  match xs, hl with
  | [e0], _ =>
    obtain ⟨k0, pd0, dd0, rfl⟩ := ha 0 22 e0 (by kernel_rfl) rfl
    obtain ⟨s0, q0, rfl, r0, hq0⟩ := arg_bytes (u := 5) (by kernel_rfl) (by kernel_rfl) (by kernel_rfl) dd0
    rw [show argV Try.prog 22 [.sl s0] = .sl s0 by kernel_rfl]
    exact law_Columns r0 hq0
end Go.Proofs.Ytcoampecbpiecaa.Cl
