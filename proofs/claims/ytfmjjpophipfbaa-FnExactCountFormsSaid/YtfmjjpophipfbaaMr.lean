/- Contracts of CountTori and TorusTable. No claim is stated here. -/
import Derived.Test.YtfmjjpophipfbaaMq
set_option linter.unusedVariables false
set_option linter.unusedSimpArgs false
namespace Go.Proofs.Ytfmjjpophipfbaa.Cl
open Go
theorem setOK.sides {c : Int} {ts : List Tile} (h : setOK c ts) : Sides c ts := by
  refine ⟨h.1.1, fun n k hk n0 n1 => ?_⟩
  obtain ⟨j, rfl⟩ : ∃ j : Nat, n = j := ⟨n.toNat, by omega⟩
  have := (h.2.2 j (by omega)).1
  unfold tileok at this
  simp only [Bool.and_eq_true, decide_eq_true_eq] at this
  have hk' : k = 0 ∨ k = 1 ∨ k = 2 ∨ k = 3 := by omega
  rcases hk' with rfl | rfl | rfl | rfl
  · show 0 ≤ (tat ts j).1 ∧ (tat ts j).1 < c; omega
  · show 0 ≤ (tat ts j).2.1 ∧ (tat ts j).2.1 < c; omega
  · show 0 ≤ (tat ts j).2.2.1 ∧ (tat ts j).2.2.1 < c; omega
  · show 0 ≤ (tat ts j).2.2.2 ∧ (tat ts j).2.2.2 < c; omega
def Size (a b : Int) : Prop := (1 ≤ a ∧ a ≤ 3) ∧ 1 ≤ b ∧ b ≤ 3
noncomputable def tcount (c : Int) (ts : List Tile) (a b : Int) : Int := ((toriL c ts b.toNat a.toNat).length : Int)
section
variable {h0 : H} {c : Int} {s : Sl} {ts : List Tile} {a b : Int}
theorem countTori_k (r : Rd h0 s 4 (tcs ts)) (hs : setOK c ts) (hz : Size a b) : callI SP .i64 i_impl_Set_countTori [.agg (SetC c s), i64 a, i64 b] h0 fun n h' => n = tcount c ts a b ∧ Ext h0 h' := by
  obtain ⟨x, rfl⟩ : ∃ x : Nat, a = x := ⟨a.toNat, by have := hz.1; omega⟩
  obtain ⟨y, rfl⟩ : ∃ y : Nat, b = y := ⟨b.toNat, by have := hz.2; omega⟩
  have hx := hz.1; have hy := hz.2
  refine (countTori_c r hs.2.1 (H_ := x) (W := y) (by omega) (by omega)).to ?_
  rintro n h' ⟨rfl, e⟩
  refine ⟨?_, e⟩
  rw [flat_tori hs.sides (by omega) (by omega), List.length_map]
  rfl
theorem tcount_small (hs : setOK c ts) (hz : Size a b) : 0 ≤ tcount c ts a b ∧ tcount c ts a b ≤ 68719476736 := by
  obtain ⟨x, rfl⟩ : ∃ x : Nat, a = x := ⟨a.toNat, by have := hz.1; omega⟩
  obtain ⟨y, rfl⟩ : ∃ y : Nat, b = y := ⟨b.toNat, by have := hz.2; omega⟩
  have hx := hz.1; have hy := hz.2
  have := flat_small (ts := ts) (H_ := x) (W := y) hs.2.1 (by omega) (by omega)
  rw [flat_tori hs.sides (by omega) (by omega), List.length_map] at this
  unfold tcount
  simp only [Int.toNat_natCast]
  omega
theorem sum_le_prefix {f : Nat → Nat} {n m : Nat} (h : n ≤ m) : ((List.range n).map f).sum ≤ ((List.range m).map f).sum := by
  obtain ⟨d, rfl⟩ : ∃ d, m = n + d := ⟨m - n, by omega⟩
  rw [List.range_add, List.map_append, List.sum_append]; omega
theorem sum_range_succ (f : Nat → Nat) (n : Nat) : ((List.range (n + 1)).map f).sum = ((List.range n).map f).sum + f n := by
  rw [List.range_succ, List.map_append, List.sum_append]; simp
theorem cnt_none {W n : Nat} {x y : Int} (h : ∀ w ∈ words ts W, cd c ts 1 w ≠ x) : cnt c ts W (n + 1) x y = 0 := by
  rw [cnt_succ]
  have : ((words ts W).map fun w => if cd c ts 1 w = x then cnt c ts W n (cd c ts 3 w) y else 0) = (words ts W).map fun _ => 0 := List.map_congr_left fun w hw => if_neg (h w hw)
  rw [this, sum_zero]
theorem l05Count_c (r : Rd h0 s 4 (tcs ts)) (hs : setOK c ts) (hz : Size a b) : callI SP .i64 i_spec_l05Count [.agg (SetC c s), i64 a, i64 b] h0 fun n h' => n = tcount c ts a b ∧ Ext h0 h' := by
  have hsm := tcount_small hs hz
  obtain ⟨x, rfl⟩ : ∃ x : Nat, a = x := ⟨a.toNat, by have := hz.1; omega⟩
  obtain ⟨y, rfl⟩ : ∃ y : Nat, b = y := ⟨b.toNat, by have := hz.2; omega⟩
  have hx := hz.1; have hy := hz.2
  have S := hs.sides
  have hpw := pow_small (n := y) hs.1.1 hs.1.2 (by omega)
  obtain ⟨N, hN⟩ : ∃ N : Nat, (N : Int) = c ^ y := ⟨(c ^ y).toNat, by omega⟩
  have htot : tcount c ts x y = (((List.range N).map fun (i : Nat) => cnt c ts y x (i : Int) (i : Int)).sum : Nat) := by
    unfold tcount
    rw [Int.toNat_natCast, Int.toNat_natCast, tori_count S (by omega) hN]
  rw [htot] at hsm ⊢
  apply spec_l05Count_call
  unfold spec_l05Count_main
  refine newK_obj fun h1 o1 x1 l1 => ?_
  refine o1.ldA rfl ?_
  refine (l05Words_c (r.ext x1) hs.2.1 S hs.1.2 (W := y) (by omega)).to ?_
  rintro _ h3 ⟨wq, tq, bq, rfl, nw, rt, rb, x3⟩
  refine ⟨_, rfl, _, rfl, _, rfl, _, rfl, _, rfl, _, rfl, ?_⟩
  have o3 := o1.ext x3
  have X3 := x1.trans x3
  refine isPt_in (o3.ldI rfl rfl ?_)
  refine (l03Power_c hs.1.1 hs.1.2 (W := y) (by omega)).to ?_
  rintro _ h4 ⟨rfl, x4⟩
  rw [← hN] at hpw ⊢
  have htl := rt.ilen
  rw [List.length_map] at htl
  have hwl : (words ts y).length ≤ 4096 := rounds_small hs.2.1 (by omega) ([] : List Int)
  refine spec_l05Count_rule0 _ _ _ _ _ _ _ (fun t i h => 0 ≤ i ∧ i ≤ N ∧ Ext h3 h ∧ t = (((List.range i.toNat).map fun (i : Nat) => cnt c ts y x (i : Int) (i : Int)).sum : Nat)) (fun _ i _ => (N - i).toNat) ?_ _ _ ⟨by omega, by omega, x4, rfl⟩
  rintro X t i h ⟨i0, i1, e, et⟩ hX
  unfold spec_l05Count_b0 spec_l05Count_C0
  refine bif_dec (fun hi => ?_) (fun hi => ⟨_, rfl, by rw [et, show i.toNat = N by omega], X3.trans e⟩)
  obtain ⟨j, rfl⟩ : ∃ j : Nat, i = j := ⟨i.toNat, by omega⟩
  rw [Int.toNat_natCast] at et
  have stay : ∀ (t' : Int) h', Ext h3 h' → t' = t + (cnt c ts y x (j : Int) (j : Int) : Nat) → X (spec_l05Count_e0 (x : Int) ⟨some h0.length, 2, 0⟩ tq bq (N : Int) t' (w64 ((j : Int) + 1))) h' := fun t' h' q1 q2 => by
    rw [w64_of (by omega) (by omega)]
    refine hX _ _ _ ⟨by omega, by omega, q1, ?_⟩ (by omega)
    rw [show ((j : Int) + 1).toNat = j + 1 by omega, sum_range_succ, q2, et]
    push_cast; rfl
  have hrt := rt.ext e
  refine spec_l05Count_rule2 _ _ X _ _ _ _ _ _ _ (fun f k h' => 0 ≤ k ∧ k ≤ (words ts y).length ∧ h' = h ∧ (f = true ↔ ∃ q, ∃ hq : q < (words ts y).length, q < k.toNat ∧ cd c ts 1 (words ts y)[q] = j)) (fun _ k _ => ((words ts y).length - k).toNat) ?_ _ _ ⟨by omega, by omega, rfl, by simp⟩
  rintro Y f k h' ⟨k0, k1, rfl, hf⟩ hY
  unfold spec_l05Count_b2 spec_l05Count_C2 spec_l05Count_C1
  refine bif_dec (fun hk => ?_) (fun hk => ?_)
  · refine bif_b (fun hft => ?_) (fun hff => ?_)
    · rw [w64_of (by omega) (by omega)]
      refine hY _ _ _ ⟨by omega, by omega, rfl, ?_⟩ (by omega)
      obtain ⟨q, hq, h1, h2⟩ := hf.1 hft
      simp only [true_iff]
      exact ⟨q, hq, by omega, h2⟩
    · refine hrt.ldG k0 (by rw [List.length_map]; omega) ?_
      have hkn : k.toNat < (words ts y).length := by omega
      rw [mapG hkn, w64_of (by omega) (by omega)]
      refine hY _ _ _ ⟨by omega, by omega, rfl, ?_⟩ (by omega)
      rw [beq_iff_eq]
      constructor
      · exact fun he => ⟨k.toNat, hkn, by omega, he⟩
      · rintro ⟨q, hq, h1, h2⟩
        by_cases e : q = k.toNat
        · subst e; exact h2
        · have := hf.2 ⟨q, hq, by omega, h2⟩
          rw [hff] at this; cases this
  · refine bif_b (fun hft => ?_) (fun hff => ?_)
    · refine ((o3.ext e)).ldA rfl ?_
      refine (l05Paths_c hs.2.1 S hs.1.2 (W := y) (by omega) hrt (rb.ext e) hN (n := x) (by omega) (x := (j : Int)) (by omega) (by omega)).to ?_
      rintro u h5 ⟨ru, x5⟩
      refine ru.ldG (by omega) (by rw [tab1_len]; omega) ?_
      rw [Int.toNat_natCast, tab1_at (by omega)]
      have hle := sum_le_prefix (f := fun (i : Nat) => cnt c ts y x (i : Int) (i : Int)) (n := j + 1) (m := N) (by omega)
      rw [sum_range_succ] at hle
      refine stay _ _ (e.trans x5) ?_
      rw [w64_of (by omega) (by omega)]
    · refine stay _ _ e ?_
      have : cnt c ts y x (j : Int) (j : Int) = 0 := by
        obtain ⟨x', rfl⟩ : ∃ x', x = x' + 1 := ⟨x - 1, by omega⟩
        refine cnt_none fun w hw he => ?_
        obtain ⟨q, hq, rfl⟩ := List.getElem_of_mem hw
        have := hf.2 ⟨q, hq, by omega, he⟩
        rw [hff] at this; cases this
      rw [this]; simp
theorem areSizes_k {h : H} : callB SP i_impl_areSizes [i64 a, i64 b] h fun r h' => (r = true ↔ Size a b) ∧ Ext h h' := by
  apply impl_areSizes_call
  unfold impl_areSizes_main
  refine within_k ?_
  refine bif_dec (fun h1 => ?_) (fun h1 => ⟨_, rfl, ⟨fun f => by simp at f, fun f => absurd f.1 h1⟩, Ext.refl _⟩)
  refine within_k ⟨_, rfl, ?_, Ext.refl _⟩
  rw [decide_eq_true_eq]
  exact ⟨fun f => ⟨h1, f⟩, fun f => f.2⟩
theorem l05Code_c (r : Rd h0 s 4 (tcs ts)) : callI SP .i64 i_spec_l05Code [.agg (SetC c s), i64 a, i64 b, i64 3] h0 fun n h' => n = codeOf (setOK c ts) (Size a b) ∧ Ext h0 h' := by
  apply spec_l05Code_call
  unfold spec_l05Code_main
  refine newK_obj fun h1 o1 x1 l1 => ?_
  refine o1.ldA rfl ?_
  refine (l01Is_c (r.ext x1)).to ?_
  rintro e h2 ⟨he, x2⟩
  have X := x1.trans x2
  refine bif_not (fun hq => ⟨_, rfl, (codeOf_no fun hs => ?_).symm, X⟩) (fun hq => ?_)
  · rw [he.2 hs] at hq; cases hq
  have hs := he.1 hq
  refine l01In_k ?_
  refine bif_not (fun h => ⟨_, rfl, (codeOf_range hs fun z => ?_).symm, X⟩) (fun h => ?_)
  · exact of_decide_eq_false h z.1
  refine l01In_k ?_
  refine bif_not (fun h' => ⟨_, rfl, (codeOf_range hs fun z => ?_).symm, X⟩) (fun h' => ⟨_, rfl, (codeOf_yes hs ⟨of_decide_eq_true h, of_decide_eq_true h'⟩).symm, X⟩)
  exact of_decide_eq_false h' z.2
end
noncomputable def F_CountTori_0 (c : Int) (ts : List Tile) (a b : Int) : Int := sel (setOK c ts ∧ Size a b) (tcount c ts a b) 0
noncomputable def F_TorusTable_0 (c : Int) (ts : List Tile) : List (List Int) := sel (setOK c ts) (tab2 3 fun i => tab1 3 fun j => tcount c ts ((i : Int) + 1) ((j : Int) + 1)) []
theorem TorusTable_small0 {c : Int} {ts : List Tile} (sz : ts.length ≤ 1048576) : (F_TorusTable_0 c ts).length < 1000000 ∧ sumLen (F_TorusTable_0 c ts) < 1000000 :=
  sel_small fun _ => by
    have h1 := tab2_len 3 fun i => tab1 3 fun j => tcount c ts ((i : Int) + 1) ((j : Int) + 1)
    have := sumLen_le (ls := tab2 3 fun i => tab1 3 fun j => tcount c ts ((i : Int) + 1) ((j : Int) + 1)) (n := 3) fun l hl => by
      obtain ⟨i, _, rfl⟩ := List.mem_map.1 hl
      rw [tab1_len]; omega
    omega
section
variable {h0 : H} {c : Int} {s : Sl} {ts : List Tile} {a b : Int}
theorem impl_CountTori_c (r : Rd h0 s 4 (tcs ts)) (sz : ts.length ≤ 1048576) (ba : i64ok a) (bb : i64ok b) :
    callV SP i_impl_CountTori [.agg (SetC c s), i64 a, i64 b] h0 fun v h' => v = .tuple [i64 (F_CountTori_0 c ts a b), i64 (codeOf (setOK c ts) (Size a b))] ∧ Ext h0 h' := by
  apply impl_CountTori_call
  unfold impl_CountTori_main
  refine newK_obj fun h1 o1 x1 n1 => ?_
  refine newO_var fun h2 v2 x2 n2 => ?_
  refine newO_var fun h3 v3 x3 n3 => ?_
  have o3 := o1.ext (x2.trans x3)
  have w2 := v2.ext x3
  have x13 := x1.trans (x2.trans x3)
  refine o3.ldA rfl ?_
  refine (setCode_c (r.ext x13) (by omega) _ _ (Size a b) fun _ h x => ?_).to ?_
  · apply impl_CountTori_1_call
    unfold impl_CountTori_1_main
    refine (w2.ext x).ldI ?_
    refine (v3.ext x).ldI ?_
    exact areSizes_k.to fun b h' e => ⟨_, rfl, e⟩
  rintro n h4 ⟨rfl, x4⟩
  have X := x13.trans x4
  refine bif_ne (fun hq => ⟨?_, X⟩) (fun hq => ?_)
  · rw [F_CountTori_0, sel_no (codeOf_cond hq)]
  have hc := codeOf_zero hq
  refine (o3.ext x4).ldA rfl ?_
  refine (w2.ext x4).ldI ?_
  refine (v3.ext x4).ldI ?_
  refine (countTori_k (r.ext X) hc.1 hc.2).to ?_
  rintro _ h5 ⟨rfl, x5⟩
  exact ⟨by rw [F_CountTori_0, sel_yes hc, hq], X.trans x5⟩
theorem spec_CountTori_c (r : Rd h0 s 4 (tcs ts)) (sz : ts.length ≤ 1048576) (ba : i64ok a) (bb : i64ok b) :
    callV SP i_spec_CountTori [.agg (SetC c s), i64 a, i64 b] h0 fun v h' => v = .tuple [i64 (F_CountTori_0 c ts a b), i64 (codeOf (setOK c ts) (Size a b))] ∧ Ext h0 h' := by
  apply spec_CountTori_call
  unfold spec_CountTori_main
  refine newK_obj fun h1 o1 x1 n1 => ?_
  refine o1.ldA rfl ?_
  refine (l05Code_c (r.ext x1)).to ?_
  rintro n h4 ⟨rfl, x4⟩
  have X := x1.trans x4
  refine bif_ne (fun hq => ⟨?_, X⟩) (fun hq => ?_)
  · rw [F_CountTori_0, sel_no (codeOf_cond hq)]
  have hc := codeOf_zero hq
  refine (o1.ext x4).ldA rfl ?_
  refine (l05Count_c (r.ext X) hc.1 hc.2).to ?_
  rintro _ h5 ⟨rfl, x5⟩
  exact ⟨by rw [F_CountTori_0, sel_yes hc, hq], X.trans x5⟩
theorem impl_TorusTable_c (r : Rd h0 s 4 (tcs ts)) (sz : ts.length ≤ 1048576) :
    callV SP i_impl_TorusTable [.agg (SetC c s)] h0 fun v h' => ∃ w, v = .tuple [.sl w, i64 (codeOf (setOK c ts) True)] ∧ NewSS h0.length h' w (F_TorusTable_0 c ts) ∧ Ext h0 h' := by
  apply impl_TorusTable_call
  unfold impl_TorusTable_main
  refine newK_obj fun h1 o1 x1 n1 => ?_
  refine o1.ldA rfl ?_
  refine (IsSet_c (r.ext x1) (by omega)).to ?_
  rintro e h2 ⟨he, x2⟩
  have X := x1.trans x2
  refine bif_not (fun hq => ⟨Sl.nil, ?_, ?_, X⟩) (fun hq => ?_)
  · rw [codeOf_no fun hs => by rw [he.2 hs] at hq; cases hq]
  · rw [F_TorusTable_0, sel_no fun hs => by rw [he.2 hs] at hq; cases hq]; exact NewSS.nil _ _
  have hs := he.1 hq
  refine newS_ow (by rfl) fun u h3 ou lu uo e3 => ?_
  have x3 : Ext h2 h3 := by rw [e3]; exact Ext.app _ _
  refine impl_TorusTable_rule0 _ _ _ (fun u i h => 1 ≤ i ∧ i ≤ 4 ∧ Ext h2 h ∧ NewSS h2.length h u (tab2 (i - 1).toNat fun i => tab1 3 fun j => tcount c ts ((i : Int) + 1) ((j : Int) + 1))) (fun _ i _ => (4 - i).toNat) ?_ _ _ ⟨by omega, by omega, x3, NewSS.mk0 ou fun o e => by rw [uo] at e; cases e; exact Nat.le_refl _⟩
  rintro Z u i h ⟨i0, i1, x, n⟩ hZ
  unfold impl_TorusTable_b0 impl_TorusTable_C0
  refine bif_dec (fun hi => ?_) (fun hi => ⟨u, ?_, ?_, X.trans x⟩)
  rotate_left
  · rw [codeOf_yes hs trivial]
  · rw [F_TorusTable_0, sel_yes hs]
    rw [show (i - 1).toNat = 3 by omega] at n
    exact n.le X.len
  refine newS_ow (by rfl) fun t h4 ot lt to e4 => ?_
  have x4 : Ext h h4 := by rw [e4]; exact Ext.app _ _
  refine impl_TorusTable_rule2 _ _ Z _ _ _ (fun t k h' => 1 ≤ k ∧ k ≤ 4 ∧ Ext h h' ∧ Ow h' t 1 (ic (tab1 (k - 1).toNat fun j => tcount c ts i ((j : Int) + 1))) ∧ Fr h.length t) (fun _ k _ => (4 - k).toNat) ?_ _ _ ⟨by omega, by omega, x4, ot, fun o e => by rw [to] at e; cases e; exact Nat.le_refl _⟩
  rintro Y t k h' ⟨k0, k1, x', ot, ft⟩ hY
  unfold impl_TorusTable_b2 impl_TorusTable_C2 impl_TorusTable_C1
  refine bif_dec (fun hk => ?_) (fun hk => ?_)
  · refine (o1.ext (x2.trans (x.trans x'))).ldA rfl ?_
    refine (countTori_k (r.ext (X.trans (x.trans x'))) hs (a := i) (b := k) ⟨⟨by omega, by omega⟩, by omega, by omega⟩).to ?_
    rintro _ h5 ⟨rfl, x5⟩
    refine pushI (ot.ext x5) (by rw [tab1_len]; unfold lim; omega) fun t' h6 ot' bt ft' => ?_
    rw [w64_of (by omega) (by omega)]
    refine hY _ _ _ ⟨by omega, by omega, (x'.trans x5).but_ bt (fun o e => ft o e), ?_, ft' _ ft (Nat.le_trans x'.len x5.len)⟩ (by omega)
    rw [show (k + 1 - 1).toNat = (k - 1).toNat + 1 by omega, tab1_succ, show (((k - 1).toNat : Nat) : Int) + 1 = k by omega]
    exact ot'
  · rw [show (k - 1).toNat = 3 by omega] at ot
    refine (n.ext x').push ot ft x.len ⟨h, n, Nat.le_refl _, x'⟩ (by rw [tab2_len]; unfold lim; omega) (Nat.le_trans x.len x'.len) fun u' h'' n' bt => ?_
    rw [w64_of (by omega) (by omega)]
    refine hZ _ _ _ ⟨by omega, by omega, (x.trans x').but_ bt (fun o e => n.fr o e), ?_⟩ (by omega)
    rw [show (i + 1 - 1).toNat = (i - 1).toNat + 1 by omega, tab2_succ, show (((i - 1).toNat : Nat) : Int) + 1 = i by omega]
    exact n'
theorem spec_TorusTable_c (r : Rd h0 s 4 (tcs ts)) (sz : ts.length ≤ 1048576) :
    callV SP i_spec_TorusTable [.agg (SetC c s)] h0 fun v h' => ∃ w, v = .tuple [.sl w, i64 (codeOf (setOK c ts) True)] ∧ NewSS h0.length h' w (F_TorusTable_0 c ts) ∧ Ext h0 h' := by
  apply spec_TorusTable_call
  unfold spec_TorusTable_main
  refine newK_obj fun h1 o1 x1 n1 => ?_
  refine o1.ldA rfl ?_
  refine (l01Is_c (r.ext x1)).to ?_
  rintro e h2 ⟨he, x2⟩
  have X := x1.trans x2
  refine bif_not (fun hq => ⟨Sl.nil, ?_, ?_, X⟩) (fun hq => ?_)
  · rw [codeOf_no fun hs => by rw [he.2 hs] at hq; cases hq]
  · rw [F_TorusTable_0, sel_no fun hs => by rw [he.2 hs] at hq; cases hq]; exact NewSS.nil _ _
  have hs := he.1 hq
  refine newS_ow (by rfl) fun u h3 ou lu uo e3 => ?_
  have x3 : Ext h2 h3 := by rw [e3]; exact Ext.app _ _
  refine spec_TorusTable_rule0 _ _ _ (fun u i h => 1 ≤ i ∧ i ≤ 4 ∧ Ext h2 h ∧ NewSS h2.length h u (tab2 (i - 1).toNat fun i => tab1 3 fun j => tcount c ts ((i : Int) + 1) ((j : Int) + 1))) (fun _ i _ => (4 - i).toNat) ?_ _ _ ⟨by omega, by omega, x3, NewSS.mk0 ou fun o e => by rw [uo] at e; cases e; exact Nat.le_refl _⟩
  rintro Z u i h ⟨i0, i1, x, n⟩ hZ
  unfold spec_TorusTable_b0 spec_TorusTable_C0
  refine bif_dec (fun hi => ?_) (fun hi => ⟨u, ?_, ?_, X.trans x⟩)
  rotate_left
  · rw [codeOf_yes hs trivial]
  · rw [F_TorusTable_0, sel_yes hs]
    rw [show (i - 1).toNat = 3 by omega] at n
    exact n.le X.len
  refine newS_ow (by rfl) fun t h4 ot lt to e4 => ?_
  have x4 : Ext h h4 := by rw [e4]; exact Ext.app _ _
  refine spec_TorusTable_rule2 _ _ Z _ _ _ (fun t k h' => 1 ≤ k ∧ k ≤ 4 ∧ Ext h h' ∧ Ow h' t 1 (ic (tab1 (k - 1).toNat fun j => tcount c ts i ((j : Int) + 1))) ∧ Fr h.length t) (fun _ k _ => (4 - k).toNat) ?_ _ _ ⟨by omega, by omega, x4, ot, fun o e => by rw [to] at e; cases e; exact Nat.le_refl _⟩
  rintro Y t k h' ⟨k0, k1, x', ot, ft⟩ hY
  unfold spec_TorusTable_b2 spec_TorusTable_C2 spec_TorusTable_C1
  refine bif_dec (fun hk => ?_) (fun hk => ?_)
  · refine (o1.ext (x2.trans (x.trans x'))).ldA rfl ?_
    refine (l05Count_c (r.ext (X.trans (x.trans x'))) hs (a := i) (b := k) ⟨⟨by omega, by omega⟩, by omega, by omega⟩).to ?_
    rintro _ h5 ⟨rfl, x5⟩
    refine pushI (ot.ext x5) (by rw [tab1_len]; unfold lim; omega) fun t' h6 ot' bt ft' => ?_
    rw [w64_of (by omega) (by omega)]
    refine hY _ _ _ ⟨by omega, by omega, (x'.trans x5).but_ bt (fun o e => ft o e), ?_, ft' _ ft (Nat.le_trans x'.len x5.len)⟩ (by omega)
    rw [show (k + 1 - 1).toNat = (k - 1).toNat + 1 by omega, tab1_succ, show (((k - 1).toNat : Nat) : Int) + 1 = k by omega]
    exact ot'
  · rw [show (k - 1).toNat = 3 by omega] at ot
    refine (n.ext x').push ot ft x.len ⟨h, n, Nat.le_refl _, x'⟩ (by rw [tab2_len]; unfold lim; omega) (Nat.le_trans x.len x'.len) fun u' h'' n' bt => ?_
    rw [w64_of (by omega) (by omega)]
    refine hZ _ _ _ ⟨by omega, by omega, (x.trans x').but_ bt (fun o e => n.fr o e), ?_⟩ (by omega)
    rw [show (i + 1 - 1).toNat = (i - 1).toNat + 1 by omega, tab2_succ, show (((i - 1).toNat : Nat) : Int) + 1 = i by omega]
    exact n'
end
end Go.Proofs.Ytfmjjpophipfbaa.Cl
