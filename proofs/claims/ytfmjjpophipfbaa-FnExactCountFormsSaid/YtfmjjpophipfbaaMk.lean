/- Tori: the program's search from outside, the reference's words. No claim is stated here. -/
import Derived.Test.YtfmjjpophipfbaaMj
import Derived.Test.YtfmjjpophipfbaaMl
set_option linter.unusedVariables false
set_option linter.unusedSimpArgs false
namespace Go.Proofs.Ytfmjjpophipfbaa.Cl
open Go
theorem w64_add1 (a : Int) : w64 (w64 a + 1) = w64 (a + 1) := by
  unfold w64 IntKind.wrap
  simp [IntKind.signed, IntKind.bits]
  omega
theorem NewSS.cat {n m : Nat} {h h0 : H} {s t : Sl} {ls ks : List (List Int)} (r0 : NewSS n h0 s ls) (ex : Ext h0 h) (hm : h0.length ≤ m) (hn : n ≤ h0.length) (r2 : NewSS m h t ks) (hl : ((ls.length + ks.length : Nat) : Int) ≤ lim)
    {K : Sl → H → Prop} (hk : ∀ s' h', NewSS n h' s' (ls ++ ks) → But s.o h h' → K s' h') : Cl.app s t 1 h K := by
  obtain ⟨vs, a1, a2, a3, a4, a5, a6⟩ := r0
  obtain ⟨us, b1, b2, b3, b4, b5, b6⟩ := r2
  have hs : s.len = ls.length := by have := a2.len; simp at this; omega
  have ht : t.len = ks.length := by have := b2.len; simp at this; omega
  have hxl := ex.len
  have sold : ∀ o, s.o = some o → o < h0.length := fun o e => a2.lt e
  have vold : ∀ (i : Nat) v, vs[i]? = some v → ∀ o, v.o = some o → o < h0.length := fun i v hv o e => by
    obtain ⟨l, hl⟩ := mem_idx a1 hv
    exact (a4 i v l hv hl).1.lt e
  have unew : ∀ (i : Nat) u, us[i]? = some u → ∀ o, u.o = some o → m ≤ o ∧ o < h.length := fun i u hu o e => by
    obtain ⟨l, hl⟩ := mem_idx b1 hu
    exact ⟨(b4 i u l hu hl).2 o e, (b4 i u l hu hl).1.lt e⟩
  refine app_ow (by omega) (a2.ext ex) b2.rd (by rw [hs, ht]; exact_mod_cast hl) fun s' h' o' ln b k1 k2 => ?_
  have hso : ∀ o, s'.o = some o → s.o = some o ∨ h.length ≤ o := fun o e => by
    cases hq : s.o with
    | none => exact .inr (k2 hq o e)
    | some p => rw [k1 p hq] at e; exact .inl e
  have keep : ∀ {w : Sl} {l : List Int}, Ow h w 1 (ic l) → (∀ o, w.o = some o → s.o ≠ some o) → Ow h' w 1 (ic l) := fun {w l} ow hne => by
    refine ow.but b ?_
    cases hw : w.o with
    | none =>
      cases hq : s.o with
      | none => exact .inr rfl
      | some _ => exact .inl (by simp)
    | some o => exact .inl (by intro e; exact hne o hw e)
  have une : ∀ (i : Nat) u, us[i]? = some u → ∀ o, u.o = some o → s.o ≠ some o := fun i u hu o e e2 => by
    have := sold o e2
    have := unew i u hu o e
    omega
  have spl : ∀ {k : Nat} {y : Sl}, (vs ++ us)[k]? = some y → (k < vs.length ∧ vs[k]? = some y) ∨ (vs.length ≤ k ∧ us[k - vs.length]? = some y) := fun {k y} e => by
    rw [List.getElem?_append] at e
    split at e
    · next hk => exact .inl ⟨hk, e⟩
    · next hk => exact .inr ⟨by omega, e⟩
  refine hk s' h' ⟨vs ++ us, by simp [a1, b1], by simpa using o', ?_, ?_, ?_, ?_⟩ b
  · intro o e
    rcases hso o e with e | e
    · exact a3 o e
    · omega
  · intro i w l a c
    rcases spl a with ⟨hi, hv⟩ | ⟨hi, hu⟩
    · rw [List.getElem?_append_left (by omega)] at c
      obtain ⟨p, q⟩ := a4 i w l hv c
      exact ⟨keep (p.ext ex) (a6 i w hv), q⟩
    · rw [List.getElem?_append_right (by omega), ← a1] at c
      obtain ⟨p, q⟩ := b4 _ w l hu c
      exact ⟨keep p (une _ w hu), fun o e => by have := q o e; omega⟩
  · intro i j v w hne a c o e e2
    rcases spl a with ⟨hi, hv⟩ | ⟨hi, hv⟩ <;> rcases spl c with ⟨hj, hw⟩ | ⟨hj, hw⟩
    · exact a5 i j v w hne hv hw o e e2
    · have := vold i v hv o e
      have := unew _ w hw o e2
      omega
    · have := vold j w hw o e2
      have := unew _ v hv o e
      omega
    · exact b5 _ _ v w (by omega) hv hw o e e2
  · intro i w a o e e2
    have hlt : o < h.length ∧ s.o ≠ some o := by
      rcases spl a with ⟨hi, hv⟩ | ⟨hi, hv⟩
      · exact ⟨by have := vold i w hv o e; omega, a6 i w hv o e⟩
      · exact ⟨(unew _ w hv o e).2, une _ w hv o e⟩
    rcases hso o e2 with e3 | e3
    · exact hlt.2 e3
    · omega
theorem replicate_ic (n : Nat) : (List.replicate n [AVal.int .i64 0]).flatten = ic (List.replicate n 0) := by
  induction n with
  | zero => rfl
  | succ n ih => rw [List.replicate_succ, List.flatten_cons, ih, List.replicate_succ]; rfl
section
variable {hb h0 : H} {c : Int} {s : Sl} {ts : List Tile} {H_ W : Nat} {gk : Nat} {capk : List AVal} {σ : Type} {f : σ → List Int → σ × Bool} {I : σ → H → Prop} {t : σ}
theorem tori_c (r : Rd hb s 4 (tcs ts)) (hN : ts.length ≤ 16) (hH : 1 ≤ H_ ∧ H_ ≤ 3) (hW : 1 ≤ W ∧ W ≤ 3) (x0 : Ext hb h0) (hI : ∀ (t : σ) (h h' : H), I t h → But (some (h0.length + 2)) h h' → I t h')
    (hk : ∀ (t : σ) (l : List Int) (h h' : H) (u : Sl), l.length = H_ * W → (∀ x ∈ l, 0 ≤ x ∧ x < (ts.length : Int)) → I t h' → h0.length + 2 < h.length → NewSS h.length h' u (rowsG H_ W l) → Ext hb h' → callB SP gk (.sl u :: capk) h' fun b h'' => b = (f t l).2 ∧ I (f t l).1 h'' ∧ Chg (fun o => o < h0.length ∧ hb.length ≤ o) h' h'')
    (i0 : I t h0) : callV SP i_impl_Set_tori [.agg (SetC c s), i64 H_, i64 W, .func gk capk] h0 fun _ h' => I (runU f (flat ts H_ W (H_ * W) []) t).1 h' ∧ Ext hb h' := by
  have hHW : H_ * W ≤ 3 * 3 := Nat.mul_le_mul hH.2 hW.2
  have eHW : (H_ : Int) * (W : Int) = ((H_ * W : Nat) : Int) := by push_cast; rfl
  have xl := x0.len
  apply impl_Set_tori_call
  unfold impl_Set_tori_main
  refine newK_obj fun h1 o1 x1 l1 => ?_
  refine bif_b (fun _ => ?_) (fun e => absurd (show true = false from e) (by decide))
  refine newO_var fun h2 v2 x2 l2 => ?_
  rw [eHW, w64_of (by omega) (by omega)]
  refine mkS_ow (by omega) (by unfold lim; omega) fun sc h3 oc lc so e3 => ?_
  rw [replicate_ic, Int.toNat_natCast] at oc
  have x3 : Ext h2 h3 := by rw [e3]; exact Ext.app _ _
  have l3 : h3.length = h2.length + 1 := by rw [e3]; simp
  refine newO_var fun h4 v4 x4 l4 => ?_
  refine newO_var fun h5 v5 x5 l5 => ?_
  refine newO_var fun h6 v6 x6 l6 => ?_
  have v46 := v4.ext (x5.trans x6)
  have v56 := v5.ext x6
  refine v46.st _ fun h7 v7 b7 l7 => ?_
  have v57 := v56.but b7 (fun e => by have := Option.some.inj e; omega)
  refine v57.st _ fun h8 v8 b8 l8 => ?_
  have v68 := (v6.but b7 (fun e => by have := Option.some.inj e; omega)).but b8 (fun e => by have := Option.some.inj e; omega)
  refine v68.st _ fun h9 v9 b9 l9 => ?_
  refine newO_var fun h10 v10 x10 l10 => ?_
  refine v10.st _ fun h11 v11 b11 l11 => ?_
  have C3 : Chg (fun o => h3.length ≤ o) h3 h11 := (((((((x4.chg _).trans (x5.chg _)).trans (x6.chg _)).trans (b7.chg fun i e => by cases e; exact Nat.le_refl _)).trans (b8.chg fun i e => by cases e; omega)).trans (b9.chg fun i e => by cases e; omega)).trans (x10.chg _)).trans (b11.chg fun i e => by cases e; omega)
  have vc : Var h11 h3.length (.sl sc) := (((v7.but b8 (fun e => by have := Option.some.inj e; omega)).but b9 (fun e => by have := Option.some.inj e; omega)).ext x10).but b11 (fun e => by have := Option.some.inj e; omega)
  have vh : Var h11 h4.length (i64 H_) := ((v8.but b9 (fun e => by have := Option.some.inj e; omega)).ext x10).but b11 (fun e => by have := Option.some.inj e; omega)
  have vw : Var h11 h5.length (i64 W) := (v9.ext x10).but b11 (fun e => by have := Option.some.inj e; omega)
  have hP : ∀ q, q < h3.length → ¬ (h3.length ≤ q) := fun q hq hh => by omega
  have vk : Var h11 h1.length (.func gk capk) := (v2.ext x3).chg C3 (hP _ (by omega))
  have vs : Obj h11 h0.length (SetC c s) := (o1.ext (x2.trans x3)).chg C3 (hP _ (by omega))
  have oc' : Ow h11 sc 1 (ic ([] ++ List.replicate (H_ * W) 0)) := oc.chg C3 fun i e => by rw [so] at e; cases e; exact hP _ (by omega)
  have X : Ext h0 h11 := ((x1.trans x2).trans x3).chg_ C3 fun i hi => by omega
  refine v11.ldV (via_func ?_)
  have e2 : h2.length = h0.length + 2 := by omega
  rw [← e2] at hI hk
  refine (toriRec (n1 := h0.length) (od := h2.length) r hN hH hW ⟨by omega, by omega, by omega, by omega, by omega, by omega, by omega⟩ xl ⟨by omega, by omega, by omega, by omega, by omega, by omega⟩ so hI hk (H_ * W) [] t h11 (by simp) (by simp) ⟨vc, vh, vw, vk, vs, v11⟩ ⟨_, by simp, oc'⟩
    (hI _ _ _ i0 (X.but _)) (x0.trans X)).to ?_
  rintro b h12 ⟨_, hi, _, _, x, _⟩
  exact ⟨hi, x⟩
end
section
variable {h0 : H} {c : Int} {s : Sl} {ts : List Tile} {H_ W : Nat}
def cntF (t : Nat) (_ : List Int) : Nat × Bool := (t + 1, true)
theorem runU_cnt : ∀ (l : List (List Int)) (t : Nat), runU cntF l t = (t + l.length, true)
  | [], t => rfl
  | x :: l, t => by
    rw [runU]
    simp only [cntF, if_true]
    rw [runU_cnt l (t + 1), List.length_cons, Nat.add_assoc, Nat.add_comm 1]
theorem flat_len : ∀ (m : Nat) (pre : List Int), (flat ts H_ W m pre).length ≤ ts.length ^ m
  | 0, pre => by simp [flat]
  | m + 1, pre => by
    rw [flat, List.length_flatMap, Nat.pow_succ, Nat.mul_comm]
    have : ∀ (l : List Nat), (l.map fun (k : Nat) => (sel (OkC ts H_ W pre (k : Int)) (flat ts H_ W m (pre ++ [(k : Int)])) []).length).sum ≤ l.length * ts.length ^ m := fun l => by
      induction l with
      | nil => simp
      | cons a l ih =>
        rw [List.map_cons, List.sum_cons, List.length_cons, Nat.add_mul, Nat.one_mul]
        have : (sel (OkC ts H_ W pre (a : Int)) (flat ts H_ W m (pre ++ [(a : Int)])) []).length ≤ ts.length ^ m := by
          by_cases hh : OkC ts H_ W pre (a : Int)
          · rw [sel_yes hh]; exact flat_len m _
          · rw [sel_no hh]; exact Nat.zero_le _
        omega
    have := this (List.range ts.length)
    rwa [List.length_range] at this
theorem flat_small (hN : ts.length ≤ 16) (hH : H_ ≤ 3) (hW : W ≤ 3) : (flat ts H_ W (H_ * W) []).length ≤ 68719476736 := by
  have hHW : H_ * W ≤ 3 * 3 := Nat.mul_le_mul hH hW
  refine Nat.le_trans (flat_len _ _) (Nat.le_trans (Nat.pow_le_pow_left hN _) ?_)
  exact Nat.le_trans (Nat.pow_le_pow_right (by omega) hHW) (by decide)
theorem countTori_c (r : Rd h0 s 4 (tcs ts)) (hN : ts.length ≤ 16) (hH : 1 ≤ H_ ∧ H_ ≤ 3) (hW : 1 ≤ W ∧ W ≤ 3) :
    callI SP .i64 i_impl_Set_countTori [.agg (SetC c s), i64 H_, i64 W] h0 fun n h' => n = ((flat ts H_ W (H_ * W) []).length : Int) ∧ Ext h0 h' := by
  apply impl_Set_countTori_call
  unfold impl_Set_countTori_main
  refine newK_obj fun h1 o1 x1 l1 => ?_
  refine newO_var fun h2 v2 x2 l2 => ?_
  refine v2.st _ fun h3 v3 b3 l3 => ?_
  have X3 : Ext h0 h3 := (x1.trans x2).but_ b3 (some_le (by omega))
  have o3 := (o1.ext x2).but b3 (fun e => by have := Option.some.inj e; omega)
  refine o3.ldA rfl ?_
  refine (tori_c (σ := Nat) (f := cntF) (I := fun t h => Var h h1.length (i64 (w64 t))) (t := 0) r hN hH hW X3 (fun t h h' v x => v.but x (fun e => by have := Option.some.inj e; omega)) ?_ v3).to ?_
  · intro t l h h' u hl hx v hlen n x
    apply impl_Set_countTori_1_call
    unfold impl_Set_countTori_1_main
    refine v.ldI ?_
    refine v.st _ fun h'' v' b' _ => ⟨_, rfl, rfl, ?_, b'.chg fun i e => by cases e; omega⟩
    rw [w64_add1] at v'
    exact v'
  · rintro _ h4 ⟨v, x⟩
    rw [runU_cnt] at v
    have := flat_small (H_ := H_) (W := W) hN hH.2 hW.2
    refine v.ldI ⟨_, rfl, ?_, x⟩
    rw [w64_of (by omega) (by omega)]
    simp
end
/-! ### the reference's words -/
section
variable {h0 : H} {c : Int} {s q : Sl} {ts : List Tile} {W : Nat}
theorem l01Own_c {h0 : H} {x : Sl} {l : List Int} (r : Rd h0 x 1 (ic l)) (hl : l.length ≤ 1048576) : callS SP i_spec_l01Own [.sl x] h0 fun s h' => Ow h' s 1 (ic l) ∧ Fr h0.length s ∧ Ext h0 h' := by
  have hx := r.ilen
  apply spec_l01Own_call
  unfold spec_l01Own_main
  refine newS_ow (by rfl) fun s h1 os ls so e1 => ?_
  have x1 : Ext h0 h1 := by rw [e1]; exact Ext.app _ _
  refine app_ow (cs := []) (by omega) os (r.ext x1) (by unfold lim; omega) fun s' h' o' ln b k1 k2 => ⟨_, rfl, by simpa using o', fun o e => ?_, x1.but_ b fun o e => by rw [so] at e; cases e; exact Nat.le_refl _⟩
  have := k1 _ so
  rw [this] at e; cases e; exact Nat.le_refl _
theorem pow_small {c : Int} {n : Nat} (h0 : 1 ≤ c) (h1 : c ≤ 6) (hn : n ≤ 3) : 1 ≤ c ^ n ∧ c ^ n ≤ 216 := by
  have a : n = 0 ∨ n = 1 ∨ n = 2 ∨ n = 3 := by omega
  have b : c = 1 ∨ c = 2 ∨ c = 3 ∨ c = 4 ∨ c = 5 ∨ c = 6 := by omega
  rcases a with rfl | rfl | rfl | rfl <;> rcases b with rfl | rfl | rfl | rfl | rfl | rfl <;> decide
theorem dec_small {c : Int} (h0 : 1 ≤ c) (h1 : c ≤ 6) {l : List Int} (hl : l.length ≤ 3) (hd : ∀ d ∈ l, 0 ≤ d ∧ d < c) : 0 ≤ dec c l ∧ dec c l < 216 := by
  have a := dec_bound h0 _ l rfl hd
  have b := pow_small h0 h1 hl
  omega
theorem l05Side_c (r : Rd h0 s 4 (tcs ts)) (S : Sides c ts) (hc : c ≤ 6) {w : List Int} (rw' : Rd h0 q 1 (ic w)) (hw : Wd ts W w) (hW : W ≤ 3) {k : Nat} (hk : k < 4) :
    callI SP .i64 i_spec_l05Side [.agg (SetC c s), .sl q, i64 k] h0 fun n h' => n = cd c ts k w ∧ Ext h0 h' := by
  have hq := rw'.ilen
  have hwl := hw.1
  apply spec_l05Side_call
  unfold spec_l05Side_main
  refine newK_obj fun h1 o1 x1 l1 => ?_
  refine spec_l05Side_rule0 _ _ _ _ _ (fun a i h => 0 ≤ i ∧ i ≤ w.length ∧ Ext h1 h ∧ a = dec c ((w.take i.toNat).map fun n => E_ ts n k)) (fun _ i _ => (w.length - i).toNat) ?_ _ _ ⟨by omega, by omega, Ext.refl _, by simp [dec]⟩
  rintro X a i h ⟨i0, i1, x, ea⟩ hX
  unfold spec_l05Side_b0 spec_l05Side_C0
  have o := o1.ext x
  have hdig := hw.digits S hk
  have hmem : ∀ (n : Nat) (d : Int), d ∈ (w.take n).map (fun n => E_ ts n k) → 0 ≤ d ∧ d < c := fun n d hd => by
    obtain ⟨y, hy, rfl⟩ := List.mem_map.1 hd
    exact hdig _ (List.mem_map.2 ⟨y, List.mem_of_mem_take hy, rfl⟩)
  refine bif_dec (fun hi => ?_) (fun hi => ⟨_, rfl, ?_, x1.trans x⟩)
  · refine isPt_in (o.ldI rfl rfl ?_)
    refine isPt_in (o.ldS rfl rfl ?_)
    have hi' : i.toNat < w.length := by omega
    have hgi : w.getD i.toNat 0 = w[i.toNat] := by rw [List.getD_eq_getElem?_getD, List.getElem?_eq_getElem hi']; rfl
    have hv := hw.2 _ (List.getElem_mem hi')
    refine (rw'.ext (x1.trans x)).ldG i0 (by omega) ?_
    rw [hgi]
    refine (r.ext (x1.trans x)).sideG hv.1 hv.2 (by omega) (by omega) ?_
    rw [Int.toNat_natCast]
    have hs : 0 ≤ sd (tat ts w[i.toNat]) k ∧ sd (tat ts w[i.toNat]) k < c := S.2 _ k hk hv.1 hv.2
    have hb := dec_small S.1 hc (l := (w.take i.toNat).map fun n => E_ ts n k) (by simp; omega) (hmem _)
    rw [← ea] at hb
    have hm0 : 0 ≤ a * c := Int.mul_nonneg hb.1 (by have := S.1; omega)
    have hm1 : a * c ≤ 216 * 6 := Int.mul_le_mul (by omega) hc (by have := S.1; omega) (by omega)
    rw [w64_of (n := a * c) (by omega) (by omega), w64_of (n := a * c + sd (tat ts w[i.toNat]) k) (by omega) (by omega), w64_of (n := i + 1) (by omega) (by omega)]
    refine hX _ _ _ ⟨by omega, by omega, x, ?_⟩ (by omega)
    rw [show (i + 1).toNat = i.toNat + 1 by omega, List.take_succ_eq_append_getElem hi', List.map_append, List.map_cons, List.map_nil, dec_app, ← ea]
  · rw [ea, show i.toNat = w.length by omega, List.take_length]; rfl
theorem l03Power_c (hc : 1 ≤ c) (hc6 : c ≤ 6) (hW : W ≤ 3) : callI SP .i64 i_spec_l03Power [i64 c, i64 W] h0 fun n h' => n = c ^ W ∧ Ext h0 h' := by
  apply spec_l03Power_call
  unfold spec_l03Power_main
  refine spec_l03Power_rule0 _ _ _ (fun i a h => 0 ≤ i ∧ i ≤ W ∧ Ext h0 h ∧ a = c ^ (W - i.toNat)) (fun i _ _ => i.toNat) ?_ _ _ ⟨by omega, by omega, Ext.refl _, by simp⟩
  rintro X i a h ⟨i0, i1, x, ea⟩ hX
  unfold spec_l03Power_b0 spec_l03Power_C0
  refine bif_dec (fun hi => ?_) (fun hi => ⟨_, rfl, ?_, x⟩)
  · have hb := pow_small hc hc6 (n := W - i.toNat) (by omega)
    rw [← ea] at hb
    have hm1 : a * c ≤ 216 * 6 := Int.mul_le_mul (by omega) hc6 (by omega) (by omega)
    have hm0 : 0 ≤ a * c := Int.mul_nonneg (by omega) (by omega)
    rw [w64_of (n := i - 1) (by omega) (by omega), w64_of (n := a * c) (by omega) (by omega)]
    refine hX _ _ _ ⟨by omega, by omega, x, ?_⟩ (by omega)
    rw [ea, ← Int.pow_succ]; congr 1; omega
  · rw [ea]; congr 1; omega
theorem rounds_len : ∀ (m : Nat) (w : List Int), (rounds ts m w).length ≤ ts.length ^ m
  | 0, w => by
    rw [rounds]
    by_cases hh : closeW ts w
    · rw [sel_yes hh]; simp
    · rw [sel_no hh]; simp
  | m + 1, w => by
    rw [rounds, List.length_flatMap, Nat.pow_succ, Nat.mul_comm]
    have : ∀ (l : List Nat), (l.map fun (k : Nat) => (sel (hC ts w (k : Int)) (rounds ts m (w ++ [(k : Int)])) []).length).sum ≤ l.length * ts.length ^ m := fun l => by
      induction l with
      | nil => simp
      | cons a l ih =>
        rw [List.map_cons, List.sum_cons, List.length_cons, Nat.add_mul, Nat.one_mul]
        have : (sel (hC ts w (a : Int)) (rounds ts m (w ++ [(a : Int)])) []).length ≤ ts.length ^ m := by
          by_cases hh : hC ts w (a : Int)
          · rw [sel_yes hh]; exact rounds_len m _
          · rw [sel_no hh]; exact Nat.zero_le _
        omega
    have := this (List.range ts.length)
    rwa [List.length_range] at this
theorem rounds_small (hN : ts.length ≤ 16) {m : Nat} (hm : m ≤ 3) (w : List Int) : (rounds ts m w).length ≤ 4096 :=
  Nat.le_trans (rounds_len m w) (Nat.le_trans (Nat.pow_le_pow_left hN _) (Nat.le_trans (Nat.pow_le_pow_right (by omega) hm) (by decide)))
theorem l05Rounds_c (r : Rd h0 s 4 (tcs ts)) (hN : ts.length ≤ 16) (hW : 1 ≤ W ∧ W ≤ 3) : ∀ (m : Nat) (w : List Int) (n : Nat) (x : Sl) (h : H), w.length + m = W → (∀ d ∈ w, 0 ≤ d ∧ d < (ts.length : Int)) → Ext h0 h → Ow h x 1 (ic w) → Fr n x → n ≤ h.length →
    callS SP i_spec_l05Rounds [.agg (SetC c s), .sl x, i64 W] h fun u h' => NewSS n h' u (rounds ts m w) ∧ Ext h h'
  | 0, w, n, x, h, hw, hd, e0, o, fx, hn => by
    have hl := r.tlen
    have hx := o.rd.ilen
    have hval : ∀ y, y < w.length → 0 ≤ w.getD y 0 ∧ w.getD y 0 < (ts.length : Int) := fun y hy => by
      rw [List.getD_eq_getElem?_getD, List.getElem?_eq_getElem hy]
      exact hd _ (List.getElem_mem _)
    apply spec_l05Rounds_call
    unfold spec_l05Rounds_main
    refine newK_obj fun h1 o1 x1 l1 => ?_
    refine bif_eq (fun _ => ?_) (fun hne => absurd (by omega) hne)
    have r1 := r.ext (e0.trans x1)
    have rx := o.rd.ext x1
    refine isPt_in (o1.ldS rfl rfl ?_)
    rw [w64_of (n := (x.len : Int) - 1) (by omega) (by omega)]
    refine rx.ldG (by omega) (by omega) ?_
    refine r1.sideG (hval _ (by omega)).1 (hval _ (by omega)).2 (by omega) (by omega) ?_
    refine isPt_in (o1.ldS rfl rfl ?_)
    refine rx.ldG (by omega) (by omega) ?_
    refine r1.sideG (hval _ (by omega)).1 (hval _ (by omega)).2 (by omega) (by omega) ?_
    have e1 : ((x.len : Int) - 1).toNat = w.length - 1 := by omega
    rw [e1]
    have x1' := x1.len
    refine bif_eq (fun hq => ?_) (fun hq => ?_)
    · rw [rounds, sel_yes (show closeW ts w from hq)]
      refine newS_ow (by rfl) fun u h2 ou lu uo e2 => ⟨_, rfl, ⟨[x], rfl, ou, fun p e => by rw [uo] at e; cases e; omega, ?_, ?_, ?_⟩, x1.trans (by rw [e2]; exact Ext.app _ _)⟩
      · intro i v l a b
        have : i = 0 := by have := (List.getElem?_eq_some_iff.1 a).1; simpa using this
        subst this
        simp at a b
        subst a b
        exact ⟨(o.ext x1).ext (by rw [e2]; exact Ext.app _ _), fx⟩
      · intro i j v z hne a b
        have h1 := (List.getElem?_eq_some_iff.1 a).1
        have h2 := (List.getElem?_eq_some_iff.1 b).1
        simp at h1 h2
        omega
      · intro i v a p e
        have := List.mem_of_getElem? a
        simp at this
        subst this
        rw [uo]
        intro e2
        cases e2
        have := (o.ext x1).lt e
        omega
    · rw [rounds, sel_no (show ¬ closeW ts w from hq)]
      refine newS_ow (by rfl) fun u h2 ou lu uo e2 => ⟨_, rfl, NewSS.mk0 ou fun p e => by rw [uo] at e; cases e; omega, x1.trans (by rw [e2]; exact Ext.app _ _)⟩
  | m + 1, w, n, x, h, hw, hd, e0, o, fx, hn => by
    have hl := r.tlen
    have hx := o.rd.ilen
    have hval : ∀ y, y < w.length → 0 ≤ w.getD y 0 ∧ w.getD y 0 < (ts.length : Int) := fun y hy => by
      rw [List.getD_eq_getElem?_getD, List.getElem?_eq_getElem hy]
      exact hd _ (List.getElem_mem _)
    apply spec_l05Rounds_call
    unfold spec_l05Rounds_main
    generalize hKK : (fun (v : AVal) (h' : H) => ∃ u, v = .sl u ∧ (NewSS n h' u (rounds ts (m + 1) w) ∧ Ext h h')) = KK
    have fin : ∀ (u : Sl) h', NewSS n h' u (rounds ts (m + 1) w) ∧ Ext h h' → KK (.sl u) h' := fun u h' hh => by rw [← hKK]; exact ⟨u, rfl, hh⟩
    clear hKK
    refine newK_obj fun h1 o1 x1 l1 => ?_
    refine bif_eq (fun hne => by omega) (fun _ => ?_)
    refine newS_ow (by rfl) fun u h2 ou lu uo e2 => ?_
    have x2 : Ext h1 h2 := by rw [e2]; exact Ext.app _ _
    have ns : NewSS h1.length h2 u [] := NewSS.mk0 ou (fun o e => by rw [uo] at e; cases e; exact Nat.le_refl _)
    generalize hg : (fun k : Nat => sel (hC ts w (k : Int)) (rounds ts m (w ++ [(k : Int)])) []) = g
    have hflat : rounds ts (m + 1) w = (List.range ts.length).flatMap g := by rw [← hg]; rfl
    have hsm := rounds_small hN (m := m + 1) (by omega) w
    rw [hflat] at fin hsm
    refine spec_l05Rounds_rule0 _ _ _ _ _ _ (fun u k h' => 0 ≤ k ∧ k ≤ ts.length ∧ Ext h1 h' ∧ NewSS h1.length h' u ((List.range k.toNat).flatMap g)) (fun _ k _ => (ts.length - k).toNat) ?_ _ _ ⟨by omega, by omega, x2, by simpa using ns⟩
    rintro X u k h' ⟨k0, k1, x', nu⟩ hX
    have oS := o1.ext x'
    have E' := x1.trans x'
    have rh := r.ext (e0.trans E')
    have rx := o.rd.ext E'
    unfold spec_l05Rounds_b0 spec_l05Rounds_C0
    refine isPt_in (oS.ldS rfl rfl ?_)
    refine bif_dec (fun hk1 => ?_) (fun hk1 => ?_)
    rotate_left
    · rw [show k.toNat = ts.length by omega] at nu
      exact fin _ _ ⟨nu.le (by omega), E'⟩
    obtain ⟨a, rfl⟩ : ∃ a : Nat, k = a := ⟨k.toNat, by omega⟩
    rw [Int.toNat_natCast] at nu
    have hx' := x'.len
    have hmono : ((List.range a).flatMap g).length + (g a).length ≤ 4096 := by
      have e1 : (List.range ts.length).flatMap g = (List.range a).flatMap g ++ (g a ++ ((List.range (ts.length - (a + 1))).map fun i => a + 1 + i).flatMap g) := by
        obtain ⟨d, hd⟩ : ∃ d, ts.length = a + 1 + d := ⟨ts.length - (a + 1), by omega⟩
        rw [hd, List.range_add, List.flatMap_append, List.range_succ, List.flatMap_append]
        simp [show a + 1 + d - (a + 1) = d by omega]
      rw [e1, List.length_append, List.length_append] at hsm
      omega
    have stay : ∀ (h'' : H) (u' : Sl), Ext h1 h'' → NewSS h1.length h'' u' ((List.range a).flatMap g ++ g a) → X (spec_l05Rounds_e0 x (W : Int) ⟨some h.length, 2, 0⟩ (x.len : Int) u' (w64 ((a : Int) + 1))) h'' := fun h'' u' q1 q2 => by
      rw [w64_of (by omega) (by omega)]
      refine hX _ _ _ ⟨by omega, by omega, q1, ?_⟩ (by omega)
      rw [show ((a : Int) + 1).toNat = a + 1 by omega, List.range_succ, List.flatMap_append]
      simpa using q2
    -- the word grows by a
    have go : ∀ (Y : Sl → H → Prop), g a = rounds ts m (w ++ [(a : Int)]) → (∀ u' h'', Ext h1 h'' → NewSS h1.length h'' u' ((List.range a).flatMap g ++ g a) → Y u' h'') →
        slotK 11 h' fun h23 => ldA ⟨some h.length, 2, 0⟩ 2 h23 fun cs24 => callS SP i_spec_l01Own [.sl x] h23 fun s26 h25 => (Cl.range h25 (some h.length) 2 0 2 = Cl.range h23 (some h.length) 2 0 2) ∧ (
          newSat 1 1 [.int .i64 (a : Int)] h25 (h'.length + 5) fun s27 h28 => (Cl.range h28 (some h.length) 2 0 2 = Cl.range h23 (some h.length) 2 0 2) ∧ (
          Cl.app s26 s27 1 h28 fun s29 h30 => (Cl.range h30 (some h.length) 2 0 2 = Cl.range h23 (some h.length) 2 0 2) ∧ (
          callS SP i_spec_l05Rounds [.agg cs24, .sl s29, .int .i64 (W : Int)] h30 fun s32 h31 => Cl.app u s32 1 h31 Y))) := fun Y hga hY => by
      refine slotK_in fun ha xa la => ?_
      have oA := oS.ext xa
      refine oA.ldA rfl ?_
      refine (l01Own_c (rx.ext xa) (by omega)).to ?_
      rintro z hb ⟨oz, fz, xb⟩
      have lb := xb.len
      have oB := oA.ext xb
      have rng : ∀ {hh : H}, Obj hh h.length (SetC c s) → Cl.range hh (some h.length) 2 0 2 = some (SetC c s) := fun q => q.rangeE rfl
      refine ⟨by rw [rng oB, rng oA], ?_⟩
      have hol := oS.lt
      refine newSat_ow (by omega) (by rfl) fun y hc oy ly yo bc lc => ?_
      have oC := oB.but bc (fun e => by have := Option.some.inj e; omega)
      refine ⟨by rw [rng oC, rng oA], ?_⟩
      have ozC : Ow hc z 1 (ic w) := by
        refine oz.but bc ?_
        cases hz : z.o with
        | none => exact .inl (by simp)
        | some p => exact .inl (by intro e; cases e; have := fz _ hz; omega)
      have hzl := ozC.rd.ilen
      refine app_ow (by omega) ozC oy.rd (by unfold lim; omega) fun v hd' ov lv bv k1 k2 => ?_
      have fv : Fr ha.length v := fun p e => by
        cases hz : z.o with
        | none => have := k2 hz p e; omega
        | some q => rw [k1 q hz] at e; cases e; exact fz _ hz
      have oD : Obj hd' h.length (SetC c s) := oC.but bv fun e => by have := fz _ e; omega
      refine ⟨by rw [rng oD, rng oA], ?_⟩
      have XD : Ext h' hd' := by
        refine (Ext.but_ (xa.trans xb) bc (some_le (by omega))).but_ bv fun p e => by have := fz _ e; omega
      have ov' : Ow hd' v 1 (ic (w ++ [(a : Int)])) := by rw [ic_app]; exact ov
      have XDl := XD.len
      have lD : h'.length ≤ hd'.length := XDl
      refine (l05Rounds_c r hN hW m (w ++ [(a : Int)]) h'.length v hd' (by simp; omega) (fun d hd2 => ?_) ((e0.trans E').trans XD) ov' (fv.le (by omega)) lD).to ?_
      · rcases List.mem_append.1 hd2 with hd2 | hd2
        · exact hd d hd2
        · simp at hd2; omega
      rintro t he ⟨nt, xe⟩
      rw [← hga] at nt
      refine NewSS.cat nu (XD.trans xe) (Nat.le_refl _) hx' nt (by unfold lim; omega) fun u' hf nf bf => ?_
      exact hY _ _ ((x'.trans (XD.trans xe)).but_ bf fun p e => nu.fr p e) nf
    have skip : ¬ hC ts w (a : Int) → g a = [] := fun hno => by rw [← hg]; exact sel_no hno
    have goes : hC ts w (a : Int) → g a = rounds ts m (w ++ [(a : Int)]) := fun hy => by rw [← hg]; exact sel_yes hy
    refine bif_eq (fun hz => ?_) (fun hz => ?_)
    · exact go _ (goes fun hh => by omega) fun u' h'' q1 q2 => stay h'' u' q1 q2
    · refine isPt_in (oS.ldS rfl rfl ?_)
      rw [w64_of (n := (x.len : Int) - 1) (by omega) (by omega)]
      refine rx.ldG (by omega) (by omega) ?_
      have e1 : ((x.len : Int) - 1).toNat = w.length - 1 := by omega
      rw [e1]
      refine rh.sideG (hval _ (by omega)).1 (hval _ (by omega)).2 (by omega) (by omega) ?_
      refine isPt_in (oS.ldS rfl rfl ?_)
      refine rh.sideG (by omega) (by omega) (by omega) (by omega) ?_
      refine bif_eq (fun hq => ?_) (fun hq => ?_)
      · exact go _ (goes fun _ => hq) fun u' h'' q1 q2 => stay h'' u' q1 q2
      · refine stay _ _ x' ?_
        rw [skip fun hh => hq (hh (by omega)), List.append_nil]
        exact nu
end
end Go.Proofs.Ytfmjjpophipfbaa.Cl
