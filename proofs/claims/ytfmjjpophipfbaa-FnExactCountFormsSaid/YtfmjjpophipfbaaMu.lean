/- All tori as a list, and how many forms they have. No claim is stated here. -/
import Derived.Test.YtfmjjpophipfbaaMs
set_option linter.unusedVariables false
set_option linter.unusedSimpArgs false
namespace Go.Proofs.Ytfmjjpophipfbaa.Cl
open Go
/-! ### slices of rows that share their words -/
def PV (hW : H) (n : Nat) (h : H) (v : Sl) (T : List (List Int)) : Prop :=
  ∃ us : List Sl, us.length = T.length ∧ (∀ (k : Nat) u w, us[k]? = some u → T[k]? = some w → Rd hW u 1 (ic w)) ∧ Rd h v 1 (us.map .sl) ∧ ∀ o, v.o = some o → n ≤ o ∧ o < h.length
theorem PV.rd {hW n h v T} (r : PV hW n h v T) (x : Ext hW h) : RdSS h v T := by
  obtain ⟨us, a, b, c, _⟩ := r
  exact ⟨us, a, c, fun k u w p q => (b k u w p q).ext x⟩
theorem PV.chg {P : Nat → Prop} {hW n h h' v T} (r : PV hW n h v T) (x : Chg P h h') (hn : ∀ o, v.o = some o → ¬ P o) : PV hW n h' v T := by
  obtain ⟨us, a, b, c, d⟩ := r
  exact ⟨us, a, b, c.chg x hn, fun o e => ⟨(d o e).1, Nat.lt_of_lt_of_le (d o e).2 x.1⟩⟩
theorem PV.ext {hW n h h' v T} (r : PV hW n h v T) (x : Ext h h') : PV hW n h' v T := r.chg (x.chg fun _ => False) fun _ _ f => f
theorem PV.le {hW n m h v T} (r : PV hW n h v T) (hm : m ≤ n) : PV hW m h v T := by
  obtain ⟨us, a, b, c, d⟩ := r
  exact ⟨us, a, b, c, fun o e => ⟨Nat.le_trans hm (d o e).1, (d o e).2⟩⟩
def TL (hW : H) (n : Nat) (h : H) (s : Sl) (Ts : List (List (List Int))) : Prop :=
  ∃ vs : List Sl, vs.length = Ts.length ∧ Ow h s 1 (vs.map .sl) ∧ (∀ o, s.o = some o → n ≤ o) ∧ ∀ (i : Nat) v T, vs[i]? = some v → Ts[i]? = some T → PV hW n h v T ∧ ∀ o, v.o = some o → s.o ≠ some o
theorem TL.len {hW n h s Ts} (r : TL hW n h s Ts) : s.len = Ts.length := by
  obtain ⟨vs, a, b, _⟩ := r
  have := b.len; simp at this; omega
theorem TL.nil {hW n h s} (o : Ow h s 1 []) (f : ∀ o, s.o = some o → n ≤ o) : TL hW n h s [] := ⟨[], rfl, o, f, fun i v T a => by simp at a⟩
theorem TL.ext {hW n h h' s Ts} (r : TL hW n h s Ts) (x : Ext h h') : TL hW n h' s Ts := by
  obtain ⟨vs, a, b, c, d⟩ := r
  exact ⟨vs, a, b.ext x, c, fun i v T p q => ⟨(d i v T p q).1.ext x, (d i v T p q).2⟩⟩
theorem TL.le {hW n m h s Ts} (r : TL hW n h s Ts) (hm : m ≤ n) : TL hW m h s Ts := by
  obtain ⟨vs, a, b, c, d⟩ := r
  exact ⟨vs, a, b, fun o e => Nat.le_trans hm (c o e), fun i v T p q => ⟨(d i v T p q).1.le hm, (d i v T p q).2⟩⟩
theorem mem_idx2 {α β : Type} {l : List α} {m : List β} (e : l.length = m.length) {i : Nat} {a : α} (h : l[i]? = some a) : ∃ b, m[i]? = some b :=
  ⟨m[i]'(by have := (List.getElem?_eq_some_iff.1 h).1; omega), List.getElem?_eq_getElem (by have := (List.getElem?_eq_some_iff.1 h).1; omega)⟩
theorem TL.cat {hW : H} {n m : Nat} {h h0 : H} {s t : Sl} {Ts Us : List (List (List Int))} (r0 : TL hW n h0 s Ts) (ex : Ext h0 h) (hm : h0.length ≤ m) (hn : n ≤ h0.length) (r2 : TL hW m h t Us) (hl : ((Ts.length + Us.length : Nat) : Int) ≤ lim)
    {K : Sl → H → Prop} (hk : ∀ s' h', TL hW n h' s' (Ts ++ Us) → But s.o h h' → K s' h') : Cl.app s t 1 h K := by
  have hs := r0.len
  have ht := r2.len
  obtain ⟨vs, a1, a2, a3, a4⟩ := r0
  obtain ⟨us, b1, b2, b3, b4⟩ := r2
  have hxl := ex.len
  refine app_ow (by omega) (a2.ext ex) b2.rd (by rw [hs, ht]; exact_mod_cast hl) fun s' h' o' ln b k1 k2 => ?_
  have hso : ∀ o, s'.o = some o → s.o = some o ∨ h.length ≤ o := fun o e => by
    cases hq : s.o with
    | none => exact .inr (k2 hq o e)
    | some p => rw [k1 p hq] at e; exact .inl e
  refine hk s' h' ⟨vs ++ us, by simp [a1, b1], by simpa using o', fun o e => ?_, fun i v T p q => ?_⟩ b
  · rcases hso o e with e | e
    · exact a3 o e
    · omega
  · have done : PV hW n h v T → (∀ o, v.o = some o → s.o ≠ some o) → PV hW n h' v T ∧ ∀ o, v.o = some o → s'.o ≠ some o := fun pv hne => by
      have hlt : ∀ o, v.o = some o → o < h.length := by obtain ⟨_, _, _, _, d⟩ := pv; exact fun o e => (d o e).2
      refine ⟨pv.chg (b.chg (P := fun o => s.o = some o) fun o e => e) fun o e f => hne o e f, fun o e e2 => ?_⟩
      rcases hso o e2 with e3 | e3
      · exact hne o e e3
      · have := hlt o e; omega
    rw [List.getElem?_append] at p
    split at p
    · next hi =>
      rw [List.getElem?_append_left (by omega)] at q
      exact done ((a4 i v T p q).1.ext ex) (a4 i v T p q).2
    · next hi =>
      rw [List.getElem?_append_right (by omega), ← a1] at q
      have c := b4 _ v T p q
      refine done (c.1.le (by omega)) fun o e e2 => ?_
      obtain ⟨_, _, _, _, d⟩ := c.1
      have := (d o e).1
      have := a2.lt e2
      omega
theorem take_piece {α β : Type} (l : List α) (f : α → List β) {i : Nat} (hi : i < l.length) : ((l.take i).flatMap f).length + (f l[i]).length ≤ (l.flatMap f).length := by
  have e : l = l.take i ++ (l[i] :: l.drop (i + 1)) := by rw [← List.drop_eq_getElem_cons hi, List.take_append_drop]
  have e2 : l.flatMap f = (l.take i).flatMap f ++ (f l[i] ++ (l.drop (i + 1)).flatMap f) := by
    conv => lhs; rw [e]
    rw [List.flatMap_append, List.flatMap_cons]
  rw [e2, List.length_append, List.length_append]; omega
theorem take_flat {α β : Type} (l : List α) (f : α → List β) {i : Nat} (hi : i < l.length) : (l.take (i + 1)).flatMap f = (l.take i).flatMap f ++ f l[i] := by
  rw [List.take_succ_eq_append_getElem hi, List.flatMap_append]; simp
section
variable {hW h0 : H} {c : Int} {s wq tq bq : Sl} {ts : List Tile} {W : Nat}
/-- A row more. -/
theorem PV.more {n : Nat} {h : H} {v : Sl} {T : List (List Int)} {u : Sl} {w : List Int} (r : PV hW n h v T) (ru : Rd hW u 1 (ic w)) {h' : H} {z : Sl} {us' : List AVal} (hz : Rd h' z 1 us')
    (hus : ∀ us : List Sl, Rd h v 1 (us.map .sl) → us.length = T.length → us' = us.map AVal.sl ++ [.sl u]) {m : Nat} (hm : ∀ o, z.o = some o → m ≤ o ∧ o < h'.length) : PV hW m h' z (T ++ [w]) := by
  obtain ⟨us, a, b, cc, d⟩ := r
  have := hus us cc a
  subst this
  refine ⟨us ++ [u], by simp [a], fun k u' w' p q => ?_, by simpa using hz, hm⟩
  rw [List.getElem?_append] at p q
  split at p
  · next hk => rw [if_pos (by omega)] at q; exact b k u' w' p q
  · next hk =>
    rw [if_neg (by omega)] at q
    have : k = us.length := by
      have := (List.getElem?_eq_some_iff.1 p).1
      simp at this; omega
    subst this
    simp [a] at p q
    subst p q
    exact ru
theorem allRec (rw0 : RdSS hW wq (words ts W)) (rt : Rd hW tq 1 (ic ((words ts W).map (cd c ts 1)))) (rb : Rd hW bq 1 (ic ((words ts W).map (cd c ts 3)))) (hN : ts.length ≤ 16) (hWW : W ≤ 3) : ∀ (m : Nat) (x nd : Int) (n : Nat) (v : Sl) (T : List (List Int)) (h : H), m ≤ 3 → T ≠ [] → T.length + m ≤ 3 →
    PV hW n h v T → Ext hW h → n ≤ h.length → (seqs c ts W m nd x).length ≤ 4000 →
    callS SP i_spec_l05All [.agg (SetC c s), .sl wq, .sl tq, .sl bq, .sl v, i64 x, i64 nd, i64 m] h fun u h' => TL hW n h' u ((seqs c ts W m nd x).map (T ++ ·)) ∧ Ext h h'
  | 0, x, nd, n, v, T, h, hm, hT, hT3, pv, e, hn, hlen => by
    apply spec_l05All_call
    unfold spec_l05All_main
    refine newK_obj fun h1 o1 x1 l1 => ?_
    refine bif_eq (fun _ => ?_) (fun hne => absurd rfl hne)
    refine bif_eq (fun hq => ?_) (fun hq => ?_)
    · refine newS_ow (by rfl) fun z h2 oz lz zo e2 => ⟨_, rfl, ?_, x1.trans (by rw [e2]; exact Ext.app _ _)⟩
      have x2 : Ext h1 h2 := by rw [e2]; exact Ext.app _ _
      rw [seqs, sel_yes hq]
      refine ⟨[v], rfl, oz, fun o e => by rw [zo] at e; cases e; omega, fun i v' T' p q => ?_⟩
      have : i = 0 := by have := (List.getElem?_eq_some_iff.1 p).1; simpa using this
      subst this
      simp at p q
      subst p q
      refine ⟨pv.ext (x1.trans x2), fun o e e2 => ?_⟩
      obtain ⟨_, _, _, _, d⟩ := pv
      have := (d o e).2
      rw [zo] at e2
      have := Option.some.inj e2
      omega
    · refine newS_ow (by rfl) fun z h2 oz lz zo e2 => ⟨_, rfl, ?_, x1.trans (by rw [e2]; exact Ext.app _ _)⟩
      rw [seqs, sel_no hq]
      exact TL.nil oz fun o e => by rw [zo] at e; cases e; omega
  | m + 1, x, nd, n, v, T, h, hm, hT, hT3, pv, e, hn, hlen => by
    have hwl : (words ts W).length ≤ 4096 := rounds_small hN hWW ([] : List Int)
    have hql := rw0.len
    have hTl : 0 < T.length := List.length_pos_iff.2 hT
    have hvl : v.len = T.length := (pv.rd e).len
    apply spec_l05All_call
    unfold spec_l05All_main
    refine newK_obj fun h1 o1 x1 l1 => ?_
    refine bif_eq (fun hz => by omega) (fun _ => ?_)
    refine newS_ow (by rfl) fun z h2 oz lz zo e2 => ?_
    have x2 : Ext h1 h2 := by rw [e2]; exact Ext.app _ _
    have l2 : h2.length = h1.length + 1 := by rw [e2]; simp
    generalize hpc : (fun w : List Int => sel (cd c ts 1 w = nd) ((seqs c ts W m (cd c ts 3 w) x).map fun r => T ++ (w :: r)) []) = pc
    have hall : (seqs c ts W (m + 1) nd x).map (T ++ ·) = (words ts W).flatMap pc := by
      rw [seqs, List.map_flatMap, ← hpc]
      exact flatMap_congr' fun w _ => by rw [sel_map, List.map_map]; rfl
    have hlen2 : ((words ts W).flatMap pc).length ≤ 4000 := by rw [← hall, List.length_map]; exact hlen
    rw [hall]
    refine spec_l05All_rule0 _ _ _ _ _ _ _ _ _ _ (fun u i g => 0 ≤ i ∧ i ≤ (words ts W).length ∧ Ext h1 g ∧ h2.length ≤ g.length ∧ TL hW h1.length g u (((words ts W).take i.toNat).flatMap pc)) (fun _ i _ => ((words ts W).length - i).toNat) ?_ _ _ ⟨by omega, by omega, x2, Nat.le_refl _, TL.nil oz fun o e => by rw [zo] at e; cases e; exact Nat.le_refl _⟩
    rintro X u i g ⟨i0, i1, eg, lg, tl⟩ hX
    have EG := x1.trans eg
    unfold spec_l05All_b0 spec_l05All_C0
    refine bif_dec (fun hi => ?_) (fun hi => ?_)
    rotate_left
    · rw [show i.toNat = (words ts W).length by omega, List.take_length] at tl
      exact ⟨_, rfl, tl.le (by omega), EG⟩
    obtain ⟨k, rfl⟩ : ∃ k : Nat, i = k := ⟨i.toNat, by omega⟩
    rw [Int.toNat_natCast] at tl
    have hk : k < (words ts W).length := by omega
    have hpk : pc (words ts W)[k] = sel (cd c ts 1 (words ts W)[k] = nd) ((seqs c ts W m (cd c ts 3 (words ts W)[k]) x).map fun r => T ++ ((words ts W)[k] :: r)) [] := by rw [← hpc]
    have htp := take_piece (words ts W) pc hk
    have next : ∀ (u' : Sl) g', Ext h1 g' → h2.length ≤ g'.length → TL hW h1.length g' u' (((words ts W).take k).flatMap pc ++ pc (words ts W)[k]) → X (spec_l05All_e0 wq tq bq v x nd ((m + 1 : Nat) : Int) ⟨some h.length, 2, 0⟩ u' (w64 ((k : Int) + 1))) g' := fun u' g' q1 q2 q3 => by
      rw [w64_of (by omega) (by omega)]
      refine hX _ _ _ ⟨by omega, by omega, q1, q2, ?_⟩ (by omega)
      rw [show ((k : Int) + 1).toNat = k + 1 by omega, take_flat _ _ hk]
      exact q3
    have hrow : rw_ (words ts W) k = (words ts W)[k] := by unfold rw_; rw [List.getD_eq_getElem?_getD, List.getElem?_eq_getElem hk]; rfl
    have htg := rt.ext (e.trans EG)
    refine bif_eq (fun hz => by omega) (fun _ => ?_)
    refine htg.ldG (by omega) (by rw [List.length_map]; omega) ?_
    rw [Int.toNat_natCast, mapG hk]
    refine bif_eq (fun hq => ?_) (fun hq => ?_)
    rotate_left
    · refine next _ _ eg lg ?_
      rw [hpk, sel_no hq, List.append_nil]
      exact tl
    refine slotK_in fun ga xa la => ?_
    have oA := o1.ext (eg.trans xa)
    have EA := EG.trans xa
    have oG := o1.ext eg
    have hog := oG.lt
    refine oA.ldA rfl ?_
    refine rw0.ixC (by omega) (by omega) fun p17 w17 c17 r17 l17 => ⟨w17, (e.trans EA).cell c17, ?_⟩
    rw [Int.toNat_natCast, hrow] at r17
    refine rb.ixC (by omega) (by rw [List.length_map]; omega) fun p19 c19 => ?_
    rw [Int.toNat_natCast, mapG hk] at c19
    refine ⟨_, (e.trans EA).cell c19, ?_⟩
    have rng : ∀ {hh : H}, Ext ga hh → Cl.range hh (some h.length) 2 0 2 = Cl.range ga (some h.length) 2 0 2 := fun q => oA.stays rfl q
    have wl := (e.trans EG).len
    have hWl : hW.length ≤ g.length := wl
    -- the changes are to new objects only
    have cel : ∀ {hh : H} {p : Pt} {val : AVal}, Ext hW hh → cell hW p = some val → cell hh p = cell ga p := fun q cc => by rw [q.cell cc, (e.trans EA).cell cc]
    refine newSat_ow (by omega) (by rfl) fun s21 g22 o21 l21 n21 b22 t22 => ?_
    have E22 : Ext g g22 := xa.but_ b22 (some_le (by omega))
    have rng2 : ∀ {hh : H}, Ext g hh → Cl.range hh (some h.length) 2 0 2 = Cl.range ga (some h.length) 2 0 2 := fun q => by
      have a1 := (oG.ext q).rangeE (n := 2) rfl
      have a2 := oA.rangeE (n := 2) rfl
      rw [a1, a2]
    have W22 := (e.trans EG).trans E22
    refine ⟨cel W22 c19, cel W22 c17, rng2 E22, ?_⟩
    have pvg : PV hW n g v T := pv.ext EG
    have pv22 : PV hW n g22 v T := pvg.ext E22
    obtain ⟨us, q1, q2, q3, q4⟩ := pv22
    refine app_ow (cs := []) (by omega) o21 q3 (by rw [l21, hvl]; unfold lim; omega) fun s23 g24 o23 l23 b24 k1 k2 => ?_
    have n23 : s23.o = some (g.length + 5) := k1 _ n21
    have E24 : Ext g g24 := E22.but_ b24 (fun o e => by rw [n21] at e; cases e; omega)
    have W24 := (e.trans EG).trans E24
    have l24 := b24.1
    refine ⟨cel W24 c19, cel W24 c17, rng2 E24, ?_⟩
    refine newSat_ow (by omega) (by rfl) fun s25 g26 o25 l25 n25 b26 t26 => ?_
    have E26 : Ext g g26 := E24.but_ b26 (some_le (by omega))
    have W26 := (e.trans EG).trans E26
    refine ⟨cel W26 c19, rng2 E26, ?_⟩
    rw [List.nil_append] at o23
    have o23' : Ow g26 s23 1 (us.map .sl) := o23.but b26 (.inl (by rw [n23]; intro e; have := Option.some.inj e; omega))
    have hs23 : s23.len = T.length := by have := o23'.len; simp at this; omega
    refine app_ow (by omega) o23' o25.rd (by rw [hs23, l25]; unfold lim; omega) fun s27 g28 o27 l27 b28 k3 k4 => ?_
    have n27 : s27.o = some (g.length + 5) := k3 _ n23
    have E28 : Ext g g28 := E26.but_ b28 (fun o e => by rw [n23] at e; cases e; omega)
    have W28 := (e.trans EG).trans E28
    have l28 := b28.1
    refine ⟨cel W28 c19, rng2 E28, ?_⟩
    have pv28 : PV hW g.length g28 s27 (T ++ [(words ts W)[k]]) := by
      refine ⟨us ++ [w17], by simp [q1], fun j u' w' p q => ?_, by simpa using o27.rd, fun o e => by rw [n27] at e; cases e; omega⟩
      rw [List.getElem?_append] at p q
      split at p
      · next hj => rw [if_pos (by omega)] at q; exact q2 j u' w' p q
      · next hj =>
        rw [if_neg (by omega)] at q
        have : j = us.length := by
          have := (List.getElem?_eq_some_iff.1 p).1
          simp at this; omega
        subst this
        simp [q1] at p q
        subst p q
        exact r17
    rw [w64_of (by omega) (by omega), show ((m + 1 : Nat) : Int) - 1 = (m : Int) by omega]
    have hple : (pc (words ts W)[k]).length ≤ 4000 := by omega
    rw [hpk, sel_yes hq, List.length_map] at hple
    refine (allRec rw0 rt rb hN hWW m x (cd c ts 3 (words ts W)[k]) g.length s27 (T ++ [(words ts W)[k]]) g28 (by omega) (by simp) (by simp; omega) pv28 W28 E28.len hple).to ?_
    rintro t g31 ⟨tt, x31⟩
    have hpieces : (seqs c ts W m (cd c ts 3 (words ts W)[k]) x).map (T ++ [(words ts W)[k]] ++ ·) = pc (words ts W)[k] := by
      rw [hpk, sel_yes hq]
      exact List.map_congr_left fun r _ => by simp
    rw [hpieces] at tt
    have hsl : ∀ o, u.o = some o → h1.length ≤ o := by obtain ⟨_, _, _, d, _⟩ := tl; exact d
    refine TL.cat tl (E28.trans x31) (Nat.le_refl _) (by omega) tt (by unfold lim; omega) fun u' g32 tn bn => ?_
    have x31l := x31.len
    have := bn.1
    exact next _ _ ((eg.trans (E28.trans x31)).but_ bn hsl) (by omega) tn
theorem allTop (rw0 : RdSS hW wq (words ts W)) (rt : Rd hW tq 1 (ic ((words ts W).map (cd c ts 1)))) (rb : Rd hW bq 1 (ic ((words ts W).map (cd c ts 3)))) (hN : ts.length ≤ 16) (hWW : W ≤ 3) {x nd : Int} {n H_ : Nat} {v : Sl} {h : H} (hH : 1 ≤ H_ ∧ H_ ≤ 3) (hv : v.len = 0)
    (e : Ext hW h) (hn : n ≤ h.length) (hlen : (toriL c ts W H_).length ≤ 4000) :
    callS SP i_spec_l05All [.agg (SetC c s), .sl wq, .sl tq, .sl bq, .sl v, i64 x, i64 nd, i64 H_] h fun u h' => TL hW n h' u (toriL c ts W H_) ∧ Ext h h' := by
  have hwl : (words ts W).length ≤ 4096 := rounds_small hN hWW ([] : List Int)
  have hql := rw0.len
  apply spec_l05All_call
  unfold spec_l05All_main
  refine newK_obj fun h1 o1 x1 l1 => ?_
  refine bif_eq (fun hz => by omega) (fun _ => ?_)
  refine newS_ow (by rfl) fun z h2 oz lz zo e2 => ?_
  have x2 : Ext h1 h2 := by rw [e2]; exact Ext.app _ _
  generalize hpc : (fun w : List Int => (seqs c ts W (H_ - 1) (cd c ts 3 w) (cd c ts 1 w)).map (w :: ·)) = pc
  have hall : toriL c ts W H_ = (words ts W).flatMap pc := by rw [← hpc]; rfl
  rw [hall] at hlen ⊢
  refine spec_l05All_rule0 _ _ _ _ _ _ _ _ _ _ (fun u i g => 0 ≤ i ∧ i ≤ (words ts W).length ∧ Ext h1 g ∧ TL hW h1.length g u (((words ts W).take i.toNat).flatMap pc)) (fun _ i _ => ((words ts W).length - i).toNat) ?_ _ _ ⟨by omega, by omega, x2, TL.nil oz fun o e => by rw [zo] at e; cases e; exact Nat.le_refl _⟩
  rintro X u i g ⟨i0, i1, eg, tl⟩ hX
  have EG := x1.trans eg
  unfold spec_l05All_b0 spec_l05All_C0
  refine bif_dec (fun hi => ?_) (fun hi => ?_)
  rotate_left
  · rw [show i.toNat = (words ts W).length by omega, List.take_length] at tl
    exact ⟨_, rfl, tl.le (by omega), EG⟩
  obtain ⟨k, rfl⟩ : ∃ k : Nat, i = k := ⟨i.toNat, by omega⟩
  rw [Int.toNat_natCast] at tl
  have hk : k < (words ts W).length := by omega
  have hpk : pc (words ts W)[k] = (seqs c ts W (H_ - 1) (cd c ts 3 (words ts W)[k]) (cd c ts 1 (words ts W)[k])).map ((words ts W)[k] :: ·) := by rw [← hpc]
  have htp := take_piece (words ts W) pc hk
  have hrow : rw_ (words ts W) k = (words ts W)[k] := by unfold rw_; rw [List.getD_eq_getElem?_getD, List.getElem?_eq_getElem hk]; rfl
  refine bif_eq (fun _ => ?_) (fun hz => absurd (by omega) hz)
  have oG := o1.ext eg
  have hgl := eg.len
  refine oG.ldA rfl ?_
  refine rw0.ixC (by omega) (by omega) fun p1 w1 c1 r1 l1' => ⟨w1, (e.trans EG).cell c1, ?_⟩
  rw [Int.toNat_natCast, hrow] at r1
  refine newS_ow (by rfl) fun s3 g4 o3 l3 n3 e4 => ?_
  have x4 : Ext g g4 := by rw [e4]; exact Ext.app _ _
  have l4 : g4.length = g.length + 1 := by rw [e4]; simp
  have W4 := (e.trans EG).trans x4
  refine ⟨oG.stays rfl x4, ?_⟩
  refine rt.ixC (by omega) (by rw [List.length_map]; omega) fun p5 c5 => ?_
  rw [Int.toNat_natCast, mapG hk] at c5
  refine ⟨_, W4.cell c5, by rw [W4.cell c5, (e.trans EG).cell c5], ?_⟩
  refine rb.ixC (by omega) (by rw [List.length_map]; omega) fun p7 c7 => ?_
  rw [Int.toNat_natCast, mapG hk] at c7
  refine ⟨_, W4.cell c7, by rw [W4.cell c7, (e.trans EG).cell c7], ?_⟩
  rw [w64_of (by omega) (by omega), show (H_ : Int) - 1 = ((H_ - 1 : Nat) : Int) by omega]
  have pv4 : PV hW g.length g4 s3 [(words ts W)[k]] := by
    refine ⟨[w1], rfl, fun j u' w' p q => ?_, o3.rd, fun o e => by rw [n3] at e; cases e; omega⟩
    have : j = 0 := by have := (List.getElem?_eq_some_iff.1 p).1; simpa using this
    subst this
    simp at p q
    subst p q
    exact r1
  have hple : (pc (words ts W)[k]).length ≤ 4000 := by omega
  rw [hpk, List.length_map] at hple
  refine (allRec rw0 rt rb hN hWW (H_ - 1) (cd c ts 1 (words ts W)[k]) (cd c ts 3 (words ts W)[k]) g.length s3 [(words ts W)[k]] g4 (by omega) (by simp) (by simp; omega) pv4 W4 (by omega) hple).to ?_
  rintro t g9 ⟨tt, x9⟩
  have hpieces : (seqs c ts W (H_ - 1) (cd c ts 3 (words ts W)[k]) (cd c ts 1 (words ts W)[k])).map ([(words ts W)[k]] ++ ·) = pc (words ts W)[k] := by rw [hpk]; rfl
  rw [hpieces] at tt
  have hsl : ∀ o, u.o = some o → h1.length ≤ o := by obtain ⟨_, _, _, d, _⟩ := tl; exact d
  refine TL.cat tl (x4.trans x9) (Nat.le_refl _) hgl tt (by unfold lim; omega) fun u' g12 tn bn => ?_
  rw [w64_of (by omega) (by omega)]
  refine hX _ _ _ ⟨by omega, by omega, (eg.trans (x4.trans x9)).but_ bn hsl, ?_⟩ (by omega)
  rw [show ((k : Int) + 1).toNat = k + 1 by omega, take_flat _ _ hk]
  exact tn
end
end Go.Proofs.Ytfmjjpophipfbaa.Cl
