/- Contracts of functions, joined. No claim is stated here. -/
import Derived.Test.YtcoampecbpiecaaGreatFb1
/- All tori as a list, and how many forms they have. No claim is stated here. -/
set_option linter.unusedVariables false
set_option linter.unusedSimpArgs false
namespace Go.Proofs.YtcoampecbpiecaaGreat.Cl
open Go
/-! ### slices of rows that share their words -/
def PV (hW : H) (n : Nat) (h : H) (v : Sl) (T : List (List Int)) : Prop :=
  ∃ us : List Sl, us.length = T.length ∧ (∀ (k : Nat) u w, us[k]? = some u → T[k]? = some w → Rd hW u 1 (ic w)) ∧ Rd h v 1 (us.map .sl) ∧ ∀ o, v.o = some o → n ≤ o ∧ o < h.length
theorem PV.rd {hW n h v T} (r : PV hW n h v T) (x : Ext hW h) : RdSS h v T := by
  obtain ⟨us, a, b, c, _⟩ := r
  exact ⟨us, a, c, fun k u w p q => (b k u w p q).ext x⟩
theorem PV.chg {P : Nat → Prop} {hW n h h' v T} (r : PV hW n h v T) (x : Chg P h h') (hn : ∀ o, v.o = some o → ¬ P o) : PV hW n h' v T := by
  obtain ⟨us, a, b, c, d⟩ := r
  exact ⟨us, a, b, c.chg x hn, fun o e => ⟨(d o e).1, Nat.lt_of_lt_of_le (d o e).2 x.1⟩⟩
theorem PV.ext {hW n h h' v T} (r : PV hW n h v T) (x : Ext h h') : PV hW n h' v T := r.chg (x.chg fun _ => False) fun _ _ f => f
theorem PV.le {hW n m h v T} (r : PV hW n h v T) (hm : m ≤ n) : PV hW m h v T := by
  obtain ⟨us, a, b, c, d⟩ := r
  exact ⟨us, a, b, c, fun o e => ⟨Nat.le_trans hm (d o e).1, (d o e).2⟩⟩
def TL (hW : H) (n : Nat) (h : H) (s : Sl) (Ts : List (List (List Int))) : Prop :=
  ∃ vs : List Sl, vs.length = Ts.length ∧ Ow h s 1 (vs.map .sl) ∧ (∀ o, s.o = some o → n ≤ o) ∧ ∀ (i : Nat) v T, vs[i]? = some v → Ts[i]? = some T → PV hW n h v T ∧ ∀ o, v.o = some o → s.o ≠ some o
theorem TL.len {hW n h s Ts} (r : TL hW n h s Ts) : s.len = Ts.length := by
  obtain ⟨vs, a, b, _⟩ := r
  have := b.len; simp at this; omega
theorem TL.nil {hW n h s} (o : Ow h s 1 []) (f : ∀ o, s.o = some o → n ≤ o) : TL hW n h s [] := ⟨[], rfl, o, f, fun i v T a => by simp at a⟩
theorem TL.ext {hW n h h' s Ts} (r : TL hW n h s Ts) (x : Ext h h') : TL hW n h' s Ts := by
  obtain ⟨vs, a, b, c, d⟩ := r
  exact ⟨vs, a, b.ext x, c, fun i v T p q => ⟨(d i v T p q).1.ext x, (d i v T p q).2⟩⟩
theorem TL.le {hW n m h s Ts} (r : TL hW n h s Ts) (hm : m ≤ n) : TL hW m h s Ts := by
  obtain ⟨vs, a, b, c, d⟩ := r
  exact ⟨vs, a, b, fun o e => Nat.le_trans hm (c o e), fun i v T p q => ⟨(d i v T p q).1.le hm, (d i v T p q).2⟩⟩
theorem TL.cat {hW : H} {n m : Nat} {h h0 : H} {s t : Sl} {Ts Us : List (List (List Int))} (r0 : TL hW n h0 s Ts) (ex : Ext h0 h) (hm : h0.length ≤ m) (hn : n ≤ h0.length) (r2 : TL hW m h t Us) (hl : ((Ts.length + Us.length : Nat) : Int) ≤ lim)
    {K : Sl → H → Prop} (hk : ∀ s' h', TL hW n h' s' (Ts ++ Us) → But s.o h h' → K s' h') : Cl.app s t 1 h K := by
  have hs := r0.len
  have ht := r2.len
  obtain ⟨vs, a1, a2, a3, a4⟩ := r0
  obtain ⟨us, b1, b2, b3, b4⟩ := r2
  have hxl := ex.len
  refine app_ow (by omega) (a2.ext ex) b2.rd (by rw [hs, ht]; exact_mod_cast hl) fun s' h' o' ln b k1 k2 => ?_
  have hso : ∀ o, s'.o = some o → s.o = some o ∨ h.length ≤ o := fun o e => by
    cases hq : s.o with
    | none => exact .inr (k2 hq o e)
    | some p => rw [k1 p hq] at e; exact .inl e
  refine hk s' h' ⟨vs ++ us, by simp [a1, b1], by simpa using o', fun o e => ?_, fun i v T p q => ?_⟩ b
  · rcases hso o e with e | e
    · exact a3 o e
    · omega
  · have done : PV hW n h v T → (∀ o, v.o = some o → s.o ≠ some o) → PV hW n h' v T ∧ ∀ o, v.o = some o → s'.o ≠ some o := fun pv hne => by
      have hlt : ∀ o, v.o = some o → o < h.length := by obtain ⟨_, _, _, _, d⟩ := pv; exact fun o e => (d o e).2
      refine ⟨pv.chg (b.chg (P := fun o => s.o = some o) fun o e => e) fun o e f => hne o e f, fun o e e2 => ?_⟩
      rcases hso o e2 with e3 | e3
      · exact hne o e e3
      · have := hlt o e; omega
    rw [List.getElem?_append] at p
    split at p
    · next hi =>
      rw [List.getElem?_append_left (by omega)] at q
      exact done ((a4 i v T p q).1.ext ex) (a4 i v T p q).2
    · next hi =>
      rw [List.getElem?_append_right (by omega), ← a1] at q
      have c := b4 _ v T p q
      refine done (c.1.le (by omega)) fun o e e2 => ?_
      obtain ⟨_, _, _, _, d⟩ := c.1
      have := (d o e).1
      have := a2.lt e2
      omega
theorem take_piece {α β : Type} (l : List α) (f : α → List β) {i : Nat} (hi : i < l.length) : ((l.take i).flatMap f).length + (f l[i]).length ≤ (l.flatMap f).length := by
  have e : l = l.take i ++ (l[i] :: l.drop (i + 1)) := by rw [← List.drop_eq_getElem_cons hi, List.take_append_drop]
  have e2 : l.flatMap f = (l.take i).flatMap f ++ (f l[i] ++ (l.drop (i + 1)).flatMap f) := by
    conv => lhs; rw [e]
    rw [List.flatMap_append, List.flatMap_cons]
  rw [e2, List.length_append, List.length_append]; omega
theorem take_flat {α β : Type} (l : List α) (f : α → List β) {i : Nat} (hi : i < l.length) : (l.take (i + 1)).flatMap f = (l.take i).flatMap f ++ f l[i] := by
  rw [List.take_succ_eq_append_getElem hi, List.flatMap_append]; simp
section
variable {hW h0 : H} {c : Int} {s wq tq bq : Sl} {ts : List Tile} {W : Nat}
/-- A row more. -/
theorem PV.more {n : Nat} {h : H} {v : Sl} {T : List (List Int)} {u : Sl} {w : List Int} (r : PV hW n h v T) (ru : Rd hW u 1 (ic w)) {h' : H} {z : Sl} {us' : List AVal} (hz : Rd h' z 1 us')
    (hus : ∀ us : List Sl, Rd h v 1 (us.map .sl) → us.length = T.length → us' = us.map AVal.sl ++ [.sl u]) {m : Nat} (hm : ∀ o, z.o = some o → m ≤ o ∧ o < h'.length) : PV hW m h' z (T ++ [w]) := by
  obtain ⟨us, a, b, cc, d⟩ := r
  have := hus us cc a
  subst this
  refine ⟨us ++ [u], by simp [a], fun k u' w' p q => ?_, by simpa using hz, hm⟩
  rw [List.getElem?_append] at p q
  split at p
  · next hk => rw [if_pos (by omega)] at q; exact b k u' w' p q
  · next hk =>
    rw [if_neg (by omega)] at q
    have : k = us.length := by
      have := (List.getElem?_eq_some_iff.1 p).1
      simp at this; omega
    subst this
    simp [a] at p q
    subst p q
    exact ru
theorem allRec (rw0 : RdSS hW wq (words ts W)) (rt : Rd hW tq 1 (ic ((words ts W).map (cd c ts 1)))) (rb : Rd hW bq 1 (ic ((words ts W).map (cd c ts 3)))) (hN : ts.length ≤ 16) (hWW : W ≤ 3) : ∀ (m : Nat) (x nd : Int) (n : Nat) (v : Sl) (T : List (List Int)) (h : H), m ≤ 3 → T ≠ [] → T.length + m ≤ 3 →
    PV hW n h v T → Ext hW h → n ≤ h.length → (seqs c ts W m nd x).length ≤ 4000 →
    callS SP i_spec_l05All [.agg (SetC c s), .sl wq, .sl tq, .sl bq, .sl v, i64 x, i64 nd, i64 m] h fun u h' => TL hW n h' u ((seqs c ts W m nd x).map (T ++ ·)) ∧ Ext h h'
  | 0, x, nd, n, v, T, h, hm, hT, hT3, pv, e, hn, hlen => by
    apply spec_l05All_call
    unfold spec_l05All_main
    refine newK_obj fun h1 o1 x1 l1 => ?_
    refine bif_eq (fun _ => ?_) (fun hne => absurd rfl hne)
    refine bif_eq (fun hq => ?_) (fun hq => ?_)
    · refine newS_ow (by rfl) fun z h2 oz lz zo e2 => ⟨_, rfl, ?_, x1.trans (by rw [e2]; exact Ext.app _ _)⟩
      have x2 : Ext h1 h2 := by rw [e2]; exact Ext.app _ _
      rw [seqs, sel_yes hq]
      refine ⟨[v], rfl, oz, fun o e => by rw [zo] at e; cases e; omega, fun i v' T' p q => ?_⟩
      have : i = 0 := by have := (List.getElem?_eq_some_iff.1 p).1; simpa using this
      subst this
      simp at p q
      subst p q
      refine ⟨pv.ext (x1.trans x2), fun o e e2 => ?_⟩
      obtain ⟨_, _, _, _, d⟩ := pv
      have := (d o e).2
      rw [zo] at e2
      have := Option.some.inj e2
      omega
    · refine newS_ow (by rfl) fun z h2 oz lz zo e2 => ⟨_, rfl, ?_, x1.trans (by rw [e2]; exact Ext.app _ _)⟩
      rw [seqs, sel_no hq]
      exact TL.nil oz fun o e => by rw [zo] at e; cases e; omega
  | m + 1, x, nd, n, v, T, h, hm, hT, hT3, pv, e, hn, hlen => by
    have hwl : (words ts W).length ≤ 4096 := rounds_small hN hWW ([] : List Int)
    have hql := rw0.len
    have hTl : 0 < T.length := List.length_pos_iff.2 hT
    have hvl : v.len = T.length := (pv.rd e).len
    apply spec_l05All_call
    unfold spec_l05All_main
    refine newK_obj fun h1 o1 x1 l1 => ?_
    refine bif_eq (fun hz => by omega) (fun _ => ?_)
    refine newS_ow (by rfl) fun z h2 oz lz zo e2 => ?_
    have x2 : Ext h1 h2 := by rw [e2]; exact Ext.app _ _
    have l2 : h2.length = h1.length + 1 := by rw [e2]; simp
    generalize hpc : (fun w : List Int => sel (cd c ts 1 w = nd) ((seqs c ts W m (cd c ts 3 w) x).map fun r => T ++ (w :: r)) []) = pc
    have hall : (seqs c ts W (m + 1) nd x).map (T ++ ·) = (words ts W).flatMap pc := by
      rw [seqs, List.map_flatMap, ← hpc]
      exact flatMap_congr' fun w _ => by rw [sel_map, List.map_map]; rfl
    have hlen2 : ((words ts W).flatMap pc).length ≤ 4000 := by rw [← hall, List.length_map]; exact hlen
    rw [hall]
    refine spec_l05All_rule0 _ _ _ _ _ _ _ _ _ _ (fun u i g => 0 ≤ i ∧ i ≤ (words ts W).length ∧ Ext h1 g ∧ h2.length ≤ g.length ∧ TL hW h1.length g u (((words ts W).take i.toNat).flatMap pc)) (fun _ i _ => ((words ts W).length - i).toNat) ?_ _ _ ⟨by omega, by omega, x2, Nat.le_refl _, TL.nil oz fun o e => by rw [zo] at e; cases e; exact Nat.le_refl _⟩
    rintro X u i g ⟨i0, i1, eg, lg, tl⟩ hX
    have EG := x1.trans eg
    unfold spec_l05All_b0 spec_l05All_C0
    refine bif_dec (fun hi => ?_) (fun hi => ?_)
    rotate_left
    · rw [show i.toNat = (words ts W).length by omega, List.take_length] at tl
      exact ⟨_, rfl, tl.le (by omega), EG⟩
    obtain ⟨k, rfl⟩ : ∃ k : Nat, i = k := ⟨i.toNat, by omega⟩
    rw [Int.toNat_natCast] at tl
    have hk : k < (words ts W).length := by omega
    have hpk : pc (words ts W)[k] = sel (cd c ts 1 (words ts W)[k] = nd) ((seqs c ts W m (cd c ts 3 (words ts W)[k]) x).map fun r => T ++ ((words ts W)[k] :: r)) [] := by rw [← hpc]
    have htp := take_piece (words ts W) pc hk
    have next : ∀ (u' : Sl) g', Ext h1 g' → h2.length ≤ g'.length → TL hW h1.length g' u' (((words ts W).take k).flatMap pc ++ pc (words ts W)[k]) → X (spec_l05All_e0 wq tq bq v x nd ((m + 1 : Nat) : Int) ⟨some h.length, 2, 0⟩ u' (w64 ((k : Int) + 1))) g' := fun u' g' q1 q2 q3 => by
      rw [w64_of (by omega) (by omega)]
      refine hX _ _ _ ⟨by omega, by omega, q1, q2, ?_⟩ (by omega)
      rw [show ((k : Int) + 1).toNat = k + 1 by omega, take_flat _ _ hk]
      exact q3
    have hrow : rw_ (words ts W) k = (words ts W)[k] := by unfold rw_; rw [List.getD_eq_getElem?_getD, List.getElem?_eq_getElem hk]; rfl
    have htg := rt.ext (e.trans EG)
    refine bif_eq (fun hz => by omega) (fun _ => ?_)
    refine htg.ldG (by omega) (by rw [List.length_map]; omega) ?_
    rw [Int.toNat_natCast, mapG hk]
    refine bif_eq (fun hq => ?_) (fun hq => ?_)
    rotate_left
    · refine next _ _ eg lg ?_
      rw [hpk, sel_no hq, List.append_nil]
      exact tl
    refine slotK_in fun ga xa la => ?_
    have oA := o1.ext (eg.trans xa)
    have EA := EG.trans xa
    have oG := o1.ext eg
    have hog := oG.lt
    refine oA.ldA rfl ?_
    refine rw0.ixC (by omega) (by omega) fun p17 w17 c17 r17 l17 => ⟨w17, (e.trans EA).cell c17, ?_⟩
    rw [Int.toNat_natCast, hrow] at r17
    refine rb.ixC (by omega) (by rw [List.length_map]; omega) fun p19 c19 => ?_
    rw [Int.toNat_natCast, mapG hk] at c19
    refine ⟨_, (e.trans EA).cell c19, ?_⟩
    have rng : ∀ {hh : H}, Ext ga hh → Cl.range hh (some h.length) 2 0 2 = Cl.range ga (some h.length) 2 0 2 := fun q => oA.stays rfl q
    have wl := (e.trans EG).len
    have hWl : hW.length ≤ g.length := wl
    -- the changes are to new objects only
    have cel : ∀ {hh : H} {p : Pt} {val : AVal}, Ext hW hh → cell hW p = some val → cell hh p = cell ga p := fun q cc => by rw [q.cell cc, (e.trans EA).cell cc]
    refine newSat_ow (by omega) (by rfl) fun s21 g22 o21 l21 n21 b22 t22 => ?_
    have E22 : Ext g g22 := xa.but_ b22 (some_le (by omega))
    have rng2 : ∀ {hh : H}, Ext g hh → Cl.range hh (some h.length) 2 0 2 = Cl.range ga (some h.length) 2 0 2 := fun q => by
      have a1 := (oG.ext q).rangeE (n := 2) rfl
      have a2 := oA.rangeE (n := 2) rfl
      rw [a1, a2]
    have W22 := (e.trans EG).trans E22
    refine ⟨cel W22 c19, cel W22 c17, rng2 E22, ?_⟩
    have pvg : PV hW n g v T := pv.ext EG
    have pv22 : PV hW n g22 v T := pvg.ext E22
    obtain ⟨us, q1, q2, q3, q4⟩ := pv22
    refine app_ow (cs := []) (by omega) o21 q3 (by rw [l21, hvl]; unfold lim; omega) fun s23 g24 o23 l23 b24 k1 k2 => ?_
    have n23 : s23.o = some (g.length + 5) := k1 _ n21
    have E24 : Ext g g24 := E22.but_ b24 (fun o e => by rw [n21] at e; cases e; omega)
    have W24 := (e.trans EG).trans E24
    have l24 := b24.1
    refine ⟨cel W24 c19, cel W24 c17, rng2 E24, ?_⟩
    refine newSat_ow (by omega) (by rfl) fun s25 g26 o25 l25 n25 b26 t26 => ?_
    have E26 : Ext g g26 := E24.but_ b26 (some_le (by omega))
    have W26 := (e.trans EG).trans E26
    refine ⟨cel W26 c19, rng2 E26, ?_⟩
    rw [List.nil_append] at o23
    have o23' : Ow g26 s23 1 (us.map .sl) := o23.but b26 (.inl (by rw [n23]; intro e; have := Option.some.inj e; omega))
    have hs23 : s23.len = T.length := by have := o23'.len; simp at this; omega
    refine app_ow (by omega) o23' o25.rd (by rw [hs23, l25]; unfold lim; omega) fun s27 g28 o27 l27 b28 k3 k4 => ?_
    have n27 : s27.o = some (g.length + 5) := k3 _ n23
    have E28 : Ext g g28 := E26.but_ b28 (fun o e => by rw [n23] at e; cases e; omega)
    have W28 := (e.trans EG).trans E28
    have l28 := b28.1
    refine ⟨cel W28 c19, rng2 E28, ?_⟩
    have pv28 : PV hW g.length g28 s27 (T ++ [(words ts W)[k]]) := by
      refine ⟨us ++ [w17], by simp [q1], fun j u' w' p q => ?_, by simpa using o27.rd, fun o e => by rw [n27] at e; cases e; omega⟩
      rw [List.getElem?_append] at p q
      split at p
      · next hj => rw [if_pos (by omega)] at q; exact q2 j u' w' p q
      · next hj =>
        rw [if_neg (by omega)] at q
        have : j = us.length := by
          have := (List.getElem?_eq_some_iff.1 p).1
          simp at this; omega
        subst this
        simp [q1] at p q
        subst p q
        exact r17
    rw [w64_of (by omega) (by omega), show ((m + 1 : Nat) : Int) - 1 = (m : Int) by omega]
    have hple : (pc (words ts W)[k]).length ≤ 4000 := by omega
    rw [hpk, sel_yes hq, List.length_map] at hple
    refine (allRec rw0 rt rb hN hWW m x (cd c ts 3 (words ts W)[k]) g.length s27 (T ++ [(words ts W)[k]]) g28 (by omega) (by simp) (by simp; omega) pv28 W28 E28.len hple).to ?_
    rintro t g31 ⟨tt, x31⟩
    have hpieces : (seqs c ts W m (cd c ts 3 (words ts W)[k]) x).map (T ++ [(words ts W)[k]] ++ ·) = pc (words ts W)[k] := by
      rw [hpk, sel_yes hq]
      exact List.map_congr_left fun r _ => by simp
    rw [hpieces] at tt
    have hsl : ∀ o, u.o = some o → h1.length ≤ o := by obtain ⟨_, _, _, d, _⟩ := tl; exact d
    refine TL.cat tl (E28.trans x31) (Nat.le_refl _) (by omega) tt (by unfold lim; omega) fun u' g32 tn bn => ?_
    have x31l := x31.len
    have := bn.1
    exact next _ _ ((eg.trans (E28.trans x31)).but_ bn hsl) (by omega) tn
theorem allTop (rw0 : RdSS hW wq (words ts W)) (rt : Rd hW tq 1 (ic ((words ts W).map (cd c ts 1)))) (rb : Rd hW bq 1 (ic ((words ts W).map (cd c ts 3)))) (hN : ts.length ≤ 16) (hWW : W ≤ 3) {x nd : Int} {n H_ : Nat} {v : Sl} {h : H} (hH : 1 ≤ H_ ∧ H_ ≤ 3) (hv : v.len = 0)
    (e : Ext hW h) (hn : n ≤ h.length) (hlen : (toriL c ts W H_).length ≤ 4000) :
    callS SP i_spec_l05All [.agg (SetC c s), .sl wq, .sl tq, .sl bq, .sl v, i64 x, i64 nd, i64 H_] h fun u h' => TL hW n h' u (toriL c ts W H_) ∧ Ext h h' := by
  have hwl : (words ts W).length ≤ 4096 := rounds_small hN hWW ([] : List Int)
  have hql := rw0.len
  apply spec_l05All_call
  unfold spec_l05All_main
  refine newK_obj fun h1 o1 x1 l1 => ?_
  refine bif_eq (fun hz => by omega) (fun _ => ?_)
  refine newS_ow (by rfl) fun z h2 oz lz zo e2 => ?_
  have x2 : Ext h1 h2 := by rw [e2]; exact Ext.app _ _
  generalize hpc : (fun w : List Int => (seqs c ts W (H_ - 1) (cd c ts 3 w) (cd c ts 1 w)).map (w :: ·)) = pc
  have hall : toriL c ts W H_ = (words ts W).flatMap pc := by rw [← hpc]; rfl
  rw [hall] at hlen ⊢
  refine spec_l05All_rule0 _ _ _ _ _ _ _ _ _ _ (fun u i g => 0 ≤ i ∧ i ≤ (words ts W).length ∧ Ext h1 g ∧ TL hW h1.length g u (((words ts W).take i.toNat).flatMap pc)) (fun _ i _ => ((words ts W).length - i).toNat) ?_ _ _ ⟨by omega, by omega, x2, TL.nil oz fun o e => by rw [zo] at e; cases e; exact Nat.le_refl _⟩
  rintro X u i g ⟨i0, i1, eg, tl⟩ hX
  have EG := x1.trans eg
  unfold spec_l05All_b0 spec_l05All_C0
  refine bif_dec (fun hi => ?_) (fun hi => ?_)
  rotate_left
  · rw [show i.toNat = (words ts W).length by omega, List.take_length] at tl
    exact ⟨_, rfl, tl.le (by omega), EG⟩
  obtain ⟨k, rfl⟩ : ∃ k : Nat, i = k := ⟨i.toNat, by omega⟩
  rw [Int.toNat_natCast] at tl
  have hk : k < (words ts W).length := by omega
  have hpk : pc (words ts W)[k] = (seqs c ts W (H_ - 1) (cd c ts 3 (words ts W)[k]) (cd c ts 1 (words ts W)[k])).map ((words ts W)[k] :: ·) := by rw [← hpc]
  have htp := take_piece (words ts W) pc hk
  have hrow : rw_ (words ts W) k = (words ts W)[k] := by unfold rw_; rw [List.getD_eq_getElem?_getD, List.getElem?_eq_getElem hk]; rfl
  refine bif_eq (fun _ => ?_) (fun hz => absurd (by omega) hz)
  have oG := o1.ext eg
  have hgl := eg.len
  refine oG.ldA rfl ?_
  refine rw0.ixC (by omega) (by omega) fun p1 w1 c1 r1 l1' => ⟨w1, (e.trans EG).cell c1, ?_⟩
  rw [Int.toNat_natCast, hrow] at r1
  refine newS_ow (by rfl) fun s3 g4 o3 l3 n3 e4 => ?_
  have x4 : Ext g g4 := by rw [e4]; exact Ext.app _ _
  have l4 : g4.length = g.length + 1 := by rw [e4]; simp
  have W4 := (e.trans EG).trans x4
  refine ⟨oG.stays rfl x4, ?_⟩
  refine rt.ixC (by omega) (by rw [List.length_map]; omega) fun p5 c5 => ?_
  rw [Int.toNat_natCast, mapG hk] at c5
  refine ⟨_, W4.cell c5, by rw [W4.cell c5, (e.trans EG).cell c5], ?_⟩
  refine rb.ixC (by omega) (by rw [List.length_map]; omega) fun p7 c7 => ?_
  rw [Int.toNat_natCast, mapG hk] at c7
  refine ⟨_, W4.cell c7, by rw [W4.cell c7, (e.trans EG).cell c7], ?_⟩
  rw [w64_of (by omega) (by omega), show (H_ : Int) - 1 = ((H_ - 1 : Nat) : Int) by omega]
  have pv4 : PV hW g.length g4 s3 [(words ts W)[k]] := by
    refine ⟨[w1], rfl, fun j u' w' p q => ?_, o3.rd, fun o e => by rw [n3] at e; cases e; omega⟩
    have : j = 0 := by have := (List.getElem?_eq_some_iff.1 p).1; simpa using this
    subst this
    simp at p q
    subst p q
    exact r1
  have hple : (pc (words ts W)[k]).length ≤ 4000 := by omega
  rw [hpk, List.length_map] at hple
  refine (allRec rw0 rt rb hN hWW (H_ - 1) (cd c ts 1 (words ts W)[k]) (cd c ts 3 (words ts W)[k]) g.length s3 [(words ts W)[k]] g4 (by omega) (by simp) (by simp; omega) pv4 W4 (by omega) hple).to ?_
  rintro t g9 ⟨tt, x9⟩
  have hpieces : (seqs c ts W (H_ - 1) (cd c ts 3 (words ts W)[k]) (cd c ts 1 (words ts W)[k])).map ([(words ts W)[k]] ++ ·) = pc (words ts W)[k] := by rw [hpk]; rfl
  rw [hpieces] at tt
  have hsl : ∀ o, u.o = some o → h1.length ≤ o := by obtain ⟨_, _, _, d, _⟩ := tl; exact d
  refine TL.cat tl (x4.trans x9) (Nat.le_refl _) hgl tt (by unfold lim; omega) fun u' g12 tn bn => ?_
  rw [w64_of (by omega) (by omega)]
  refine hX _ _ _ ⟨by omega, by omega, (eg.trans (x4.trans x9)).but_ bn hsl, ?_⟩ (by omega)
  rw [show ((k : Int) + 1).toNat = k + 1 by omega, take_flat _ _ hk]
  exact tn
end
end Go.Proofs.YtcoampecbpiecaaGreat.Cl

/- Least forms of tori: their count. No claim is stated here. -/
set_option linter.unusedVariables false
set_option linter.unusedSimpArgs false
namespace Go.Proofs.YtcoampecbpiecaaGreat.Cl
open Go
theorem cmpL_zeroV : ∀ {a b : List Int}, cmpL a b = 0 → a = b
  | [], [], _ => rfl
  | [], _ :: _, h => by simp [cmpL] at h
  | _ :: _, [], h => by simp [cmpL] at h
  | a :: l, b :: m, h => by
    simp only [cmpL] at h
    split at h
    · omega
    · split at h
      · omega
      · rw [cmpL_zeroV h, show a = b by omega]
theorem cmpL_trans : ∀ {a b c : List Int}, cmpL a b ≤ 0 → cmpL b c ≤ 0 → cmpL a c ≤ 0
  | [], _, [], _, _ => by simp [cmpL]
  | [], _, _ :: _, _, _ => by simp [cmpL]
  | _ :: _, [], _, h, _ => by simp [cmpL] at h
  | _ :: _, _ :: _, [], _, h => by simp [cmpL] at h
  | a :: l, b :: m, c :: n, h1, h2 => by
    have ih := @cmpL_trans l m n
    simp only [cmpL] at h1 h2 ⊢
    split at h1
    · split at h2
      · rw [if_pos (by omega)]; omega
      · split at h2
        · omega
        · rw [if_pos (by omega)]; omega
    · split at h1
      · omega
      · split at h2
        · rw [if_pos (by omega)]; omega
        · split at h2
          · omega
          · rw [if_neg (by omega), if_neg (by omega)]; exact ih h1 h2
theorem cmpLL_trans : ∀ {a b c : List (List Int)}, cmpLL a b ≤ 0 → cmpLL b c ≤ 0 → cmpLL a c ≤ 0
  | [], _, [], _, _ => by simp [cmpLL]
  | [], _, _ :: _, _, _ => by simp [cmpLL]
  | _ :: _, [], _, h, _ => by simp [cmpLL] at h
  | _ :: _, _ :: _, [], _, h => by simp [cmpLL] at h
  | a :: l, b :: m, c :: n, h1, h2 => by
    have ih := @cmpLL_trans l m n
    simp only [cmpLL] at h1 h2 ⊢
    by_cases q1 : cmpL a b = 0
    · rw [if_neg (by omega)] at h1
      have := cmpL_zeroV q1
      subst this
      by_cases q2 : cmpL a c = 0
      · rw [if_neg (by omega)] at h2
        rw [if_neg (by omega)]
        exact ih h1 h2
      · rw [if_pos q2] at h2 ⊢
        exact h2
    · rw [if_pos q1] at h1
      by_cases q2 : cmpL b c = 0
      · have := cmpL_zeroV q2
        subst this
        rw [if_pos q1]; exact h1
      · rw [if_pos q2] at h2
        have h3 := cmpL_trans h1 h2
        have q3 : cmpL a c ≠ 0 := fun e => by
          have := cmpL_zeroV e
          subst this
          rw [cmpL_anti] at h2
          omega
        rw [if_pos q3]; exact h3
theorem least_le {rows : List (List Int)} (R : Rect rows) : cmpLL (leastG rows) rows ≤ 0 := by
  unfold leastG
  refine nest_keeps (I := fun b => cmpLL b rows ≤ 0) ?_ ?_
  · rw [shift_zero R, cmpLL_self]; exact Int.le_refl _
  · intro x a b _ _ h
    unfold leastStep
    split
    · exact cmpLL_trans (by omega) h
    · exact h
def isForm (rows : List (List Int)) : Bool := decide (cmpLL rows (leastG rows) = 0)
theorem isForm_iff {rows : List (List Int)} (R : Rect rows) : isForm rows = !decide (cmpLL (leastG rows) rows < 0) := by
  have h := least_le R
  have e := cmpLL_anti (leastG rows) rows
  unfold isForm
  by_cases q : cmpLL (leastG rows) rows < 0
  · rw [decide_eq_true q, decide_eq_false (by omega)]; rfl
  · rw [decide_eq_false q, decide_eq_true (by omega)]; rfl
theorem rect_of {W H : Nat} {T : List (List Int)} (hl : T.length = H) (hw : ∀ w ∈ T, w.length = W) (h1 : 1 ≤ H) (h2 : H ≤ 8) (w1 : 1 ≤ W) (w2 : W ≤ 8) : Rect T := by
  have hr : ∀ y, y < T.length → (rw_ T y).length = W := fun y hy => hw _ (List.mem_of_getElem? (at_rw hy))
  have h0 := hr 0 (by omega)
  exact ⟨by omega, by omega, fun y hy => by rw [hr y hy, wide, h0], by rw [wide, h0]; exact w1, by rw [wide, h0]; exact w2⟩
/-- The program's count, with a stop. -/
def frmF (x y : Nat) (t : Int × Int) (l : List Int) : (Int × Int) × Bool :=
  ((w64 (t.1 + 1), if w64 (t.1 + 1) ≤ 4000 ∧ isForm (rowsG x y l) = true then w64 (t.2 + 1) else t.2), decide (w64 (t.1 + 1) ≤ 4000))
theorem runU_frm (x y : Nat) : ∀ (l : List (List Int)) (a b : Nat), a ≤ 4000 → b ≤ a →
    (a + l.length ≤ 4000 → (runU (frmF x y) l ((a : Int), (b : Int))).1 = (((a + l.length : Nat) : Int), ((b + l.countP (fun w => isForm (rowsG x y w)) : Nat) : Int))) ∧ (4000 < a + l.length → (runU (frmF x y) l ((a : Int), (b : Int))).1.1 = 4001)
  | [], a, b, h, _ => ⟨fun _ => by simp [runU], fun h2 => by simp at h2; omega⟩
  | w :: l, a, b, h, hb => by
    have e1 : w64 ((a : Int) + 1) = ((a + 1 : Nat) : Int) := by rw [w64_of (by omega) (by omega)]; push_cast; rfl
    have e2 : w64 ((b : Int) + 1) = ((b + 1 : Nat) : Int) := by rw [w64_of (by omega) (by omega)]; push_cast; rfl
    rw [runU]
    by_cases q : a + 1 ≤ 4000
    · have hb2 : (frmF x y ((a : Int), (b : Int)) w).2 = true := by
        simp only [frmF, e1]; exact decide_eq_true (by omega)
      rw [if_pos hb2]
      by_cases f : isForm (rowsG x y w) = true
      · have hs : (frmF x y ((a : Int), (b : Int)) w).1 = (((a + 1 : Nat) : Int), ((b + 1 : Nat) : Int)) := by
          simp only [frmF, e1, e2]
          rw [if_pos ⟨by omega, f⟩]
        rw [hs]
        have ih := runU_frm x y l (a + 1) (b + 1) q (by omega)
        rw [List.length_cons, List.countP_cons_of_pos (p := fun w => isForm (rowsG x y w)) f]
        refine ⟨fun hl => ?_, fun hl => ih.2 (by omega)⟩
        rw [ih.1 (by omega)]
        congr 2 <;> omega
      · have hs : (frmF x y ((a : Int), (b : Int)) w).1 = (((a + 1 : Nat) : Int), (b : Int)) := by
          simp only [frmF, e1]
          rw [if_neg fun c => f c.2]
        rw [hs]
        have ih := runU_frm x y l (a + 1) b q (by omega)
        rw [List.length_cons, List.countP_cons_of_neg (p := fun w => isForm (rowsG x y w)) f]
        refine ⟨fun hl => ?_, fun hl => ih.2 (by omega)⟩
        rw [ih.1 (by omega)]
        congr 2; omega
    · have hb2 : ¬ (frmF x y ((a : Int), (b : Int)) w).2 = true := by
        simp only [frmF, e1, decide_eq_true_eq]; omega
      rw [if_neg hb2]
      refine ⟨fun hl => by rw [List.length_cons] at hl; omega, fun _ => ?_⟩
      simp only [frmF, e1]
      omega
noncomputable def formsN (c : Int) (ts : List Tile) (a b : Int) : Nat := (toriL c ts b.toNat a.toNat).countP isForm
open Classical in
noncomputable def code3 (A B : Prop) (n : Int) : Int := if codeOf A B = 0 then (if n > 4000 then 3 else 0) else codeOf A B
theorem code3_no {A B : Prop} {n : Int} (h : codeOf A B ≠ 0) : code3 A B n = codeOf A B := by unfold code3; rw [if_neg h]
theorem code3_3 {A B : Prop} {n : Int} (h : codeOf A B = 0) (t : n > 4000) : code3 A B n = 3 := by unfold code3; rw [if_pos h, if_pos t]
theorem code3_0 {A B : Prop} {n : Int} (h : codeOf A B = 0) (t : ¬ n > 4000) : code3 A B n = 0 := by unfold code3; rw [if_pos h, if_neg t]
noncomputable def F_CountForms_0 (c : Int) (ts : List Tile) (a b : Int) : Int := sel ((setOK c ts ∧ Size a b) ∧ ¬ tcount c ts a b > 4000) ((formsN c ts a b : Nat) : Int) 0
theorem TL.ld {hW : H} {n : Nat} {h : H} {s : Sl} {Ts : List (List (List Int))} (r : TL hW n h s Ts) (e : Ext hW h) {i : Nat} (h1 : i < Ts.length) {K : Sl → Prop} (hk : ∀ v, RdSS h v Ts[i] → K v) : ixS s 1 (i : Int) fun p => Cl.ldS p h K := by
  obtain ⟨vs, a, b, c, d⟩ := r
  refine b.rd.ldS (by omega) (by omega) fun x hx => ?_
  rw [Int.toNat_natCast] at hx
  exact hk x ((d _ x _ hx (List.getElem?_eq_getElem h1)).1.rd e)
theorem least_like {rows : List (List Int)} : Like rows (leastG rows) := nest_keeps (shift_like _ _ _) fun _ _ _ _ _ h => leastStep_like h
section
variable {h0 : H} {c : Int} {s : Sl} {ts : List Tile} {a b : Int}
theorem spec_CountForms_c (r : Rd h0 s 4 (tcs ts)) (sz : ts.length ≤ 1048576) (ba : i64ok a) (bb : i64ok b) :
    callV SP i_spec_CountForms [.agg (SetC c s), i64 a, i64 b] h0 fun v h' => v = .tuple [i64 (F_CountForms_0 c ts a b), i64 (code3 (setOK c ts) (Size a b) (tcount c ts a b))] ∧ Ext h0 h' := by
  apply spec_CountForms_call
  unfold spec_CountForms_main
  refine newK_obj fun h1 o1 x1 n1 => ?_
  refine o1.ldA rfl ?_
  refine (l05Code_c (r.ext x1)).to ?_
  rintro n h4 ⟨rfl, x4⟩
  have X := x1.trans x4
  refine bif_ne (fun hq => ⟨?_, X⟩) (fun hq => ?_)
  · rw [code3_no hq, F_CountForms_0, sel_no fun f => codeOf_cond hq f.1]
  have hc := codeOf_zero hq
  obtain ⟨x, rfl⟩ : ∃ x : Nat, a = x := ⟨a.toNat, by have := hc.2.1; omega⟩
  obtain ⟨y, rfl⟩ : ∃ y : Nat, b = y := ⟨b.toNat, by have := hc.2.2; omega⟩
  have hx := hc.2.1
  have hy := hc.2.2
  have S := hc.1.sides
  refine (o1.ext x4).ldA rfl ?_
  refine (l05Count_c (r.ext X) hc.1 hc.2).to ?_
  rintro n h6 ⟨rfl, x6⟩
  have X6 := X.trans x6
  refine bif_dec (fun hg => ⟨?_, X6⟩) (fun hg => ?_)
  · rw [code3_3 hq hg, F_CountForms_0, sel_no fun f => f.2 hg]
  refine (o1.ext (x4.trans x6)).ldA rfl ?_
  refine (l05Words_c (r.ext X6) hc.1.2.1 S hc.1.1.2 (W := y) (by omega)).to ?_
  rintro _ h9 ⟨wq, tq, bq, rfl, nw, rt, rb, x9⟩
  refine ⟨_, rfl, _, rfl, _, rfl, _, rfl, _, rfl, _, rfl, ?_⟩
  have X9 := X6.trans x9
  refine (o1.ext ((x4.trans x6).trans x9)).ldA rfl ?_
  refine newS_ow (by rfl) fun z h19 oz lz zo e19 => ?_
  have x19 : Ext h9 h19 := by rw [e19]; exact Ext.app _ _
  have hlen : (toriL c ts y x).length ≤ 4000 := by
    unfold tcount at hg
    rw [Int.toNat_natCast, Int.toNat_natCast] at hg
    omega
  refine (allTop (n := h19.length) nw.rd rt rb hc.1.2.1 (by omega) (H_ := x) (by omega) lz x19 (Nat.le_refl _) hlen).to ?_
  rintro q h20 ⟨tl, x20⟩
  have E9 := x19.trans x20
  have hlt := tl.len
  refine spec_CountForms_rule0 _ _ _ (fun n i h => 0 ≤ i ∧ i ≤ (toriL c ts y x).length ∧ n = (((toriL c ts y x).take i.toNat).countP isForm : Nat) ∧ Ext h20 h) (fun _ i _ => ((toriL c ts y x).length - i).toNat) ?_ _ _ ⟨by omega, by omega, rfl, Ext.refl _⟩
  rintro Y n i h ⟨i0, i1, hn, e⟩ hY
  unfold spec_CountForms_b0 spec_CountForms_C0
  refine bif_dec (fun hi => ?_) (fun hi => ?_)
  rotate_left
  · rw [show i.toNat = (toriL c ts y x).length by omega, List.take_length] at hn
    refine ⟨?_, (X9.trans E9).trans e⟩
    rw [code3_0 hq hg, F_CountForms_0, sel_yes ⟨hc, hg⟩, hn]
    unfold formsN
    rw [Int.toNat_natCast, Int.toNat_natCast]
  obtain ⟨k, rfl⟩ : ∃ k : Nat, i = k := ⟨i.toNat, by omega⟩
  rw [Int.toNat_natCast] at hn
  have hk : k < (toriL c ts y x).length := by omega
  have hcp := List.countP_le_length (p := isForm) (l := (toriL c ts y x).take k)
  rw [List.length_take] at hcp
  obtain ⟨f1, f2⟩ := tori_form (by omega) (List.getElem_mem hk)
  have R : Rect (toriL c ts y x)[k] := rect_of f1 (fun w hw => (f2 w hw).1) (by omega) (by omega) (by omega) (by omega)
  have hR1 := R.h1
  have hR2 := R.w1
  refine (tl.ext e).ld (E9.trans e) hk fun v rv => ?_
  refine (l05Least_c rv R).to ?_
  rintro u g ⟨nu, eg⟩
  refine ((tl.ext e).ext eg).ld ((E9.trans e).trans eg) hk fun v2 rv2 => ?_
  have hlk := least_like (rows := (toriL c ts y x)[k])
  refine l05Less_k nu.rd rv2 hlk.1 (fun y' hy' => by rw [hlk.2 _ (by have := hlk.1; omega), R.w _ (by have := hlk.1; omega)]) (by have := hlk.1; omega) (fun y' hy' => by rw [hlk.2 _ (by have := hlk.1; omega)]; omega) ?_
  have hf := isForm_iff R
  have step : ∀ n' : Int, n' = (((toriL c ts y x).take (k + 1)).countP isForm : Nat) → Y (spec_CountForms_e0 q n' (w64 ((k : Int) + 1))) g := fun n' hn' => by
    rw [w64_of (by omega) (by omega)]
    refine hY _ _ _ ⟨by omega, by omega, ?_, e.trans eg⟩ (by omega)
    rw [show ((k : Int) + 1).toNat = k + 1 by omega]
    exact hn'
  rw [List.take_succ_eq_append_getElem hk, List.countP_append] at step
  refine bif_not (fun hb => ?_) (fun hb => ?_)
  · rw [hb] at hf
    refine step _ ?_
    rw [List.countP_cons_of_pos (by rw [hf]; rfl), hn, w64_of (by omega) (by omega)]
    simp
  · rw [hb] at hf
    refine step _ ?_
    rw [List.countP_cons_of_neg (by rw [hf]; decide), hn]
    simp
theorem impl_CountForms_c (r : Rd h0 s 4 (tcs ts)) (sz : ts.length ≤ 1048576) (ba : i64ok a) (bb : i64ok b) :
    callV SP i_impl_CountForms [.agg (SetC c s), i64 a, i64 b] h0 fun v h' => v = .tuple [i64 (F_CountForms_0 c ts a b), i64 (code3 (setOK c ts) (Size a b) (tcount c ts a b))] ∧ Ext h0 h' := by
  apply impl_CountForms_call
  unfold impl_CountForms_main
  refine newK_obj fun h1 o1 x1 n1 => ?_
  refine newO_var fun h2 v2 x2 n2 => ?_
  refine newO_var fun h3 v3 x3 n3 => ?_
  have o3 := o1.ext (x2.trans x3)
  have w2 := v2.ext x3
  have x13 := x1.trans (x2.trans x3)
  refine o3.ldA rfl ?_
  refine (setCode_c (r.ext x13) (by omega) _ _ (Size a b) fun _ h x => ?_).to ?_
  · apply impl_CountForms_1_call
    unfold impl_CountForms_1_main
    refine (w2.ext x).ldI ?_
    refine (v3.ext x).ldI ?_
    exact areSizes_k.to fun b h' e => ⟨_, rfl, e⟩
  rintro n h4 ⟨rfl, x4⟩
  have X := x13.trans x4
  refine bif_ne (fun hq => ⟨?_, X⟩) (fun hq => ?_)
  · rw [code3_no hq, F_CountForms_0, sel_no fun f => codeOf_cond hq f.1]
  have hc := codeOf_zero hq
  obtain ⟨x, rfl⟩ : ∃ x : Nat, a = x := ⟨a.toNat, by have := hc.2.1; omega⟩
  obtain ⟨y, rfl⟩ : ∃ y : Nat, b = y := ⟨b.toNat, by have := hc.2.2; omega⟩
  have hx := hc.2.1
  have hy := hc.2.2
  have S := hc.1.sides
  have l4 := x4.len
  refine newO_var fun h10 v10 x10 n10 => ?_
  refine newO_var fun h12 v12 x12 n12 => ?_
  refine (v10.ext x12).st _ fun h13 v13 b13 n13 => ?_
  have v13' := v12.but b13 (fun e => by have := Option.some.inj e; omega)
  refine v13'.st _ fun h14 v14 b14 n14 => ?_
  have u14 := v13.but b14 (fun e => by have := Option.some.inj e; omega)
  have x14 : Ext h4 h14 := (((x10.trans x12).but_ b13 (some_le (by omega)))).but_ b14 (some_le (by omega))
  have X14 := X.trans x14
  have Y14 := x4.trans x14
  refine (o3.ext Y14).ldA rfl ?_
  refine (w2.ext Y14).ldI ?_
  refine (v3.ext Y14).ldI ?_
  refine (tori_c (σ := Int × Int) (f := frmF x y) (H_ := x) (W := y) (I := fun t h => Var h h4.length (i64 t.1) ∧ Var h h10.length (i64 t.2)) (t := ((0 : Nat), (0 : Nat))) r hc.1.2.1 (by omega) (by omega) X14 ?_ ?_ ⟨u14, v14⟩).to ?_
  · intro t h h' i e
    exact ⟨i.1.but e (fun e => by have := Option.some.inj e; omega), i.2.but e (fun e => by have := Option.some.inj e; omega)⟩
  · intro t l h h' u hl hxs i hlen n e
    obtain ⟨i1, i2⟩ := i
    apply impl_CountForms_2_call
    unfold impl_CountForms_2_main
    refine i1.ldI ?_
    refine i1.st _ fun g1 j1 b1 m1 => ?_
    refine j1.ldI ?_
    have k2 := i2.but b1 (fun e => by have := Option.some.inj e; omega)
    have hgl := i1.lt
    have c1 : Chg (fun o => o < h14.length ∧ h0.length ≤ o) h' g1 := b1.chg fun i e => by cases e; have := X.len; omega
    have hrl : ∀ w ∈ rowsG x y l, w.length = y := fun w hw => by
      unfold rowsG tab2 at hw
      obtain ⟨k, hk, rfl⟩ := List.mem_map.1 hw
      have := List.mem_range.1 hk
      have h5 : (k + 1) * y ≤ x * y := Nat.mul_le_mul_right _ this
      rw [Nat.add_mul] at h5
      rw [List.length_take, List.length_drop]; omega
    have R : Rect (rowsG x y l) := rect_of (by unfold rowsG; rw [tab2_len]) hrl (by omega) (by omega) (by omega) (by omega)
    have hR1 := R.h1
    have hlo : ∀ w ∈ rowsG x y l, w.length < 1000000 := fun w hw => by have := hrl w hw; omega
    have rg1 : RdSS g1 u (rowsG x y l) := by
      refine (n.chg (b1.chg (P := fun o => o = h4.length) fun i e => by cases e; rfl) fun i hi _ e => ?_).rd
      have := X14.len
      omega
    unfold frmF
    refine bif_dec (fun hs => ?_) (fun hs => ?_)
    rotate_left
    · refine j1.ldI ⟨_, rfl, ?_, ⟨j1, ?_⟩, c1⟩
      · rfl
      · rw [if_neg fun c => hs c.1]; exact k2
    refine (leastForm_c rg1 R).to ?_
    rintro z g3 ⟨nz, x3⟩
    refine compareRows_k (rg1.ext x3) nz.rd (by omega) (by have := least_like (rows := rowsG x y l); have := this.1; omega) hlo ?_
    refine bif_eq (fun hz => ?_) (fun hz => ?_)
    · refine (k2.ext x3).ldI ?_
      refine (k2.ext x3).st _ fun g8 j8 b8 m8 => ?_
      refine ((j1.ext x3).but b8 (fun e => by have := Option.some.inj e; omega)).ldI ⟨_, rfl, rfl, ⟨(j1.ext x3).but b8 (fun e => by have := Option.some.inj e; omega), ?_⟩, ?_⟩
      · rw [if_pos ⟨hs, decide_eq_true hz⟩]; exact j8
      · exact (c1.trans (x3.chg _)).trans (b8.chg fun i e => by cases e; have := X.len; omega)
    · refine (j1.ext x3).ldI ⟨_, rfl, rfl, ⟨j1.ext x3, ?_⟩, c1.trans (x3.chg _)⟩
      rw [if_neg fun c => hz (of_decide_eq_true c.2)]; exact k2.ext x3
  · rintro _ h18 ⟨⟨i1, i2⟩, e⟩
    have hrun := runU_frm x y (flat ts x y (x * y) []) 0 0 (by omega) (by omega)
    have hfl := flat_tori (W := y) (H := x) S (by omega) (by omega)
    have hcount : (flat ts x y (x * y) []).countP (fun w => isForm (rowsG x y w)) = formsN c ts (x : Int) (y : Int) := by
      unfold formsN
      rw [hfl, List.countP_map, Int.toNat_natCast, Int.toNat_natCast]
      refine List.countP_congr fun T hT => ?_
      obtain ⟨f1, f2⟩ := tori_form (by omega) hT
      have := rowsG_flatten (W := y) T fun w hw => (f2 w hw).1
      rw [f1] at this
      simp only [Function.comp]
      rw [this]
    have hlen : ((flat ts x y (x * y) []).length : Int) = tcount c ts x y := by
      unfold tcount
      rw [hfl, List.length_map, Int.toNat_natCast, Int.toNat_natCast]
    rw [Nat.zero_add] at hrun
    refine i1.ldI ?_
    by_cases hg : tcount c ts x y > 4000
    · rw [hrun.2 (by omega)]
      refine bif_dec (fun _ => ⟨?_, e⟩) (fun f => absurd (by omega) f)
      rw [code3_3 hq hg, F_CountForms_0, sel_no fun f => f.2 hg]
    · have h2 := hrun.1 (by omega)
      rw [h2] at i2 ⊢
      refine bif_dec (fun f => absurd f (by simp only []; omega)) (fun _ => i2.ldI ⟨?_, e⟩)
      rw [code3_0 hq hg, F_CountForms_0, sel_yes ⟨hc, hg⟩, Nat.zero_add, hcount]
end
end Go.Proofs.YtcoampecbpiecaaGreat.Cl

/- Shifts: plain (shifts of shifts, least forms, how many shifts keep rows). No claim is stated here. -/
set_option linter.unusedVariables false
set_option linter.unusedSimpArgs false
namespace Go.Proofs.YtcoampecbpiecaaGreat.Cl
open Go
theorem cmpLL_zero : ∀ {a b : List (List Int)}, cmpLL a b = 0 → a = b
  | [], [], _ => rfl
  | [], _ :: _, h => by simp [cmpLL] at h
  | _ :: _, [], h => by simp [cmpLL] at h
  | a :: l, b :: m, h => by
    simp only [cmpLL] at h
    split at h
    · next q => exact absurd h q
    · next q =>
      have h1 : cmpL a b = 0 := by omega
      rw [cmpL_zeroV h1, cmpLL_zero h]
theorem grid_ext {A B : List (List Int)} (hl : A.length = B.length) (hw : ∀ y, y < A.length → (rw_ A y).length = (rw_ B y).length) (h : ∀ y x, y < A.length → x < (rw_ A y).length → G A y x = G B y x) : A = B := by
  refine rows_eq hl fun y hy => ?_
  apply List.ext_getElem (hw y hy)
  intro x h1 h2
  have := h y x hy h1
  unfold G at this
  rw [List.getD_eq_getElem?_getD, List.getD_eq_getElem?_getD, List.getElem?_eq_getElem h1, List.getElem?_eq_getElem h2] at this
  exact this
section
variable {rows : List (List Int)}
theorem G_shift {a b y x : Nat} (hy : y < rows.length) (hx : x < wide rows) : G (shiftG rows a b) y x = G rows ((y + a) % rows.length) ((x + b) % wide rows) := by
  unfold G shiftG
  rw [tab2_row hy, tab1_at hx]
  rfl
theorem wide_shift (R : Rect rows) (a b : Nat) : wide (shiftG rows a b) = wide rows := shiftG_row R.h0
theorem shift_shift (R : Rect rows) (a b a2 b2 : Nat) : shiftG (shiftG rows a b) a2 b2 = shiftG rows (a + a2) (b + b2) := by
  have hw := wide_shift R a b
  have hl := shiftG_len rows a b
  have R0 := R.h0
  have W0 := R.w0
  refine grid_ext (by rw [shiftG_len, shiftG_len, shiftG_len]) (fun y hy => ?_) fun y x hy hx => ?_
  · rw [shiftG_len, shiftG_len] at hy
    rw [shiftG_row (by rw [shiftG_len]; exact hy), shiftG_row hy, hw]
  · rw [shiftG_len, shiftG_len] at hy
    rw [shiftG_row (by rw [shiftG_len]; exact hy), hw] at hx
    rw [G_shift (by rw [hl]; exact hy) (by rw [hw]; exact hx), hl, hw, G_shift (Nat.mod_lt _ (by omega)) (Nat.mod_lt _ (by omega)), G_shift hy hx]
    rw [Nat.mod_add_mod, Nat.mod_add_mod]
    congr 2 <;> omega
theorem shift_mod (R : Rect rows) (a b : Nat) : shiftG rows (a % rows.length) (b % wide rows) = shiftG rows a b := by
  refine grid_ext (by rw [shiftG_len, shiftG_len]) (fun y hy => ?_) fun y x hy hx => ?_
  · rw [shiftG_len] at hy
    rw [shiftG_row hy, shiftG_row hy]
  · rw [shiftG_len] at hy
    rw [shiftG_row hy] at hx
    rw [G_shift hy hx, G_shift hy hx, Nat.add_mod_mod, Nat.add_mod_mod]
theorem shift_per (R : Rect rows) : shiftG rows rows.length (wide rows) = rows := by
  rw [← shift_mod R, Nat.mod_self, Nat.mod_self, shift_zero R]
/-- The way back. -/
theorem shift_back (R : Rect rows) {a b : Nat} (ha : a < rows.length) (hb : b < wide rows) : shiftG (shiftG rows a b) (rows.length - a) (wide rows - b) = rows := by
  rw [shift_shift R, show a + (rows.length - a) = rows.length by omega, show b + (wide rows - b) = wide rows by omega, shift_per R]
/-! ### least forms -/
theorem foldl_reach {α β : Type} {I : α → Prop} {g : α → β → α} : ∀ (l : List β) (x : α) {b : β}, b ∈ l → (∀ x, I (g x b)) → (∀ x c, I x → I (g x c)) → I (l.foldl g x)
  | c :: l, x, b, hb, h1, h2 => by
    rcases List.mem_cons.1 hb with rfl | hb
    · exact foldl_keeps l _ (h1 x) fun x c _ h => h2 x c h
    · exact foldl_reach l _ hb h1 h2
theorem nest_reach {α : Type} {I : α → Prop} {f : α → Nat → Nat → α} {x : α} {H W a b : Nat} (ha : a < H) (hb : b < W) (h1 : ∀ x, I (f x a b)) (h2 : ∀ x c d, I x → I (f x c d)) : I (nest f x H W) :=
  foldl_reach _ _ (List.mem_range.2 ha) (fun x => foldl_reach _ _ (List.mem_range.2 hb) h1 fun x d h => h2 x a d h) fun x c h => foldl_keeps _ _ h fun x d _ h => h2 x c d h
theorem least_min {a b : Nat} (ha : a < rows.length) (hb : b < wide rows) : cmpLL (leastG rows) (shiftG rows a b) ≤ 0 := by
  unfold leastG
  refine nest_reach (I := fun x => cmpLL x (shiftG rows a b) ≤ 0) ha hb (fun x => ?_) fun x c d h => ?_
  · unfold leastStep
    split
    · rw [cmpLL_self]; exact Int.le_refl _
    · have := cmpLL_anti (shiftG rows a b) x; omega
  · unfold leastStep
    split
    · exact cmpLL_trans (by omega) h
    · exact h
theorem least_shift (R : Rect rows) : ∃ a b, a < rows.length ∧ b < wide rows ∧ leastG rows = shiftG rows a b := by
  unfold leastG
  refine nest_keeps (I := fun x => ∃ a b, a < rows.length ∧ b < wide rows ∧ x = shiftG rows a b) ⟨0, 0, R.h0, R.w0, rfl⟩ fun x a b ha hb h => ?_
  unfold leastStep
  split
  · exact ⟨a, b, ha, hb, rfl⟩
  · exact h
theorem cmpLL_le_anti {a b : List (List Int)} (h : cmpLL a b ≤ 0) (h2 : cmpLL b a ≤ 0) : a = b := cmpLL_zero (by have := cmpLL_anti a b; omega)
theorem least_of_shift (R : Rect rows) {a b : Nat} (ha : a < rows.length) (hb : b < wide rows) : leastG (shiftG rows a b) = leastG rows := by
  have R2 := R.shift a b
  have hw := wide_shift R a b
  have hl := shiftG_len rows a b
  have R0 := R.h0
  have W0 := R.w0
  obtain ⟨a2, b2, ha2, hb2, e2⟩ := least_shift R2
  obtain ⟨a3, b3, ha3, hb3, e3⟩ := least_shift R
  refine cmpLL_le_anti ?_ ?_
  · have h := least_min (rows := shiftG rows a b) (a := (a3 + (rows.length - a)) % rows.length) (b := (b3 + (wide rows - b)) % wide rows) (by rw [hl]; exact Nat.mod_lt _ (by omega)) (by rw [hw]; exact Nat.mod_lt _ (by omega))
    have e : shiftG (shiftG rows a b) ((a3 + (rows.length - a)) % rows.length) ((b3 + (wide rows - b)) % wide rows) = leastG rows := by
      have := shift_mod R2 (a3 + (rows.length - a)) (b3 + (wide rows - b))
      rw [hl, hw] at this
      rw [this, shift_shift R, e3, show a + (a3 + (rows.length - a)) = a3 + rows.length by omega, show b + (b3 + (wide rows - b)) = b3 + wide rows by omega, ← shift_mod R, Nat.add_mod_right, Nat.add_mod_right, shift_mod R]
    rw [e] at h; exact h
  · have h := least_min (rows := rows) (a := (a + a2) % rows.length) (b := (b + b2) % wide rows) (Nat.mod_lt _ (by omega)) (Nat.mod_lt _ (by omega))
    rw [shift_mod R, ← shift_shift R, ← e2] at h
    exact h
theorem least_least (R : Rect rows) : leastG (leastG rows) = leastG rows := by
  obtain ⟨a, b, ha, hb, e⟩ := least_shift R
  conv => lhs; rw [e]
  exact least_of_shift R ha hb
theorem least_form (R : Rect rows) : isForm (leastG rows) = true := by
  unfold isForm
  rw [least_least R, cmpLL_self]; rfl
/-- Rows are a shift of their least form. -/
theorem of_least (R : Rect rows) : ∃ a b, a < rows.length ∧ b < wide rows ∧ rows = shiftG (leastG rows) a b := by
  obtain ⟨a, b, ha, hb, e⟩ := least_shift R
  have R2 := R.shift a b
  have hw := wide_shift R a b
  have hl := shiftG_len rows a b
  have R0 := R.h0
  have W0 := R.w0
  refine ⟨(rows.length - a) % rows.length, (wide rows - b) % wide rows, Nat.mod_lt _ (by omega), Nat.mod_lt _ (by omega), ?_⟩
  rw [e]
  have := shift_mod R2 (rows.length - a) (wide rows - b)
  rw [hl, hw] at this
  rw [this, shift_back R ha hb]
end
/-! ### how many shifts keep rows -/
def prs (H W : Nat) : List (Nat × Nat) := (List.range H).flatMap fun a => (List.range W).map fun b => (a, b)
theorem mem_prs {H W : Nat} {p : Nat × Nat} : p ∈ prs H W ↔ p.1 < H ∧ p.2 < W := by
  unfold prs
  rw [List.mem_flatMap]
  constructor
  · rintro ⟨a, ha, h⟩
    obtain ⟨b, hb, rfl⟩ := List.mem_map.1 h
    exact ⟨List.mem_range.1 ha, List.mem_range.1 hb⟩
  · rintro ⟨h1, h2⟩
    exact ⟨p.1, List.mem_range.2 h1, List.mem_map.2 ⟨p.2, List.mem_range.2 h2, rfl⟩⟩
theorem sum_const {α : Type} (W : Nat) : ∀ l : List α, (l.map fun _ => W).sum = l.length * W
  | [] => by simp
  | a :: l => by rw [List.map_cons, List.sum_cons, sum_const W l, List.length_cons, Nat.add_mul]; omega
theorem prs_len (H W : Nat) : (prs H W).length = H * W := by
  unfold prs
  rw [List.length_flatMap]
  simp only [List.length_map, List.length_range]
  rw [sum_const, List.length_range]
theorem foldl_app {α β : Type} (F : β → List α) : ∀ (l : List β) (acc : List α), l.foldl (fun acc b => acc ++ F b) acc = acc ++ l.flatMap F
  | [], acc => by simp
  | b :: l, acc => by rw [List.foldl_cons, foldl_app F l, List.flatMap_cons, List.append_assoc]
theorem kept_eq (rows : List (List Int)) : keptG rows = ((prs rows.length (wide rows)).filter fun p => decide (shiftG rows p.1 p.2 = rows)).map fun p => [(p.1 : Int), (p.2 : Int)] := by
  have hs : ∀ acc a b, keptStep rows acc a b = acc ++ (if shiftG rows a b = rows then [[(a : Int), (b : Int)]] else []) := fun acc a b => by
    unfold keptStep
    by_cases h : shiftG rows a b = rows
    · rw [if_pos h, if_pos (by rw [h, cmpLL_self])]
    · rw [if_neg h, if_neg (fun e => h (cmpLL_zero e)), List.append_nil]
  unfold keptG nest
  simp only [hs]
  have h1 : ∀ (acc : List (List Int)) (a : Nat), (List.range (wide rows)).foldl (fun acc b => acc ++ (if shiftG rows a b = rows then [[(a : Int), (b : Int)]] else [])) acc = acc ++ (List.range (wide rows)).flatMap fun b => if shiftG rows a b = rows then [[(a : Int), (b : Int)]] else [] := fun acc a => foldl_app _ _ _
  simp only [h1]
  rw [foldl_app, List.nil_append]
  unfold prs
  rw [List.filter_flatMap, List.map_flatMap]
  refine flatMap_congr' fun a _ => ?_
  rw [List.filter_map, List.map_map]
  generalize List.range (wide rows) = l
  induction l with
  | nil => rfl
  | cons b l ih =>
    rw [List.flatMap_cons, ih, List.filter_cons]
    by_cases h : shiftG rows a b = rows
    · rw [if_pos h, if_pos (by simpa using h)]; rfl
    · rw [if_neg h, if_neg (by simpa using h)]; rfl
theorem kept_count (rows : List (List Int)) : (keptG rows).length = (prs rows.length (wide rows)).countP fun p => decide (shiftG rows p.1 p.2 = rows) := by
  rw [kept_eq, List.length_map, List.countP_eq_length_filter]
/-! fibers of one size -/
theorem dvd_fibers {P V : Type} [DecidableEq V] (f : P → V) (k : Nat) : ∀ (n : Nat) (l : List P), l.length = n → (∀ p ∈ l, l.countP (fun q => decide (f q = f p)) = k) → k ∣ l.length := by
  intro n
  induction n using Nat.strongRecOn with
  | _ n ih =>
    intro l hl h
    cases l with
    | nil => exact ⟨0, rfl⟩
    | cons p l =>
      have hp := h p (by simp)
      have hsplit := List.length_eq_countP_add_countP (fun q => decide (f q = f p)) (l := p :: l)
      generalize hm : (p :: l).filter (fun q => !decide (f q = f p)) = m at *
      have hml : m.length = (p :: l).countP (fun q => !decide (f q = f p)) := by rw [← hm, List.countP_eq_length_filter]
      have hpos : 0 < (p :: l).countP (fun q => decide (f q = f p)) := List.countP_pos_iff.2 ⟨p, by simp, by simp⟩
      have hsp : (p :: l).length = k + m.length := by
        rw [hsplit, hp, hml]
        congr 1
        apply List.countP_congr
        intro q _
        simp
      have := ih m.length (by omega) m rfl fun q hq => by
        rw [← hm] at hq ⊢
        obtain ⟨hq1, hq2⟩ := List.mem_filter.1 hq
        rw [List.countP_filter]
        rw [← h q hq1]
        apply List.countP_congr
        intro r _
        have hne : f q ≠ f p := by simpa using hq2
        simp only [Bool.and_eq_true, decide_eq_true_eq, Bool.not_eq_true', decide_eq_false_iff_not]
        exact ⟨fun h => h.1, fun h => ⟨h, fun e => hne (h.symm.trans e)⟩⟩
      obtain ⟨j, hj⟩ := this
      exact ⟨j + 1, by rw [hsp, hj, Nat.mul_add, Nat.mul_one, Nat.add_comm]⟩
/-- A count over all pairs is the same if they are turned around. -/
theorem count_range_rot (g : Nat → Bool) (H s : Nat) (hH : 0 < H) : (List.range H).countP (fun a => g ((a + s) % H)) = (List.range H).countP g := by
  have step : ∀ g : Nat → Bool, (List.range H).countP (fun a => g ((a + 1) % H)) = (List.range H).countP g := fun g => by
    obtain ⟨m, rfl⟩ : ∃ m, H = m + 1 := ⟨H - 1, by omega⟩
    rw [List.range_succ, List.countP_append]
    conv => rhs; rw [← List.range_succ, List.range_succ_eq_map, List.countP_cons, List.countP_map]
    have e1 : (List.range m).countP (fun a => g ((a + 1) % (m + 1))) = (List.range m).countP (g ∘ Nat.succ) := by
      apply List.countP_congr
      intro a ha
      have := List.mem_range.1 ha
      rw [Nat.mod_eq_of_lt (by omega)]; rfl
    rw [e1]
    have e2 : [m].countP (fun a => g ((a + 1) % (m + 1))) = if g 0 = true then 1 else 0 := by
      rw [List.countP_cons, Nat.mod_self]; simp
    rw [e2]
  induction s with
  | zero =>
    apply List.countP_congr
    intro a ha
    rw [Nat.add_zero, Nat.mod_eq_of_lt (List.mem_range.1 ha)]
  | succ s ih =>
    rw [← ih, ← step fun a => g ((a + s) % H)]
    apply List.countP_congr
    intro a _
    rw [Nat.mod_add_mod, show a + 1 + s = a + (s + 1) by omega]
theorem countP_prs (g : Nat × Nat → Bool) (H W : Nat) : (prs H W).countP g = ((List.range H).map fun a => (List.range W).countP fun b => g (a, b)).sum := by
  unfold prs
  rw [List.countP_flatMap]
  congr 1
  refine List.map_congr_left fun a _ => ?_
  simp only [Function.comp_apply]
  rw [List.countP_map]; rfl
theorem countP_swap {α β : Type} (g : α → β → Bool) (l : List α) (m : List β) : (l.map fun a => m.countP fun b => g a b).sum = (m.map fun b => l.countP fun a => g a b).sum := by
  induction l with
  | nil =>
    show 0 = (m.map fun _ => 0).sum
    rw [sum_const]; omega
  | cons a l ih =>
    rw [List.map_cons, List.sum_cons, ih]
    clear ih
    induction m with
    | nil => simp
    | cons b m ih2 =>
      rw [List.map_cons, List.map_cons, List.sum_cons, List.sum_cons, List.countP_cons, List.countP_cons, ← ih2]
      omega
theorem count_rot (g : Nat × Nat → Bool) (H W s t : Nat) (hH : 0 < H) (hW : 0 < W) : (prs H W).countP (fun p => g ((p.1 + s) % H, (p.2 + t) % W)) = (prs H W).countP g := by
  rw [countP_prs, countP_prs]
  have e1 : ((List.range H).map fun a => (List.range W).countP fun b => g ((a + s) % H, (b + t) % W)) = (List.range H).map fun a => (List.range W).countP fun b => g ((a + s) % H, b) :=
    List.map_congr_left fun a _ => count_range_rot (fun b => g ((a + s) % H, b)) W t hW
  rw [e1, countP_swap (fun a b => g ((a + s) % H, b)), countP_swap (fun a b => g (a, b))]
  congr 1
  exact List.map_congr_left fun b _ => count_range_rot (fun a => g (a, b)) H s hH
theorem kept_dvd {rows : List (List Int)} (R : Rect rows) : (keptG rows).length ∣ rows.length * wide rows := by
  have R0 := R.h0
  have W0 := R.w0
  rw [← prs_len]
  refine dvd_fibers (fun p : Nat × Nat => shiftG rows p.1 p.2) _ _ _ rfl fun p hp => ?_
  obtain ⟨h1, h2⟩ := mem_prs.1 hp
  rw [kept_count]
  rw [← count_rot (fun q => decide (shiftG rows q.1 q.2 = shiftG rows p.1 p.2)) rows.length (wide rows) p.1 p.2 (by omega) (by omega)]
  apply List.countP_congr
  intro q _
  simp only [decide_eq_true_eq]
  rw [shift_mod R, Nat.add_comm q.1, Nat.add_comm q.2]
  have key : ∀ {A B : List (List Int)}, Rect A → A.length = rows.length → wide A = wide rows → Rect B → B.length = rows.length → wide B = wide rows → shiftG A p.1 p.2 = shiftG B p.1 p.2 → A = B := fun {A B} RA la wa RB lb wb h => by
    have h2 : shiftG (shiftG A p.1 p.2) (rows.length - p.1) (wide rows - p.2) = shiftG (shiftG B p.1 p.2) (rows.length - p.1) (wide rows - p.2) := by rw [h]
    have ba := shift_back RA (a := p.1) (b := p.2) (by omega) (by omega)
    have bb := shift_back RB (a := p.1) (b := p.2) (by omega) (by omega)
    rw [la, wa] at ba
    rw [lb, wb] at bb
    rw [ba, bb] at h2
    exact h2
  constructor
  · intro h
    refine key (R.shift q.1 q.2) (shiftG_len _ _ _) (wide_shift R _ _) R rfl rfl ?_
    rw [shift_shift R, Nat.add_comm q.1, Nat.add_comm q.2]
    exact h
  · intro h
    rw [Nat.add_comm p.1, Nat.add_comm p.2, ← shift_shift R, h]
end Go.Proofs.YtcoampecbpiecaaGreat.Cl

/- The list of tori holds each torus once: plain. No claim is stated here. -/
set_option linter.unusedVariables false
set_option linter.unusedSimpArgs false
namespace Go.Proofs.YtcoampecbpiecaaGreat.Cl
open Go
section
variable {ts : List Tile} {W : Nat} {c : Int}
theorem mem_sel_iff {α : Type} {A : Prop} {l : List α} {x : α} : x ∈ sel A l [] ↔ A ∧ x ∈ l := by
  by_cases a : A
  · rw [sel_yes a]; exact ⟨fun h => ⟨a, h⟩, fun h => h.2⟩
  · rw [sel_no a]; exact ⟨fun h => (by cases h), fun h => absurd h.1 a⟩
theorem nodup_flatMap {α β : Type} {f : α → List β} : ∀ {l : List α}, l.Nodup → (∀ a ∈ l, (f a).Nodup) → (∀ a b x, a ∈ l → b ∈ l → x ∈ f a → x ∈ f b → a = b) → (l.flatMap f).Nodup
  | [], _, _, _ => by simp
  | a :: l, hn, hf, hd => by
    have h1 := List.nodup_cons.1 hn
    rw [List.flatMap_cons, List.nodup_append]
    refine ⟨hf a (by simp), nodup_flatMap h1.2 (fun b hb => hf b (by simp [hb])) fun b d x hb hd2 => hd b d x (by simp [hb]) (by simp [hd2]), fun x hx y hy e => ?_⟩
    subst e
    obtain ⟨b, hb, hxb⟩ := List.mem_flatMap.1 hy
    have := hd a b x (by simp) (by simp [hb]) hx hxb
    subst this
    exact h1.1 hb
theorem nodup_sel {α : Type} {A : Prop} {l : List α} (h : l.Nodup) : (sel A l []).Nodup := by
  by_cases a : A
  · rw [sel_yes a]; exact h
  · rw [sel_no a]; exact List.nodup_nil
theorem rounds_nodup : ∀ (m : Nat) (w : List Int), (rounds ts m w).Nodup
  | 0, w => nodup_sel (by simp)
  | m + 1, w => by
    rw [rounds]
    refine nodup_flatMap List.nodup_range (fun k _ => nodup_sel (rounds_nodup m _)) fun a b x _ _ ha hb => ?_
    obtain ⟨r1, e1, _, _⟩ := rounds_mem _ _ (mem_sel_iff.1 ha).2
    obtain ⟨r2, e2, _, _⟩ := rounds_mem _ _ (mem_sel_iff.1 hb).2
    rw [e1, List.append_assoc, List.append_assoc] at e2
    have := List.append_cancel_left e2
    simp at this
    omega
theorem words_nodup : (words ts W).Nodup := rounds_nodup _ _
theorem seqs_nodup : ∀ (n : Nat) (s x : Int), (seqs c ts W n s x).Nodup
  | 0, s, x => nodup_sel (by simp)
  | n + 1, s, x => by
    rw [seqs]
    refine nodup_flatMap words_nodup (fun w _ => nodup_sel ?_) fun a b x _ _ ha hb => ?_
    · exact (seqs_nodup n _ _).map _ fun {p q} h e => h (List.cons.inj e).2
    · obtain ⟨p, _, rfl⟩ := List.mem_map.1 (mem_sel_iff.1 ha).2
      obtain ⟨q, _, e⟩ := List.mem_map.1 (mem_sel_iff.1 hb).2
      exact (List.cons.inj e).1.symm
theorem tori_nodup (H : Nat) : (toriL c ts W H).Nodup := by
  unfold toriL
  refine nodup_flatMap words_nodup (fun w _ => ?_) fun a b x _ _ ha hb => ?_
  · exact (seqs_nodup _ _ _).map _ fun {p q} h e => h (List.cons.inj e).2
  · obtain ⟨p, _, rfl⟩ := List.mem_map.1 ha
    obtain ⟨q, _, e⟩ := List.mem_map.1 hb
    exact (List.cons.inj e).1.symm
/-! ### words -/
theorem rounds_iff : ∀ (m : Nat) (w v : List Int), v ∈ rounds ts m w ↔ ∃ r, v = w ++ r ∧ r.length = m ∧ (∀ x ∈ r, 0 ≤ x ∧ x < (ts.length : Int)) ∧ (∀ i, w.length ≤ i → i < v.length → 0 < i → E_ ts (gt v (i - 1)) 2 = E_ ts (gt v i) 0) ∧ closeW ts v
  | 0, w, v => by
    rw [rounds, mem_sel_iff, List.mem_singleton]
    constructor
    · rintro ⟨h1, rfl⟩
      exact ⟨[], by simp, rfl, by simp, fun i h2 h3 => by omega, h1⟩
    · rintro ⟨r, e, hl, _, _, h1⟩
      have : r = [] := List.length_eq_zero_iff.1 hl
      subst this
      rw [List.append_nil] at e
      subst e
      exact ⟨h1, rfl⟩
  | m + 1, w, v => by
    rw [rounds, List.mem_flatMap]
    constructor
    · rintro ⟨k, hk, h⟩
      obtain ⟨hc, h⟩ := mem_sel_iff.1 h
      obtain ⟨r, e, hl, hr, ha, hcl⟩ := (rounds_iff m _ v).1 h
      refine ⟨(k : Int) :: r, by rw [e, List.append_assoc]; rfl, by simp [hl], fun x hx => ?_, fun i h2 h3 h4 => ?_, hcl⟩
      · rcases List.mem_cons.1 hx with rfl | hx
        · have := List.mem_range.1 hk; omega
        · exact hr x hx
      · by_cases hi : i = w.length
        · subst hi
          have h5 := hc h4
          have e1 : gt v w.length = (k : Int) := by rw [e, List.append_assoc, ← Nat.add_zero w.length, gt_right]; rfl
          have e2 : gt v (w.length - 1) = gt w (w.length - 1) := by rw [e, List.append_assoc, gt_left (by omega)]
          rw [e1, e2]; exact h5
        · exact ha i (by simp; omega) h3 h4
    · rintro ⟨r, e, hl, hr, ha, hcl⟩
      cases r with
      | nil => simp at hl
      | cons k r =>
        have hk := hr k (by simp)
        obtain ⟨n, rfl⟩ : ∃ n : Nat, k = n := ⟨k.toNat, by omega⟩
        refine ⟨n, List.mem_range.2 (by omega), mem_sel_iff.2 ⟨fun hw => ?_, (rounds_iff m _ v).2 ⟨r, by rw [e, List.append_assoc]; rfl, by simpa using hl, fun x hx => hr x (by simp [hx]), fun i h2 h3 h4 => ha i (by simp at h2; omega) h3 h4, hcl⟩⟩⟩
        have h5 := ha w.length (Nat.le_refl _) (by rw [e]; simp) hw
        have e1 : gt v w.length = (n : Int) := by rw [e, ← Nat.add_zero w.length, gt_right]; rfl
        have e2 : gt v (w.length - 1) = gt w (w.length - 1) := by rw [e, gt_left (by omega)]
        rw [e1, e2] at h5; exact h5
theorem words_iff {v : List Int} : v ∈ words ts W ↔ Wd ts W v ∧ (∀ i, 0 < i → i < W → E_ ts (gt v (i - 1)) 2 = E_ ts (gt v i) 0) ∧ closeW ts v := by
  unfold words
  rw [rounds_iff]
  constructor
  · rintro ⟨r, e, hl, hr, ha, hcl⟩
    rw [List.nil_append] at e
    subst e
    exact ⟨⟨hl, hr⟩, fun i h1 h2 => ha i (by simp) (by omega) h1, hcl⟩
  · rintro ⟨⟨hl, hr⟩, ha, hcl⟩
    exact ⟨v, by simp, hl, hr, fun i _ h2 h3 => ha i h3 (by omega), hcl⟩
/-! ### sequences of words -/
theorem seqs_iff : ∀ (n : Nat) (s x : Int) (T : List (List Int)), T ∈ seqs c ts W n s x ↔ T.length = n ∧ (∀ w ∈ T, w ∈ words ts W) ∧ (∀ i, i < n → cd c ts 1 (rw_ T i) = if i = 0 then s else cd c ts 3 (rw_ T (i - 1))) ∧ (if n = 0 then s else cd c ts 3 (rw_ T (n - 1))) = x
  | 0, s, x, T => by
    rw [seqs, mem_sel_iff, List.mem_singleton]
    constructor
    · rintro ⟨h, rfl⟩
      exact ⟨rfl, by simp, fun i hi => by omega, by rw [if_pos rfl]; exact h⟩
    · rintro ⟨h1, _, _, h2⟩
      rw [if_pos rfl] at h2
      exact ⟨h2, List.length_eq_zero_iff.1 h1⟩
  | n + 1, s, x, T => by
    rw [seqs, List.mem_flatMap]
    constructor
    · rintro ⟨w, hw, h⟩
      obtain ⟨hc, h⟩ := mem_sel_iff.1 h
      obtain ⟨T', hT, rfl⟩ := List.mem_map.1 h
      obtain ⟨h1, h2, h3, h4⟩ := (seqs_iff n _ x T').1 hT
      refine ⟨by simp [h1], fun v hv => ?_, fun i hi => ?_, ?_⟩
      · rcases List.mem_cons.1 hv with rfl | hv
        · exact hw
        · exact h2 v hv
      · cases i with
        | zero => rw [if_pos rfl]; exact hc
        | succ i =>
          rw [if_neg (by omega)]
          have := h3 i (by omega)
          show cd c ts 1 (rw_ T' i) = cd c ts 3 (rw_ (w :: T') i)
          rw [this]
          cases i with
          | zero => rw [if_pos rfl]; rfl
          | succ i => rw [if_neg (by omega)]; rfl
      · rw [if_neg (by omega)]
        cases n with
        | zero => rw [if_pos rfl] at h4; exact h4
        | succ n => rw [if_neg (by omega)] at h4; exact h4
    · rintro ⟨h1, h2, h3, h4⟩
      cases T with
      | nil => simp at h1
      | cons w T' =>
        have hc := h3 0 (by omega)
        rw [if_pos rfl] at hc
        refine ⟨w, h2 w (by simp), mem_sel_iff.2 ⟨hc, List.mem_map.2 ⟨T', (seqs_iff n _ x T').2 ⟨by simpa using h1, fun v hv => h2 v (by simp [hv]), fun i hi => ?_, ?_⟩, rfl⟩⟩⟩
        · have := h3 (i + 1) (by omega)
          rw [if_neg (by omega)] at this
          show cd c ts 1 (rw_ (w :: T') (i + 1)) = _
          rw [this]
          cases i with
          | zero => rw [if_pos rfl]; rfl
          | succ i => rw [if_neg (by omega)]; rfl
        · rw [if_neg (by omega)] at h4
          cases n with
          | zero => rw [if_pos rfl]; exact h4
          | succ n => rw [if_neg (by omega)]; exact h4
theorem tori_iff {H : Nat} (hH : 1 ≤ H) {T : List (List Int)} : T ∈ toriL c ts W H ↔ T.length = H ∧ (∀ w ∈ T, w ∈ words ts W) ∧ (∀ i, 0 < i → i < H → cd c ts 1 (rw_ T i) = cd c ts 3 (rw_ T (i - 1))) ∧ cd c ts 3 (rw_ T (H - 1)) = cd c ts 1 (rw_ T 0) := by
  unfold toriL
  rw [List.mem_flatMap]
  constructor
  · rintro ⟨w, hw, h⟩
    obtain ⟨T', hT, rfl⟩ := List.mem_map.1 h
    obtain ⟨h1, h2, h3, h4⟩ := (seqs_iff _ _ _ T').1 hT
    refine ⟨by simp [h1]; omega, fun v hv => ?_, fun i h0 hi => ?_, ?_⟩
    · rcases List.mem_cons.1 hv with rfl | hv
      · exact hw
      · exact h2 v hv
    · obtain ⟨j, rfl⟩ : ∃ j, i = j + 1 := ⟨i - 1, by omega⟩
      have := h3 j (by omega)
      show cd c ts 1 (rw_ T' j) = cd c ts 3 (rw_ (w :: T') j)
      rw [this]
      cases j with
      | zero => rw [if_pos rfl]; rfl
      | succ j => rw [if_neg (by omega)]; rfl
    · obtain ⟨m, rfl⟩ : ∃ m, H = m + 1 := ⟨H - 1, by omega⟩
      show cd c ts 3 (rw_ (w :: T') m) = cd c ts 1 w
      rw [show m + 1 - 1 = m from rfl] at h4
      cases m with
      | zero => rw [if_pos rfl] at h4; exact h4
      | succ m => rw [if_neg (by omega)] at h4; exact h4
  · rintro ⟨h1, h2, h3, h4⟩
    cases T with
    | nil => simp at h1; omega
    | cons w T' =>
      refine ⟨w, h2 w (by simp), List.mem_map.2 ⟨T', (seqs_iff _ _ _ T').2 ⟨by simp at h1; omega, fun v hv => h2 v (by simp [hv]), fun i hi => ?_, ?_⟩, rfl⟩⟩
      · have := h3 (i + 1) (by omega) (by omega)
        show cd c ts 1 (rw_ (w :: T') (i + 1)) = _
        rw [this]
        cases i with
        | zero => rw [if_pos rfl]; rfl
        | succ i => rw [if_neg (by omega)]; rfl
      · obtain ⟨m, rfl⟩ : ∃ m, H = m + 1 := ⟨H - 1, by omega⟩
        have h5 : cd c ts 3 (rw_ (w :: T') m) = cd c ts 1 w := h4
        rw [show m + 1 - 1 = m from rfl]
        cases m with
        | zero => rw [if_pos rfl]; exact h5
        | succ m => rw [if_neg (by omega)]; exact h5
end
end Go.Proofs.YtcoampecbpiecaaGreat.Cl

/- Shifts of tori are tori; forms are no more than tori, and tori are no more than the shifts of forms: plain. No claim is stated here. -/
set_option linter.unusedVariables false
set_option linter.unusedSimpArgs false
namespace Go.Proofs.YtcoampecbpiecaaGreat.Cl
open Go
theorem nodup_leZ {α : Type} [DecidableEq α] : ∀ (l m : List α), l.Nodup → (∀ x ∈ l, x ∈ m) → l.length ≤ m.length
  | [], _, _, _ => by simp
  | a :: l, m, h, hs => by
    have h1 := List.nodup_cons.1 h
    have hm : a ∈ m := hs a (by simp)
    have := nodup_leZ l (m.erase a) h1.2 fun x hx => (List.mem_erase_of_ne (fun e => h1.1 (by rw [← e]; exact hx))).2 (hs x (by simp [hx]))
    rw [List.length_erase_of_mem hm] at this
    have := List.length_pos_of_mem hm
    simp only [List.length_cons]
    omega
/-- Each cell fits the one to the east and the one to the south, around. -/
def TorC (ts : List Tile) (rows : List (List Int)) (H W : Nat) : Prop := ∀ y x, y < H → x < W → S_ ts rows y x 2 = S_ ts rows y ((x + 1) % W) 0 ∧ S_ ts rows y x 3 = S_ ts rows ((y + 1) % H) x 1
section
variable {ts : List Tile} {rows : List (List Int)} {c : Int} {H W : Nat}
theorem torus_iff (R : Rect rows) : Torus ts rows ↔ TorC ts rows rows.length (wide rows) := by
  have R0 := R.h0
  have W0 := R.w0
  have hw := R.w
  constructor
  · rintro ⟨hf, hc, ht⟩ y x hy hx
    refine ⟨?_, ?_⟩
    · by_cases e : x + 1 < wide rows
      · rw [Nat.mod_eq_of_lt e]
        exact (hf y (x + 1) hy (by rw [hw y hy]; exact e)).1 (by omega)
      · have : x + 1 = wide rows := by omega
        rw [this, Nat.mod_self]
        have h := hc y hy
        rw [hw y hy] at h
        rw [show x = wide rows - 1 by omega]
        exact h
    · by_cases e : y + 1 < rows.length
      · rw [Nat.mod_eq_of_lt e]
        exact (hf (y + 1) x e (by rw [hw _ e]; exact hx)).2 (by omega)
      · have : y + 1 = rows.length := by omega
        rw [this, Nat.mod_self]
        have h := ht x (by rw [hw 0 (by omega)]; exact hx)
        rw [show y = rows.length - 1 by omega]
        exact h
  · intro h
    refine ⟨fun y x hy hx => ⟨fun h0 => ?_, fun h0 => ?_⟩, fun y hy => ?_, fun x hx => ?_⟩
    · rw [hw y hy] at hx
      have := (h y (x - 1) hy (by omega)).1
      rw [show x - 1 + 1 = x by omega, Nat.mod_eq_of_lt hx] at this
      exact this
    · rw [hw y hy] at hx
      have := (h (y - 1) x (by omega) hx).2
      rw [show y - 1 + 1 = y by omega, Nat.mod_eq_of_lt hy] at this
      exact this
    · rw [hw y hy]
      have := (h y (wide rows - 1) hy (by omega)).1
      rw [show wide rows - 1 + 1 = wide rows by omega, Nat.mod_self] at this
      exact this
    · rw [hw 0 (by omega)] at hx
      have := (h (rows.length - 1) x (by omega) hx).2
      rw [show rows.length - 1 + 1 = rows.length by omega, Nat.mod_self] at this
      exact this
theorem TorC.shift (R : Rect rows) (h : TorC ts rows rows.length (wide rows)) (a b : Nat) : TorC ts (shiftG rows a b) rows.length (wide rows) := by
  have R0 := R.h0
  have W0 := R.w0
  intro y x hy hx
  have h1 := h ((y + a) % rows.length) ((x + b) % wide rows) (Nat.mod_lt _ (by omega)) (Nat.mod_lt _ (by omega))
  have hx1 : (x + 1) % wide rows < wide rows := Nat.mod_lt _ (by omega)
  have hy1 : (y + 1) % rows.length < rows.length := Nat.mod_lt _ (by omega)
  unfold S_ at *
  rw [G_shift hy hx, G_shift hy hx1, G_shift hy1 hx]
  rw [Nat.mod_add_mod, Nat.mod_add_mod] at h1 ⊢
  rw [show x + 1 + b = x + b + 1 by omega, show y + 1 + a = y + a + 1 by omega]
  exact h1
theorem rows_shift (R : Rect rows) {n : Nat} (hn : ∀ y x, y < rows.length → x < wide rows → 0 ≤ G rows y x ∧ G rows y x < (n : Int)) (a b : Nat) : ∀ y x, y < rows.length → x < wide rows → 0 ≤ G (shiftG rows a b) y x ∧ G (shiftG rows a b) y x < (n : Int) := fun y x hy hx => by
  have R0 := R.h0
  have W0 := R.w0
  rw [G_shift hy hx]
  exact hn _ _ (Nat.mod_lt _ (by omega)) (Nat.mod_lt _ (by omega))
theorem Given.shift (h : Given c ts rows) (a b : Nat) : Given c ts (shiftG rows a b) := by
  obtain ⟨⟨hs, hN⟩, hT⟩ := h
  have R := hN.rect
  have R2 := R.shift a b
  have hl := shiftG_len rows a b
  have hw := wide_shift R a b
  have hn : ∀ y x, y < rows.length → x < wide rows → 0 ≤ G rows y x ∧ G rows y x < (ts.length : Int) := fun y x hy hx => hN.1 y x hy (by rw [R.w y hy]; exact hx)
  refine ⟨⟨hs, fun y x hy hx => ?_, ⟨by rw [hl]; exact hN.2.1, fun y hy => ?_⟩⟩, ?_⟩
  · rw [R2.w y hy, hw] at hx
    rw [hl] at hy
    exact rows_shift R hn a b y x hy hx
  · have h1 := R2.w y hy
    have h2 := R2.w0
    have h3 := R2.w1
    have h4 := R2.w 0 (by have := R2.h0; omega)
    rw [h1, h4]
    exact ⟨rfl, h2, by omega⟩
  · rw [torus_iff R2, hl, hw]
    exact ((torus_iff R).1 hT).shift R a b
/-! ### tori, by their cells -/
theorem row_mem {T : List (List Int)} {y : Nat} (hy : y < T.length) : rw_ T y ∈ T := by
  unfold rw_
  rw [List.getD_eq_getElem?_getD, List.getElem?_eq_getElem hy]
  exact List.getElem_mem hy
theorem mem_tori (S : Sides c ts) (hH : 1 ≤ H) (hW : 1 ≤ W) {T : List (List Int)} : T ∈ toriL c ts W H ↔ T.length = H ∧ (∀ w ∈ T, Wd ts W w) ∧ TorC ts T H W := by
  rw [tori_iff hH]
  constructor
  · rintro ⟨h1, h2, h3, h4⟩
    have hwd : ∀ y, y < H → Wd ts W (rw_ T y) := fun y hy => (words_iff.1 (h2 _ (row_mem (by omega)))).1
    refine ⟨h1, fun w hw => (words_iff.1 (h2 w hw)).1, fun y x hy hx => ⟨?_, ?_⟩⟩
    · obtain ⟨a1, a2, a3⟩ := words_iff.1 (h2 _ (row_mem (show y < T.length by omega)))
      by_cases e : x + 1 < W
      · rw [Nat.mod_eq_of_lt e]
        exact a2 (x + 1) (by omega) e
      · have : x + 1 = W := by omega
        rw [this, Nat.mod_self]
        unfold closeW at a3
        rw [a1.1] at a3
        rw [show x = W - 1 by omega]
        exact a3
    · by_cases e : y + 1 < H
      · rw [Nat.mod_eq_of_lt e]
        have := (cd_iff S (hwd (y + 1) e) (hwd y hy) (by omega) (by omega)).1 (h3 (y + 1) (by omega) e) x hx
        exact this.symm
      · have : y + 1 = H := by omega
        rw [this, Nat.mod_self]
        have := (cd_iff S (hwd (H - 1) (by omega)) (hwd 0 (by omega)) (by omega) (by omega)).1 h4 x hx
        rw [show y = H - 1 by omega]
        exact this
  · rintro ⟨h1, h2, h3⟩
    have hwd : ∀ y, y < H → Wd ts W (rw_ T y) := fun y hy => h2 _ (row_mem (by omega))
    refine ⟨h1, fun w hw => ?_, fun i i0 i1 => ?_, ?_⟩
    · obtain ⟨y, hy, rfl⟩ := List.getElem_of_mem hw
      have er : rw_ T y = T[y] := by unfold rw_; rw [List.getD_eq_getElem?_getD, List.getElem?_eq_getElem hy]; rfl
      rw [← er]
      refine words_iff.2 ⟨hwd y (by omega), fun i i0 i1 => ?_, ?_⟩
      · have := (h3 y (i - 1) (by omega) (by omega)).1
        rw [show i - 1 + 1 = i by omega, Nat.mod_eq_of_lt i1] at this
        exact this
      · unfold closeW
        rw [(hwd y (by omega)).1]
        have := (h3 y (W - 1) (by omega) (by omega)).1
        rw [show W - 1 + 1 = W by omega, Nat.mod_self] at this
        exact this
    · refine (cd_iff S (hwd i i1) (hwd (i - 1) (by omega)) (by omega) (by omega)).2 fun x hx => ?_
      have := (h3 (i - 1) x (by omega) hx).2
      rw [show i - 1 + 1 = i by omega, Nat.mod_eq_of_lt i1] at this
      exact this.symm
    · refine (cd_iff S (hwd (H - 1) (by omega)) (hwd 0 (by omega)) (by omega) (by omega)).2 fun x hx => ?_
      have := (h3 (H - 1) x (by omega) hx).2
      rw [show H - 1 + 1 = H by omega, Nat.mod_self] at this
      exact this
theorem tori_rect (hH : 1 ≤ H) (hH3 : H ≤ 3) (hW : 1 ≤ W) (hW3 : W ≤ 3) {T : List (List Int)} (h1 : T.length = H) (h2 : ∀ w ∈ T, Wd ts W w) : Rect T ∧ wide T = W := by
  have hw : ∀ y, y < T.length → (rw_ T y).length = W := fun y hy => (h2 _ (row_mem hy)).1
  have hwd : wide T = W := hw 0 (by omega)
  exact ⟨⟨by omega, by omega, fun y hy => by rw [hw y hy, hwd], by omega, by omega⟩, hwd⟩
theorem tori_shift (S : Sides c ts) (hH : 1 ≤ H) (hH3 : H ≤ 3) (hW : 1 ≤ W) (hW3 : W ≤ 3) {T : List (List Int)} (hT : T ∈ toriL c ts W H) (a b : Nat) : shiftG T a b ∈ toriL c ts W H := by
  obtain ⟨h1, h2, h3⟩ := (mem_tori S hH hW).1 hT
  obtain ⟨R, hwd⟩ := tori_rect hH hH3 hW hW3 h1 h2
  have hl := shiftG_len T a b
  refine (mem_tori S hH hW).2 ⟨by rw [hl, h1], fun w hw => ?_, ?_⟩
  · obtain ⟨y, hy, rfl⟩ := List.getElem_of_mem hw
    have er : rw_ (shiftG T a b) y = (shiftG T a b)[y] := by unfold rw_; rw [List.getD_eq_getElem?_getD, List.getElem?_eq_getElem hy]; rfl
    rw [hl] at hy
    have hrl : (rw_ (shiftG T a b) y).length = W := by rw [shiftG_row hy, hwd]
    refine ⟨by rw [← er]; exact hrl, fun x hx => ?_⟩
    rw [← er] at hx
    obtain ⟨i, hi, rfl⟩ := List.getElem_of_mem hx
    rw [hrl] at hi
    have hn : ∀ y x, y < T.length → x < wide T → 0 ≤ G T y x ∧ G T y x < (ts.length : Int) := fun y x hy hx => by
      have hwy := h2 _ (row_mem hy)
      have : G T y x ∈ rw_ T y := by
        unfold G
        rw [List.getD_eq_getElem?_getD, List.getElem?_eq_getElem (by rw [hwy.1, ← hwd]; exact hx)]
        exact List.getElem_mem _
      exact hwy.2 _ this
    have h5 := rows_shift R hn a b y i hy (by rw [hwd]; exact hi)
    unfold G at h5
    rw [List.getD_eq_getElem?_getD, List.getElem?_eq_getElem (by rw [hrl]; exact hi)] at h5
    exact h5
  · have := TorC.shift (ts := ts) R (by rw [h1, hwd]; exact h3) a b
    rw [h1, hwd] at this
    exact this
theorem forms_bound (S : Sides c ts) (hH : 1 ≤ H) (hH3 : H ≤ 3) (hW : 1 ≤ W) (hW3 : W ≤ 3) : (toriL c ts W H).length ≤ (toriL c ts W H).countP isForm * (H * W) := by
  have hsub : ∀ T ∈ toriL c ts W H, T ∈ ((toriL c ts W H).filter isForm).flatMap fun f => (prs H W).map fun p => shiftG f p.1 p.2 := fun T hT => by
    obtain ⟨h1, h2, h3⟩ := (mem_tori S hH hW).1 hT
    obtain ⟨R, hwd⟩ := tori_rect hH hH3 hW hW3 h1 h2
    obtain ⟨a, b, ha, hb, e⟩ := of_least R
    obtain ⟨a', b', ha', hb', e'⟩ := least_shift R
    have hm : leastG T ∈ toriL c ts W H := by rw [e']; exact tori_shift S hH hH3 hW hW3 hT a' b'
    exact List.mem_flatMap.2 ⟨leastG T, List.mem_filter.2 ⟨hm, least_form R⟩, List.mem_map.2 ⟨(a, b), mem_prs.2 ⟨by omega, by omega⟩, e.symm⟩⟩
  have h := nodup_leZ _ _ (tori_nodup H) hsub
  rw [List.length_flatMap] at h
  simp only [List.length_map, prs_len] at h
  rw [sum_const, ← List.countP_eq_length_filter] at h
  exact h
/-! ### kept shifts -/
theorem kept_at {l : List Int} (h : l ∈ keptG rows) : ∃ a b : Nat, l = [(a : Int), (b : Int)] ∧ a < rows.length ∧ b < wide rows ∧ shiftG rows a b = rows := by
  rw [kept_eq] at h
  obtain ⟨p, hp, rfl⟩ := List.mem_map.1 h
  obtain ⟨h1, h2⟩ := List.mem_filter.1 hp
  have h3 := mem_prs.1 h1
  exact ⟨p.1, p.2, rfl, h3.1, h3.2, of_decide_eq_true h2⟩
end
end Go.Proofs.YtcoampecbpiecaaGreat.Cl
