/- Contracts of functions, joined. No claim is stated here. -/
import Derived.Test.YtekfmmcolgjdmaaFb0
import Derived.Test.YtekfmmcolgjdmaaFa2
/- The program's search for boards: the walk. No claim is stated here. -/
set_option linter.unusedVariables false
set_option linter.unusedSimpArgs false
namespace Go.Proofs.Ytekfmmcolgjdmaa.Cl
open Go
structure Visitor {α : Type} (E : Env) (step : α → Pls → α × Bool) (okA : α → Prop) (Vis : (Nat → Prop) → α → H → Prop) : Prop where
  next : ∀ a pl, okA a → (step a pl).2 = true → okA (step a pl).1
  call : ∀ (V : Nat → Prop) a h (s : Sl) (pl : Pls), okA a → Vis V a h → pl.length = E.Hh * E.W → Rd h s 2 (pcs (pl.map plN)) → (∀ i, s.o = some i → ¬ V i) →
    callB SP E.g ([.sl s] ++ E.cap) h fun on h' => on = (step a pl).2 ∧ ∃ V' : Nat → Prop, Vis V' (step a pl).1 h' ∧ (∀ i, V' i → V i ∨ h.length ≤ i) ∧ Chg V h h'
  keep : ∀ (V : Nat → Prop) a h h' (Q : Nat → Prop), Vis V a h → Chg Q h h' → (∀ i, V i → ¬ Q i) → Vis V a h'
  lt : ∀ (V : Nat → Prop) a h i, Vis V a h → V i → i < h.length
/-- What the search has come to: from the table vs0 and the visitor's objects V0 in h0. -/
def Got {α : Type} (E : Env) (Vis : (Nat → Prop) → α → H → Prop) (D : Nat → Prop) (vs0 : List Sl) (V0 : Nat → Prop) (h0 : H) (pl : Pls) (a : α) (h : H) : Prop :=
  ∃ (vs : List Sl) (V : Nat → Prop), Srch E vs pl h ∧ Vis V a h ∧ (∀ i, V i → ¬ (E.RO i ∨ E.O vs i)) ∧ (∀ i, OwnV vs i → OwnV vs0 i ∨ h0.length ≤ i) ∧ (∀ i, V i → V0 i ∨ h0.length ≤ i) ∧
    (∀ y, y < yN E.W pl.length → vs[y]? = vs0[y]?) ∧ Chg (fun i => E.O vs0 i ∨ V0 i ∨ h0.length ≤ i) h0 h ∧ ∀ i, D i → ¬ OwnV vs i ∧ ¬ V i
theorem runV_ok {α : Type} {step : α → Pls → α × Bool} {okA : α → Prop} (hn : ∀ a pl, okA a → (step a pl).2 = true → okA (step a pl).1) : ∀ (L : List Pls) (a a' : α), okA a → runV step a L = (a', true) → okA a'
  | [], a, a', h, e => by cases e; exact h
  | x :: L, a, a', h, e => by
    rw [runV_cons] at e
    split at e
    · next q => exact runV_ok hn L _ a' (hn a x h q) e
    · cases e
theorem OwnV_set {vs : List Sl} {y : Nat} {w : Sl} {i : Nat} (h : OwnV (vs.set y w) i) : OwnV vs i ∨ w.o = some i := by
  obtain ⟨v, hv, e⟩ := h
  rcases List.mem_or_eq_of_mem_set hv with h | rfl
  · exact .inl ⟨v, h, e⟩
  · exact .inr e
theorem map_range_set {β : Type} {n i : Nat} {f f' : Nat → β} {v : β} (h1 : f' i = v) (h2 : ∀ j, j ≠ i → f' j = f j) : ((List.range n).map f).set i v = (List.range n).map f' := by
  apply List.ext_getElem (by simp)
  intro j p q
  simp only [List.length_set, List.length_map, List.length_range] at p
  rw [List.getElem_set]
  split
  · next e => subst e; simp [h1]
  · next e => simp [h2 j (Ne.symm e)]
theorem sne {a b : Nat} (h : a ≠ b) : some a ≠ some b := fun e => h (Option.some.inj e)
theorem But.set1 {o : Option Nat} {a b : H} (x : But o a b) {P : Nat → Prop} (hp : ∀ i, o = some i → P i) : Chg P a b := x.chg hp
section
variable {α : Type} {E : Env} {step : α → Pls → α × Bool} {okA : α → Prop} {Vis : (Nat → Prop) → α → H → Prop}
set_option maxHeartbeats 2000000 in
theorem fill_c (ok : E.OK) (vz : Visitor E step okA Vis) : ∀ (m : Nat) (pl : Pls) (vs : List Sl) (V : Nat → Prop) (a : α) (h : H), pl.length + m = E.Hh * E.W → okA a → Srch E vs pl h → Vis V a h → (∀ i, V i → ¬ (E.RO i ∨ E.O vs i)) →
    callB SP i_impl_boards_1 E.ptrs h fun on h' => on = (runV step a (boardsL E.ts E.b E.Hh E.W m pl)).2 ∧ Got E Vis (fun _ => False) vs V h pl (runV step a (boardsL E.ts E.b E.Hh E.W m pl)).1 h' := by
  intro m
  have hW := ok.hW
  have hW6 := ok.hW6
  have hH6 := ok.hH6
  have hts := ok.hts
  have hHW : E.Hh * E.W ≤ 6 * 6 := Nat.mul_le_mul hH6 hW6
  have la0 : E.a0 < E.n0 := ok.lt _ (.inr (by unfold Env.W4; simp))
  have loL : E.oL < E.n0 := ok.lt _ (.inr (by unfold Env.W4; simp))
  have loT : E.oT < E.n0 := ok.lt _ (.inr (by unfold Env.W4; simp))
  have loU : E.oU < E.n0 := ok.lt _ (.inr (by unfold Env.W4; simp))
  have la4 : E.a4 < E.n0 := ok.lt _ (.inl (by unfold Env.RO; simp))
  have na4 : ¬ E.W4 E.a4 := ok.ro _ (by unfold Env.RO; simp)
  have na4' : E.a4 ≠ E.a0 ∧ E.a4 ≠ E.oL ∧ E.a4 ≠ E.oT ∧ E.a4 ≠ E.oU := by unfold Env.W4 at na4; exact ⟨fun e => na4 (.inl e), fun e => na4 (.inr (.inl e)), fun e => na4 (.inr (.inr (.inl e))), fun e => na4 (.inr (.inr (.inr e)))⟩
  have d1 := ok.d1
  have d2 := ok.d2
  have d3 := ok.d3
  have d4 := ok.d4
  have d5 := ok.d5
  have d6 := ok.d6
  induction m with
  | zero =>
    intro pl vs V a h hpl hoa S hV hd
    obtain ⟨sl, l1, l2, l3⟩ := S.list
    have e := S.env
    have hll := l3.rd.plen
    rw [List.length_map] at hll
    apply impl_boards_1_call
    unfold impl_boards_1_main
    refine l1.ldS (e.v1.ldI ⟨by omega, l1.ldS (e.v1.ldI ⟨by omega, e.v2.ldI ?_⟩)⟩)
    rw [hll, show Int.tdiv (pl.length : Int) (E.W : Int) = ((yN E.W pl.length : Nat) : Int) from rfl]
    have hy : yN E.W pl.length = E.Hh := by unfold yN; rw [show pl.length = E.Hh * E.W by omega, Nat.mul_div_cancel _ hW]
    rw [hy, w64_of (by omega) (by omega)]
    refine bif_eq (fun _ => ?_) (fun q => absurd rfl q)
    refine e.v3.ldV (l1.ldS (via_func ?_))
    refine (vz.call V a h sl pl hoa hV (by omega) l3.rd (fun i ei hi => hd i hi (.inr (.inl (by rw [l2] at ei; cases ei; unfold Env.W4; simp))))).to ?_
    rintro _ h' ⟨rfl, V', hV', hVV, c⟩
    have hb : boardsL E.ts E.b E.Hh E.W 0 pl = [pl] := rfl
    have hr : runV step a [pl] = step a pl := by
      rw [runV_cons]
      cases hs : step a pl with
      | mk p q => cases q <;> rfl
    rw [hb, hr]
    refine ⟨_, rfl, rfl, vs, V', S.chg ok c (fun i _ hi hv => hd i hv hi), hV', fun i hi hro => ?_, fun i hi => .inl hi, hVV, fun _ _ => rfl, c.to fun i _ hi => .inr (.inl hi), fun _ f => f.elim⟩
    rcases hVV i hi with h1 | h1
    · exact hd i h1 hro
    · have := S.lt ok hro; omega
  | succ m ih =>
    intro pl vs V a h hpl hoa S hV hd
    obtain ⟨sl, l1, l2, l3⟩ := S.list
    have e := S.env
    have hll := l3.rd.plen
    rw [List.length_map] at hll
    have hlen := S.len
    have hul := e.ru.tlen
    have hle := S.le
    apply impl_boards_1_call
    unfold impl_boards_1_main
    refine l1.ldS (e.v1.ldI ⟨by omega, l1.ldS (e.v1.ldI ⟨by omega, e.v2.ldI ?_⟩)⟩)
    have h2 := div_eq' pl.length E.W
    have h3 := xN_lt pl.length hW
    have hy : yN E.W pl.length < E.Hh := by unfold yN; rw [Nat.div_lt_iff_lt_mul hW]; omega
    rw [hll, show Int.tdiv (pl.length : Int) (E.W : Int) = ((yN E.W pl.length : Nat) : Int) from rfl, show Int.tmod (pl.length : Int) (E.W : Int) = ((xN E.W pl.length : Nat) : Int) from rfl, w64_of (n := ((yN E.W pl.length : Nat) : Int)) (by omega) (by omega)]
    refine bif_eq (fun q => absurd q (by omega)) (fun _ => ?_)
    have hF : boardsL E.ts E.b E.Hh E.W (m + 1) pl = pkI (fun q => if fitC E.ts E.b E.Hh E.W pl q then boardsL E.ts E.b E.Hh E.W m (pl ++ [q]) else []) (usedN pl) E.ts.length := rfl
    rw [hF]
    generalize hFd : (fun q => if fitC E.ts E.b E.Hh E.W pl q then boardsL E.ts E.b E.Hh E.W m (pl ++ [q]) else []) = F
    have main : ∀ up : Sl, (yN E.W pl.length = 0 ∧ up = Sl.nil) ∨ (0 < yN E.W pl.length ∧ vs[yN E.W pl.length - 1]? = some up) →
        impl_boards_1_L0 SP (fun v h' => ∃ r, v = .bool r ∧ r = (runV step a (pkI F (usedN pl) E.ts.length)).2 ∧ Got E Vis (fun _ => False) vs V h pl (runV step a (pkI F (usedN pl) E.ts.length)).1 h')
          (pt E.a0) (pt E.a1) (pt E.a2) (pt E.a4) (pt E.a5) (pt E.a6) (pt E.a7) (pt E.a8) (yN E.W pl.length : Nat) (xN E.W pl.length : Nat) up (E.u.len : Int) 0 h := fun up hup => by
      refine impl_boards_1_rule0 _ _ _ _ _ _ _ _ _ _ _ _ _ _ (fun i g => ∃ (k : Nat) (a' : α), i = k ∧ k ≤ E.ts.length ∧ runV step a (pkI F (usedN pl) k) = (a', true) ∧ Got E Vis (fun _ => False) vs V h pl a' g) (fun i _ => (E.ts.length - i).toNat) ?_ _
        ⟨0, a, rfl, by omega, rfl, vs, V, S, hV, hd, fun i hi => .inl hi, fun i hi => .inl hi, fun _ _ => rfl, Chg.refl _ _, fun _ f => f.elim⟩
      rintro X _ g ⟨i, a1, rfl, hi, hr, G⟩ hX
      unfold impl_boards_1_b0 impl_boards_1_C0 impl_boards_1_C1
      refine bif_dec (fun hi2 => ?_) (fun hi2 => ?_)
      · have hi' : i < E.ts.length := by omega
        obtain ⟨vs1, V1, S1, hV1, hd1, ho1, hv1, ha1, c1, _⟩ := G
        refine S1.env.v6.ldS ?_
        have hul1 := S1.used.rd.len
        rw [List.length_map, List.length_range, Nat.mul_one] at hul1
        refine Rd.ldB (l := (List.range E.ts.length).map fun i => usedN pl i) (by rw [List.map_map]; exact S1.used.rd) (by omega) (by rw [List.length_map, List.length_range]; omega) fun c hc => ?_
        rw [Int.toNat_natCast, List.getElem?_map, List.getElem?_range hi'] at hc
        have hc' : usedN pl i = c := Option.some.inj hc
        subst hc'
        refine bif_b (fun qu => ?_) (fun qu => ?_)
        · rw [w64_of (n := (i : Int) + 1) (by omega) (by omega)]
          exact hX _ _ ⟨i + 1, a1, by push_cast; rfl, by omega, by rw [pkI_succ, if_pos qu, List.append_nil]; exact hr, vs1, V1, S1, hV1, hd1, ho1, hv1, ha1, c1, fun _ f => f.elim⟩ (by omega)
        · refine S1.env.v5.ldS ?_
          refine S1.env.ru.ldT (by omega) (by omega) fun ta hta => ?_
          rw [Int.toNat_natCast] at hta
          refine (turns_c ta _).to ?_
          rintro s51 g1 ⟨os1, fs1, x1⟩
          have l51 := os1.rd.tlen
          rw [turnsN_len] at l51
          rw [l51]
          have hg1 := c1.1
          have hx1 := x1.len
          refine impl_boards_1_rule2 _ _ X _ _ _ _ _ _ _ _ _ _ _ _ _ _ _ _ (fun j g' => ∃ (k : Nat) (a' : α), j = k ∧ k ≤ 4 ∧ runV step a (pkI F (usedN pl) i ++ pkK F i k) = (a', true) ∧ Got E Vis (fun o => s51.o = some o) vs V h pl a' g' ∧ Ow g' s51 4 (tcs (turnsN 4 ta)) ∧ h.length ≤ g'.length) (fun j _ => (4 - j).toNat) ?_ _
            ⟨0, a1, rfl, by omega, by rw [pkK_zero, List.append_nil]; exact hr, ⟨vs1, V1, S1.chg ok (x1.chg fun _ => False) (fun _ _ _ f => f), vz.keep _ _ _ _ _ hV1 (x1.chg fun _ => False) (fun _ _ f => f), hd1, ho1, hv1, ha1, c1.trans (x1.chg _), fun o ho => ⟨fun hw => by have h5 := fs1 o ho; have := S1.lt ok (.inr (.inr hw)); omega, fun hw => by have h5 := fs1 o ho; have := vz.lt _ _ _ _ hV1 hw; omega⟩⟩, os1, by omega⟩
          rintro Y _ g' ⟨k, a2, rfl, hk, hr2, G2, os, hgl⟩ hY
          obtain ⟨vs1, V1, S1, hV1, hd1, ho1, hv1, ha1, c1, hD1⟩ := G2
          unfold impl_boards_1_b2 impl_boards_1_C2 impl_boards_1_C1
          refine bif_dec (fun hk2 => ?_) (fun hk2 => ?_)
          · have hk' : k < 4 := by omega
            have hgn := S1.le
            obtain ⟨sl1, m1, m2, m3⟩ := S1.list
            have hl1 := m3.rd.plen
            rw [List.length_map] at hl1
            have hyl : yN E.W pl.length < vs1.length := by rw [S1.len]; exact hy
            have hv := List.getElem?_eq_getElem hyl
            generalize vs1[yN E.W pl.length] = v at hv
            have rv := S1.row _ _ hv
            rw [show (tcs (turnsN 4 ta)) = tcs (turnsN 4 ta) from rfl] at os
            refine os.rd.ldT (by omega) (by rw [turnsN_len]; omega) fun t ht => ?_
            rw [Int.toNat_natCast, turnsN4_at ta hk'] at ht
            have htq : t = tq E.ts (i, k) := by
              rw [← Option.some.inj ht]
              unfold tq
              rw [List.getD_eq_getElem?_getD, hta]; rfl
            subst htq
            refine newO_obj fun g3 o3 x3 n3 => ?_
            refine o3.stA fun g4 ob4 b4 n4 => ?_
            have x4 : Ext g' g4 := x3.but_ b4 (some_le (Nat.le_refl _))
            refine ob4.ldA rfl ?_
            have E4 := S1.env.chg (x4.chg fun _ => False) fun _ _ f => f
            have T4 := S1.tab.ext x4
            have htl : E.st.len = vs1.length := by have := T4.rd.len; rw [List.length_map, Nat.mul_one] at this; omega
            refine E4.v4.ldS ?_
            refine T4.rd.ldS (by omega) (by omega) fun v_ hv_ => ?_
            rw [Int.toNat_natCast, hv] at hv_
            cases hv_
            have hrl := rowC_len (ts := E.ts) (pl := pl) hW
            -- the tiles above
            have hup1 : up.o = none → yN E.W pl.length = 0 := fun e0 => by
              rcases hup with ⟨h0, _⟩ | ⟨h0, hu⟩
              · exact h0
              · exfalso
                have hu1 : vs1[yN E.W pl.length - 1]? = some up := by rw [ha1 _ (by omega)]; exact hu
                have ru := S1.row _ _ hu1
                have hfull := rowC_full (ts := E.ts) (W := E.W) (pl := pl) (y := yN E.W pl.length - 1) (by
                  have h5 : yN E.W pl.length - 1 + 1 = yN E.W pl.length := by omega
                  rw [h5]; exact mul_div_le' _ _)
                have h6 := ru.rd.tlen
                obtain h7 | ⟨_, h7, _⟩ := ru.rd.at_
                · omega
                · rw [e0] at h7; cases h7
            have hup2 : up.o ≠ none → 0 < yN E.W pl.length ∧ vs1[yN E.W pl.length - 1]? = some up := fun e0 => by
              rcases hup with ⟨_, h0⟩ | ⟨h0, hu⟩
              · rw [h0] at e0; exact absurd rfl e0
              · exact ⟨h0, by rw [ha1 _ (by omega)]; exact hu⟩
            have hfl : 0 < yN E.W pl.length → (rowC E.ts E.W pl (yN E.W pl.length - 1)).length = E.W := fun h0 => rowC_full (by
                  have h5 : yN E.W pl.length - 1 + 1 = yN E.W pl.length := by omega
                  rw [h5]; exact mul_div_le' _ _)
            refine (joins_c (x := (xN E.W pl.length : Nat)) (u := up) (v := v) (up := if 0 < yN E.W pl.length then rowC E.ts E.W pl (yN E.W pl.length - 1) else []) (lf := rowC E.ts E.W pl (yN E.W pl.length)) (fun e0 => by rw [if_neg (by have := hup1 e0; omega)])
              (fun e0 => by
                obtain ⟨q1, q2⟩ := hup2 e0
                rw [if_pos q1]
                exact ⟨((S1.row _ _ q2).ext x4).rd, by rw [hfl q1]; omega⟩)
              (rv.ext x4).rd (by omega) (by rw [hrl]; exact Int.le_refl _) (by omega) (ta := tp E.ts pl (pl.length - E.W)) (tl_ := tp E.ts pl (pl.length - 1))
              (fun e0 => by
                obtain ⟨q1, q2⟩ := hup2 e0
                rw [if_pos q1, Int.toNat_natCast]; exact rowC_above hW q1)
              (fun hx0 => by rw [show ((xN E.W pl.length : Nat) : Int) - 1 = ((xN E.W pl.length - 1 : Nat) : Int) by omega, Int.toNat_natCast]; exact rowC_left hW (by omega))).to ?_
            rintro _ g5 ⟨rfl, x5⟩
            have hnil : isNilS up = decide ((yN E.W pl.length : Int) = 0) := by
              unfold isNilS
              cases e0 : up.o with
              | none => have := hup1 e0; rw [decide_eq_true (by omega)]; rfl
              | some _ => have := (hup2 (by rw [e0]; simp)).1; rw [decide_eq_false (by omega)]; rfl
            rw [hnil]
            have ft := fit_two (lf := tp E.ts pl (pl.length - 1)) (ab := tp E.ts pl (pl.length - E.W)) (a := tq E.ts (i, k)) (b := E.b) h3 hy
            have ft' : fitC E.ts E.b E.Hh E.W pl (i, k) = fitsB (tp E.ts pl (pl.length - 1)) (tp E.ts pl (pl.length - E.W)) E.b ((yN E.W pl.length : Nat) : Int) ((xN E.W pl.length : Nat) : Int) (E.Hh : Int) (E.W : Int) (tq E.ts (i, k)) := rfl
            rw [← ft'] at ft
            have no : fitC E.ts E.b E.Hh E.W pl (i, k) = false → ∀ g6, Ext g' g6 → Y (impl_boards_1_e2 (pt E.a0) (pt E.a1) (pt E.a2) (pt E.a4) (pt E.a5) (pt E.a6) (pt E.a7) (pt E.a8) (yN E.W pl.length : Nat) (xN E.W pl.length : Nat) up i E.u.len i s51 (4 : Nat) (w64 (k + 1))) g6 := fun qf g6 x6 => by
              rw [w64_of (n := (k : Int) + 1) (by omega) (by omega)]
              have l6 := x6.len
              refine hY _ _ ⟨k + 1, a2, by push_cast; rfl, by omega, ?_, ⟨vs1, V1, S1.chg ok (x6.chg fun _ => False) (fun _ _ _ f => f), vz.keep _ _ _ _ _ hV1 (x6.chg fun _ => False) (fun _ _ f => f), hd1, ho1, hv1, ha1, c1.trans (x6.chg _), hD1⟩, os.ext x6, by omega⟩ (by omega)
              have : F (i, k) = [] := by rw [← hFd]; show (if fitC E.ts E.b E.Hh E.W pl (i, k) = true then _ else _) = _; rw [qf]; rfl
              rw [pkK_succ, this, List.append_nil]; exact hr2
            refine bif_not (fun q4 => no (by rw [← ft, q4]; rfl) _ (x4.trans x5)) (fun q4 => ?_)
            rw [q4, Bool.true_and] at ft
            have E5 := E4.chg (x5.chg fun _ => False) fun _ _ f => f
            refine (ob4.ext x5).ldA rfl ?_
            refine E5.v7.ldI (E5.v2.ldI (E5.v1.ldI ?_))
            refine (edges_c (w64_of (by omega) (by omega)) (w64_of (by omega) (by omega))).to ?_
            rintro _ g6 ⟨rfl, x6⟩
            refine bif_not (fun q5 => no (by rw [← ft, q5]) _ ((x4.trans x5).trans x6)) (fun q5 => ?_)
            have hfit : fitC E.ts E.b E.Hh E.W pl (i, k) = true := by rw [← ft, q5]
            have hFq : F (i, k) = boardsL E.ts E.b E.Hh E.W m (pl ++ [(i, k)]) := by rw [← hFd]; show (if fitC E.ts E.b E.Hh E.W pl (i, k) = true then _ else _) = _; rw [hfit]; rfl
            -- the mark
            have x46 := (x4.trans x5).trans x6
            have E6 := E5.chg (x6.chg fun _ => False) fun _ _ f => f
            refine E6.v6.ldS ?_
            have U6 := S1.used.ext x46
            have hul1 := U6.rd.len
            rw [List.length_map, List.length_range, Nat.mul_one] at hul1
            refine U6.stC (by omega) (by omega) _ fun g19 U19 b19 n19 => ?_
            rw [Int.toNat_natCast, map_range_set (f' := fun j => AVal.bool (usedN (pl ++ [(i, k)]) j)) (by show AVal.bool _ = _; rw [usedN_snoc]; simp) (fun j hj => by show AVal.bool _ = AVal.bool _; rw [usedN_snoc]; simp [hj])] at U19
            rw [ok.su] at b19
            refine slotK_in fun g20 x20 n20 => ?_
            have hx5 := x5.len
            have hx6 := x6.len
            have hlv : ∀ j, v.o = some j → E.n0 ≤ j ∧ j < g'.length := fun j ej => ⟨S1.fr _ v hv j ej, rv.lt ej⟩
            have ob20 := (((ob4.ext x5).ext x6).but b19 (sne (by omega))).ext x20
            have T20 := ((S1.tab.ext x46).but b19 (.inl (by rw [ok.st]; exact sne (by omega)))).ext x20
            have V20 := (E6.v4.but b19 (sne (by omega))).ext x20
            have A20 := ((m1.ext x46).but b19 (sne (by omega))).ext x20
            have L20 := ((m3.ext x46).but b19 (fun j ej => by rw [m2] at ej; cases ej; exact sne (by omega))).ext x20
            have R20 := ((rv.ext x46).but b19 (fun j ej => sne (by have := hlv j ej; omega))).ext x20
            refine V20.ldS (A20.ldS (V20.ldS ?_))
            refine T20.rd.ixE (by omega) (by omega) fun p24 po24 hp24 => ?_
            have hvv : (vs1.map AVal.sl)[((yN E.W pl.length : Nat) : Int).toNat]? = some (.sl v) := by rw [Int.toNat_natCast, List.getElem?_map, hv]; rfl
            rw [hvv] at hp24
            refine ⟨v, hp24 _ T20.rd, ?_⟩
            refine ob20.ldA rfl ⟨rfl, ?_⟩
            refine newSat_ow (by omega) (by rfl) fun s27 g28 o27 l27 so27 b28 n28 => ?_
            have ob28 := ob20.but b28 (sne (by omega))
            have T28 := T20.but b28 (.inl (by rw [ok.st]; exact sne (by omega)))
            have V28 := V20.but b28 (sne (by omega))
            have A28 := A20.but b28 (sne (by omega))
            have L28 := L20.but b28 (fun j ej => by rw [m2] at ej; cases ej; exact sne (by omega))
            have R28 := R20.but b28 (fun j ej => sne (by have := hlv j ej; omega))
            refine ⟨(ob28.rangeE rfl).trans (ob20.rangeE rfl).symm, (hp24 _ T28.rd).trans (hp24 _ T20.rd).symm, V28.cell.trans V20.cell.symm, A28.cell.trans A20.cell.symm, V28.cell.trans V20.cell.symm, ?_⟩
            refine L28.app (by omega) o27.rd l27 (by unfold lim; omega) fun s29 g30 P30 b30 k30 _ => ?_
            rw [m2] at b30
            have so29 := k30 _ m2
            have n30 := b30.1
            have ob30 := ob28.but b30 (sne (by omega))
            have T30 := T28.but b30 (.inl (by rw [ok.st]; exact sne (by omega)))
            have V30 := V28.but b30 (sne (by omega))
            have A30 := A28.but b30 (sne (by omega))
            have R30 := R28.but b30 (fun j ej => sne (by have := hlv j ej; omega))
            refine ⟨(ob30.rangeE rfl).trans (ob20.rangeE rfl).symm, (hp24 _ T30.rd).trans (hp24 _ T20.rd).symm, V30.cell.trans V20.cell.symm, V30.cell.trans V20.cell.symm, rfl, ?_⟩
            refine newSat_ow (by omega) (by rfl) fun s31 g32 o31 l31 so31 b32 n32 => ?_
            have T32 := T30.but b32 (.inl (by rw [ok.st]; exact sne (by omega)))
            have V32 := V30.but b32 (sne (by omega))
            have A32 := A30.but b32 (sne (by omega))
            have R32 := R30.but b32 (fun j ej => sne (by have := hlv j ej; omega))
            have P32 := P30.but b32 (fun j ej => by rw [so29] at ej; cases ej; exact sne (by omega))
            refine ⟨A30.cell.trans A20.cell.symm, (hp24 _ T32.rd).trans (hp24 _ T20.rd).symm, V32.cell.trans V20.cell.symm, A32.cell.trans A20.cell.symm, V32.cell.trans V20.cell.symm, ?_⟩
            have hvl := R32.rd.tlen
            refine R32.app (by omega) o31.rd l31 (by rw [hvl, hrl]; unfold lim; omega) fun s33 g34 P34 b34 k34 k34n => ?_
            have n34 := b34.1
            have vne : ∀ {c : Nat}, c < E.n0 → v.o ≠ some c := fun hc e => by have := hlv _ e; omega
            have T34 := T32.but b34 (.inl (by rw [ok.st]; exact vne loT))
            have V34 := V32.but b34 (vne la4)
            have A34 := A32.but b34 (vne la0)
            have P34l := P32.but b34 (fun j ej => by rw [so29] at ej; cases ej; exact vne loL)
            refine ⟨V34.cell.trans V20.cell.symm, ?_⟩
            refine A34.st (.sl s29) fun g35 A35 b35 n35 => ?_
            have V35 := V34.but b35 (sne (by omega))
            have T35 := T34.but b35 (.inl (by rw [ok.st]; exact sne (by omega)))
            refine ⟨V35.cell.trans V20.cell.symm, ?_⟩
            refine T35.stC (by omega) (by omega) _ fun g37 T37 b37 n37 => ?_
            rw [ok.st] at b37
            rw [Int.toNat_natCast, ← List.map_set] at T37
            have hvo : ∀ j, s33.o = some j → v.o = some j ∨ g'.length ≤ j := fun j ej => by
              cases hvo : v.o with
              | none => rw [k34n hvo] at ej; cases ej; exact .inr (by omega)
              | some o => rw [k34 o hvo] at ej; exact .inl ej
            have s33ne : ∀ {c : Nat}, c < E.n0 → ∀ j, s33.o = some j → some c ≠ some j := fun hc j ej e2 => by
              cases e2
              rcases hvo _ ej with e3 | e3
              · exact vne hc e3
              · omega
            have P37 := ((P34l.but b35 (fun j ej => by rw [so29] at ej; cases ej; exact sne (by omega))).but b37 (fun j ej => by rw [so29] at ej; cases ej; exact sne (by omega)))
            have R37 := (P34.but b35 (fun j ej => s33ne la0 j ej)).but b37 (fun j ej => s33ne loT j ej)
            have A37 := A35.but b37 (sne (by omega))
            have U37 := ((((((U19.ext x20).but b28 (.inl (by rw [ok.su]; exact sne (by omega)))).but b30 (.inl (by rw [ok.su]; exact sne (by omega)))).but b32 (.inl (by rw [ok.su]; exact sne (by omega)))).but b34 (.inl (by rw [ok.su]; exact vne loU))).but b35 (.inl (by rw [ok.su]; exact sne (by omega)))).but b37 (.inl (by rw [ok.su]; exact sne (by omega)))
            generalize hP : (fun j => j = E.oU ∨ j = E.oL ∨ v.o = some j ∨ j = E.a0 ∨ j = E.oT ∨ g'.length ≤ j) = P
            have hPi : ∀ j, P j → j = E.oU ∨ j = E.oL ∨ v.o = some j ∨ j = E.a0 ∨ j = E.oT ∨ g'.length ≤ j := fun j hj => by rw [← hP] at hj; exact hj
            have hPo : ∀ j, (j = E.oU ∨ j = E.oL ∨ v.o = some j ∨ j = E.a0 ∨ j = E.oT ∨ g'.length ≤ j) → P j := fun j hj => by rw [← hP]; exact hj
            have c37 : Chg P g' g37 := ((((((((x46.chg P).trans (b19.chg fun j ej => hPo j (.inl (Option.some.inj ej).symm))).trans (x20.chg P)).trans (b28.chg fun j ej => hPo j (by have := Option.some.inj ej; omega))).trans (b30.chg fun j ej => hPo j (by have := Option.some.inj ej; omega))).trans (b32.chg fun j ej => hPo j (by have := Option.some.inj ej; omega))).trans (b34.chg fun j ej => hPo j (.inr (.inr (.inl ej))))).trans (b35.chg fun j ej => hPo j (by have := Option.some.inj ej; omega))).trans (b37.chg fun j ej => hPo j (by have := Option.some.inj ej; omega))
            have hW4P : ∀ j, P j → E.W4 j ∨ v.o = some j ∨ g'.length ≤ j := fun j hj => by
              unfold Env.W4
              rcases hPi j hj with h1 | h1 | h1 | h1 | h1 | h1
              · exact .inl (.inr (.inr (.inr h1)))
              · exact .inl (.inr (.inl h1))
              · exact .inr (.inl h1)
              · exact .inl (.inl h1)
              · exact .inl (.inr (.inr (.inl h1)))
              · exact .inr (.inr h1)
            have hro : ∀ j, E.RO j → ¬ P j := fun j hj hp => by
              have h0 := ok.lt j (.inl hj)
              rcases hW4P j hp with h1 | h1 | h1
              · exact ok.ro j hj h1
              · have := hlv j h1; omega
              · omega
            have hvm : v ∈ vs1 := List.mem_of_getElem? hv
            have S37 := S1.push ok (q := (i, k)) c37 hro A37 so29 P37 T37 hv R37 hvo (fun y w hy2 hw j ej hp => by
              have h0 := S1.fr y w hw j ej
              have h1 := (S1.row y w hw).lt ej
              rcases hPi j hp with h2 | h2 | h2 | h2 | h2 | h2
              · omega
              · omega
              · exact S1.dist y _ w v hy2 hw hv j ej h2
              · omega
              · omega
              · omega) U37
            have hVP : ∀ j, V1 j → ¬ P j := fun j hj hp => by
              have h0 := vz.lt _ _ _ _ hV1 hj
              rcases hW4P j hp with h1 | h1 | h1
              · exact hd1 j hj (.inr (.inl h1))
              · exact hd1 j hj (.inr (.inr ⟨v, hvm, h1⟩))
              · omega
            have hV37 := vz.keep _ _ _ _ _ hV1 c37 hVP
            have hO37 : ∀ j, OwnV (vs1.set (yN E.W pl.length) s33) j → OwnV vs1 j ∨ g'.length ≤ j := fun j hj => by
              rcases OwnV_set hj with h1 | h1
              · exact .inl h1
              · rcases hvo j h1 with h2 | h2
                · exact .inl ⟨v, hvm, h2⟩
                · exact .inr h2
            have hd37 : ∀ j, V1 j → ¬ (E.RO j ∨ E.O (vs1.set (yN E.W pl.length) s33) j) := fun j hj hp => by
              rcases hp with hp | hp | hp
              · exact hd1 j hj (.inl hp)
              · exact hd1 j hj (.inr (.inl hp))
              · rcases hO37 j hp with h1 | h1
                · exact hd1 j hj (.inr (.inr h1))
                · have := vz.lt _ _ _ _ hV1 hj; omega
            have l37 := c37.1
            refine S37.env.v8.ldV (via_func ?_)
            refine (ih (pl ++ [(i, k)]) _ V1 a2 g37 (by simp; omega) (runV_ok vz.next _ _ _ hoa hr2) S37 hV37 hd37).to ?_
            rintro _ g41 ⟨rfl, vs2, V2, S2, hV2, hd2, ho2, hv2, ha2, c2, _⟩
            have l41 := c2.1
            have hrr : runV step a (pkI F (usedN pl) i ++ pkK F i (k + 1)) = runV step a2 (boardsL E.ts E.b E.Hh E.W m (pl ++ [(i, k)])) := by
              rw [pkK_succ, hFq, ← List.append_assoc]; exact runV_on hr2
            generalize hrv : runV step a2 (boardsL E.ts E.b E.Hh E.W m (pl ++ [(i, k)])) = rv2 at hV2 hrr
            obtain ⟨a3, on⟩ := rv2
            simp only at hV2
            have hgn2 := S2.le
            obtain ⟨sl2, p1, p2, p3⟩ := S2.list
            have hl2 := p3.rd.plen
            rw [List.length_map, List.length_append, List.length_singleton] at hl2
            have hyl2 : yN E.W pl.length < vs2.length := by rw [S2.len]; exact hy
            have hv2' := List.getElem?_eq_getElem hyl2
            generalize vs2[yN E.W pl.length] = w at hv2'
            have rw2 := S2.row _ _ hv2'
            have hwm : w ∈ vs2 := List.mem_of_getElem? hv2'
            have hlw : ∀ j, w.o = some j → E.n0 ≤ j := fun j ej => S2.fr _ w hv2' j ej
            have htl2 : E.st.len = vs2.length := by have := S2.tab.rd.len; rw [List.length_map, Nat.mul_one] at this; omega
            refine S2.env.v6.ldS ?_
            have hul2 := S2.used.rd.len
            rw [List.length_map, List.length_range, Nat.mul_one] at hul2
            refine S2.used.stC (by omega) (by omega) _ fun g45 U45 b45 n45 => ?_
            rw [Int.toNat_natCast, map_range_set (f' := fun j => AVal.bool (usedN pl j)) (by show AVal.bool _ = _; rw [qu]) (fun j hj => by show AVal.bool _ = AVal.bool _; rw [usedN_snoc]; simp [hj])] at U45
            rw [ok.su] at b45
            have V45 := S2.env.v4.but b45 (sne (by omega))
            have A45 := p1.but b45 (sne (by omega))
            have T45 := S2.tab.but b45 (.inl (by rw [ok.st]; exact sne (by omega)))
            have L45 := p3.but b45 (fun j ej => by rw [p2] at ej; cases ej; exact sne (by omega))
            have R45 := rw2.but b45 (fun j ej => sne (by have := hlw j ej; omega))
            refine V45.ldS (A45.ldS (A45.ldS ?_))
            rw [hl2, w64_of (n := ((pl.length + 1 : Nat) : Int) - 1) (by omega) (by omega), show ((pl.length + 1 : Nat) : Int) - 1 = (pl.length : Int) by omega]
            refine L45.cut (by omega) (by omega) fun s49 so49 hs49 => ?_
            refine V45.ldS ?_
            refine T45.rd.ixE (by omega) (by omega) fun p51 po51 hp51 => ?_
            have hww : (vs2.map AVal.sl)[((yN E.W pl.length : Nat) : Int).toNat]? = some (.sl w) := by rw [Int.toNat_natCast, List.getElem?_map, hv2']; rfl
            rw [hww] at hp51
            refine ⟨w, hp51 _ T45.rd, ?_⟩
            have hwl := rw2.rd.tlen
            rw [rowC_snoc hW, List.length_append, List.length_singleton, hrl] at hwl
            refine R45.cut (by omega) (by omega) fun s53 so53 hs53 => ?_
            refine A45.st (.sl s49) fun g54 A54 b54 n54 => ?_
            have V54 := V45.but b54 (sne (by omega))
            have T54 := T45.but b54 (.inl (by rw [ok.st]; exact sne (by omega)))
            have L54 := L45.but b54 (fun j ej => by rw [p2] at ej; cases ej; exact sne (by omega))
            have R54 := R45.but b54 (fun j ej => sne (by have := hlw j ej; omega))
            refine ⟨R54.ok, (hp51 _ T54.rd).trans (hp51 _ T45.rd).symm, V54.cell.trans V45.cell.symm, V54.cell.trans V45.cell.symm, ?_⟩
            refine T54.stC (by omega) (by omega) _ fun g56 T56 b56 n56 => ?_
            rw [ok.st] at b56
            rw [Int.toNat_natCast, ← List.map_set] at T56
            have A56 := A54.but b56 (sne (by omega))
            have L56 := hs49 _ (L54.but b56 (fun j ej => by rw [p2] at ej; cases ej; exact sne (by omega)))
            have R56 := hs53 _ (R54.but b56 (fun j ej => sne (by have := hlw j ej; omega)))
            have U56 := (U45.but b54 (.inl (by rw [ok.su]; exact sne (by omega)))).but b56 (.inl (by rw [ok.su]; exact sne (by omega)))
            rw [Int.toNat_natCast] at L56 R56
            rw [show (pcs ((pl ++ [(i, k)]).map plN)).take (pl.length * 2) = pcs (pl.map plN) by
              rw [List.map_append, pcs_app, List.take_append_of_le_length (by rw [pcs_len, List.length_map]; omega), List.take_of_length_le (by rw [pcs_len, List.length_map]; omega)]] at L56
            rw [show (tcs (rowC E.ts E.W (pl ++ [(i, k)]) (yN E.W pl.length))).take (xN E.W pl.length * 4) = tcs (rowC E.ts E.W pl (yN E.W pl.length)) by
              rw [rowC_snoc hW, tcs_app, List.take_append_of_le_length (by rw [tcs_len, hrl]; omega), List.take_of_length_le (by rw [tcs_len, hrl]; omega)]] at R56
            generalize hQ : (fun j => j = E.oU ∨ j = E.a0 ∨ j = E.oT) = Q
            have hQi : ∀ j, Q j → j = E.oU ∨ j = E.a0 ∨ j = E.oT := fun j hj => by rw [← hQ] at hj; exact hj
            have hQo : ∀ j, (j = E.oU ∨ j = E.a0 ∨ j = E.oT) → Q j := fun j hj => by rw [← hQ]; exact hj
            have hQW : ∀ j, Q j → E.W4 j := fun j hj => by
              unfold Env.W4
              rcases hQi j hj with h1 | h1 | h1
              · exact .inr (.inr (.inr h1))
              · exact .inl h1
              · exact .inr (.inr (.inl h1))
            have c56 : Chg Q g41 g56 := ((b45.chg fun j ej => hQo j (.inl (Option.some.inj ej).symm)).trans (b54.chg fun j ej => hQo j (.inr (.inl (Option.some.inj ej).symm)))).trans (b56.chg fun j ej => hQo j (.inr (.inr (Option.some.inj ej).symm)))
            have S56 := S2.pop ok c56 (fun j hj hp => ok.ro j hj (hQW j hp)) A56 (so49.trans p2) L56 T56 hv2' R56 so53 (fun y w2 hy2 hw j ej hp => by
              have h0 := S2.fr y w2 hw j ej
              rcases hQi j hp with h2 | h2 | h2 <;> omega) U56
            have hV56 := vz.keep _ _ _ _ _ hV2 c56 (fun j hj hp => hd2 j hj (.inr (.inl (hQW j hp))))
            have hO56 : ∀ j, OwnV (vs2.set (yN E.W pl.length) s53) j → OwnV vs2 j := fun j hj => by
              rcases OwnV_set hj with h1 | h1
              · exact h1
              · rw [so53] at h1; exact ⟨w, hwm, h1⟩
            have hd56 : ∀ j, V2 j → ¬ (E.RO j ∨ E.O (vs2.set (yN E.W pl.length) s53) j) := fun j hj hp => by
              rcases hp with hp | hp | hp
              · exact hd2 j hj (.inl hp)
              · exact hd2 j hj (.inr (.inl hp))
              · exact hd2 j hj (.inr (.inr (hO56 j hp)))
            have l56 := c56.1
            have hO1 : ∀ j, OwnV vs2 j → OwnV vs1 j ∨ g'.length ≤ j := fun j hj => by
              rcases ho2 j hj with h1 | h1
              · exact hO37 j h1
              · exact .inr (by omega)
            have G56 : ∀ D : Nat → Prop, (∀ j, D j → s51.o = some j) → Got E Vis D vs V h pl a3 g56 := fun D hDD => by
              refine ⟨_, V2, S56, hV56, hd56, fun j hj => ?_, fun j hj => ?_, fun y hy2 => ?_, ?_, fun j hj => ?_⟩
              · rcases hO1 j (hO56 j hj) with h1 | h1
                · exact ho1 j h1
                · exact .inr (by omega)
              · rcases hv2 j hj with h1 | h1
                · exact hv1 j h1
                · exact .inr (by omega)
              · have hyy : yN E.W pl.length ≤ yN E.W (pl ++ [(i, k)]).length := Nat.div_le_div_right (by simp)
                rw [List.getElem?_set_ne (by omega), ha2 y (by omega), List.getElem?_set_ne (by omega), ha1 y hy2]
              · have k1 : Chg (fun j => E.O vs j ∨ V j ∨ h.length ≤ j) g' g37 := c37.to fun j _ hp => by
                  rcases hW4P j hp with h1 | h1 | h1
                  · exact .inl (.inl h1)
                  · rcases ho1 j ⟨v, hvm, h1⟩ with h2 | h2
                    · exact .inl (.inr h2)
                    · exact .inr (.inr h2)
                  · exact .inr (.inr (by omega))
                have k2 : Chg (fun j => E.O vs j ∨ V j ∨ h.length ≤ j) g37 g41 := c2.to fun j _ hp => by
                  rcases hp with (h1 | h1) | h1 | h1
                  · exact .inl (.inl h1)
                  · rcases hO37 j h1 with h2 | h2
                    · rcases ho1 j h2 with h3 | h3
                      · exact .inl (.inr h3)
                      · exact .inr (.inr h3)
                    · exact .inr (.inr (by omega))
                  · rcases hv1 j h1 with h2 | h2
                    · exact .inr (.inl h2)
                    · exact .inr (.inr h2)
                  · exact .inr (.inr (by omega))
                have k3 : Chg (fun j => E.O vs j ∨ V j ∨ h.length ≤ j) g41 g56 := c56.to fun j _ hp => .inl (.inl (hQW j hp))
                exact ((c1.trans k1).trans k2).trans k3
              · have hj := hDD j hj
                have hjl := os.lt hj
                refine ⟨fun hp => ?_, fun hp => ?_⟩
                · rcases hO1 j (hO56 j hp) with h1 | h1
                  · exact (hD1 j hj).1 h1
                  · omega
                · rcases hv2 j hp with h1 | h1
                  · exact (hD1 j hj).2 h1
                  · omega
            refine bif_not (fun qo => ?_) (fun qo => ?_)
            · have qo' : on = false := qo
              subst qo'
              obtain ⟨rest, er⟩ := pk_pre F (u := usedN pl) hi' hk' qu
              have hst : runV step a (pkI F (usedN pl) E.ts.length) = (a3, false) := by rw [er]; exact runV_stop hrr
              exact ⟨_, rfl, by rw [hst], by rw [hst]; obtain ⟨w1, w2, w3⟩ := G56 (fun _ => False) (fun _ f => f.elim); exact ⟨w1, w2, w3⟩⟩
            · have qo' : on = true := qo
              subst qo'
              rw [w64_of (n := (k : Int) + 1) (by omega) (by omega)]
              have os37 : Ow g37 s51 4 (tcs (turnsN 4 ta)) := os.chg c37 fun j ej hp => by
                have h0 := fs1 j ej
                have h1 := os.lt ej
                rcases hW4P j hp with h2 | h2 | h2
                · have := ok.lt j (.inr h2); omega
                · exact (hD1 j ej).1 ⟨v, hvm, h2⟩
                · omega
              have os41 : Ow g41 s51 4 (tcs (turnsN 4 ta)) := os37.chg c2 fun j ej hp => by
                have h0 := fs1 j ej
                have h1 := os.lt ej
                rcases hp with (h2 | h2) | h2 | h2
                · have := ok.lt j (.inr h2); omega
                · rcases hO37 j h2 with h3 | h3
                  · exact (hD1 j ej).1 h3
                  · omega
                · exact (hD1 j ej).2 h2
                · omega
              have os56 : Ow g56 s51 4 (tcs (turnsN 4 ta)) := os41.chg c56 fun j ej hp => by
                have h0 := fs1 j ej
                have := ok.lt j (.inr (hQW j hp))
                omega
              exact hY _ _ ⟨k + 1, a3, by push_cast; rfl, by omega, hrr, G56 _ (fun _ e => e), os56, by omega⟩ (by omega)
          · have hk4 : k = 4 := by omega
            subst hk4
            rw [w64_of (n := (i : Int) + 1) (by omega) (by omega)]
            exact hX _ _ ⟨i + 1, a2, by push_cast; rfl, by omega, by rw [pkI_succ, if_neg (by rw [qu]; simp)]; exact hr2, vs1, V1, S1, hV1, hd1, ho1, hv1, ha1, c1, fun _ f => f.elim⟩ (by omega)
      · have : i = E.ts.length := by omega
        subst this
        exact ⟨_, rfl, by rw [hr], by rw [hr]; exact G⟩
    refine bif_dec (fun qy => ?_) (fun qy => ?_)
    · refine e.v4.ldS ?_
      have htl := S.tab.rd.len
      rw [List.length_map, Nat.mul_one] at htl
      rw [w64_of (by omega) (by omega), show ((yN E.W pl.length : Nat) : Int) - 1 = ((yN E.W pl.length - 1 : Nat) : Int) by omega]
      refine S.tab.rd.ldS (by omega) (by omega) fun up hup => ?_
      rw [Int.toNat_natCast] at hup
      exact e.v5.ldS (main up (.inr ⟨by omega, hup⟩))
    · exact e.v5.ldS (main Sl.nil (.inl ⟨by omega, rfl⟩))
end
end Go.Proofs.Ytekfmmcolgjdmaa.Cl

/- The program's search for boards, from its start; the program's number of boards. No claim is stated here. -/
set_option linter.unusedVariables false
set_option linter.unusedSimpArgs false
namespace Go.Proofs.Ytekfmmcolgjdmaa.Cl
open Go
/-- The closure's places, as they lie behind the heap at the call. -/
structure Env.At (E : Env) (hb : Nat) : Prop where
  e0 : E.a0 = hb + 11
  e1 : E.a1 = hb + 3
  e2 : E.a2 = hb + 2
  e3 : E.a3 = hb + 4
  e4 : E.a4 = hb + 12
  e5 : E.a5 = hb
  e6 : E.a6 = hb + 13
  e7 : E.a7 = hb + 1
  e8 : E.a8 = hb + 17
  eL : E.oL = hb + 5
  eT : E.oT = hb + 7
  eU : E.oU = hb + 10
  en : E.n0 = hb + 18
theorem Env.At.w4 {E : Env} {hb : Nat} (e : E.At hb) {i : Nat} (h : E.W4 i) : i = hb + 11 ∨ i = hb + 5 ∨ i = hb + 7 ∨ i = hb + 10 := by
  unfold Env.W4 at h; rw [e.e0, e.eL, e.eT, e.eU] at h; exact h
theorem Env.At.ro {E : Env} {hb : Nat} (e : E.At hb) {i : Nat} (h : E.RO i) : (hb ≤ i ∧ i < hb + 18 ∧ i ≠ hb + 11 ∧ i ≠ hb + 5 ∧ i ≠ hb + 7 ∧ i ≠ hb + 10) ∨ E.u.o = some i := by
  unfold Env.RO at h
  rw [e.e1, e.e2, e.e3, e.e4, e.e5, e.e6, e.e7, e.e8] at h
  rcases h with h | h | h | h | h | h | h | h | h
  all_goals first | exact .inr h | (left; omega)
theorem Env.At.ok {E : Env} {hb : Nat} (e : E.At hb) (hu : ∀ i, E.u.o = some i → i < hb) (hW : 0 < E.W) (hW6 : E.W ≤ 6) (hH6 : E.Hh ≤ 6) (hts : E.ts.length ≤ 6) (st : E.st.o = some (hb + 7)) (su : E.su.o = some (hb + 10)) : E.OK := by
  have e0 := e.e0
  have eL := e.eL
  have eT := e.eT
  have eU := e.eU
  have en := e.en
  refine ⟨hW, hW6, hH6, hts, by rw [eT]; exact st, by rw [eU]; exact su, by omega, by omega, by omega, by omega, by omega, by omega, fun i h1 h2 => ?_, fun i hi => ?_⟩
  · have k2 := e.w4 h2
    rcases e.ro h1 with k | k
    · omega
    · have := hu i k; omega
  · rcases hi with hi | hi
    · rcases e.ro hi with k | k
      · omega
      · have := hu i k; omega
    · have := e.w4 hi; omega
theorem sna {n a b : Nat} (h : a ≠ b) : some (n + a) ≠ some (n + b) := fun e => h (Nat.add_left_cancel (Option.some.inj e))
section
variable {α : Type} {step : α → Pls → α × Bool} {okA : α → Prop} {Vis : (Nat → Prop) → α → H → Prop} {ts : List Tile} {b : Int} {H_ W : Nat} {u : Sl} {g : Nat} {cap : List AVal}
set_option maxHeartbeats 1000000 in
theorem boards_c (vz : ∀ E : Env, E.Hh = H_ → E.W = W → E.g = g → E.cap = cap → Visitor E step okA Vis) (hW : 0 < W) (hW6 : W ≤ 6) (hH6 : H_ ≤ 6) (hts : ts.length ≤ 6) {h : H} (ru : Rd h u 4 (tcs ts)) (huo : ∀ i, u.o = some i → i < h.length)
    {V : Nat → Prop} {a : α} (hoa : okA a) (hV : Vis V a h) (hVu : ∀ i, u.o = some i → ¬ V i) :
    callV SP i_impl_boards [.sl u, i64 b, i64 H_, i64 W, .func g cap] h fun v h' => v = .tuple [] ∧ ∃ V', Vis V' (runV step a (boardsL ts b H_ W (H_ * W) [])).1 h' ∧ (∀ i, V' i → V i ∨ h.length ≤ i) ∧ Chg V h h' := by
  have vz0 := vz ⟨0, 0, 0, 0, 0, 0, 0, 0, 0, 0, 0, 0, 0, Sl.nil, Sl.nil, Sl.nil, g, cap, ts, b, H_, W⟩ rfl rfl rfl rfl
  have hVl := fun i hi => vz0.lt V a h i hV hi
  have hul := ru.tlen
  apply impl_boards_call
  unfold impl_boards_main
  refine newO_var fun h1 v5 x1 l1 => ?_
  refine newO_var fun h3 v7 x3 l3 => ?_
  refine newO_var fun h5 v2 x5 l5 => ?_
  refine newO_var fun h7 v1 x7 l7 => ?_
  refine bif_b (fun _ => ?_) (fun q => by simp [AVal.isCell] at q)
  refine newO_var fun h9 v3 x9 l9 => ?_
  refine slotK_in fun h10 x10 l10 => ?_
  have y5 := ((x3.trans x5).trans x7).trans (x9.trans x10)
  have v5 := v5.ext y5
  have v7 := v7.ext ((x5.trans x7).trans (x9.trans x10))
  have v2 := v2.ext (x7.trans (x9.trans x10))
  have v1 := v1.ext (x9.trans x10)
  have v3 := v3.ext x10
  have xh : Ext h h10 := x1.trans y5
  have q5 : ∀ c : Nat, some (h9.length + c) ≠ some h.length := fun c => sne (by omega)
  have q2 : ∀ c : Nat, some (h9.length + c) ≠ some h3.length := fun c => sne (by omega)
  refine v2.ldI (v5.ldS ?_)
  refine newSat_ow (by omega) (by rfl) fun s13 h14 o13 l13 so13 b14 n14 => ?_
  have v5a := v5.but b14 (q5 _)
  have v2a := v2.but b14 (q2 _)
  refine ⟨v5a.cell.trans v5.cell.symm, v2a.cell.trans v2.cell.symm, ?_⟩
  refine newOat_var (by omega) fun h16 a16 b16 n16 => ?_
  have v5b := v5a.but b16 (q5 _)
  have v2b := v2a.but b16 (q2 _)
  refine ⟨v5b.cell.trans v5.cell.symm, v2b.cell.trans v2.cell.symm, ?_⟩
  refine newOat_var (by omega) fun h18 a18 b18 n18 => ?_
  have v5c := v5b.but b18 (q5 _)
  have v2c := v2b.but b18 (q2 _)
  refine ⟨v5c.cell.trans v5.cell.symm, v2c.cell.trans v2.cell.symm, ?_⟩
  refine newOat_var (by omega) fun h20 a20 b20 n20 => ?_
  have v5d := v5c.but b20 (q5 _)
  have v2d := v2c.but b20 (q2 _)
  refine ⟨v5d.cell.trans v5.cell.symm, v2d.cell.trans v2.cell.symm, ?_⟩
  have a16 := (a16.but b18 (sna (by decide))).but b20 (sna (by decide))
  refine a16.st _ fun h21 a21 b21 n21 => ?_
  have v5e := v5d.but b21 (q5 _)
  have v2e := v2d.but b21 (q2 _)
  refine ⟨v5e.cell.trans v5.cell.symm, v2e.cell.trans v2.cell.symm, ?_⟩
  refine mkSat_ow (by omega) (by omega) (by unfold lim; omega) fun s22 h23 o22 l22 so22 b23 n23 => ?_
  have v5f := v5e.but b23 (q5 _)
  have v2f := v2e.but b23 (q2 _)
  refine ⟨v5f.cell.trans v5.cell.symm, ?_⟩
  have a18 := ((a18.but b20 (sna (by decide))).but b21 (sna (by decide))).but b23 (sna (by decide))
  refine a18.st _ fun h24 a24 b24 n24 => ?_
  have v5g := v5f.but b24 (q5 _)
  have v2g := v2f.but b24 (q2 _)
  refine ⟨v5g.cell.trans v5.cell.symm, ?_⟩
  refine mkSat_ow (by omega) (by omega) (by unfold lim; omega) fun s25 h26 o25 l25 so25 b26 n26 => ?_
  have v5h := v5g.but b26 (q5 _)
  have v2h := v2g.but b26 (q2 _)
  refine ⟨v2g.cell.trans v2.cell.symm, v2h.cell.trans v2.cell.symm, ?_⟩
  have a20 := (((a20.but b21 (sna (by decide))).but b23 (sna (by decide))).but b24 (sna (by decide))).but b26 (sna (by decide))
  refine a20.st _ fun h27 a27 b27 n27 => ?_
  refine newO_var fun h29 a29 x29 n29 => ?_
  refine a29.st _ fun h30 a30 b30 n30 => ?_
  -- what the search holds
  generalize hE : (⟨h9.length + 6, h5.length, h3.length, h7.length, h9.length + 7, h.length, h9.length + 8, h1.length, h27.length, h9.length + 0, h9.length + 2, h9.length + 5, h30.length, s22, s25, u, g, cap, ts, b, H_, W⟩ : Env) = E
  have L1 : h1.length = h.length + 1 := l1
  have L3 : h3.length = h.length + 2 := by omega
  have L5 : h5.length = h.length + 3 := by omega
  have L7 : h7.length = h.length + 4 := by omega
  have L9 : h9.length = h.length + 5 := by omega
  have L10 : h10.length = h.length + 17 := by omega
  have L27 : h27.length = h.length + 17 := by omega
  have L30 : h30.length = h.length + 18 := by omega
  have at_ : E.At h.length := by rw [← hE]; refine ⟨?_, ?_, ?_, ?_, ?_, ?_, ?_, ?_, ?_, ?_, ?_, ?_, ?_⟩ <;> simp only [L1, L3, L5, L7, L9, L27, L30] <;> rfl
  have est : E.st = s22 := by rw [← hE]
  have esu : E.su = s25 := by rw [← hE]
  have eu : E.u = u := by rw [← hE]
  have eg : E.g = g := by rw [← hE]
  have ec : E.cap = cap := by rw [← hE]
  have ets : E.ts = ts := by rw [← hE]
  have eb : E.b = b := by rw [← hE]
  have eH : E.Hh = H_ := by rw [← hE]
  have eW : E.W = W := by rw [← hE]
  have ok : E.OK := at_.ok (fun i hi => huo i (by rw [← eu]; exact hi)) (by rw [eW]; exact hW) (by rw [eW]; exact hW6) (by rw [eH]; exact hH6) (by rw [ets]; exact hts) (by rw [est, so22, L9]) (by rw [esu, so25, L9])
  have eptrs : E.ptrs = [.ptr (pt (h9.length + 6)), .ptr (pt h5.length), .ptr (pt h3.length), .ptr (pt h7.length), .ptr (pt (h9.length + 7)), .ptr (pt h.length), .ptr (pt (h9.length + 8)), .ptr (pt h1.length), .ptr (pt h27.length)] := by
    unfold Env.ptrs; rw [at_.e0, at_.e1, at_.e2, at_.e3, at_.e4, at_.e5, at_.e6, at_.e7, at_.e8, L1, L3, L5, L7, L9, L27]
  have q27 : ∀ c : Nat, c < 12 → some h27.length ≠ some (h9.length + c) := fun c hc => sne (by omega)
  have sl : ∀ c j : Nat, some (h9.length + c) = some j → h9.length ≤ j := fun c j ej => by cases ej; exact Nat.le_add_right _ _
  have T : Till h9.length h10 h30 := (((((((((b14.till (sl _)).trans (b16.till (sl _))).trans (b18.till (sl _))).trans (b20.till (sl _))).trans (b21.till (sl _))).trans (b23.till (sl _))).trans (b24.till (sl _))).trans (b26.till (sl _))).trans (b27.till (sl _))).trans ((x29.till _).trans (b30.till (fun j ej => by cases ej; omega)))
  have kp : ∀ {o : Nat} {v : AVal}, Var h10 o v → o < h9.length → Var h30 o v := fun {o v} x ho => x.till T ho
  have xh30 : Ext h h30 := xh.till_ T (by omega)
  have hSle : E.n0 ≤ h30.length := by rw [at_.en, L30]; exact Nat.le_refl _
  have hSlen : (List.replicate H_ Sl.nil).length = E.Hh := by rw [List.length_replicate]; exact eH.symm
  have S : Srch E (List.replicate H_ Sl.nil) [] h30 := by
    refine ⟨⟨s13, ?_, by rw [at_.eL, so13, L9], ?_⟩, ?_, fun y v hv => ?_, fun y v hv => ?_, fun y y' v v' hne hv hv' o ho => ?_, hSlen, ?_, ⟨?_, ?_, ?_, ?_, ?_, ?_, ?_, ?_, ?_⟩, hSle⟩
    · rw [show E.a0 = h9.length + 6 from at_.e0.trans (by rw [L9])]
      exact (((((a21.but b23 (sna (by decide))).but b24 (sna (by decide))).but b26 (sna (by decide))).but b27 (sna (by decide))).ext x29).but b30 (q27 _ (by decide))
    · have := ((((((((((o13.but b16 (.inl (by rw [so13]; exact sna (by decide)))).but b18 (.inl (by rw [so13]; exact sna (by decide)))).but b20 (.inl (by rw [so13]; exact sna (by decide)))).but b21 (.inl (by rw [so13]; exact sna (by decide)))).but b23 (.inl (by rw [so13]; exact sna (by decide)))).but b24 (.inl (by rw [so13]; exact sna (by decide)))).but b26 (.inl (by rw [so13]; exact sna (by decide)))).but b27 (.inl (by rw [so13]; exact sna (by decide)))).ext x29).but b30 (.inl (by rw [so13]; exact q27 _ (by decide)))).pre
      exact this
    · rw [est]
      have := ((((o22.but b24 (.inl (by rw [so22]; exact sna (by decide)))).but b26 (.inl (by rw [so22]; exact sna (by decide)))).but b27 (.inl (by rw [so22]; exact sna (by decide)))).ext x29).but b30 (.inl (by rw [so22]; exact q27 _ (by decide)))
      rw [Int.toNat_natCast] at this
      rw [List.map_replicate]
      simpa using this
    · rw [List.getElem?_replicate] at hv
      split at hv
      · cases hv
        rw [ets]
        have : rowC ts E.W [] y = [] := by unfold rowC; simp
        rw [this]; exact Pre.nil _ _
      · cases hv
    · rw [List.getElem?_replicate] at hv
      split at hv
      · cases hv; exact Fr.nil _
      · cases hv
    · rw [List.getElem?_replicate] at hv
      split at hv
      · cases hv; cases ho
      · cases hv
    · rw [esu, ets]
      have := (((o25.but b27 (.inl (by rw [so25]; exact sna (by decide)))).ext x29).but b30 (.inl (by rw [so25]; exact q27 _ (by decide))))
      have e : (List.range ts.length).map (fun i => AVal.bool (usedN [] i)) = List.replicate ts.length (AVal.bool false) := by
        apply List.ext_getElem (by simp)
        intro i _ _
        simp [usedN]
      rw [e]
      simpa [hul] using this
    · rw [at_.e1, eW, ← L5]; exact kp v1 (by omega)
    · rw [at_.e2, eH, ← L3]; exact kp v2 (by omega)
    · rw [at_.e3, eg, ec, ← L7]; exact kp v3 (by omega)
    · rw [show E.a4 = h9.length + 7 from at_.e4.trans (by rw [L9]), est]
      exact (((a24.but b26 (sna (by decide))).but b27 (sna (by decide))).ext x29).but b30 (q27 _ (by decide))
    · rw [at_.e5, eu]; exact kp v5 (by omega)
    · rw [show E.a6 = h9.length + 8 from at_.e6.trans (by rw [L9]), esu]
      exact (a27.ext x29).but b30 (q27 _ (by decide))
    · rw [at_.e7, eb, ← L1]; exact kp v7 (by omega)
    · rw [eptrs, at_.e8, ← L27]
      exact a30
    · rw [eu, ets]; exact ru.ext xh30
  have vzE := vz E eH eW eg ec
  have hV30 := vzE.keep V a h h30 (fun _ => False) hV (xh30.chg _) (fun _ _ f => f)
  have lh : h.length + 5 = h9.length := by omega
  refine a30.ldV (via_func ?_)
  have hfill := fill_c ok vzE (H_ * W) [] _ V a h30 (by rw [eH, eW]; simp) hoa S hV30 (fun i hi hp => by
    have h1 := hVl i hi
    rcases hp with hp | hp | hp
    · rcases at_.ro hp with k | k
      · omega
      · rw [eu] at k; exact hVu i k hi
    · have := at_.w4 hp; omega
    · have := S.ownV hp; rw [at_.en] at this; omega)
  rw [ets, eb, eH, eW] at hfill
  have hfill' := hfill.to (K' := fun _ h' => ∃ V', Vis V' (runV step a (boardsL ts b H_ W (H_ * W) [])).1 h' ∧ (∀ i, V' i → V i ∨ h.length ≤ i) ∧ Chg V h h') (by
    rintro on h' ⟨_, vs', V', S', hV', _, hO', hVV, _, c, _⟩
    refine ⟨V', hV', fun i hi => ?_, ?_⟩
    · rcases hVV i hi with h1 | h1
      · exact .inl h1
      · exact .inr (by omega)
    · refine ⟨by have := xh30.len; have := c.1; omega, fun i hi hn => ?_⟩
      rw [c.2 i (by have := xh30.len; omega) (fun hp => ?_), xh30.get hi]
      rcases hp with (h1 | h1) | h1 | h1
      · have := at_.w4 h1; omega
      · have := S.ownV h1; rw [at_.en] at this; omega
      · exact hn h1
      · have := xh30.len; omega)
  rw [eptrs] at hfill'
  refine hfill'.to ?_
  rintro on h' hh
  exact ⟨rfl, hh⟩
end
end Go.Proofs.Ytekfmmcolgjdmaa.Cl

/- Numbers of boards: both contracts. No claim is stated here. -/
set_option linter.unusedVariables false
set_option linter.unusedSimpArgs false
namespace Go.Proofs.Ytekfmmcolgjdmaa.Cl
open Go
/-- May boards be asked for at all? -/
def askS (ts : List Tile) (b n2 n3 : Int) : Bool := (decide (1 ≤ ts.length ∧ ts.length ≤ 6) && ts.all (tileok 6) && decide (-1 ≤ b ∧ b ≤ 5)) && (decide (1 ≤ n2 ∧ n2 ≤ 6) && (decide (1 ≤ n3 ∧ n3 ≤ 6) && (w64 (n2 * n3) == (ts.length : Int))))
theorem askS_ok {ts : List Tile} {b n2 n3 : Int} (h : askS ts b n2 n3 = true) : ∃ H W : Nat, n2 = H ∧ n3 = W ∧ 0 < H ∧ H ≤ 6 ∧ 0 < W ∧ W ≤ 6 ∧ 1 ≤ ts.length ∧ ts.length ≤ 6 := by
  unfold askS at h
  simp only [Bool.and_eq_true, decide_eq_true_eq] at h
  obtain ⟨⟨⟨h1, h2⟩, h3⟩, h4, h5, h6⟩ := h
  exact ⟨n2.toNat, n3.toNat, by omega, by omega, by omega, by omega, by omega, by omega, h1.1, h1.2⟩
section
variable {u : Sl} {ts : List Tile} {b n2 n3 : Int} {h : H}
theorem isBoardSize_c (ru : Rd h u 4 (tcs ts)) (hl : ts.length ≤ 1048576) : callB SP i_impl_isBoardSize [.sl u, i64 b, i64 n2, i64 n3] h fun v h' => v = askS ts b n2 n3 ∧ Ext h h' := by
  have htl := ru.tlen
  apply impl_isBoardSize_call
  unfold impl_isBoardSize_main
  refine (isBoardOf_c (b := b) ru hl).to ?_
  rintro _ h1 ⟨rfl, x1⟩
  unfold askS
  refine bif_b (fun q => ?_) (fun q => ⟨_, rfl, by rw [q]; rfl, x1⟩)
  rw [q, Bool.true_and]
  refine (within_c _ _ _ _).to ?_
  rintro _ _ ⟨rfl, rfl⟩
  refine bif_b (fun q2 => ?_) (fun q2 => ⟨_, rfl, by rw [q2]; rfl, x1⟩)
  rw [q2, Bool.true_and]
  refine (within_c _ _ _ _).to ?_
  rintro _ _ ⟨rfl, rfl⟩
  refine bif_b (fun q3 => ?_) (fun q3 => ⟨_, rfl, by rw [q3]; rfl, x1⟩)
  rw [q3, Bool.true_and]
  exact ⟨_, rfl, by rw [htl], x1⟩
theorem l07Board_c (ru : Rd h u 4 (tcs ts)) (hl : ts.length ≤ 1048576) : callI SP .i64 i_spec_l07Board [.sl u, i64 b, i64 n2, i64 n3] h fun v h' => v = (if askS ts b n2 n3 = true then 0 else 2) ∧ Ext h h' := by
  have htl := ru.tlen
  apply spec_l07Board_call
  unfold spec_l07Board_main
  unfold askS
  refine bif_dec (fun q => ⟨_, rfl, by rw [decide_eq_false (by omega : ¬ (1 ≤ ts.length ∧ ts.length ≤ 6))]; rfl, Ext.refl _⟩) (fun q => ?_)
  refine bif_dec (fun q => ⟨_, rfl, by rw [decide_eq_false (by omega : ¬ (1 ≤ ts.length ∧ ts.length ≤ 6))]; rfl, Ext.refl _⟩) (fun q0 => ?_)
  rw [decide_eq_true (by omega : 1 ≤ ts.length ∧ ts.length ≤ 6), Bool.true_and]
  refine (l07Tiles_c ru (by omega)).to ?_
  rintro _ h1 ⟨rfl, x1⟩
  unfold tilesCode
  refine bif_ne (fun q1 => ?_) (fun q1 => ?_)
  · have : ts.all (tileok 6) = false := by
      cases e : ts.all (tileok 6)
      · rfl
      · rw [e] at q1; exact absurd rfl q1
    exact ⟨_, rfl, by rw [this]; rfl, x1⟩
  · have : ts.all (tileok 6) = true := by
      cases e : ts.all (tileok 6)
      · rw [e] at q1; cases q1
      · rfl
    rw [this, Bool.true_and]
    refine (l01In_c _ _ _ _).to ?_
    rintro _ _ ⟨rfl, rfl⟩
    refine bif_not (fun q2 => ⟨_, rfl, by rw [q2]; rfl, x1⟩) (fun q2 => ?_)
    rw [q2, Bool.true_and]
    refine (l01In_c _ _ _ _).to ?_
    rintro _ _ ⟨rfl, rfl⟩
    refine bif_not (fun q3 => ⟨_, rfl, by rw [q3]; rfl, x1⟩) (fun q3 => ?_)
    rw [q3, Bool.true_and]
    refine (l01In_c _ _ _ _).to ?_
    rintro _ _ ⟨rfl, rfl⟩
    refine bif_not (fun q4 => ⟨_, rfl, by rw [q4]; rfl, x1⟩) (fun q4 => ?_)
    rw [q4, Bool.true_and]
    refine bif_ne (fun q5 => ⟨_, rfl, ?_, x1⟩) (fun q5 => ⟨_, rfl, ?_, x1⟩)
    · rw [show (w64 (n2 * n3) == (ts.length : Int)) = false by rw [beq_eq_false_iff_ne, ← htl]; exact q5]; rfl
    · rw [show (w64 (n2 * n3) == (ts.length : Int)) = true by rw [beq_iff_eq, ← htl]; exact q5]; rfl
end
def F_CountBoards_0 (ts : List Tile) (b n2 n3 : Int) : Int := if askS ts b n2 n3 = true then w64 ((boardsL ts b n2.toNat n3.toNat (n2.toNat * n3.toNat) []).length : Int) else 0
def F_CountBoards_1 (ts : List Tile) (b n2 n3 : Int) : Int := if askS ts b n2 n3 = true then 0 else 2
/-- The visitor that counts. -/
def VisC (o : Nat) (V : Nat → Prop) (n : Nat) (h : H) : Prop := (∀ i, V i ↔ i = o) ∧ Var h o (i64 (w64 (n : Int)))
theorem visC_ok (o : Nat) (E : Env) (hg : E.g = i_impl_CountBoards_1) (hc : E.cap = [.ptr (pt o)]) : Visitor E (fun (n : Nat) (_ : Pls) => (n + 1, true)) (fun _ => True) (VisC o) := by
  refine ⟨fun _ _ _ _ => trivial, fun V n h s pl _ hV hpl rs hs => ?_, fun V n h h' Q hV c hq => ⟨hV.1, hV.2.chg c (hq _ ((hV.1 o).2 rfl))⟩, fun V n h i hV hi => by rw [hV.1] at hi; subst hi; exact hV.2.lt⟩
  obtain ⟨h1, h2⟩ := hV
  rw [hg, hc]
  apply impl_CountBoards_1_call
  unfold impl_CountBoards_1_main
  refine h2.ldI (h2.st _ fun h' v' b' l' => ?_)
  refine ⟨_, rfl, rfl, V, ⟨h1, ?_⟩, fun i hi => .inl hi, b'.chg fun i e => (h1 i).2 (Option.some.inj e).symm⟩
  rw [w64_add_w] at v'
  push_cast
  exact v'
theorem runV_count : ∀ (l : List Pls) (n : Nat), runV (fun (n : Nat) (_ : Pls) => (n + 1, true)) n l = (n + l.length, true)
  | [], n => rfl
  | x :: l, n => by
    rw [runV_cons]
    show runV _ (n + 1) l = _
    rw [runV_count l (n + 1), List.length_cons]
    congr 1; omega
theorem Rd.olt {h : H} {s : Sl} {z : Nat} {cs : List AVal} (r : Rd h s z cs) (hs : 0 < s.len) {i : Nat} (e : s.o = some i) : i < h.length := by
  obtain hl | ⟨_, _, c⟩ := r.at_
  · omega
  · obtain ⟨o, xs, e1, e2, _⟩ := range_some c
    rw [e] at e1; cases e1
    exact cells_lt e2
section
variable {u : Sl} {ts : List Tile} {b n2 n3 : Int} {h : H}
theorem impl_CountBoards_c (ru : Rd h u 4 (tcs ts)) (hl : ts.length ≤ 1048576) (b1 : i64ok b) (b2 : i64ok n2) (b3 : i64ok n3) : callV SP i_impl_CountBoards [.sl u, i64 b, i64 n2, i64 n3] h fun v h' => v = .tuple [i64 (F_CountBoards_0 ts b n2 n3), i64 (F_CountBoards_1 ts b n2 n3)] ∧ Ext h h' := by
  have htl := ru.tlen
  apply impl_CountBoards_call
  unfold impl_CountBoards_main
  refine (isBoardSize_c (b := b) (n2 := n2) (n3 := n3) ru hl).to ?_
  rintro _ h1 ⟨rfl, x1⟩
  unfold F_CountBoards_0 F_CountBoards_1
  refine bif_not (fun q => by rw [q]; exact ⟨rfl, x1⟩) (fun q => ?_)
  obtain ⟨H_, W, rfl, rfl, k1, k2, k3, k4, k5, k6⟩ := askS_ok q
  rw [if_pos q, if_pos q, Int.toNat_natCast, Int.toNat_natCast]
  refine newO_var fun h2 v2 x2 l2 => ?_
  refine v2.st _ fun h3 v3 b3 l3 => ?_
  have x3 : Ext h1 h3 := x2.but_ b3 (some_le (Nat.le_refl _))
  have x03 := x1.trans x3
  have lx1 := x1.len
  have hu : ∀ i, u.o = some i → i < h.length := fun i e => ru.olt (by omega) e
  refine (boards_c (g := i_impl_CountBoards_1) (cap := [.ptr (pt h1.length)]) (V := fun i => i = h1.length) (a := 0) (fun E _ _ eg ec => visC_ok h1.length E eg ec) k3 k4 k2 k6 (ru.ext x03) (fun i e => by have := hu i e; omega) trivial ⟨fun i => Iff.rfl, v3⟩ (fun i e => by have := hu i e; omega)).to ?_
  rintro _ h4 ⟨rfl, V', ⟨_, v4⟩, _, c4⟩
  rw [runV_count, Nat.zero_add] at v4
  refine v4.ldI ⟨rfl, ?_⟩
  have l4 := c4.1
  refine x1.trans (Ext.of (by omega) fun i hi => ?_)
  rw [c4.2 i (by omega) (by omega), x3.get hi]
theorem spec_CountBoards_c (ru : Rd h u 4 (tcs ts)) (hl : ts.length ≤ 1048576) (b1 : i64ok b) (b2 : i64ok n2) (b3 : i64ok n3) : callV SP i_spec_CountBoards [.sl u, i64 b, i64 n2, i64 n3] h fun v h' => v = .tuple [i64 (F_CountBoards_0 ts b n2 n3), i64 (F_CountBoards_1 ts b n2 n3)] ∧ Ext h h' := by
  have htl := ru.tlen
  apply spec_CountBoards_call
  unfold spec_CountBoards_main
  refine (l07Board_c (b := b) (n2 := n2) (n3 := n3) ru hl).to ?_
  rintro _ h1 ⟨rfl, x1⟩
  unfold F_CountBoards_0 F_CountBoards_1
  refine bif_ne (fun q => ?_) (fun q => ?_)
  · by_cases e : askS ts b n2 n3 = true
    · rw [if_pos e] at q; exact absurd rfl q
    · rw [if_neg e, if_neg e]; exact ⟨rfl, x1⟩
  have q' : askS ts b n2 n3 = true := by
    by_cases e : askS ts b n2 n3 = true
    · exact e
    · rw [if_neg e] at q; cases q
  obtain ⟨H_, W, rfl, rfl, k1, k2, k3, k4, k5, k6⟩ := askS_ok q'
  rw [if_pos q', if_pos q', Int.toNat_natCast, Int.toNat_natCast]
  have hu : ∀ i, u.o = some i → i < h.length := fun i e => ru.olt (by omega) e
  have lx1 := x1.len
  refine newS_ow (by rfl) fun s2 h3 o3 l3 so3 e3 => ?_
  have x3 : Ext h1 h3 := by rw [e3]; exact Ext.app _ _
  have ll3 : h3.length = h1.length + 1 := by rw [e3]; simp
  refine spec_CountBoards_rule0 _ _ _ _ _ _ (fun s i g => ∃ (k : Nat) (vs : List Sl), i = k ∧ k ≤ H_ ∧ vs.length = k ∧ Ow g s 1 (vs.map .sl) ∧ s.o = some h1.length ∧ TabV vs g (List.replicate k (List.replicate W (0, 0, 0, 0))) ∧ DistV vs ∧ (∀ v ∈ vs, Fr h3.length v) ∧ Ext h1 g ∧ h3.length ≤ g.length) (fun _ i _ => (H_ - i).toNat) ?_ _ _
    ⟨0, [], rfl, by omega, rfl, o3, so3, ⟨rfl, fun i v l e => by simp at e⟩, fun i j v w _ e => by simp at e, fun v hv => by simp at hv, x3, Nat.le_refl _⟩
  rintro X s _ g ⟨k, vs, rfl, hk, hvl, os, so, tv, dv, fv, xg, lg⟩ hX
  unfold spec_CountBoards_b0 spec_CountBoards_C0
  refine bif_dec (fun hi => ?_) (fun hi => ?_)
  · refine mkS_ow (by omega) (by unfold lim; omega) fun v g1 ov lv vo eg1 => ?_
    have xg1 : Ext g g1 := by rw [eg1]; exact Ext.app _ _
    have lg1 : g1.length = g.length + 1 := by rw [eg1]; simp
    refine pushV (os.ext xg1) (by rw [List.length_map, hvl]; unfold lim; omega) fun s' g2 os2 b2 kk => ?_
    rw [so] at b2
    rw [w64_of (n := (k : Int) + 1) (by omega) (by omega)]
    have lg2 := b2.1
    have hz : (List.replicate (W : Int).toNat [AVal.int .i64 0, .int .i64 0, .int .i64 0, .int .i64 0]).flatten = tcs (List.replicate W ((0, 0, 0, 0) : Tile)) := by
      unfold tcs
      rw [List.map_replicate, Int.toNat_natCast]; rfl
    rw [hz] at ov
    have ov2 : Ow g2 v 4 (tcs (List.replicate W (0, 0, 0, 0))) := ov.but b2 (.inl (by rw [vo]; exact sne (by omega)))
    refine hX _ _ _ ⟨k + 1, vs ++ [v], by push_cast; rfl, by omega, by simp [hvl], by simpa using os2, kk _ so, ⟨by simp [hvl], fun i w l e f => ?_⟩, fun i j w w' hne e f o ho => ?_, fun w hw => ?_, (xg.trans xg1).but_ b2 (some_le (Nat.le_refl _)), by omega⟩ (by omega)
    · rw [List.getElem?_replicate] at f
      split at f
      · cases f
        rw [List.getElem?_append] at e
        split at e
        · next hlt =>
          have ow := tv.row i w (List.replicate W (0, 0, 0, 0)) e (by rw [List.getElem?_replicate, if_pos (by omega)])
          refine (ow.ext xg1).but b2 ?_
          cases hw : w.o with
          | none => exact .inl (by simp)
          | some p => exact .inl (by have := fv w (List.mem_of_getElem? e) p hw; exact sne (by omega))
        · have := List.mem_of_getElem? e
          simp at this
          subst this
          exact ov2
      · cases f
    · have hnew : ∀ (i' : Nat) (w' : Sl), (vs ++ [v])[i']? = some w' → (i' < vs.length ∧ vs[i']? = some w') ∨ (i' = vs.length ∧ w' = v) := fun i' w' e => by
        rw [List.getElem?_append] at e
        split at e
        · next hlt => exact .inl ⟨hlt, e⟩
        · next hge =>
          have h1 := (List.getElem?_eq_some_iff.1 e).1
          have h2 := List.mem_of_getElem? e
          simp at h1 h2
          exact .inr ⟨by omega, h2⟩
      have hold : ∀ (i' : Nat) (w' : Sl) (p : Nat), vs[i']? = some w' → w'.o = some p → p < g.length := fun i' w' p e hp => by
        exact (tv.row i' w' (List.replicate W (0, 0, 0, 0)) e (by rw [List.getElem?_replicate, if_pos (by have := (List.getElem?_eq_some_iff.1 e).1; omega)])).lt hp
      intro ho'
      rcases hnew i w e with ⟨_, e'⟩ | ⟨e', rfl⟩
      · rcases hnew j w' f with ⟨_, f'⟩ | ⟨f', rfl⟩
        · exact dv i j w w' hne e' f' o ho ho'
        · have := hold i w o e' ho
          rw [vo] at ho'; cases ho'; omega
      · rcases hnew j w' f with ⟨_, f'⟩ | ⟨f', rfl⟩
        · have := hold j w' o f' ho'
          rw [vo] at ho; cases ho; omega
        · omega
    · rcases List.mem_append.1 hw with hw | hw
      · exact fv w hw
      · simp at hw; subst hw
        intro p hp
        rw [vo] at hp; cases hp; omega
  · have hk' : k = H_ := by omega
    subst hk'
    have nown : ∀ i, OwnV vs i → h3.length ≤ i := fun i ⟨v, hv, e⟩ => fv v hv i e
    have hcall := number_c (u := u) (s := s) (ts := ts) (vs := vs) (b := b) (H_ := k) (W := W) k3 k2 k4 k6 dv (fun o e hp => by have := hu o e; have := nown o hp; omega) (fun o e hp => by rw [so] at e; cases e; have := nown _ hp; omega) hvl (k * W) [] 0 _ g (by simp) (by omega) (fun i hi => by simp [usedN]) (ru.ext (x1.trans xg)) os.rd tv (fun i l e => by
        rw [List.getElem?_replicate] at e
        split at e
        · cases e; simp
        · cases e) (fun y x _ hp => by simp at hp)
    refine hcall.to ?_
    rintro _ h' ⟨rfl, c, _⟩
    refine ⟨rfl, x1.trans (Ext.of (by have := xg.len; have := c.1; omega) fun i hi => ?_)⟩
    have := xg.len
    rw [c.2 i (by omega) (fun hp => by have := nown i hp; omega), xg.get hi]
end
end Go.Proofs.Ytekfmmcolgjdmaa.Cl

/- Marks of rows of placed tiles (the laws' helpers). No claim is stated here. -/
set_option linter.unusedVariables false
set_option linter.unusedSimpArgs false
namespace Go.Proofs.Ytekfmmcolgjdmaa.Cl
open Go
def RdS2 (h : H) (s : Sl) (ls : List (List Int)) : Prop :=
  ∃ vs : List Sl, vs.length = ls.length ∧ Rd h s 1 (vs.map .sl) ∧ ∀ (i : Nat) v l, vs[i]? = some v → ls[i]? = some l → Rd h v 2 (ic l)
theorem RdS2.len {h s ls} (r : RdS2 h s ls) : s.len = ls.length := by
  obtain ⟨vs, h1, h2, _⟩ := r
  have := h2.len
  simp at this
  omega
theorem RdS2.ext {h h' s ls} (r : RdS2 h s ls) (x : Ext h h') : RdS2 h' s ls := by
  obtain ⟨vs, h1, h2, h3⟩ := r
  exact ⟨vs, h1, h2.ext x, fun i v l a b => (h3 i v l a b).ext x⟩
theorem Rd.ilen2 {h : H} {s : Sl} {l : List Int} (r : Rd h s 2 (ic l)) : l.length = s.len * 2 := by have := r.len; rw [ic_len] at this; omega
theorem RdS2.ld {h s ls} (r : RdS2 h s ls) {i : Int} (h0 : 0 ≤ i) (h1 : i < ls.length) {K : Sl → Prop} (hk : ∀ v l, ls[i.toNat]? = some l → Rd h v 2 (ic l) → l.length = v.len * 2 → K v) : ixS s 1 i fun p => Cl.ldS p h K := by
  obtain ⟨vs, e1, e2, e3⟩ := r
  refine e2.ldS h0 (by omega) fun v hv => ?_
  have hl : ls[i.toNat]? = some ls[i.toNat] := List.getElem?_eq_getElem (by omega)
  have := e3 i.toNat v _ hv hl
  exact hk v _ hl this this.ilen2
def NewS2 (n : Nat) (h : H) (s : Sl) (ls : List (List Int)) : Prop :=
  ∃ vs : List Sl, vs.length = ls.length ∧ Ow h s 1 (vs.map .sl) ∧ Fr n s ∧ (∀ (i : Nat) v l, vs[i]? = some v → ls[i]? = some l → Ow h v 2 (ic l) ∧ Fr n v) ∧
    (∀ (i j : Nat) v w, i ≠ j → vs[i]? = some v → vs[j]? = some w → ∀ o, v.o = some o → w.o ≠ some o) ∧ ∀ (i : Nat) v, vs[i]? = some v → ∀ o, v.o = some o → s.o ≠ some o
theorem NewS2.rd {n h s ls} (r : NewS2 n h s ls) : RdS2 h s ls := by
  obtain ⟨vs, h1, h2, _, h3, _⟩ := r
  exact ⟨vs, h1, h2.rd, fun i v l a b => (h3 i v l a b).1.rd⟩
theorem NewS2.le {n m h s ls} (r : NewS2 n h s ls) (hm : m ≤ n) : NewS2 m h s ls := by
  obtain ⟨vs, h1, h2, h3, h4, h5⟩ := r
  exact ⟨vs, h1, h2, h3.le hm, fun i v l a b => (h4 i v l a b).imp id fun f => f.le hm, h5⟩
theorem NewS2.nil (n h) : NewS2 n h Sl.nil [] := ⟨[], rfl, Ow.nil _ _, Fr.nil _, fun i v l a => by simp at a, fun i j v w _ a => by simp at a, fun i v a => by simp at a⟩
theorem NewS2.mk0 {n h s} (o : Ow h s 1 []) (f : Fr n s) : NewS2 n h s [] := ⟨[], rfl, o, f, fun i v l a => by simp at a, fun i j v w _ a => by simp at a, fun i v a => by simp at a⟩
theorem NewS2.chg {P n h h' s ls} (r : NewS2 n h s ls) (b : Chg P h h') (hn : ∀ i, n ≤ i → i < h.length → ¬ P i) : NewS2 n h' s ls := by
  obtain ⟨vs, h1, h2, h3, h4, h5⟩ := r
  refine ⟨vs, h1, h2.chg b fun o e => hn o (h3 o e) (h2.lt e), h3, fun i v l a c => ?_, h5⟩
  obtain ⟨x, y⟩ := h4 i v l a c
  exact ⟨x.chg b fun o e => hn o (y o e) (x.lt e), y⟩
theorem NewS2.ext {n h h' s ls} (r : NewS2 n h s ls) (x : Ext h h') : NewS2 n h' s ls := r.chg (x.chg fun _ => False) fun _ _ _ f => f
theorem NewS2.top {n : Nat} {hx h0 : H} {s : Sl} {ls : List (List Int)} (r : NewS2 n hx s ls) {Q : Nat → Prop} (c : Chg Q hx h0) (hq : ∀ o, n ≤ o → ¬ Q o) (vs : List Sl) (hv : Ow h0 s 1 (vs.map .sl)) : ∀ v ∈ vs, ∀ o, v.o = some o → n ≤ o ∧ o < hx.length := by
  obtain ⟨us, h1, h2, h3, h4, _⟩ := r
  have hu := h2.chg c fun o e => hq o (h3 o e)
  have hq : vs = us := by
    have a := hu.rd.sread (by omega)
    have b := hv.rd.sread (by omega)
    rw [a] at b
    have : us.map AVal.sl = vs.map AVal.sl := Option.some.inj b
    exact (List.map_inj_right (fun a b e => by simpa using e) |>.1 this).symm
  subst hq
  intro v hm o e
  obtain ⟨i, hi⟩ := List.getElem?_of_mem hm
  obtain ⟨l, hl⟩ := mem_idx h1 hi
  obtain ⟨p, q⟩ := h4 i v l hi hl
  exact ⟨q o e, p.lt e⟩
/-- append of a new row to a new table -/
theorem NewS2.app {n h s ls} (r : NewS2 n h s ls) {v : Sl} {l : List Int} (ov : Ow h v 2 (ic l)) (fv : Fr n v) (hap : ∀ o, v.o = some o → s.o ≠ some o ∧ ∀ vs : List Sl, Ow h s 1 (vs.map .sl) → ∀ w ∈ vs, w.o ≠ some o)
    {x : Sl} (rx : Rd h x 1 [.sl v]) (hl : (ls.length : Int) + 1 ≤ lim) (hnh : n ≤ h.length) {K : Sl → H → Prop} (hk : ∀ s' h', NewS2 n h' s' (ls ++ [l]) → But s.o h h' → (∀ o, s.o = some o → s'.o = some o) → (s.o = none → ∀ o, s'.o = some o → h.length ≤ o) → K s' h') : Cl.app s x 1 h K := by
  obtain ⟨vs, h1, h2, h3, h4, h5, h6⟩ := r
  have hx : x.len = 1 := by have := rx.len; simp at this; omega
  have hs : s.len = ls.length := by have := h2.len; simp at this; omega
  refine app_ow (by omega) h2 rx (by rw [hs, hx]; exact_mod_cast hl) fun s' h' o' ln b k1 k2 => ?_
  have hso : ∀ o, s'.o = some o → s.o = some o ∨ h.length ≤ o := fun o e => by
    cases hq : s.o with
    | none => exact .inr (k2 hq o e)
    | some p => rw [k1 p hq] at e; exact .inl e
  have hbut : ∀ {w : Sl} {m : List Int}, Ow h w 2 (ic m) → (∀ o, w.o = some o → s.o ≠ some o) → Ow h' w 2 (ic m) := fun {w m} ow hne => ow.but b (by
    cases hw : w.o with
    | none => cases hq : s.o with
      | none => exact .inr rfl
      | some _ => exact .inl (by simp)
    | some o => exact .inl (fun e => hne o hw e))
  have hnew : ∀ (i : Nat) (w : Sl), (vs ++ [v])[i]? = some w → (i < vs.length ∧ vs[i]? = some w) ∨ (i = vs.length ∧ w = v) := fun i w e => by
    rw [List.getElem?_append] at e
    split at e
    · next hlt => exact .inl ⟨hlt, e⟩
    · next hge =>
      have h1 := (List.getElem?_eq_some_iff.1 e).1
      have h2 := List.mem_of_getElem? e
      simp at h1 h2
      exact .inr ⟨by omega, h2⟩
  refine hk s' h' ⟨vs ++ [v], by simp [h1], by simpa using o', fun o e => ?_, fun i w m a c => ?_, fun i j w w' hne a a' o e e' => ?_, fun i w a o e e' => ?_⟩ b k1 k2
  · rcases hso o e with e | e
    · exact h3 o e
    · omega
  · rcases hnew i w a with ⟨hi, a⟩ | ⟨hi, rfl⟩
    · rw [List.getElem?_append_left (by omega)] at c
      obtain ⟨p, q⟩ := h4 i w m a c
      exact ⟨hbut p fun o e => h6 i w a o e, q⟩
    · rw [List.getElem?_append_right (by omega), show i - ls.length = 0 by omega] at c
      simp at c; subst c
      exact ⟨hbut ov fun o e => (hap o e).1, fv⟩
  · rcases hnew i w a with ⟨hi, a2⟩ | ⟨hi, rfl⟩
    · rcases hnew j w' a' with ⟨hj, a3⟩ | ⟨hj, rfl⟩
      · exact h5 i j w w' hne a2 a3 o e e'
      · exact (hap o e').2 vs h2 w (List.mem_of_getElem? a2) e
    · rcases hnew j w' a' with ⟨hj, a3⟩ | ⟨hj, rfl⟩
      · exact (hap o e).2 vs h2 w' (List.mem_of_getElem? a3) e'
      · omega
  · rcases hnew i w a with ⟨hi, a⟩ | ⟨hi, rfl⟩
    · have ow : ∀ m, ls[i]? = some m → o < h.length := fun m hm => (h4 i w m a hm).1.lt e
      obtain ⟨m, hm⟩ := mem_idx h1 a
      have := ow m hm
      rcases hso o e' with e2 | e2
      · exact h6 i w a o e e2
      · omega
    · have := ov.lt e
      rcases hso o e' with e2 | e2
      · exact (hap o e).1 e2
      · omega
/-! ### marks -/
theorem Ow.stF {h : H} {s : Sl} {z : Nat} {l : List Int} (r : Ow h s z (ic l)) {i : Int} {j : Nat} (h0 : 0 ≤ i) (h1 : i < s.len) (j1 : j < z) (x : Int) {K : H → Prop}
    (hk : ∀ h', Ow h' s z (ic (l.set (i.toNat * z + j) x)) → But s.o h h' → h'.length = h.length → K h') : ixS s z i fun p => isPt p (Cl.st1 (Pt.add p j) (i64 x) h K) := by
  obtain ⟨a, b⟩ | ⟨o, a, b, c, d, e⟩ := r.at_
  · omega
  · have hlen := r.len
    rw [ic_len] at hlen
    have hb : i.toNat * z + j < l.length := by
      have : (i.toNat + 1) * z ≤ s.len * z := Nat.mul_le_mul_right _ (by omega)
      rw [Nat.add_mul] at this; omega
    have ho : o < h.length := (List.getElem?_eq_some_iff.1 e).1
    refine ⟨⟨h0, h1⟩, b, by simp [a], by simp [a], h.set o (.own (ic (l.set (i.toNat * z + j) x))), ?_, hk _ ⟨by rw [ic_len]; simpa using hlen, .inr ⟨o, a, b, c, d, by simp [List.getElem?_set, ho]⟩⟩ ?_ (by simp)⟩
    · unfold put1 owned Pt.add
      have : (ic l).set (i.toNat * z + j) (i64 x) = ic (l.set (i.toNat * z + j) x) := by unfold ic; rw [List.map_set]
      simp [a, c, d, e, ic_len, hlen, this]
      omega
    · rw [a]
      exact ⟨by simp, fun k hk hn => by rw [List.getElem?_set, if_neg (fun e => hn (by rw [e]))]⟩
theorem Rd.ldF {h : H} {s : Sl} {z : Nat} {l : List Int} (r : Rd h s z (ic l)) {i : Int} {j : Nat} (h0 : 0 ≤ i) (h1 : i < s.len) (j1 : j < z) {x : Int} (hx : l[i.toNat * z + j]? = some x) {K : Int → Prop} (hk : K x) : ixS s z i fun p => isPt p (Cl.ldI .i64 (Pt.add p j) h K) := by
  refine r.ix h0 h1 fun p po pr => ⟨po, x, ?_, hk⟩
  have := cell_of_range pr (i := j) (by omega)
  rw [Pt.add, this, List.getElem?_take, if_pos (by omega), List.getElem?_drop, ic_at hx]
theorem markPlacedS_c {h0 : H} {s : Sl} {l : List Int} (r : Ow h0 s 2 (ic l)) (k0 : Int) (hk0 : 0 ≤ k0) (hk1 : k0 ≤ 1000000000000000000) (hl : s.len < 1000000000000000000) : callI SP .i64 i_laws_markPlacedS [.sl s, i64 k0] h0 fun n h' => n = k0 + l.length ∧ Ow h' s 2 (ic (upto k0 l.length)) ∧ But s.o h0 h' ∧ h'.length = h0.length := by
  have hlen := r.rd.ilen2
  apply laws_markPlacedS_call
  unfold laws_markPlacedS_main
  refine laws_markPlacedS_rule0 _ _ _ (fun k i h => 0 ≤ i ∧ i ≤ s.len ∧ k = k0 + 2 * i ∧ ∃ l', Ow h s 2 (ic l') ∧ l'.length = l.length ∧ (∀ j : Nat, j < i.toNat * 2 → l'[j]? = some (k0 + (j : Int))) ∧ But s.o h0 h ∧ h.length = h0.length) (fun k i _ => (s.len - i).toNat) ?_ _ _ ⟨by omega, by omega, by omega, l, r, rfl, fun j hj => by omega, But.refl _ _, rfl⟩
  rintro X k i h ⟨i0, i1, rfl, l1, o1, ll1, e1, b1, n1⟩ hX
  unfold laws_markPlacedS_b0 laws_markPlacedS_C0
  refine bif_dec (fun hi => ?_) (fun hi => ?_)
  · refine o1.stF i0 hi (by omega) _ fun h3 o3 b3 n3 => ?_
    rw [w64_of (n := k0 + 2 * i + 1) (by omega) (by omega)]
    refine o3.stF i0 hi (by omega) _ fun h4 o4 b4 n4 => ?_
    rw [w64_of (n := k0 + 2 * i + 1 + 1) (by omega) (by omega), w64_of (n := i + 1) (by omega) (by omega)]
    refine hX _ _ _ ⟨by omega, by omega, by omega, _, o4, by simp [ll1], fun j hj => ?_, (b1.trans b3).trans b4, by omega⟩ (by omega)
    rw [List.getElem?_set]
    split
    · next e => rw [if_pos (by rw [List.length_set]; omega)]; congr 1; omega
    · rw [List.getElem?_set]
      split
      · next e => rw [if_pos (by omega)]; congr 1; omega
      · exact e1 j (by omega)
  · have : i = s.len := by omega
    subst this
    refine ⟨_, rfl, by omega, ?_, b1, n1⟩
    have : l1 = upto k0 l.length := by
      apply List.ext_getElem?
      intro j
      by_cases hj : j < l.length
      · rw [e1 j (by omega), upto_at _ _ _ hj]
      · rw [List.getElem?_eq_none (by omega), List.getElem?_eq_none (by rw [upto_len]; omega)]
    rw [← this]; exact o1
theorem heldPlacedS_c {h0 : H} {s : Sl} {n : Nat} (k0 : Int) (hk0 : 0 ≤ k0) (hk1 : k0 ≤ 1000000000000000000) (r : Rd h0 s 2 (ic (upto k0 n))) (hl : s.len < 1000000000000000000) : callI SP .i64 i_laws_heldPlacedS [.sl s, i64 k0] h0 fun m h' => m = k0 + n ∧ h' = h0 := by
  have hlen := r.ilen2
  rw [upto_len] at hlen
  apply laws_heldPlacedS_call
  unfold laws_heldPlacedS_main
  refine laws_heldPlacedS_rule0 _ _ _ (fun k i h => 0 ≤ i ∧ i ≤ s.len ∧ k = k0 + 2 * i ∧ h = h0) (fun k i _ => (s.len - i).toNat) ?_ _ _ ⟨by omega, by omega, by omega, rfl⟩
  rintro X k i _ ⟨i0, i1, rfl, rfl⟩ hX
  unfold laws_heldPlacedS_b0 laws_heldPlacedS_C0
  refine bif_dec (fun hi => ?_) (fun hi => ?_)
  · refine r.ldF i0 hi (by omega) (upto_at _ _ _ (by omega)) ?_
    refine bif_ne (fun hq => absurd (by push_cast; omega) hq) (fun _ => ?_)
    refine r.ldF i0 hi (by omega) (upto_at _ _ _ (by omega)) ?_
    rw [w64_of (n := k0 + 2 * i + 1) (by omega) (by omega)]
    refine bif_ne (fun hq => absurd (by push_cast; omega) hq) (fun _ => ?_)
    rw [w64_of (n := k0 + 2 * i + 1 + 1) (by omega) (by omega), w64_of (n := i + 1) (by omega) (by omega)]
    exact hX _ _ _ ⟨by omega, by omega, by omega, rfl⟩ (by omega)
  · exact ⟨_, rfl, by omega, rfl⟩
theorem markPlacedSS_c {n0 : Nat} {h0 : H} {s : Sl} {ls : List (List Int)} (r : NewS2 n0 h0 s ls) {Q : Nat → Prop} (hP0 : ∀ vs : List Sl, Ow h0 s 1 (vs.map .sl) → ∀ v ∈ vs, ∀ o, v.o = some o → Q o) (k0 : Int) (hk0 : 0 ≤ k0) (hk1 : k0 ≤ 1000000000) (hl : ls.length < 1000000000) (hs : sumLen ls < 1000000000) :
    callI SP .i64 i_laws_markPlacedSS [.sl s, i64 k0] h0 fun n h' => n = k0 + sumLen ls ∧ NewS2 n0 h' s (marks k0 ls) ∧ Chg Q h0 h' ∧ h'.length = h0.length := by
  obtain ⟨vs, e1, e2, e3, e4, e5, e6⟩ := r
  have hlen : s.len = ls.length := by have := e2.len; simp at this; omega
  apply laws_markPlacedSS_call
  unfold laws_markPlacedSS_main
  refine laws_markPlacedSS_rule0 _ _ _ (fun k i h => 0 ≤ i ∧ i ≤ ls.length ∧ k = k0 + sumLen (ls.take i.toNat) ∧ h.length = h0.length ∧ Chg Q h0 h ∧ Ow h s 1 (vs.map .sl) ∧
      (∀ (j : Nat) v l, vs[j]? = some v → ls[j]? = some l → Ow h v 2 (ic (if j < i.toNat then upto (k0 + sumLen (ls.take j)) l.length else l)))) (fun k i _ => (ls.length - i).toNat) ?_ _ _
      ⟨by omega, by omega, by simp [sumLen], rfl, Chg.refl _ _, e2, fun j v l a b => by rw [if_neg (by omega)]; exact (e4 j v l a b).1⟩
  rintro X k i h ⟨i0, i1, rfl, hh, c, os, ov⟩ hX
  unfold laws_markPlacedSS_b0 laws_markPlacedSS_C0
  refine bif_dec (fun hi => ?_) (fun hi => ?_)
  · refine os.rd.ldS i0 (by omega) fun v hv => ?_
    obtain ⟨l, hl'⟩ := mem_idx e1 hv
    have o1 := ov i.toNat v l hv hl'
    rw [if_neg (by omega)] at o1
    have hvl := o1.rd.ilen2
    have hll := sumLen_mem (List.mem_of_getElem? hl')
    have htk := sumLen_take_le ls i.toNat
    refine (markPlacedS_c o1 _ (by omega) (by omega) (by omega)).to ?_
    rintro _ h2 ⟨rfl, o2, b2, n2⟩
    rw [w64_of (n := i + 1) (by omega) (by omega)]
    have hP : ∀ o, v.o = some o → Q o := fun o e => hP0 vs e2 v (List.mem_of_getElem? hv) o e
    refine hX _ _ _ ⟨by omega, by omega, ?_, by omega, c.trans (b2.chg hP), ?_, fun j w l' hw hl2 => ?_⟩ (by omega)
    · rw [show (i + 1).toNat = i.toNat + 1 by omega, sumLen_take _ _ _ hl']; push_cast; omega
    · refine os.but b2 ?_
      cases hq : v.o with
      | none => exact .inr rfl
      | some o => exact .inl fun e => e6 _ v hv o hq e.symm
    · by_cases hj : j = i.toNat
      · subst hj
        rw [hv] at hw; cases hw
        rw [hl'] at hl2; cases hl2
        rw [if_pos (by omega)]; exact o2
      · have := ov j w l' hw hl2
        refine Ow.but (o := v.o) ?_ b2 ?_
        · by_cases hc : j < i.toNat
          · rw [if_pos (by omega)]; rw [if_pos hc] at this; exact this
          · rw [if_neg (by omega)]; rw [if_neg hc] at this; exact this
        · cases hq : v.o with
          | none => exact .inr rfl
          | some o => exact .inl fun e => e5 _ _ v w (fun e => hj e.symm) hv hw o hq e.symm
  · have : i.toNat = ls.length := by omega
    refine ⟨_, rfl, by rw [this, List.take_length], ⟨vs, by rw [marks_len, e1], os, e3, fun j v l a b => ?_, e5, e6⟩, c, hh⟩
    obtain ⟨l', hl'⟩ := mem_idx e1 a
    rw [marks_at ls k0 j l' hl'] at b
    cases b
    have hj := (List.getElem?_eq_some_iff.1 hl').1
    have := ov j v l' a hl'
    rw [if_pos (by omega)] at this
    exact ⟨this, (e4 j v l' a hl').2⟩
theorem heldPlacedSS_c {h0 : H} {s : Sl} {ls : List (List Int)} (k0 : Int) (hk0 : 0 ≤ k0) (hk1 : k0 ≤ 1000000000) (r : RdS2 h0 s (marks k0 ls)) (hl : ls.length < 1000000000) (hs : sumLen ls < 1000000000) :
    callI SP .i64 i_laws_heldPlacedSS [.sl s, i64 k0] h0 fun n h' => n = k0 + sumLen ls ∧ h' = h0 := by
  have hlen := r.len
  rw [marks_len] at hlen
  apply laws_heldPlacedSS_call
  unfold laws_heldPlacedSS_main
  refine laws_heldPlacedSS_rule0 _ _ _ (fun k i h => 0 ≤ i ∧ i ≤ ls.length ∧ k = k0 + sumLen (ls.take i.toNat) ∧ h = h0) (fun k i _ => (ls.length - i).toNat) ?_ _ _ ⟨by omega, by omega, by simp [sumLen], rfl⟩
  rintro X k i _ ⟨i0, i1, rfl, rfl⟩ hX
  unfold laws_heldPlacedSS_b0 laws_heldPlacedSS_C0
  refine bif_dec (fun hi => ?_) (fun hi => ?_)
  · refine r.ld i0 (by rw [marks_len]; omega) fun v m hv rv lv => ?_
    obtain ⟨l, hl'⟩ : ∃ l, ls[i.toNat]? = some l := ⟨ls[i.toNat]'(by omega), List.getElem?_eq_getElem (by omega)⟩
    rw [marks_at ls k0 _ l hl'] at hv
    cases hv
    rw [upto_len] at lv
    have hll := sumLen_mem (List.mem_of_getElem? hl')
    have htk := sumLen_take_le ls i.toNat
    refine (heldPlacedS_c _ (by omega) (by omega) rv (by omega)).to ?_
    rintro _ _ ⟨rfl, rfl⟩
    refine bif_dec (fun hq => by omega) (fun _ => ?_)
    rw [w64_of (n := i + 1) (by omega) (by omega)]
    refine hX _ _ _ ⟨by omega, by omega, ?_, rfl⟩ (by omega)
    rw [show (i + 1).toNat = i.toNat + 1 by omega, sumLen_take _ _ _ hl']; push_cast; omega
  · have : i.toNat = ls.length := by omega
    exact ⟨_, rfl, by rw [this, List.take_length], rfl⟩
/-! ### pairs -/
def pli (ps : List Plc) : List Int := (ps.map fun p => [p.1, p.2]).flatten
theorem pcs_pli : ∀ ps : List Plc, pcs ps = ic (pli ps)
  | [] => rfl
  | p :: ps => by
    rw [pcs_cons, pcs_pli ps]
    rfl
theorem pli_len : ∀ ps : List Plc, (pli ps).length = ps.length * 2
  | [] => rfl
  | p :: ps => by
    have := pli_len ps
    unfold pli at *
    simp only [List.map_cons, List.flatten_cons, List.length_append, List.length_cons, List.length_nil]
    omega
theorem pairs_of : ∀ (n : Nat) (l : List Int), l.length = n * 2 → ∃ ps : List Plc, ps.length = n ∧ pli ps = l
  | 0, l, h => ⟨[], rfl, by rw [List.length_eq_zero_iff.1 (by omega : l.length = 0)]; rfl⟩
  | n + 1, l, h => by
    match l, h with
    | a :: b :: l, h =>
      obtain ⟨ps, e1, e2⟩ := pairs_of n l (by simp at h; omega)
      exact ⟨(a, b) :: ps, by simp [e1], by rw [← e2]; rfl⟩
    | [a], h => simp at h; omega
    | [], h => simp at h
theorem eqPP_c {h0 : H} {s s' : Sl} {ls : List (List Int)} (r : RdS2 h0 s ls) (r' : RdS2 h0 s' ls) (hl : ls.length < 4000000000000000000) (hls : ∀ l ∈ ls, l.length < 4000000000000000000) : callB SP i_laws_eqPlacedSS [.sl s, .sl s'] h0 fun b h' => b = true ∧ Ext h0 h' := by
  have hlen := r.len
  have hlen' := r'.len
  apply laws_eqPlacedSS_call
  unfold laws_eqPlacedSS_main
  refine bif_ne (fun hq => absurd (by omega) hq) (fun hq => ?_)
  refine laws_eqPlacedSS_rule0 _ _ _ _ (fun i h => 0 ≤ i ∧ i ≤ ls.length ∧ Ext h0 h) (fun i _ => (ls.length - i).toNat) ?_ _ ⟨by omega, by omega, Ext.refl _⟩
  rintro X i h ⟨i0, i1, hx⟩ hX
  unfold laws_eqPlacedSS_b0 laws_eqPlacedSS_C0
  refine bif_dec (fun hi => ?_) (fun hi => ?_)
  · refine (r.ext hx).ld i0 (by omega) fun v l hv rv lv => (r'.ext hx).ld i0 (by omega) fun v' l' hv' rv' lv' => ?_
    rw [hv] at hv'; cases hv'
    obtain ⟨ps, e1, e2⟩ := pairs_of v.len l lv
    have hll := hls l (List.mem_of_getElem? hv)
    rw [← e2, ← pcs_pli] at rv rv'
    refine (eqPlacedS_c rv rv' (by omega)).to ?_
    rintro _ h' ⟨rfl, hx'⟩
    refine bif_not (fun hq => by cases hq) (fun _ => ?_)
    rw [w64_of (n := i + 1) (by omega) (by omega)]
    exact hX _ _ ⟨by omega, by omega, hx.trans hx'⟩ (by omega)
  · exact ⟨_, rfl, rfl, hx⟩
theorem eqPP_yes {h0 : H} {s s' : Sl} {ls : List (List Int)} (r : RdS2 h0 s ls) (r' : RdS2 h0 s' ls) (hl : ls.length < 4000000000000000000) (hls : ∀ l ∈ ls, l.length < 4000000000000000000) {A : H → Prop} {B : H → Prop} (hk : ∀ h', Ext h0 h' → B h') : callB SP i_laws_eqPlacedSS [.sl s, .sl s'] h0 fun b h' => bif !b then A h' else B h' := by
  refine (eqPP_c r r' hl hls).to ?_
  rintro _ h' ⟨rfl, x⟩
  exact bif_not (fun hq => by cases hq) fun _ => hk h' x
theorem heldPP_yes {h0 : H} {s : Sl} {ls : List (List Int)} (k0 : Int) (hk0 : 0 ≤ k0) (hk1 : k0 ≤ 1000000000) (r : RdS2 h0 s (marks k0 ls)) (hl : ls.length < 1000000000) (hs : sumLen ls < 1000000000) {A : H → Prop} {B : Int → H → Prop} (hk : B (k0 + sumLen ls) h0) :
    callI SP .i64 i_laws_heldPlacedSS [.sl s, i64 k0] h0 fun n h' => bif decide (n < 0) then A h' else B n h' := by
  refine (heldPlacedSS_c k0 hk0 hk1 r hl hs).to ?_
  rintro _ _ ⟨rfl, rfl⟩
  exact bif_dec (fun hq => by omega) fun _ => hk
end Go.Proofs.Ytekfmmcolgjdmaa.Cl

/- The reference's first board: the walk. No claim is stated here. -/
set_option linter.unusedVariables false
set_option linter.unusedSimpArgs false
namespace Go.Proofs.Ytekfmmcolgjdmaa.Cl
open Go
theorem pli_at : ∀ (ps : List Plc) (i : Nat) (p : Plc), ps[i]? = some p → (pli ps)[i * 2 + 0]? = some p.1
  | [], i, p, e => by simp at e
  | a :: ps, 0, p, e => by simp at e; subst e; rfl
  | a :: ps, i + 1, p, e => by
    have := pli_at ps i p (by simpa using e)
    rw [show pli (a :: ps) = a.1 :: a.2 :: pli ps from rfl, show (i + 1) * 2 + 0 = (i * 2 + 0) + 1 + 1 by omega, List.getElem?_cons_succ, List.getElem?_cons_succ]
    exact this
/-- The first board of a list of boards, if there is one, in a list of its own. -/
def Res1 (h h' : H) (s4 v : Sl) (L : List Pls) : Prop :=
  (L = [] ∧ Ow h' v 1 []) ∨ ∃ l w rest, L = l :: rest ∧ Ow h' v 1 [.sl w] ∧ Rd h' w 2 (pcs (l.map plN)) ∧ ∀ o, w.o = some o → s4.o = some o ∨ h.length ≤ o
section
variable {u s : Sl} {ts : List Tile} {vs : List Sl} {b : Int} {H_ W : Nat}
set_option maxHeartbeats 1000000 in
theorem search_c (hW : 0 < W) (hH6 : H_ ≤ 6) (hW6 : W ≤ 6) (hts : ts.length ≤ 6) (hd : DistV vs) (hus : ∀ o, u.o = some o → ¬ OwnV vs o) (hss : ∀ o, s.o = some o → ¬ OwnV vs o) (hvs : vs.length = H_) :
    ∀ (m : Nat) (pl : Pls) (s4 : Sl) (tt : List (List Tile)) (h : H), pl.length + m = H_ * W → Rd h u 4 (tcs ts) → Rd h s4 2 (pcs (pl.map plN)) → (∀ o, s4.o = some o → ¬ OwnV vs o) → (∀ o, u.o = some o → o < h.length) → (∀ o, s.o = some o → o < h.length) → (∀ o, s4.o = some o → o < h.length) → Rd h s 1 (vs.map .sl) → TabV vs h tt → WidV W tt → AgrV ts W pl tt →
    callS SP i_spec_l07Search [.sl u, i64 b, i64 H_, i64 W, .sl s4, .sl s, i64 1] h fun v h' => Chg (OwnV vs) h h' ∧ (∃ tt', TabV vs h' tt' ∧ WidV W tt' ∧ AgrV ts W pl tt') ∧ Res1 h h' s4 v (boardsL ts b H_ W m pl) ∧ (∀ o, v.o = some o → h.length ≤ o) := by
  intro m
  have hHW : H_ * W ≤ 6 * 6 := Nat.mul_le_mul hH6 hW6
  induction m with
  | zero =>
    intro pl s4 tt h hpl ru r4 h4 hul hsl h4l rs t w a
    have l4 := r4.plen
    rw [List.length_map] at l4
    apply spec_l07Search_call
    unfold spec_l07Search_main
    rw [show (H_ : Int) * W = ((H_ * W : Nat) : Int) by push_cast; rfl, w64_of (by omega) (by omega)]
    refine bif_eq (fun _ => ?_) (fun q => absurd (by omega) q)
    refine newS_ow (by rfl) fun v h' ov lv vo e => ?_
    have x : Ext h h' := by rw [e]; exact Ext.app _ _
    exact ⟨_, rfl, x.chg _, ⟨tt, t.ext x, w, a⟩, .inr ⟨pl, s4, [], rfl, ov, r4.ext x, fun o e => .inl e⟩, fun o e => by rw [vo] at e; cases e; exact Nat.le_refl _⟩
  | succ m ih =>
    intro pl s4 tt h hpl ru r4 h4 hul hsl h4l rs t w a
    have htl := ru.tlen
    have l4 := r4.plen
    rw [List.length_map] at l4
    apply spec_l07Search_call
    unfold spec_l07Search_main
    rw [show (H_ : Int) * W = ((H_ * W : Nat) : Int) by push_cast; rfl, w64_of (by omega) (by omega), l4]
    refine bif_eq (fun q => absurd q (by omega)) (fun _ => ⟨by omega, by omega, ?_⟩)
    have hy : yN W pl.length < H_ := by unfold yN; rw [Nat.div_lt_iff_lt_mul hW]; omega
    have h2 := div_eq' pl.length W
    have h3 := xN_lt pl.length hW
    rw [show Int.tdiv (pl.length : Int) (W : Int) = ((yN W pl.length : Nat) : Int) from rfl, show Int.tmod (pl.length : Int) (W : Int) = ((xN W pl.length : Nat) : Int) from rfl, w64_of (n := ((yN W pl.length : Nat) : Int)) (by omega) (by omega)]
    have hF : boardsL ts b H_ W (m + 1) pl = pkI (fun q => if fitC ts b H_ W pl q then boardsL ts b H_ W m (pl ++ [q]) else []) (usedN pl) ts.length := rfl
    rw [hF]
    generalize hFd : (fun q => if fitC ts b H_ W pl q then boardsL ts b H_ W m (pl ++ [q]) else []) = F
    refine newS_ow (by rfl) fun s2 h1 o2 l2 so2 e1 => ?_
    have x1 : Ext h h1 := by rw [e1]; exact Ext.app _ _
    have lh1 : h1.length = h.length + 1 := by rw [e1]; simp
    have hov : ∀ o, OwnV vs o → o < h.length := fun o ⟨v, hv, e⟩ => by
      obtain ⟨j, hj⟩ := List.getElem?_of_mem hv
      obtain ⟨l, hl⟩ := mem_idx t.len hj
      exact (t.row j v l hj hl).lt e
    generalize hP : (fun i => OwnV vs i ∨ h.length ≤ i) = P
    have hPi : ∀ i, P i → OwnV vs i ∨ h.length ≤ i := fun i hi => by rw [← hP] at hi; exact hi
    have hPo : ∀ i, OwnV vs i ∨ h.length ≤ i → P i := fun i hi => by rw [← hP]; exact hi
    have hnu : ∀ o, u.o = some o → ¬ P o := fun o e hp => by
      rcases hPi o hp with h5 | h5
      · exact hus o e h5
      · have := hul o e; omega
    have hns : ∀ o, s.o = some o → ¬ P o := fun o e hp => by
      rcases hPi o hp with h5 | h5
      · exact hss o e h5
      · have := hsl o e; omega
    have hn4 : ∀ o, s4.o = some o → ¬ P o := fun o e hp => by
      rcases hPi o hp with h5 | h5
      · exact h4 o e h5
      · have := h4l o e; omega
    -- the list of boards so far
    let St : List Pls → Sl → H → Prop := fun L s18 g => Chg P h g ∧ (∃ tt', TabV vs g tt' ∧ WidV W tt' ∧ AgrV ts W pl tt') ∧ s18.o = some h.length ∧ Res1 h g Sl.nil s18 L
    have fin : ∀ L s18 g R, St L s18 g → (s18.len ≠ 0 ∨ R = []) → ∃ r, AVal.sl s18 = .sl r ∧ Chg (OwnV vs) h g ∧ (∃ tt', TabV vs g tt' ∧ WidV W tt' ∧ AgrV ts W pl tt') ∧ Res1 h g s4 r (L ++ R) ∧ (∀ o, r.o = some o → h.length ≤ o) := fun L s18 g R st hR => by
      obtain ⟨c, tt', so, res⟩ := st
      refine ⟨_, rfl, c.to (fun i hi hp => (hPi i hp).resolve_right (by omega)), tt', ?_, fun o e => by rw [so] at e; cases e; exact Nat.le_refl _⟩
      rcases res with ⟨rfl, o0⟩ | ⟨l, w', rest, rfl, k1, k2, k3⟩
      · have := o0.len
        rcases hR with hR | rfl
        · exfalso; simp at this; omega
        · exact .inl ⟨rfl, o0⟩
      · exact .inr ⟨l, w', rest ++ R, rfl, k1, k2, fun o e => .inr ((k3 o e).resolve_left (by simp [Sl.nil]))⟩
    have resLen : ∀ L s18 g, St L s18 g → (s18.len = 0 ∧ L = []) ∨ s18.len = 1 := fun L s18 g st => by
      obtain ⟨c, tt', so, res⟩ := st
      rcases res with ⟨rfl, o0⟩ | ⟨l, w', rest, rfl, k1, k2, k3⟩
      · have := o0.len; simp at this; exact .inl ⟨by omega, rfl⟩
      · have := k1.len; simp at this; exact .inr (by omega)
    refine spec_l07Search_rule0 _ _ _ _ _ _ _ _ _ _ _ _ (fun s18 i g => ∃ k : Nat, i = k ∧ k ≤ ts.length ∧ St (pkI F (usedN pl) k) s18 g) (fun _ i _ => (ts.length - i).toNat) ?_ _ _
      ⟨0, rfl, by omega, (x1.chg _), ⟨tt, t.ext x1, w, a⟩, so2, .inl ⟨rfl, o2⟩⟩
    rintro X s18 _ g ⟨i, rfl, hi, st⟩ hX
    unfold spec_l07Search_b0 spec_l07Search_C0
    have hpre := pkI_pre F (usedN pl) hi
    refine bif_dec (fun hi2 => ?_) (fun hi2 => ?_)
    · have hi' : i < ts.length := by omega
      refine bif_dec (fun hl => ?_) (fun hl => ?_)
      · -- is the tile used?
        have st0 := st
        obtain ⟨c1, ⟨tt1, t1, w1, a1⟩, so1, res1⟩ := st
        have r4g := r4.chg c1 hn4
        refine spec_l07Search_rule2 _ _ X _ _ _ _ _ _ _ _ _ _ _ _ (fun b20 j g' => ∃ k : Nat, j = k ∧ k ≤ pl.length ∧ b20 = usedN (pl.take k) i ∧ g' = g) (fun _ j _ => (pl.length - j).toNat) ?_ _ _
          ⟨0, rfl, by omega, by simp [usedN], rfl⟩
        rintro Y b20 _ g' ⟨k, rfl, hk, rfl, rfl⟩ hY
        unfold spec_l07Search_b2 spec_l07Search_C2
        refine bif_dec (fun hk2 => ?_) (fun hk2 => ?_)
        · have hk' : k < pl.length := by omega
          have htk : pl.take (k + 1) = pl.take k ++ [pl[k]] := by rw [List.take_add_one, List.getElem?_eq_getElem hk']; rfl
          refine bif_b (fun qb => ?_) (fun qb => ?_)
          · rw [w64_of (n := (k : Int) + 1) (by omega) (by omega)]
            exact hY _ _ _ ⟨k + 1, by push_cast; rfl, by omega, by rw [htk, usedN_snoc, qb]; rfl, rfl⟩ (by omega)
          · rw [pcs_pli] at r4g
            refine r4g.ldF (x := (pl[k].1 : Int)) (by omega) (by omega) (by omega) ?_ ?_
            · rw [Int.toNat_natCast]
              exact pli_at (pl.map plN) k (plN pl[k]) (by rw [List.getElem?_map, List.getElem?_eq_getElem hk']; rfl)
            · rw [w64_of (n := (k : Int) + 1) (by omega) (by omega)]
              refine hY _ _ _ ⟨k + 1, by push_cast; rfl, by omega, ?_, rfl⟩ (by omega)
              rw [htk, usedN_snoc, qb, Bool.false_or, Bool.eq_iff_iff]
              simp only [beq_iff_eq]
              omega
        · have hkp : k = pl.length := by omega
          subst hkp
          rw [List.take_length]
          refine spec_l07Search_rule4 _ _ X _ _ _ _ _ _ _ _ _ _ _ _ (fun s18 j g' => ∃ k : Nat, j = k ∧ k ≤ 4 ∧ St (pkI F (usedN pl) i ++ (if usedN pl i then [] else pkK F i k)) s18 g') (fun _ j _ => (4 - j).toNat) ?_ _ _
            ⟨0, rfl, by omega, by
              have : (if usedN pl i = true then [] else pkK F i 0) = ([] : List Pls) := by split <;> rfl
              rw [this, List.append_nil]; exact st0⟩
          rintro Z s18 _ g' ⟨k, rfl, hk, st2⟩ hZ
          unfold spec_l07Search_b4 spec_l07Search_C4 spec_l07Search_C1
          have next : (s18.len ≠ 0 ∨ usedN pl i = true ∨ k = 4) → X (spec_l07Search_e0 u b H_ W s4 s 1 pl.length (yN W pl.length : Nat) (xN W pl.length : Nat) s18 (w64 (i + 1))) g' := fun hc => by
            rw [w64_of (n := (i : Int) + 1) (by omega) (by omega)]
            refine hX _ _ _ ⟨i + 1, by push_cast; rfl, by omega, ?_⟩ (by omega)
            rw [pkI_succ]
            by_cases hu : usedN pl i = true
            · rw [if_pos hu]; rw [if_pos hu] at st2; exact st2
            · rw [if_neg hu]; rw [if_neg hu] at st2
              obtain ⟨rest, er⟩ := pkK_pre F i hk
              rw [er, ← List.append_assoc]
              obtain ⟨c, tt', so, res⟩ := st2
              refine ⟨c, tt', so, ?_⟩
              rcases res with ⟨eL, o0⟩ | ⟨l, w', rest', eL, k1, k2, k3⟩
              · rcases hc with hc | hc | hc
                · exfalso; have := o0.len; simp at this; omega
                · exact absurd hc hu
                · subst hc
                  have : rest = [] := by
                    have := congrArg List.length er
                    rw [List.length_append] at this
                    exact List.length_eq_zero_iff.1 (by omega)
                  rw [this, List.append_nil]; exact .inl ⟨eL, o0⟩
              · exact .inr ⟨l, w', rest' ++ rest, by rw [eL]; rfl, k1, k2, k3⟩
          refine bif_dec (fun hk2 => ?_) (fun hk2 => next (.inr (.inr (by omega))))
          refine bif_not (fun qu => ?_) (fun qu => next (.inr (.inl qu)))
          refine bif_dec (fun hl2 => ?_) (fun hl2 => next (.inl (by omega)))
          have hk' : k < 4 := by omega
          have hl0 : s18.len = 0 := by omega
          rw [if_neg (by rw [qu]; simp)] at st2
          have hL0 : pkI F (usedN pl) i ++ pkK F i k = [] := by
            rcases resLen _ _ _ st2 with h5 | h5
            · exact h5.2
            · omega
          obtain ⟨c2, ⟨tt2, t2, w2, a2⟩, so2', res2⟩ := st2
          have o18 : Ow g' s18 1 [] := by
            rcases res2 with ⟨_, o0⟩ | ⟨l, w', rest, eL, _⟩
            · exact o0
            · rw [hL0] at eL; cases eL
          have ru' := ru.chg c2 hnu
          have rs' := rs.chg c2 hns
          have r4' := r4.chg c2 hn4
          have hgl := c2.1
          have o18l := o18.lt so2'
          refine ru'.ldT (by omega) (by omega) fun ta hta => ?_
          rw [Int.toNat_natCast] at hta
          refine (l07Turn_c ta k (by omega) (by omega) _).to ?_
          rintro _ g2 ⟨rfl, x2⟩
          rw [Int.toNat_natCast]
          have ht : turnN k ta = tq ts (i, k) := by
            unfold tq
            rw [List.getD_eq_getElem?_getD, hta]; rfl
          rw [ht]
          refine newO_obj fun g3 o3 x3 _ => ?_
          refine o3.stA fun g4 o4 b4 _ => ?_
          have x4 : Ext g' g4 := x2.trans (x3.but_ b4 (some_le (Nat.le_refl _)))
          refine o4.ldA rfl ?_
          refine (fitsV_c (b := b) hW hH6 hW6 hy hvs (rs'.ext x4) (t2.ext x4) w2 a2).to ?_
          rintro _ g5 ⟨rfl, x5⟩
          have x45 := x4.trans x5
          have lx45 := x45.len
          have kst : ∀ g6 s18', Chg P h g6 → (∃ tt', TabV vs g6 tt' ∧ WidV W tt' ∧ AgrV ts W pl tt') → s18'.o = some h.length → Res1 h g6 Sl.nil s18' (F (i, k)) → Z (spec_l07Search_e4 u b H_ W s4 s 1 pl.length (yN W pl.length : Nat) (xN W pl.length : Nat) s18' i (usedN pl i) (w64 (k + 1))) g6 := fun g6 s18' c6 t6 so6 r6 => by
            rw [w64_of (n := (k : Int) + 1) (by omega) (by omega)]
            refine hZ _ _ _ ⟨k + 1, by push_cast; rfl, by omega, ?_⟩ (by omega)
            rw [if_neg (by rw [qu]; simp), pkK_succ, ← List.append_assoc, hL0, List.nil_append]
            exact ⟨c6, t6, so6, r6⟩
          refine bif_not (fun qf => ?_) (fun qf => ?_)
          · have hFq : F (i, k) = [] := by rw [← hFd]; show (if fitC ts b H_ W pl (i, k) = true then _ else _) = _; rw [qf]; rfl
            exact kst _ _ (c2.trans (x45.chg _)) ⟨tt2, t2.ext x45, w2, a2⟩ so2' (.inl ⟨hFq, o18.ext x45⟩)
          · have hFq : F (i, k) = boardsL ts b H_ W m (pl ++ [(i, k)]) := by rw [← hFd]; show (if fitC ts b H_ W pl (i, k) = true then _ else _) = _; rw [qf]; rfl
            refine (rs'.ext x45).ldS (by omega) (by omega) fun v hv => ?_
            rw [Int.toNat_natCast] at hv
            obtain ⟨l, hl'⟩ := mem_idx t2.len hv
            have hlw := w2 _ _ hl'
            have hvm : v ∈ vs := List.mem_of_getElem? hv
            refine (o4.ext x5).ldA rfl ?_
            have ov := (t2.row _ _ _ hv hl').ext x45
            have hvl := ov.rd.tlen
            refine ov.stA (by omega) (by omega) _ rfl fun g6 o6 b6 n6 => ?_
            rw [Int.toNat_natCast, tcs_set l _ _ (by omega)] at o6
            have c6 : Chg P h g6 := (c2.trans (x45.chg _)).trans (b6.chg fun j e => hPo j (.inl ⟨v, hvm, e⟩))
            have o18' := (o18.ext x45).but b6 (.inl (by rw [so2']; intro e; have := hov _ ⟨v, hvm, e⟩; omega))
            -- the list of its own
            refine newS_ow (by rfl) fun s15 g16 o15 l15 so15 e16 => ?_
            have x16 : Ext g6 g16 := by rw [e16]; exact Ext.app _ _
            have l16 : g16.length = g6.length + 1 := by rw [e16]; simp
            refine app_ow (by omega) o15 ((r4.chg c6 hn4).ext x16) (by rw [l15, l4]; unfold lim; omega) fun s17 g18 o17 l17 b18 k17 _ => ?_
            rw [so15] at b18
            have so17 := k17 _ so15
            have lg18 := b18.1
            refine ⟨rfl, ?_⟩
            refine newS_ow (by rfl) fun s19 g20 o19 l19 so19 e20 => ?_
            have x20 : Ext g18 g20 := by rw [e20]; exact Ext.app _ _
            have l20 : g20.length = g18.length + 1 := by rw [e20]; simp
            refine app_ow (by omega) (o17.ext x20) o19.rd (by rw [l17, l15, l4, l19]; unfold lim; omega) fun s21 g22 o21 l21 b22 k21 _ => ?_
            rw [so17] at b22
            have so21 := k21 _ so17
            have lg22 := b22.1
            have x622 : Ext g6 g22 := ((x16.but_ b18 (some_le (by omega))).trans x20).but_ b22 (some_le (by omega))
            have c22 := c6.trans (x622.chg P)
            have o21' : Ow g22 s21 2 (pcs ((pl ++ [(i, k)]).map plN)) := by
              rw [List.map_append, pcs_app, show pcs (List.map plN [(i, k)]) = pc (plN (i, k)) from pcs_one _]
              exact o21
            rw [hl0, show w64 (1 - ((0 : Nat) : Int)) = 1 from rfl]
            have t22 := ((t2.ext x45).set hd hv o6 b6).ext x622
            refine (ih (pl ++ [(i, k)]) s21 _ g22 (by simp; omega) (ru.chg c22 hnu) o21'.rd (fun o e hp => by rw [so21] at e; cases e; have := hov _ hp; omega) (fun o e => by have := hul o e; omega) (fun o e => by have := hsl o e; omega) (fun o e => by rw [so21] at e; cases e; omega) (rs.chg c22 hns) t22 (w2.set _ _ _ hl') (a2.snoc hW (i, k) hl' hlw)).to ?_
            rintro s24 g23 ⟨c23, ⟨tt3, t3, w3, a3⟩, r23, so24⟩
            have lg23 := c23.1
            have c23' := c22.trans (c23.to (Q := P) fun j _ hp => hPo j (.inl hp))
            have o18b : Ow g23 s18 1 [] := (o18'.ext x622).chg c23 fun j e hp => by rw [so2'] at e; cases e; have := hov _ hp; omega
            have r24 : ∃ cs, Rd g23 s24 1 cs ∧ ((boardsL ts b H_ W m (pl ++ [(i, k)]) = [] ∧ cs = []) ∨ ∃ l w rest, boardsL ts b H_ W m (pl ++ [(i, k)]) = l :: rest ∧ cs = [.sl w] ∧ Rd g23 w 2 (pcs (l.map plN)) ∧ ∀ o, w.o = some o → g6.length ≤ o) := by
              rcases r23 with ⟨e, o⟩ | ⟨l, w', rest, e, k1, k2, k3⟩
              · exact ⟨_, o.rd, .inl ⟨e, rfl⟩⟩
              · refine ⟨_, k1.rd, .inr ⟨l, w', rest, e, rfl, k2, fun o e => ?_⟩⟩
                rcases k3 o e with h5 | h5
                · rw [so21] at h5; cases h5; exact Nat.le_refl _
                · omega
            obtain ⟨cs, rcs, alt⟩ := r24
            have hcl := rcs.len
            have hcs1 : s24.len ≤ 1 := by
              rcases alt with ⟨_, rfl⟩ | ⟨_, _, _, _, rfl, _⟩
              · simp at hcl; omega
              · simp at hcl; omega
            refine app_ow (by omega) o18b rcs (by rw [hl0]; unfold lim; omega) fun s25 g26 o25 l25 b26 k25 _ => ?_
            rw [so2'] at b26
            have so25 := k25 _ so2'
            refine kst _ _ (c23'.trans (b26.chg fun j e => hPo j (.inr (by have := Option.some.inj e; omega)))) ⟨tt3, t3.chg (b26.chg (P := fun j => j = h.length) fun j e => (Option.some.inj e).symm) (fun j hp e => by have := hov _ hp; omega), w3, a3.less⟩ so25 ?_
            rw [hFq]
            rcases alt with ⟨e, rfl⟩ | ⟨l, w', rest, e, rfl, k2, k3⟩
            · exact .inl ⟨e, by simpa using o25⟩
            · refine .inr ⟨l, w', rest, e, by simpa using o25, k2.but b26 (.inl fun e => ?_), fun o e => .inr ?_⟩
              · have := k3 _ e.symm; omega
              · have := k3 o e; omega
      · obtain ⟨R, eR⟩ := hpre
        rw [eR]
        exact fin _ _ _ R st (.inl (by omega))
    · have : i = ts.length := by omega
      subst this
      have := fin _ _ _ [] st (.inr rfl)
      rw [List.append_nil] at this
      exact this
end
end Go.Proofs.Ytekfmmcolgjdmaa.Cl

/- First boards: the rows that are told, and the program's contract. No claim is stated here. -/
set_option linter.unusedVariables false
set_option linter.unusedSimpArgs false
namespace Go.Proofs.Ytekfmmcolgjdmaa.Cl
open Go
theorem pcs_drop : ∀ (l : List Plc) (n : Nat), (pcs l).drop (n * 2) = pcs (l.drop n)
  | l, 0 => by simp
  | [], n + 1 => by simp [pcs]
  | p :: l, n + 1 => by
    rw [List.drop_succ_cons, ← pcs_drop l n, pcs_cons, show (n + 1) * 2 = (pc p).length + n * 2 by rw [pc_len]; omega, List.drop_length_add_append]
theorem pcs_take : ∀ (l : List Plc) (n : Nat), (pcs l).take (n * 2) = pcs (l.take n)
  | l, 0 => by simp [pcs]
  | [], n + 1 => by simp [pcs]
  | p :: l, n + 1 => by
    rw [List.take_succ_cons, pcs_cons, pcs_cons, ← pcs_take l n, show (n + 1) * 2 = (pc p).length + n * 2 by rw [pc_len]; omega, List.take_length_add_append]
/-- A part of a view that is read. -/
theorem Rd.cutR {h : H} {s : Sl} {z : Nat} {cs : List AVal} (r : Rd h s z cs) {lo hi : Int} (h0 : 0 ≤ lo) (h1 : lo ≤ hi) (h2 : hi ≤ s.len) (h3 : 0 < s.len) {K : Sl → Prop}
    (hk : ∀ s', s'.o = s.o → s'.len = (hi - lo).toNat → Rd h s' z ((cs.drop (lo.toNat * z)).take ((hi - lo).toNat * z)) → K s') : cut s z lo hi h K := by
  obtain hl | ⟨a, b, c⟩ := r.at_
  · omega
  · obtain ⟨o, xs, e1, e2, e3, e4⟩ := range_some c
    have hn : xs.length = s.n := by
      unfold cells at e2
      split at e2
      · split at e2
        · cases e2; assumption
        · cases e2
      · split at e2
        · cases e2; assumption
        · cases e2
      · cases e2
    have hhi : hi.toNat * z ≤ s.len * z := Nat.mul_le_mul_right _ (by omega)
    have hsum : lo.toNat * z + (hi - lo).toNat * z ≤ s.len * z := by rw [← Nat.add_mul]; exact Nat.mul_le_mul_right _ (by omega)
    refine ⟨⟨h0, h1⟩, ?_, (fun e => by rw [e1] at e; cases e), fun _ => ⟨a, by omega⟩, hk _ rfl rfl ⟨?_, .inr ⟨rfl, b, range_sub c hsum⟩⟩⟩
    · unfold okS; rw [e1]; simp only; rw [e2]; rfl
    · have hcl := r.len
      rw [List.length_take, List.length_drop, hcl]
      show _ = (hi - lo).toNat * z
      omega
/-- The rows of a list of placed tiles. -/
def rowsP (H W : Nat) (l : Pls) : List (List Int) := (List.range H).map fun y => pli (((l.map plN).drop (y * W)).take W)
theorem cloneP_c {h0 : H} {x : Sl} {cs : List AVal} (r : Rd h0 x 2 cs) (hl : x.len ≤ 1048576) (hx : x.o ≠ none) : callS SP i_slices_Clone_s_impl_Placed_impl_Placed_ [.sl x] h0 fun s h' => Ow h' s 2 cs ∧ s.o = some h0.length ∧ Ext h0 h' := by
  apply slices_Clone_s_impl_Placed_impl_Placed__call
  unfold slices_Clone_s_impl_Placed_impl_Placed__main
  have hn : isNilS x = false := by unfold isNilS; cases e : x.o with
    | none => exact absurd e hx
    | some _ => rfl
  refine bif_b (fun q => by rw [hn] at q; cases q) (fun _ => ?_)
  refine newS_ow (by rfl) fun s h1 os ls so e1 => ?_
  have x1 : Ext h0 h1 := by rw [e1]; exact Ext.app _ _
  refine app_ow (by omega) os (r.ext x1) (by rw [ls]; unfold lim; omega) fun s' h' o' l' b k1 _ => ?_
  rw [so] at b
  exact ⟨_, rfl, by simpa using o', k1 _ so, x1.but_ b (some_le (Nat.le_refl _))⟩
/-- A table of its own: its objects are all of V. -/
def NewV (V : Nat → Prop) (h : H) (s : Sl) (ls : List (List Int)) : Prop :=
  ∃ vs : List Sl, vs.length = ls.length ∧ Ow h s 1 (vs.map .sl) ∧ (∀ o, s.o = some o → V o) ∧ (∀ (i : Nat) v l, vs[i]? = some v → ls[i]? = some l → Ow h v 2 (ic l) ∧ ∀ o, v.o = some o → V o) ∧
    (∀ (i j : Nat) v w, i ≠ j → vs[i]? = some v → vs[j]? = some w → ∀ o, v.o = some o → w.o ≠ some o) ∧ ∀ (i : Nat) v, vs[i]? = some v → ∀ o, v.o = some o → s.o ≠ some o
theorem NewV.to2 {V : Nat → Prop} {h s ls} (r : NewV V h s ls) {n : Nat} (hn : ∀ i, V i → n ≤ i) : NewS2 n h s ls := by
  obtain ⟨vs, h1, h2, h3, h4, h5, h6⟩ := r
  exact ⟨vs, h1, h2, fun o e => hn o (h3 o e), fun i v l a b => ⟨(h4 i v l a b).1, fun o e => hn o ((h4 i v l a b).2 o e)⟩, h5, h6⟩
theorem NewV.mono {V V' : Nat → Prop} {h s ls} (r : NewV V h s ls) (hn : ∀ i, i < h.length → V i → V' i) : NewV V' h s ls := by
  obtain ⟨vs, h1, h2, h3, h4, h5, h6⟩ := r
  exact ⟨vs, h1, h2, fun o e => hn o (h2.lt e) (h3 o e), fun i v l a b => ⟨(h4 i v l a b).1, fun o e => hn o ((h4 i v l a b).1.lt e) ((h4 i v l a b).2 o e)⟩, h5, h6⟩
theorem NewV.chg {V Q : Nat → Prop} {h h' s ls} (r : NewV V h s ls) (c : Chg Q h h') (hn : ∀ i, i < h.length → V i → ¬ Q i) : NewV V h' s ls := by
  obtain ⟨vs, h1, h2, h3, h4, h5, h6⟩ := r
  exact ⟨vs, h1, h2.chg c fun o e => hn o (h2.lt e) (h3 o e), h3, fun i v l a b => ⟨(h4 i v l a b).1.chg c fun o e => hn o ((h4 i v l a b).1.lt e) ((h4 i v l a b).2 o e), (h4 i v l a b).2⟩, h5, h6⟩
theorem NewV.app {V : Nat → Prop} {h : H} {s v x : Sl} {ls : List (List Int)} {l : List Int} {o0 : Nat} (r : NewV V h s ls) (hs : s.o = some o0) (ov : Ow h v 2 (ic l)) (hv : ∀ o, v.o = some o → ¬ V o)
    (rx : Rd h x 1 [.sl v]) (hl : (ls.length : Int) + 1 ≤ lim) {K : Sl → H → Prop} (hk : ∀ s' h', NewV (fun i => V i ∨ v.o = some i) h' s' (ls ++ [l]) → But (some o0) h h' → s'.o = some o0 → K s' h') : Cl.app s x 1 h K := by
  obtain ⟨vs, h1, h2, h3, h4, h5, h6⟩ := r
  have hx : x.len = 1 := by have := rx.len; simp at this; omega
  have hsl : s.len = ls.length := by have := h2.len; simp at this; omega
  refine app_ow (by omega) h2 rx (by rw [hsl, hx]; exact_mod_cast hl) fun s' h' o' ln b k1 _ => ?_
  rw [hs] at b
  have hso := k1 _ hs
  have hV0 : V o0 := h3 _ hs
  have hnew : ∀ (i : Nat) (w : Sl), (vs ++ [v])[i]? = some w → (i < vs.length ∧ vs[i]? = some w) ∨ (i = vs.length ∧ w = v) := fun i w e => by
    rw [List.getElem?_append] at e
    split at e
    · next hlt => exact .inl ⟨hlt, e⟩
    · next hge =>
      have h1 := (List.getElem?_eq_some_iff.1 e).1
      have h2 := List.mem_of_getElem? e
      simp at h1 h2
      exact .inr ⟨by omega, h2⟩
  have hbut : ∀ {w : Sl} {m : List Int}, Ow h w 2 (ic m) → w.o ≠ some o0 → Ow h' w 2 (ic m) := fun {w m} ow hne => ow.but b (.inl (Ne.symm hne))
  have hvne : v.o ≠ some o0 := fun e => hv _ e hV0
  refine hk s' h' ⟨vs ++ [v], by simp [h1], by simpa using o', fun o e => by rw [hso] at e; cases e; exact .inl hV0, fun i w m a c => ?_, fun i j w w' hne a a' o e e' => ?_, fun i w a o e e' => ?_⟩ b hso
  · rcases hnew i w a with ⟨hi, a2⟩ | ⟨hi, rfl⟩
    · rw [List.getElem?_append_left (by omega)] at c
      obtain ⟨p, q⟩ := h4 i w m a2 c
      exact ⟨hbut p fun e => h6 i w a2 o0 e hs, fun o e => .inl (q o e)⟩
    · rw [List.getElem?_append_right (by omega), show i - ls.length = 0 by omega] at c
      simp at c; subst c
      exact ⟨hbut ov hvne, fun o e => .inr e⟩
  · rcases hnew i w a with ⟨hi, a2⟩ | ⟨hi, rfl⟩
    · rcases hnew j w' a' with ⟨hj, a3⟩ | ⟨hj, rfl⟩
      · exact h5 i j w w' hne a2 a3 o e e'
      · obtain ⟨m, hm⟩ := mem_idx h1 a2
        exact hv o e' ((h4 i w m a2 hm).2 o e)
    · rcases hnew j w' a' with ⟨hj, a3⟩ | ⟨hj, rfl⟩
      · obtain ⟨m, hm⟩ := mem_idx h1 a3
        exact hv o e ((h4 j w' m a3 hm).2 o e')
      · omega
  · rw [hso] at e'; cases e'
    rcases hnew i w a with ⟨hi, a2⟩ | ⟨hi, rfl⟩
    · exact h6 i w a2 _ e hs
    · exact hvne e
/-- The visitor that tells the first board. -/
def VisF (H_ W oH oW oO nb : Nat) (V : Nat → Prop) (a : Option Pls) (h : H) : Prop :=
  V oH ∧ V oW ∧ V oO ∧ Var h oH (i64 H_) ∧ Var h oW (i64 W) ∧ (∀ i, V i → i < h.length ∧ nb ≤ i) ∧
    ∃ s o0, Var h oO (.sl s) ∧ s.o = some o0 ∧ NewV (fun i => V i ∧ i ≠ oH ∧ i ≠ oW ∧ i ≠ oO) h s (match a with | none => [] | some l => rowsP H_ W l)
def stepF (_ : Option Pls) (pl : Pls) : Option Pls × Bool := (some pl, false)
theorem visF_ok (H_ W oH oW oO nb : Nat) (hW : 0 < W) (hW6 : W ≤ 6) (hH6 : H_ ≤ 6) (hH : 0 < H_) (n1 : oH ≠ oW) (n2 : oH ≠ oO) (n3 : oW ≠ oO) (E : Env) (eH : E.Hh = H_) (eW : E.W = W) (hg : E.g = i_impl_FirstBoard_1) (hc : E.cap = [.ptr (pt oH), .ptr (pt oO), .ptr (pt oW)]) :
    Visitor E stepF (fun a => a = none) (VisF H_ W oH oW oO nb) := by
  have hHW : H_ * W ≤ 6 * 6 := Nat.mul_le_mul hH6 hW6
  have hHW0 : 0 < H_ * W := Nat.mul_pos hH hW
  refine ⟨(fun a pl _ e => by cases e), fun V a h s pl ha hV hpl rs hs => ?_, fun V a h h' Q hV c hq => ?_, fun V a h i hV hi => (hV.2.2.2.2.2.1 i hi).1⟩
  · subst ha
    obtain ⟨v1, v2, v3, vH, vW, hb, s0, o0, vO, so0, nv⟩ := hV
    rw [hg, hc]
    have hsl := rs.plen
    rw [List.length_map, hpl, eH, eW] at hsl
    apply impl_FirstBoard_1_call
    unfold impl_FirstBoard_1_main
    refine vH.ldI ?_
    generalize hT : (fun i => V i ∧ i ≠ oH ∧ i ≠ oW ∧ i ≠ oO) = T at nv
    have hTi : ∀ i, T i → V i ∧ i ≠ oH ∧ i ≠ oW ∧ i ≠ oO := fun i hi => by rw [← hT] at hi; exact hi
    have hT0 : T o0 := by obtain ⟨vs, _, _, k, _⟩ := nv; exact k o0 so0
    refine impl_FirstBoard_1_rule0 _ _ _ _ _ _ (fun i g => ∃ (k : Nat) (s' : Sl), i = k ∧ k ≤ H_ ∧ Chg V h g ∧ Var g oH (i64 H_) ∧ Var g oW (i64 W) ∧ Var g oO (.sl s') ∧ s'.o = some o0 ∧ NewV (fun i => T i ∨ h.length ≤ i) g s' ((List.range k).map fun y => pli (((pl.map plN).drop (y * W)).take W))) (fun i _ => (H_ - i).toNat) ?_ _
      ⟨0, s0, rfl, by omega, Chg.refl _ _, vH, vW, vO, so0, nv.mono fun i _ hi => .inl hi⟩
    rintro X _ g ⟨k, s', rfl, hk, c, vHk, vWk, vOk, so, nvk⟩ hX
    unfold impl_FirstBoard_1_b0 impl_FirstBoard_1_C0
    have lo0 := (hb o0 (hTi o0 hT0).1).1
    have loO := (hb oO v3).1
    have loH := (hb oH v1).1
    have loW := (hb oW v2).1
    have lc := c.1
    refine bif_dec (fun hi => ?_) (fun hi => ?_)
    · have hk' : k < H_ := by omega
      have hkW : (k + 1) * W ≤ H_ * W := Nat.mul_le_mul_right _ hk'
      have hkW2 := hkW
      rw [Nat.add_mul, Nat.one_mul] at hkW2
      refine vOk.ldS (vWk.ldI (vWk.ldI ?_))
      rw [w64_of (n := (k : Int) + 1) (by omega) (by omega), show (k : Int) * (W : Int) = ((k * W : Nat) : Int) by push_cast; rfl, show ((k : Int) + 1) * (W : Int) = ((k * W + W : Nat) : Int) by rw [Int.add_mul, Int.one_mul]; push_cast; rfl, w64_of (n := ((k * W : Nat) : Int)) (by omega) (by omega), w64_of (n := ((k * W + W : Nat) : Int)) (by omega) (by omega)]
      clear hkW
      obtain ⟨B, hB⟩ : ∃ B, k * W = B := ⟨_, rfl⟩
      rw [hB] at hkW2 ⊢
      have rg := rs.chg c hs
      have hson : s.o ≠ none := fun e => by
        obtain q | ⟨_, q, _⟩ := rg.at_
        · omega
        · rw [e] at q; cases q
      refine rg.cutR (by omega) (by omega) (by omega) (by omega) fun s3 so3 l3 r3 => ?_
      have e3 : ((B + W : Nat) : Int) - (B : Int) = (W : Nat) := by omega
      rw [e3, Int.toNat_natCast, Int.toNat_natCast, pcs_drop, pcs_take, pcs_pli, ← hB] at r3
      rw [e3, Int.toNat_natCast] at l3
      refine (cloneP_c r3 (by omega) (by rw [so3]; exact hson)).to ?_
      rintro s5 g4 ⟨o5, so5, x4⟩
      have l4 := x4.len
      refine ⟨(vOk.ext x4).cell.trans vOk.cell.symm, ?_⟩
      refine newS_ow (by rfl) fun s6 g7 o6 l6 so6 e7 => ?_
      have x7 : Ext g4 g7 := by rw [e7]; exact Ext.app _ _
      have x47 := x4.trans x7
      refine ⟨(vOk.ext x47).cell.trans vOk.cell.symm, ?_⟩
      refine (NewV.chg (V := fun i => (T i ∨ h.length ≤ i) ∧ i < g.length) (nvk.mono fun i hl hi => ⟨hi, hl⟩) (x47.chg fun _ => False) (fun _ _ _ f => f)).app so (o5.ext x7) (fun o e hp => by rw [so5] at e; cases e; omega) o6.rd (by rw [List.length_map, List.length_range]; unfold lim; omega) fun s8 g9 nv9 b9 so8 => ?_
      refine ((vOk.ext x47).but b9 (sne fun e => by rw [e] at hT0; exact (hTi _ hT0).2.2.2 rfl)).st _ fun g10 v10 b10 n10 => ?_
      have l9 := b9.1
      have c10 : Chg V h g10 := ((c.trans (x47.chg _)).trans (b9.chg fun i e => by cases e; exact (hTi _ hT0).1)).trans (b10.chg fun i e => by cases e; exact v3)
      refine hX _ _ ⟨k + 1, s8, by push_cast; rfl, by omega, c10, ((vHk.ext x47).but b9 (sne fun e => by rw [e] at hT0; exact (hTi _ hT0).2.1 rfl)).but b10 (sne (Ne.symm n2)), ((vWk.ext x47).but b9 (sne fun e => by rw [e] at hT0; exact (hTi _ hT0).2.2.1 rfl)).but b10 (sne (Ne.symm n3)), v10, so8, ?_⟩ (by omega)
      rw [List.range_succ, List.map_append]
      refine NewV.chg (nv9.mono (V' := fun i => T i ∨ h.length ≤ i) fun i hl hi => ?_) (b10.chg (P := fun i => i = oO) fun i e => (Option.some.inj e).symm) (fun i _ hi e => ?_)
      · rcases hi with hi | hi
        · exact hi.1
        · rw [so5] at hi; cases hi; exact .inr lc
      · subst e
        rcases hi with hi | hi
        · exact (hTi _ hi).2.2.2 rfl
        · omega
    · have hkH : k = H_ := by omega
      subst hkH
      refine ⟨_, rfl, rfl, fun i => V i ∨ (h.length ≤ i ∧ i < g.length), ⟨.inl v1, .inl v2, .inl v3, vHk, vWk, fun i hi => ?_, s', o0, vOk, so, ?_⟩, fun i hi => ?_, c⟩
      · rcases hi with hi | hi
        · have := hb i hi; omega
        · have := (hb oH v1).2; omega
      · refine nvk.mono fun i hl hi => ?_
        rcases hi with hi | hi
        · obtain ⟨p, q⟩ := hTi i hi
          exact ⟨.inl p, q⟩
        · exact ⟨.inr ⟨hi, hl⟩, by omega, by omega, by omega⟩
      · rcases hi with hi | hi
        · exact .inl hi
        · exact .inr hi.1
  · obtain ⟨v1, v2, v3, vH, vW, hb, s0, o0, vO, so0, nv⟩ := hV
    exact ⟨v1, v2, v3, vH.chg c (hq _ v1), vW.chg c (hq _ v2), fun i hi => ⟨by have := (hb i hi).1; have := c.1; omega, (hb i hi).2⟩, s0, o0, vO.chg c (hq _ v3), so0, nv.chg c fun i _ hi => hq i hi.1⟩
/-- The first board as it is told. -/
def firstL (ts : List Tile) (b n2 n3 : Int) : List Pls := boardsL ts b n2.toNat n3.toNat (n2.toNat * n3.toNat) []
def F_FirstBoard_0 (ts : List Tile) (b n2 n3 : Int) : List (List Int) := if askS ts b n2 n3 = true then (match firstL ts b n2 n3 with | [] => [] | l :: _ => rowsP n2.toNat n3.toNat l) else []
def F_FirstBoard_1 (ts : List Tile) (b n2 n3 : Int) : Int := if askS ts b n2 n3 = true then (match firstL ts b n2 n3 with | [] => 4 | _ :: _ => 0) else 2
theorem runV_first : ∀ (L : List Pls), (runV stepF none L).1 = L.head?
  | [] => rfl
  | x :: L => rfl
theorem boardsL_len (ts : List Tile) (b : Int) (H_ W : Nat) : ∀ (m : Nat) (pl l : Pls), l ∈ boardsL ts b H_ W m pl → l.length = pl.length + m
  | 0, pl, l, h => by
    have : l = pl := by simpa [boardsL] using h
    rw [this]; rfl
  | m + 1, pl, l, h => by
    rw [show boardsL ts b H_ W (m + 1) pl = pkI (fun q => if fitC ts b H_ W pl q then boardsL ts b H_ W m (pl ++ [q]) else []) (usedN pl) ts.length from rfl] at h
    unfold pkI pkK at h
    obtain ⟨i, _, h⟩ := List.mem_flatMap.1 h
    split at h
    · simp at h
    · obtain ⟨k, _, h⟩ := List.mem_flatMap.1 h
      dsimp only at h
      split at h
      · have := boardsL_len ts b H_ W m _ l h
        simp at this; omega
      · simp at h
theorem rowsP_len (H W : Nat) (l : Pls) : (rowsP H W l).length = H := by unfold rowsP; simp
section
variable {u : Sl} {ts : List Tile} {b n2 n3 : Int} {h : H}
theorem impl_FirstBoard_c (ru : Rd h u 4 (tcs ts)) (hl : ts.length ≤ 1048576) (b1 : i64ok b) (b2 : i64ok n2) (b3 : i64ok n3) : callV SP i_impl_FirstBoard [.sl u, i64 b, i64 n2, i64 n3] h fun v h' => ∃ s, v = .tuple [.sl s, i64 (F_FirstBoard_1 ts b n2 n3)] ∧ NewS2 h.length h' s (F_FirstBoard_0 ts b n2 n3) ∧ Ext h h' := by
  have htl := ru.tlen
  apply impl_FirstBoard_call
  unfold impl_FirstBoard_main
  refine newO_var fun h1 vH x1 l1 => ?_
  refine newO_var fun h3 vW x3 l3 => ?_
  have vH := vH.ext x3
  refine vH.ldI (vW.ldI ?_)
  have x13 := x1.trans x3
  refine (isBoardSize_c (b := b) (n2 := n2) (n3 := n3) (ru.ext x13) hl).to ?_
  rintro _ h6 ⟨rfl, x6⟩
  have x06 := x13.trans x6
  have lx6 := x6.len
  unfold F_FirstBoard_0 F_FirstBoard_1
  refine bif_not (fun q => by rw [q]; exact ⟨_, rfl, NewS2.nil _ _, x06⟩) (fun q => ?_)
  obtain ⟨H_, W, rfl, rfl, k1, k2, k3, k4, k5, k6⟩ := askS_ok q
  rw [if_pos q, if_pos q, Int.toNat_natCast, Int.toNat_natCast]
  refine newS_ow (by rfl) fun s8 h9 o8 l8 so8 e9 => ?_
  have x9 : Ext h6 h9 := by rw [e9]; exact Ext.app _ _
  have l9 : h9.length = h6.length + 1 := by rw [e9]; simp
  refine newO_var fun h11 vO x11 l11 => ?_
  refine vO.st _ fun h12 vO b12 l12 => ?_
  have x612 : Ext h6 h12 := (x9.trans x11).but_ b12 (some_le (by omega))
  have vH := (vH.ext x6).ext x612
  have vW := (vW.ext x6).ext x612
  refine vH.ldI (vW.ldI ?_)
  have x012 := x06.trans x612
  have hu : ∀ i, u.o = some i → i < h.length := fun i e => ru.olt (by omega) e
  have o8' := ((o8.ext x11).but b12 (.inl (by rw [so8]; exact sne (by omega))))
  refine (boards_c (g := i_impl_FirstBoard_1) (cap := [.ptr (pt h.length), .ptr (pt h9.length), .ptr (pt h1.length)]) (V := fun i => h.length ≤ i ∧ i < h12.length) (a := none) (step := stepF) (okA := fun a => a = none) (Vis := VisF H_ W h.length h1.length h9.length h.length)
    (fun E eH eW eg ec => visF_ok H_ W h.length h1.length h9.length h.length k3 k4 k2 k1 (by omega) (by omega) (by omega) E eH eW eg ec) k3 k4 k2 k6 (ru.ext x012) (fun i e => by have := hu i e; omega) rfl
    ⟨⟨by omega, by omega⟩, ⟨by omega, by omega⟩, ⟨by omega, by omega⟩, vH, vW, fun i hi => ⟨hi.2, hi.1⟩, s8, h6.length, vO, so8, [], rfl, o8', fun o e => by rw [so8] at e; cases e; omega, fun i v l e => by simp at e, fun i j v w _ e => by simp at e, fun i v e => by simp at e⟩
    (fun i e hp => by have := hu i e; omega)).to ?_
  rintro _ h15 ⟨rfl, V', ⟨w1, w2, w3, wH, wW, wb, s', o0, wO, so', nv⟩, wV, c15⟩
  rw [runV_first] at nv
  have lc := c15.1
  have hx15 : Ext h h15 := Ext.of (by omega) fun i hi => by rw [c15.2 i (by omega) (by omega), x012.get hi]
  have nn : NewS2 h.length h15 s' (match (boardsL ts b H_ W (H_ * W) []).head? with | none => [] | some l => rowsP H_ W l) := nv.to2 fun i hi => (wb i hi.1).2
  have hfl : firstL ts b H_ W = boardsL ts b H_ W (H_ * W) [] := by unfold firstL; rw [Int.toNat_natCast, Int.toNat_natCast]
  rw [hfl]
  refine wO.ldS ?_
  have hlen := nn.rd.len
  cases hb : boardsL ts b H_ W (H_ * W) [] with
  | nil =>
    rw [hb] at hlen nn
    refine bif_eq (fun _ => ⟨_, rfl, NewS2.nil _ _, hx15⟩) (fun q0 => absurd (by simpa using hlen) q0)
  | cons l L =>
    rw [hb] at hlen nn
    refine bif_eq (fun q0 => absurd hlen (by show s'.len ≠ (rowsP H_ W l).length; rw [rowsP_len]; omega)) (fun _ => ?_)
    exact wO.ldS ⟨_, rfl, nn, hx15⟩
end
end Go.Proofs.Ytekfmmcolgjdmaa.Cl

/- First boards: the reference's contract. No claim is stated here. -/
set_option linter.unusedVariables false
set_option linter.unusedSimpArgs false
namespace Go.Proofs.Ytekfmmcolgjdmaa.Cl
open Go
section
variable {u : Sl} {ts : List Tile} {b n2 n3 : Int} {H_ W : Nat} {h1 : H}
theorem l07Find_c (ru : Rd h1 u 4 (tcs ts)) (k1 : 0 < H_) (k2 : H_ ≤ 6) (k3 : 0 < W) (k4 : W ≤ 6) (k5 : 1 ≤ ts.length) (k6 : ts.length ≤ 6) :
    callS SP i_spec_l07Find [.sl u, i64 b, i64 H_, i64 W, i64 1] h1 fun v h' => Ext h1 h' ∧ ((boardsL ts b H_ W (H_ * W) [] = [] ∧ Ow h' v 1 []) ∨ ∃ l w rest, boardsL ts b H_ W (H_ * W) [] = l :: rest ∧ Ow h' v 1 [.sl w] ∧ Rd h' w 2 (pcs (l.map plN))) := by
  have htl := ru.tlen
  apply spec_l07Find_call
  unfold spec_l07Find_main
  have hu : ∀ i, u.o = some i → i < h1.length := fun i e => ru.olt (by omega) e
  refine newS_ow (by rfl) fun s2 h3 o3 l3 so3 e3 => ?_
  have x3 : Ext h1 h3 := by rw [e3]; exact Ext.app _ _
  have ll3 : h3.length = h1.length + 1 := by rw [e3]; simp
  refine spec_l07Find_rule0 _ _ _ _ _ _ _ (fun s i g => ∃ (k : Nat) (vs : List Sl), i = k ∧ k ≤ H_ ∧ vs.length = k ∧ Ow g s 1 (vs.map .sl) ∧ s.o = some h1.length ∧ TabV vs g (List.replicate k (List.replicate W (0, 0, 0, 0))) ∧ DistV vs ∧ (∀ v ∈ vs, Fr h3.length v) ∧ Ext h1 g ∧ h3.length ≤ g.length) (fun _ i _ => (H_ - i).toNat) ?_ _ _
    ⟨0, [], rfl, by omega, rfl, o3, so3, ⟨rfl, fun i v l e => by simp at e⟩, fun i j v w _ e => by simp at e, fun v hv => by simp at hv, x3, Nat.le_refl _⟩
  rintro X s _ g ⟨k, vs, rfl, hk, hvl, os, so, tv, dv, fv, xg, lg⟩ hX
  unfold spec_l07Find_b0 spec_l07Find_C0
  refine bif_dec (fun hi => ?_) (fun hi => ?_)
  · refine mkS_ow (by omega) (by unfold lim; omega) fun v g1 ov lv vo eg1 => ?_
    have xg1 : Ext g g1 := by rw [eg1]; exact Ext.app _ _
    have lg1 : g1.length = g.length + 1 := by rw [eg1]; simp
    refine pushV (os.ext xg1) (by rw [List.length_map, hvl]; unfold lim; omega) fun s' g2 os2 b2 kk => ?_
    rw [so] at b2
    rw [w64_of (n := (k : Int) + 1) (by omega) (by omega)]
    have lg2 := b2.1
    have hz : (List.replicate (W : Int).toNat [AVal.int .i64 0, .int .i64 0, .int .i64 0, .int .i64 0]).flatten = tcs (List.replicate W ((0, 0, 0, 0) : Tile)) := by
      unfold tcs
      rw [List.map_replicate, Int.toNat_natCast]; rfl
    rw [hz] at ov
    have ov2 : Ow g2 v 4 (tcs (List.replicate W (0, 0, 0, 0))) := ov.but b2 (.inl (by rw [vo]; exact sne (by omega)))
    refine hX _ _ _ ⟨k + 1, vs ++ [v], by push_cast; rfl, by omega, by simp [hvl], by simpa using os2, kk _ so, ⟨by simp [hvl], fun i w l e f => ?_⟩, fun i j w w' hne e f o ho => ?_, fun w hw => ?_, (xg.trans xg1).but_ b2 (some_le (Nat.le_refl _)), by omega⟩ (by omega)
    · rw [List.getElem?_replicate] at f
      split at f
      · cases f
        rw [List.getElem?_append] at e
        split at e
        · next hlt =>
          have ow := tv.row i w (List.replicate W (0, 0, 0, 0)) e (by rw [List.getElem?_replicate, if_pos (by omega)])
          refine (ow.ext xg1).but b2 ?_
          cases hw : w.o with
          | none => exact .inl (by simp)
          | some p => exact .inl (by have := fv w (List.mem_of_getElem? e) p hw; exact sne (by omega))
        · have := List.mem_of_getElem? e
          simp at this
          subst this
          exact ov2
      · cases f
    · have hnew : ∀ (i' : Nat) (w' : Sl), (vs ++ [v])[i']? = some w' → (i' < vs.length ∧ vs[i']? = some w') ∨ (i' = vs.length ∧ w' = v) := fun i' w' e => by
        rw [List.getElem?_append] at e
        split at e
        · next hlt => exact .inl ⟨hlt, e⟩
        · next hge =>
          have h1 := (List.getElem?_eq_some_iff.1 e).1
          have h2 := List.mem_of_getElem? e
          simp at h1 h2
          exact .inr ⟨by omega, h2⟩
      have hold : ∀ (i' : Nat) (w' : Sl) (p : Nat), vs[i']? = some w' → w'.o = some p → p < g.length := fun i' w' p e hp => by
        exact (tv.row i' w' (List.replicate W (0, 0, 0, 0)) e (by rw [List.getElem?_replicate, if_pos (by have := (List.getElem?_eq_some_iff.1 e).1; omega)])).lt hp
      intro ho'
      rcases hnew i w e with ⟨_, e'⟩ | ⟨e', rfl⟩
      · rcases hnew j w' f with ⟨_, f'⟩ | ⟨f', rfl⟩
        · exact dv i j w w' hne e' f' o ho ho'
        · have := hold i w o e' ho
          rw [vo] at ho'; cases ho'; omega
      · rcases hnew j w' f with ⟨_, f'⟩ | ⟨f', rfl⟩
        · have := hold j w' o f' ho'
          rw [vo] at ho; cases ho; omega
        · omega
    · rcases List.mem_append.1 hw with hw | hw
      · exact fv w hw
      · simp at hw; subst hw
        intro p hp
        rw [vo] at hp; cases hp; omega
  · have hk' : k = H_ := by omega
    subst hk'
    have nown : ∀ i, OwnV vs i → h3.length ≤ i := fun i ⟨v, hv, e⟩ => fv v hv i e
    refine newS_ow (by rfl) fun s4 g1 o4 l4 so4 eg1 => ?_
    have xg1 : Ext g g1 := by rw [eg1]; exact Ext.app _ _
    have lg1 : g1.length = g.length + 1 := by rw [eg1]; simp
    have hown : ∀ i, OwnV vs i → i < g.length := fun i ⟨v, hv, e⟩ => by
      obtain ⟨j, hj⟩ := List.getElem?_of_mem hv
      obtain ⟨l, hl⟩ := mem_idx tv.len hj
      exact (tv.row j v l hj hl).lt e
    have hcall := search_c (u := u) (s := s) (ts := ts) (vs := vs) (b := b) (H_ := k) (W := W) k3 k2 k4 k6 dv (fun o e hp => by have := hu o e; have := nown o hp; omega) (fun o e hp => by rw [so] at e; cases e; have := nown _ hp; omega) hvl (k * W) [] s4 _ g1 (by simp) (ru.ext (xg.trans xg1)) o4.rd (fun o e hp => by rw [so4] at e; cases e; have := hown _ hp; omega) (fun o e => by have := hu o e; omega) (fun o e => by rw [so] at e; cases e; omega) (fun o e => by rw [so4] at e; cases e; omega) (os.rd.ext xg1) (tv.ext xg1) (fun i l e => by
        rw [List.getElem?_replicate] at e
        split at e
        · cases e; simp
        · cases e) (fun y x _ hp => by simp at hp)
    refine hcall.to ?_
    rintro v h' ⟨c, _, r, _⟩
    have lc := c.1
    refine ⟨_, rfl, Ext.of (by omega) fun i hi => ?_, ?_⟩
    · rw [c.2 i (by omega) (fun hp => by have := nown i hp; omega), (xg.trans xg1).get hi]
    · rcases r with ⟨e, o⟩ | ⟨l, w, rest, e, r1, r2, _⟩
      · exact .inl ⟨e, o⟩
      · exact .inr ⟨l, w, rest, e, r1, r2⟩
theorem spec_FirstBoard_c {h : H} (ru : Rd h u 4 (tcs ts)) (hl : ts.length ≤ 1048576) (b1 : i64ok b) (b2 : i64ok n2) (b3 : i64ok n3) : callV SP i_spec_FirstBoard [.sl u, i64 b, i64 n2, i64 n3] h fun v h' => ∃ s, v = .tuple [.sl s, i64 (F_FirstBoard_1 ts b n2 n3)] ∧ NewS2 h.length h' s (F_FirstBoard_0 ts b n2 n3) ∧ Ext h h' := by
  have htl := ru.tlen
  apply spec_FirstBoard_call
  unfold spec_FirstBoard_main
  refine (l07Board_c (b := b) (n2 := n2) (n3 := n3) ru hl).to ?_
  rintro _ h1 ⟨rfl, x1⟩
  unfold F_FirstBoard_0 F_FirstBoard_1
  refine bif_ne (fun q => ?_) (fun q => ?_)
  · by_cases e : askS ts b n2 n3 = true
    · rw [if_pos e] at q; exact absurd rfl q
    · rw [if_neg e, if_neg e, if_neg e]; exact ⟨_, rfl, NewS2.nil _ _, x1⟩
  have q' : askS ts b n2 n3 = true := by
    by_cases e : askS ts b n2 n3 = true
    · exact e
    · rw [if_neg e] at q; cases q
  obtain ⟨H_, W, rfl, rfl, k1, k2, k3, k4, k5, k6⟩ := askS_ok q'
  have hHW : H_ * W ≤ 6 * 6 := Nat.mul_le_mul k2 k4
  rw [if_pos q', if_pos q', Int.toNat_natCast, Int.toNat_natCast]
  have hfl : firstL ts b H_ W = boardsL ts b H_ W (H_ * W) [] := by unfold firstL; rw [Int.toNat_natCast, Int.toNat_natCast]
  rw [hfl]
  refine (l07Find_c (b := b) (ru.ext x1) k1 k2 k3 k4 k5 k6).to ?_
  rintro s3 h2 ⟨x2, r⟩
  have x12 := x1.trans x2
  have lx12 := x12.len
  rcases r with ⟨hb, o3⟩ | ⟨l, w, rest, hb, o3, rw_⟩
  · rw [hb]
    have := o3.len
    refine bif_eq (fun _ => ⟨_, rfl, NewS2.nil _ _, x12⟩) (fun q0 => absurd (by simp at this; omega) q0)
  rw [hb]
  have hlen : l.length = H_ * W := by
    have := boardsL_len ts b H_ W (H_ * W) [] l (by rw [hb]; simp)
    simpa using this
  have hl3 := o3.len
  have hl3' : s3.len = 1 := by simp at hl3; omega
  have hlw := rw_.plen
  rw [List.length_map] at hlw
  have hHW0 : 0 < H_ * W := Nat.mul_pos k1 k3
  refine bif_eq (fun q0 => absurd q0 (by omega)) (fun _ => ?_)
  refine newS_ow (by rfl) fun s4 h5 o4 l4 so4 e5 => ?_
  have x5 : Ext h2 h5 := by rw [e5]; exact Ext.app _ _
  have l5 : h5.length = h2.length + 1 := by rw [e5]; simp
  refine spec_FirstBoard_rule0 _ _ _ _ _ (fun s' i g => ∃ (k : Nat), i = k ∧ k ≤ H_ ∧ Ext h2 g ∧ s'.o = some h2.length ∧ NewV (fun i => h2.length ≤ i) g s' ((List.range k).map fun y => pli (((l.map plN).drop (y * W)).take W))) (fun _ i _ => (H_ - i).toNat) ?_ _ _
    ⟨0, rfl, by omega, x5, so4, [], rfl, o4, fun o e => by rw [so4] at e; cases e; exact Nat.le_refl _, fun i v l e => by simp at e, fun i j v w _ e => by simp at e, fun i v e => by simp at e⟩
  rintro X s' _ g ⟨k, rfl, hk, xg, so, nv⟩ hX
  unfold spec_FirstBoard_b0 spec_FirstBoard_C0
  have lxg := xg.len
  refine bif_dec (fun hi => ?_) (fun hi => ?_)
  · have hk' : k < H_ := by omega
    have hkW2 : (k + 1) * W ≤ H_ * W := Nat.mul_le_mul_right _ hk'
    rw [Nat.add_mul, Nat.one_mul] at hkW2
    refine newS_ow (by rfl) fun s0 g1 o0 l0 so0 e1 => ?_
    have xg1 : Ext g g1 := by rw [e1]; exact Ext.app _ _
    have lg1 : g1.length = g.length + 1 := by rw [e1]; simp
    refine Rd.ldS (l := [w]) ((o3.ext (xg.trans xg1)).rd) (by omega) (by simp) fun w' hw' => ?_
    have hww : w' = w := by simpa using hw'.symm
    subst hww
    rw [w64_of (n := (k : Int) + 1) (by omega) (by omega), show (k : Int) * (W : Int) = ((k * W : Nat) : Int) by push_cast; rfl, show ((k : Int) + 1) * (W : Int) = ((k * W + W : Nat) : Int) by rw [Int.add_mul, Int.one_mul]; push_cast; rfl, w64_of (n := ((k * W : Nat) : Int)) (by omega) (by omega), w64_of (n := ((k * W + W : Nat) : Int)) (by omega) (by omega)]
    obtain ⟨B, hB⟩ : ∃ B, k * W = B := ⟨_, rfl⟩
    rw [hB] at hkW2 ⊢
    refine (rw_.ext (xg.trans xg1)).cutR (by omega) (by omega) (by omega) (by omega) fun s5 so5 l5' r5 => ?_
    have e3 : ((B + W : Nat) : Int) - (B : Int) = (W : Nat) := by omega
    rw [e3, Int.toNat_natCast, Int.toNat_natCast, pcs_drop, pcs_take, pcs_pli, ← hB] at r5
    rw [e3, Int.toNat_natCast] at l5'
    refine app_ow (by omega) o0 r5 (by rw [l0]; unfold lim; omega) fun s6 g6 o6 l6 b6 k6' _ => ?_
    rw [so0] at b6
    have so6 := k6' _ so0
    have lg6 := b6.1
    refine newS_ow (by rfl) fun s7 g8 o7 l7 so7 e8 => ?_
    have x8 : Ext g6 g8 := by rw [e8]; exact Ext.app _ _
    have xg8 : Ext g g8 := (xg1.but_ b6 (some_le (Nat.le_refl _))).trans x8
    refine (NewV.chg (V := fun i => h2.length ≤ i ∧ i < g.length) (nv.mono fun i hl hi => ⟨hi, hl⟩) (xg8.chg fun _ => False) (fun _ _ _ f => f)).app so (show Ow g8 s6 2 (ic _) from by simpa using o6.ext x8) (fun o e hp => by rw [so6] at e; cases e; omega) o7.rd (by rw [List.length_map, List.length_range]; unfold lim; omega) fun s8 g9 nv9 b9 so8 => ?_
    refine hX _ _ _ ⟨k + 1, by push_cast; rfl, by omega, (xg.trans xg8).but_ b9 (some_le (Nat.le_refl _)), so8, ?_⟩ (by omega)
    rw [List.range_succ, List.map_append]
    refine nv9.mono fun i hl hi => ?_
    rcases hi with hi | hi
    · exact hi.1
    · rw [so6] at hi; cases hi; omega
  · have hkH : k = H_ := by omega
    subst hkH
    exact ⟨_, rfl, (nv.to2 fun i hi => hi).le (by omega), x12.trans xg⟩
end
theorem FirstBoard_small0 {ts : List Tile} {b n2 n3 : Int} (sz0 : ts.length ≤ 1048576) (b1 : i64ok b) (b2 : i64ok n2) (b3 : i64ok n3) : (F_FirstBoard_0 ts b n2 n3).length < 1000000 ∧ sumLen (F_FirstBoard_0 ts b n2 n3) < 1000000 := by
  unfold F_FirstBoard_0
  split
  · next q =>
    obtain ⟨H_, W, rfl, rfl, k1, k2, k3, k4, k5, k6⟩ := askS_ok q
    cases e : firstL ts b H_ W with
    | nil => exact ⟨by simp, by simp [sumLen]⟩
    | cons l L =>
      rw [Int.toNat_natCast, Int.toNat_natCast]
      show (rowsP H_ W l).length < _ ∧ sumLen (rowsP H_ W l) < _
      refine ⟨by rw [rowsP_len]; omega, ?_⟩
      have key : ∀ n : Nat, sumLen ((List.range n).map fun y => pli (((l.map plN).drop (y * W)).take W)) ≤ n * 12 := fun n => by
        induction n with
        | zero => simp [sumLen]
        | succ n ih =>
          rw [List.range_succ, List.map_append]
          unfold sumLen at *
          rw [List.map_append, List.sum_append]
          simp only [List.map_cons, List.map_nil, List.sum_cons, List.sum_nil]
          have : (pli (((l.map plN).drop (n * W)).take W)).length ≤ 12 := by rw [pli_len, List.length_take]; omega
          omega
      have := key H_
      unfold rowsP
      omega
  · exact ⟨by simp, by simp [sumLen]⟩
end Go.Proofs.Ytekfmmcolgjdmaa.Cl

/- What the arguments of a law are. No claim is stated here. -/
set_option linter.unusedVariables false
set_option linter.unusedSimpArgs false
namespace Go.Proofs.Ytekfmmcolgjdmaa.Cl
open Go
theorem den_int {P : Program} {h : H} {t : TypeId} {xs : List AVal} {pd : PD} {k : IntKind} (hu : P.underlying t = some (.int k)) (d : Den P h t xs pd) : ∃ n, xs = [.int k n] ∧ (Lit.int k n).wf = true := by
  cases d with
  | int a b => rw [hu] at a; cases a; exact ⟨_, rfl, b⟩
  | bool a => rw [hu] at a; cases a
  | arr a => rw [hu] at a; cases a
  | struct a => rw [hu] at a; cases a
  | sl a => rw [hu] at a; cases a
theorem den_tile {P : Program} {h : H} {t e : TypeId} {xs : List AVal} {pd : PD} (hu : P.underlying t = some (.array 4 e)) (he : P.underlying e = some (.int .i64)) (d : Den P h t xs pd) : ∃ t : Tile, xs = tc t := by
  cases d with
  | int a b => rw [hu] at a; cases a
  | bool a => rw [hu] at a; cases a
  | @arr t n e' ass ds a b c d =>
    rw [hu] at a; cases a
    match ass, ds, b, c, d with
    | [a0, a1, a2, a3], [d0, d1, d2, d3], _, _, d =>
      obtain ⟨n0, rfl, _⟩ := den_int he (d 0 a0 d0 rfl rfl)
      obtain ⟨n1, rfl, _⟩ := den_int he (d 1 a1 d1 rfl rfl)
      obtain ⟨n2, rfl, _⟩ := den_int he (d 2 a2 d2 rfl rfl)
      obtain ⟨n3, rfl, _⟩ := den_int he (d 3 a3 d3 rfl rfl)
      exact ⟨(n0, n1, n2, n3), rfl⟩
  | struct a => rw [hu] at a; cases a
  | sl a => rw [hu] at a; cases a
theorem den_sl {P : Program} {h : H} {t e : TypeId} {xs : List AVal} {pd : PD} (hu : P.underlying t = some (.slice e)) (d : Den P h t xs pd) : ∃ (s : Sl) (ass : List (List AVal)) (ds : List PD), xs = [.sl s] ∧ ass.length = s.len ∧ ds.length = s.len ∧ s.len ≤ maxLen ∧ Rd h s (P.cellsOf e) ass.flatten ∧ ∀ (i : Nat) a d, ass[i]? = some a → ds[i]? = some d → Den P h e a d := by
  cases d with
  | int a b => rw [hu] at a; cases a
  | bool a => rw [hu] at a; cases a
  | arr a => rw [hu] at a; cases a
  | struct a => rw [hu] at a; cases a
  | sl a b c d e f => rw [hu] at a; cases a; exact ⟨_, _, _, rfl, b, c, d, e, f⟩
theorem all_tiles {P : Program} {h : H} {t e : TypeId} (hu : P.underlying t = some (.array 4 e)) (he : P.underlying e = some (.int .i64)) : ∀ (ass : List (List AVal)) (ds : List PD), ass.length = ds.length → (∀ (i : Nat) a d, ass[i]? = some a → ds[i]? = some d → Den P h t a d) → ∃ ts : List Tile, ass.flatten = tcs ts
  | [], _, _, _ => ⟨[], rfl⟩
  | a :: ass, [], h, _ => by simp at h
  | a :: ass, d :: ds, hl, hd => by
    obtain ⟨t, rfl⟩ := den_tile hu he (hd 0 a d rfl rfl)
    obtain ⟨ts, e⟩ := all_tiles hu he ass ds (by simpa using hl) (fun i a d x y => hd (i + 1) a d (by simpa using x) (by simpa using y))
    exact ⟨t :: ts, by rw [List.flatten_cons, e, tcs_cons]⟩
theorem arg_tiles {P : Program} {h : H} {t u e : TypeId} {xs : List AVal} {pd : PD} (ht : P.underlying t = some (.slice u)) (hu : P.underlying u = some (.array 4 e)) (he : P.underlying e = some (.int .i64)) (hc : P.cellsOf u = 4) (d : Den P h t xs pd) : ∃ (s : Sl) (ts : List Tile), xs = [.sl s] ∧ Rd h s 4 (tcs ts) ∧ s.len ≤ 9223372036854775807 := by
  obtain ⟨s, ass, ds, rfl, l1, l2, l3, r, hd⟩ := den_sl ht d
  obtain ⟨ts, e⟩ := all_tiles hu he ass ds (by omega) hd
  rw [hc, e] at r
  exact ⟨s, ts, rfl, r, by unfold maxLen at l3; omega⟩
theorem sep_of {n : Nat} {s w : Sl} {g : H} {z : Nat} {cs : List AVal} (f : Fr n s) (r : Ow g w z cs) (h : g.length ≤ n) : s.o ≠ w.o ∨ s.o = none := by
  cases hs : s.o with
  | none => exact .inr rfl
  | some o =>
    refine .inl fun e => ?_
    have h1 := f o hs
    have h2 := r.lt e.symm
    omega
theorem all_ints {P : Program} {h : H} {t : TypeId} (ht : P.underlying t = some (.int .i64)) : ∀ (ass : List (List AVal)) (ds : List PD), ass.length = ds.length → (∀ (i : Nat) a d, ass[i]? = some a → ds[i]? = some d → Den P h t a d) → ∃ l : List Int, ass.flatten = ic l
  | [], _, _, _ => ⟨[], rfl⟩
  | a :: ass, [], h, _ => by simp at h
  | a :: ass, d :: ds, hl, hd => by
    obtain ⟨n, rfl, _⟩ := den_int ht (hd 0 a d rfl rfl)
    obtain ⟨l, e⟩ := all_ints ht ass ds (by simpa using hl) (fun i a d x y => hd (i + 1) a d (by simpa using x) (by simpa using y))
    exact ⟨n :: l, by rw [List.flatten_cons, e, ic_cons]; rfl⟩
theorem arg_ints {P : Program} {h : H} {t u : TypeId} {xs : List AVal} {pd : PD} (ht : P.underlying t = some (.slice u)) (hu : P.underlying u = some (.int .i64)) (hc : P.cellsOf u = 1) (d : Den P h t xs pd) : ∃ (s : Sl) (l : List Int), xs = [.sl s] ∧ Rd h s 1 (ic l) ∧ s.len ≤ 9223372036854775807 := by
  obtain ⟨s, ass, ds, rfl, l1, l2, l3, r, hd⟩ := den_sl ht d
  obtain ⟨l, e⟩ := all_ints hu ass ds (by omega) hd
  rw [hc, e] at r
  exact ⟨s, l, rfl, r, by unfold maxLen at l3; omega⟩
theorem all_rows {P : Program} {h : H} {t u : TypeId} (ht : P.underlying t = some (.slice u)) (hu : P.underlying u = some (.int .i64)) (hc : P.cellsOf u = 1) : ∀ (ass : List (List AVal)) (ds : List PD), ass.length = ds.length → (∀ (i : Nat) a d, ass[i]? = some a → ds[i]? = some d → Den P h t a d) →
    ∃ (vs : List Sl) (ls : List (List Int)), ass.flatten = vs.map .sl ∧ vs.length = ass.length ∧ ls.length = ass.length ∧ (∀ (i : Nat) v l, vs[i]? = some v → ls[i]? = some l → Rd h v 1 (ic l)) ∧ ∀ l ∈ ls, l.length ≤ 9223372036854775807
  | [], _, _, _ => ⟨[], [], rfl, rfl, rfl, fun i v l h => by simp at h, fun l h => by simp at h⟩
  | a :: ass, [], h, _ => by simp at h
  | a :: ass, d :: ds, hl, hd => by
    obtain ⟨s, l, rfl, r, b⟩ := arg_ints ht hu hc (hd 0 a d rfl rfl)
    obtain ⟨vs, ls, e1, e2, e3, e4, e5⟩ := all_rows ht hu hc ass ds (by simpa using hl) (fun i a d x y => hd (i + 1) a d (by simpa using x) (by simpa using y))
    refine ⟨s :: vs, l :: ls, by rw [List.flatten_cons, e1]; rfl, by simp [e2], by simp [e3], fun i v l' h1 h2 => ?_, fun l' h => ?_⟩
    · cases i with
      | zero => simp at h1 h2; subst h1 h2; exact r
      | succ i => exact e4 i v l' (by simpa using h1) (by simpa using h2)
    · rcases List.mem_cons.1 h with rfl | h
      · have := r.ilen; omega
      · exact e5 l' h
theorem arg_rows {P : Program} {h : H} {t u e : TypeId} {xs : List AVal} {pd : PD} (ht : P.underlying t = some (.slice u)) (hu : P.underlying u = some (.slice e)) (he : P.underlying e = some (.int .i64)) (hc : P.cellsOf u = 1) (hc' : P.cellsOf e = 1) (d : Den P h t xs pd) :
    ∃ (s : Sl) (ls : List (List Int)), xs = [.sl s] ∧ RdSS h s ls ∧ s.len ≤ 9223372036854775807 ∧ ∀ l ∈ ls, l.length ≤ 9223372036854775807 := by
  obtain ⟨s, ass, ds, rfl, l1, l2, l3, r, hd⟩ := den_sl ht d
  obtain ⟨vs, ls, e1, e2, e3, e4, e5⟩ := all_rows hu he hc' ass ds (by omega) hd
  rw [hc, e1] at r
  exact ⟨s, ls, rfl, ⟨vs, by omega, r, e4⟩, by unfold maxLen at l3; omega, e5⟩
theorem arg_int {P : Program} {h : H} {t : TypeId} {xs : List AVal} {pd : PD} (ht : P.underlying t = some (.int .i64)) (d : Den P h t xs pd) : ∃ n, xs = [i64 n] ∧ i64ok n := by
  obtain ⟨n, rfl, w⟩ := den_int ht d
  refine ⟨n, rfl, ?_⟩
  have w' : (decide (IntKind.i64.min ≤ n) && decide (n ≤ IntKind.i64.max)) = true := w
  simp only [Bool.and_eq_true, decide_eq_true_eq] at w'
  unfold i64ok
  have h1 : IntKind.i64.min = -9223372036854775808 := by decide
  have h2 : IntKind.i64.max = 9223372036854775807 := by decide
  omega
def structOK (P : Program) (t c u : TypeId) : Bool := match P.underlying t with
  | some (.struct fs) => fs.size == 2 && (fs[0]?).map (·.type) == some c && (fs[1]?).map (·.type) == some u
  | _ => false
theorem arg_set0 {P : Program} {h : H} {t c u v e : TypeId} {xs : List AVal} {pd : PD} {fs : Array Field} (ht : P.underlying t = some (.struct fs)) (hs : fs.size = 2) (h0 : (fs[0]?).map (·.type) = some c) (h1 : (fs[1]?).map (·.type) = some u) (hc : P.underlying c = some (.int .i64)) (hu : P.underlying u = some (.slice v)) (hv : P.underlying v = some (.array 4 e)) (he : P.underlying e = some (.int .i64)) (hz : P.cellsOf v = 4) (d : Den P h t xs pd) :
    ∃ (n : Int) (s : Sl) (ts : List Tile), xs = SetC n s ∧ Rd h s 4 (tcs ts) ∧ s.len ≤ 9223372036854775807 := by
  cases d with
  | int a b => rw [ht] at a; cases a
  | bool a => rw [ht] at a; cases a
  | arr a => rw [ht] at a; cases a
  | @struct t fs' ass ds a b b' d =>
    rw [ht] at a; cases a
    rw [hs] at b b'
    match ass, ds, b, b', d with
    | [a0, a1], [d0, d1], _, _, d =>
      cases e0 : fs[0]? with
      | none => rw [e0] at h0; cases h0
      | some f0 =>
        cases e1 : fs[1]? with
        | none => rw [e1] at h1; cases h1
        | some f1 =>
          rw [e0] at h0; rw [e1] at h1
          simp at h0 h1
          have k0 := d 0 f0 a0 d0 e0 rfl rfl
          have k1 := d 1 f1 a1 d1 e1 rfl rfl
          rw [h0] at k0; rw [h1] at k1
          obtain ⟨n, rfl, _⟩ := den_int hc k0
          obtain ⟨s, ts, rfl, r, b⟩ := arg_tiles hu hv he hz k1
          exact ⟨n, s, ts, rfl, r, b⟩
  | sl a => rw [ht] at a; cases a
theorem arg_set {P : Program} {h : H} {t c u v e : TypeId} {xs : List AVal} {pd : PD} (ht : structOK P t c u = true) (hc : P.underlying c = some (.int .i64)) (hu : P.underlying u = some (.slice v)) (hv : P.underlying v = some (.array 4 e)) (he : P.underlying e = some (.int .i64)) (hz : P.cellsOf v = 4) (d : Den P h t xs pd) :
    ∃ (n : Int) (s : Sl) (ts : List Tile), xs = SetC n s ∧ Rd h s 4 (tcs ts) ∧ s.len ≤ 9223372036854775807 := by
  unfold structOK at ht
  split at ht
  · next fs hf =>
    simp only [Bool.and_eq_true, beq_iff_eq] at ht
    exact arg_set0 hf ht.1.1 ht.1.2 ht.2 hc hu hv he hz d
  · cases ht
end Go.Proofs.Ytekfmmcolgjdmaa.Cl
