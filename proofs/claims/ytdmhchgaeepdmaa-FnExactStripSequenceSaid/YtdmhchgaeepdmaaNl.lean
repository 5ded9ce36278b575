/- Strip sequences: numbers of ways, column by column, on both sides. No claim is stated here. -/
import Derived.Test.YtdmhchgaeepdmaaNk
set_option linter.unusedVariables false
set_option linter.unusedSimpArgs false
namespace Go.Proofs.Ytdmhchgaeepdmaa.Cl
open Go
/-! ### the numbers -/
def stp (f : Int → Int) (now nx : List Int) (e : Int × Int) : List Int := nx.set e.2.toNat (f (nx.getD e.2.toNat 0 + now.getD e.1.toNat 0))
def stepL (f : Int → Int) (es : List (Int × Int)) (N : Nat) (now : List Int) : List Int := es.foldl (stp f now) (List.replicate N 0)
def totL (f : Int → Int) (l : List Int) : Int := l.foldl (fun s x => f (s + x)) 0
def seqL (f : Int → Int) (es : List (Int × Int)) (N : Nat) : Nat → List Int → List Int
  | 0, _ => []
  | k + 1, now => totL f (stepL f es N now) :: seqL f es N k (stepL f es N now)
def runQ {σ : Type} (f : Int → Int) (es : List (Int × Int)) (N : Nat) (g : σ → Int → σ × Bool) : Nat → σ → List Int → σ
  | 0, t, _ => t
  | k + 1, t, now => if (g t (totL f (stepL f es N now))).2 = true then runQ f es N g k (g t (totL f (stepL f es N now))).1 (stepL f es N now) else (g t (totL f (stepL f es N now))).1
def Bd (B : Int) (l : List Int) : Prop := ∀ i, 0 ≤ l.getD i 0 ∧ l.getD i 0 ≤ B
structure Fit (f : Int → Int) (B : Int) : Prop where
  b0 : 0 ≤ B
  b1 : B ≤ 1000000000000001
  f0 : ∀ x, 0 ≤ x → 0 ≤ f x ∧ f x ≤ B
theorem stp_len (f now nx e) : (stp f now nx e).length = nx.length := by simp [stp]
theorem stp_bd {f : Int → Int} {B : Int} (F : Fit f B) {now nx : List Int} {e : Int × Int} (hn : Bd B now) (hx : Bd B nx) : Bd B (stp f now nx e) := fun i => by
  unfold stp
  rw [List.getD_eq_getElem?_getD, List.getElem?_set]
  by_cases h : e.2.toNat = i
  · rw [if_pos h]
    split
    · have h1 := hx e.2.toNat
      have h2 := hn e.1.toNat
      exact F.f0 _ (by omega)
    · exact ⟨Int.le_refl _, F.b0⟩
  · rw [if_neg h, ← List.getD_eq_getElem?_getD]; exact hx i
theorem fold_stp {f : Int → Int} {B : Int} (F : Fit f B) {now : List Int} (hn : Bd B now) : ∀ (es : List (Int × Int)) (nx : List Int), Bd B nx → Bd B (es.foldl (stp f now) nx) ∧ (es.foldl (stp f now) nx).length = nx.length
  | [], nx, h => ⟨h, rfl⟩
  | e :: es, nx, h => by
    have := fold_stp F hn es (stp f now nx e) (stp_bd F hn h)
    exact ⟨this.1, by rw [List.foldl_cons, this.2, stp_len]⟩
theorem bd_zero {B : Int} (h : 0 ≤ B) (N : Nat) : Bd B (List.replicate N 0) := fun i => by
  rw [List.getD_eq_getElem?_getD, List.getElem?_replicate]
  split
  · exact ⟨Int.le_refl _, h⟩
  · exact ⟨Int.le_refl _, h⟩
theorem bd_one {B : Int} (h : 1 ≤ B) (N : Nat) : Bd B (List.replicate N 1) := fun i => by
  rw [List.getD_eq_getElem?_getD, List.getElem?_replicate]
  split
  · exact ⟨by decide, h⟩
  · exact ⟨Int.le_refl _, by show (0 : Int) ≤ B; omega⟩
theorem stepL_bd {f : Int → Int} {B : Int} (F : Fit f B) {es : List (Int × Int)} {N : Nat} {now : List Int} (hn : Bd B now) : Bd B (stepL f es N now) ∧ (stepL f es N now).length = N := by
  have := fold_stp F hn es (List.replicate N 0) (bd_zero F.b0 N)
  exact ⟨this.1, by unfold stepL; rw [this.2]; simp⟩
theorem foldl_take {α β : Type} (g : β → α → β) (x : β) {l : List α} {k : Nat} (h : k < l.length) : (l.take (k + 1)).foldl g x = g ((l.take k).foldl g x) l[k] := by
  rw [List.take_succ_eq_append_getElem h, List.foldl_append]; rfl
theorem totL_bd {f : Int → Int} {B : Int} (F : Fit f B) {l : List Int} (hl : Bd B l) : ∀ k, k ≤ l.length → 0 ≤ (l.take k).foldl (fun s x => f (s + x)) 0 ∧ (l.take k).foldl (fun s x => f (s + x)) 0 ≤ B
  | 0, _ => ⟨Int.le_refl _, F.b0⟩
  | k + 1, h => by
    have ih := totL_bd F hl k (by omega)
    rw [foldl_take _ _ (by omega)]
    have hk := hl k
    rw [List.getD_eq_getElem?_getD, List.getElem?_eq_getElem (by omega)] at hk
    have hk' : 0 ≤ l[k] ∧ l[k] ≤ B := hk
    exact F.f0 _ (by omega)
/-! ### reading columns -/
theorem c3_at : ∀ (l : List (Int × Int × Int)) (i : Nat) (x : Int × Int × Int), l[i]? = some x → ((c3 l).drop (i * 3)).take 3 = [i64 x.1, i64 x.2.1, i64 x.2.2]
  | [], i, x, h => by simp at h
  | a :: l, 0, x, h => by
    simp at h
    subst h
    unfold c3
    simp
  | a :: l, i + 1, x, h => by
    have ih := c3_at l i x (by simpa using h)
    unfold c3 at *
    rw [List.map_cons, List.flatten_cons, show (i + 1) * 3 = 3 + i * 3 by omega, ← List.drop_drop]
    exact ih
theorem Rd.ldC {h : H} {s : Sl} {l : List (Int × Int × Int)} (r : Rd h s 3 (c3 l)) {i : Nat} (h1 : i < l.length) {K : List AVal → Prop} (hk : K [i64 l[i].1, i64 l[i].2.1, i64 l[i].2.2]) : ixS s 3 (i : Int) fun p => Cl.ldA p 3 h K := by
  have hl := r.len
  rw [c3_len] at hl
  refine r.ldA (by omega) (by omega) ?_
  rw [Int.toNat_natCast, c3_at l i l[i] (List.getElem?_eq_getElem h1)]
  exact hk
theorem Obj.ixI {h : H} {o : Nat} {cs : List AVal} (x : Obj h o cs) {n i : Nat} (hn : cs.length = n) (hi : i < n) {K : Pt → Prop} (hk : ∀ p, cell h p = cs[i]? → K p) : ixA ⟨some o, n, 0⟩ n 1 (i : Int) K := by
  refine ⟨⟨by omega, by omega⟩, rfl, hk _ ?_⟩
  rw [Int.toNat_natCast, Nat.mul_one]
  exact x.cellE hn
theorem getD_map_pr {l : List (Int × Int × Int)} {k : Nat} (h : k < l.length) : (l.map pr)[k]'(by simpa using h) = (l[k].1, l[k].2.1) := by simp [pr]
/-! ### the program's sequences -/
section
variable {hb : H} {n N : Nat} {c : Int} {s : Sl} {ts : List Tile} {H_ os : Nat} {q : Sl} {f : Int → Int} {B : Int} {gf gv : Nat} {capf capv : List AVal} {σ : Type} {g : σ → Int → σ × Bool} {I : σ → H → Prop} {J : σ → Prop} {n1 : Nat}
theorem seqLoop (k : Strip hb n c s ts H_ os q) (T : TS c ts) (hc6 : c ≤ 6) (hH : H_ ≤ 4) (hN : (N : Int) = c ^ H_) (F : Fit f B) (hlen : (colsI c ts H_).length ≤ 5000)
    (hf : ∀ (x : Int) (h : H) (K : Int → H → Prop), 0 ≤ x → x ≤ 4000000000000000 → K (f x) h → callI SP .i64 gf ([i64 x] ++ capf) h K)
    (hI : ∀ t h h', I t h → Till n1 h h' → I t h') (hn1 : hb.length ≤ n1)
    (hJ : ∀ t y, (g t y).2 = true → J (g t y).1) (hv : ∀ (t : σ) (y : Int) (h' : H), J t → I t h' → 0 ≤ y → y ≤ B → Ext hb h' → n1 ≤ h'.length → callB SP gv ([i64 y] ++ capv) h' fun b h'' => b = (g t y).2 ∧ I (g t y).1 h'' ∧ Chg (fun i => hb.length ≤ i ∧ i < n1) h' h'')
    (μ : σ → Nat) (hμ : ∀ t y, (g t y).2 = true → μ (g t y).1 < μ t) {R : σ} {K : AVal → H → Prop} (hK : ∀ h', I R h' → Ext hb h' → K (.tuple []) h') :
    ∀ (m : Nat) (t : σ) (now : List Int) (u : Sl) (h : H), μ t < m → runQ f ((colsI c ts H_).map pr) N g m t now = R → Bd B now → now.length = N → Ow h u 1 (ic now) → Fr n1 u → J t → I t h → Ext hb h → n1 ≤ h.length →
      impl_strip_sequence_L0 SP K ⟨some os, 5, 0⟩ (.func gf capf) (.func gv capv) u h
  | 0, t, now, u, h, hm, _, _, _, _, _, _, _, _, _ => by omega
  | m + 1, t, now, u, h, hm, hR, hbd, hnl, ou, fu, jt, i, x, hh => by
    apply impl_strip_sequence_unroll0
    unfold impl_strip_sequence_b0
    have hp := pow_small4 (n := H_) T.1 hc6 hH
    have b1 := F.b1
    have ks := k.ext x
    refine ⟨rfl, isPt_in (ks.o.ldI (i := 3) rfl rfl ?_)⟩
    refine mkS_ow (by omega) (by unfold lim; omega) fun v h2 ov lv vo e2 => ?_
    have x2 : Ext h h2 := by rw [e2]; exact Ext.app _ _
    rw [show (List.replicate (c ^ H_).toNat [i64 0]).flatten = ic (List.replicate N 0) from by
      rw [show (c ^ H_).toNat = N by omega]
      induction N with
      | zero => rfl
      | succ z _ => simp [ic, List.map_replicate]] at ov
    refine ⟨rfl, isPt_in ((ks.ext x2).o.ldS (i := 4) rfl rfl ?_)⟩
    have hql := k.len
    have hcb : ∀ e ∈ (colsI c ts H_).map pr, (0 ≤ e.1 ∧ e.1 < N) ∧ 0 ≤ e.2 ∧ e.2 < N := fun e he => by
      rw [colsI_pr T] at he
      have := colP_bound T H_ (-1) 0 0 1 (by omega) (by omega) e he
      rw [Int.one_mul, ← hN] at this
      exact this
    have l2 := x2.len
    have hvf : Fr h.length v := fun o e => by rw [vo] at e; cases e; exact Nat.le_refl _
    generalize hes : (colsI c ts H_).map pr = es at *
    have hel : es.length = (colsI c ts H_).length := by rw [← hes]; simp
    refine impl_strip_sequence_rule2 _ _ _ _ _ _ _ _ _ _ _ (fun j g' => ∃ z : Nat, j = z ∧ z ≤ es.length ∧ Ow g' v 1 (ic ((es.take z).foldl (stp f now) (List.replicate N 0))) ∧ Ext h g') (fun j _ => (es.length - j).toNat) ?_ _ ⟨0, rfl, by omega, ov, x2⟩
    rintro Y _ g' ⟨z, rfl, hz, ov, e⟩ hY
    unfold impl_strip_sequence_b2 impl_strip_sequence_C2
    have hfold := fold_stp F hbd (es.take z) (List.replicate N 0) (bd_zero F.b0 N)
    refine bif_dec (fun hi => ?_) (fun hi => ?_)
    · have hz' : z < es.length := by omega
      have hzc : z < (colsI c ts H_).length := by omega
      have hez : es[z] = ((colsI c ts H_)[z].1, (colsI c ts H_)[z].2.1) := by
        have := getD_map_pr hzc
        simp only [← hes]
        exact this
      have hb' := hcb es[z] (List.getElem_mem hz')
      rw [hez] at hb'
      simp only at hb'
      refine (ks.ext e).cols.rd.ldC hzc ?_
      generalize (colsI c ts H_)[z] = x3 at *
      refine newO_obj fun g3 og3 y3 m3 => ?_
      refine og3.stA fun g4 og4 b4 m4 => ?_
      have y4 : Ext g' g4 := y3.but_ b4 (some_le (Nat.le_refl _))
      have ov4 := ov.ext y4
      have ou4 := ou.ext (e.trans y4)
      have rdc : ∀ {i : Nat} {K : Pt → Int → Prop} (hi : i < 3), (∀ p, K p ([x3.1, x3.2.1, x3.2.2].getD i 0)) → ixA ⟨some g'.length, 3, 0⟩ 3 1 (i : Int) fun p => Cl.ldI .i64 p g4 (K p) := fun {i K} hi hk => by
        refine og4.ixI rfl hi fun p hp => ⟨_, ?_, hk p⟩
        rw [hp]
        match i, hi with
        | 0, _ => rfl
        | 1, _ => rfl
        | 2, _ => rfl
      refine rdc (i := 1) (by omega) fun p5 => ?_
      refine rdc (i := 1) (by omega) fun p7 => ?_
      show ixS v 1 x3.2.1 _
      refine ov4.rd.ldG hb'.2.1 (by rw [hfold.2]; simp; omega) ?_
      refine rdc (i := 0) (by omega) fun p11 => ?_
      show ixS u 1 x3.1 _
      refine ou4.rd.ldG hb'.1.1 (by omega) ?_
      have q1 := hfold.1 x3.2.1.toNat
      have q2 := hbd x3.1.toNat
      refine via_func ?_
      rw [w64_of (by omega) (by omega)]
      refine hf _ _ _ (by omega) (by omega) ⟨rfl, ?_⟩
      refine ov4.stI hb'.2.1 (by have := ov4.rd.ilen; rw [hfold.2] at this; simp at this; omega) _ fun g5 o5 b5 l5 => ?_
      rw [w64_of (by omega) (by omega)]
      refine hY _ _ ⟨z + 1, by push_cast; rfl, by omega, ?_, (e.trans y4).but_ b5 fun o' e' => hvf o' e'⟩ (by omega)
      rw [foldl_take _ _ hz', hez]
      exact o5
    · rw [show z = es.length by omega, List.take_length] at ov
      have hst := stepL_bd F (es := es) (N := N) hbd
      change Ow g' v 1 (ic (stepL f es N now)) at ov
      have hvl := ov.rd.ilen
      clear hY hfold
      refine impl_strip_sequence_rule4 _ _ _ _ _ _ _ _ _ (fun a j g2 => ∃ z : Nat, j = z ∧ z ≤ (stepL f es N now).length ∧ a = ((stepL f es N now).take z).foldl (fun s x => f (s + x)) 0 ∧ g' = g2) (fun _ j _ => ((stepL f es N now).length - j).toNat) ?_ _ _ ⟨0, rfl, by omega, rfl, rfl⟩
      rintro Z _ _ _ ⟨z, rfl, hz, rfl, rfl⟩ hZ
      unfold impl_strip_sequence_b4 impl_strip_sequence_C4
      have ht := totL_bd F hst.1 z hz
      refine bif_dec (fun hi => ?_) (fun hi => ?_)
      · have hz' : z < (stepL f es N now).length := by omega
        have q1 := hst.1 z
        refine ov.rd.ldG (by omega) (by omega) ?_
        rw [Int.toNat_natCast]
        refine via_func ?_
        rw [w64_of (by omega) (by omega)]
        refine hf _ _ _ (by omega) (by omega) ?_
        rw [w64_of (by omega) (by omega)]
        refine hZ _ _ _ ⟨z + 1, by push_cast; rfl, by omega, ?_, rfl⟩ (by omega)
        rw [foldl_take _ _ hz', List.getD_eq_getElem?_getD, List.getElem?_eq_getElem hz']
        rfl
      · rw [show z = (stepL f es N now).length by omega, List.take_length] at ht ⊢
        change 0 ≤ totL f (stepL f es N now) ∧ totL f (stepL f es N now) ≤ B at ht
        refine via_func ?_
        have i2 : I t g' := hI t h g' i (e.till n1)
        have el := e.len
        refine (hv t (totL f (stepL f es N now)) g' jt i2 ht.1 ht.2 (x.trans e) (by omega)).to ?_
        rintro b g2 ⟨hb2, i3, cg⟩
        have hX : Ext hb g2 := (x.trans e).chg_ cg fun i hi => hi.1
        rw [runQ] at hR
        refine bif_not (fun hf' => ?_) (fun hf' => ?_)
        · rw [hf'] at hb2
          rw [if_neg (by rw [← hb2]; decide)] at hR
          rw [hR] at i3
          exact hK g2 i3 hX
        · rw [hf'] at hb2
          rw [if_pos hb2.symm] at hR
          have := cg.1
          have hm2 := hμ t _ hb2.symm
          exact seqLoop k T hc6 hH hN F hlen hf hI hn1 hJ hv μ hμ hK m _ _ v g2 (by omega) (by rw [hes]; exact hR) hst.1 hst.2 (ov.chg cg fun i ei f => by have := hvf i ei; omega) (fun o e => by have := hvf o e; omega) (hJ t _ hb2.symm) i3 hX (by omega)
end
end Go.Proofs.Ytdmhchgaeepdmaa.Cl
