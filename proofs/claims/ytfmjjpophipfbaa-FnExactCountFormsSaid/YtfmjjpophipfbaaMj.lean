/- The program's tori: what the search does. No claim is stated here. -/
import Derived.Test.YtfmjjpophipfbaaMi
set_option linter.unusedVariables false
set_option linter.unusedSimpArgs false
namespace Go.Proofs.Ytfmjjpophipfbaa.Cl
open Go
/-! ### a run over a list until a stop -/
def runU {σ α : Type} (f : σ → α → σ × Bool) : List α → σ → σ × Bool
  | [], s => (s, true)
  | x :: l, s => if (f s x).2 = true then runU f l (f s x).1 else ((f s x).1, false)
theorem runU_app {σ α : Type} {f : σ → α → σ × Bool} : ∀ (l m : List α) (s : σ), runU f (l ++ m) s = if (runU f l s).2 = true then runU f m (runU f l s).1 else runU f l s
  | [], m, s => by simp [runU]
  | x :: l, m, s => by
    simp only [List.cons_append, runU]
    split
    · exact runU_app l m _
    · simp
theorem runU_stop {σ α : Type} {f : σ → α → σ × Bool} {g : Nat → List α} {s : σ} {k n : Nat} (hk : k ≤ n) (h : (runU f ((List.range k).flatMap g) s).2 = false) : runU f ((List.range n).flatMap g) s = runU f ((List.range k).flatMap g) s := by
  obtain ⟨d, rfl⟩ : ∃ d, n = k + d := ⟨n - k, by omega⟩
  rw [List.range_add, List.flatMap_append, runU_app, if_neg (by rw [h]; decide)]
theorem runU_succ {σ α : Type} {f : σ → α → σ × Bool} {g : Nat → List α} {s : σ} {k : Nat} (h : (runU f ((List.range k).flatMap g) s).2 = true) : runU f ((List.range (k + 1)).flatMap g) s = runU f (g k) (runU f ((List.range k).flatMap g) s).1 := by
  rw [List.range_succ, List.flatMap_append, runU_app, if_pos h]
  simp
/-! ### slices cut and copied -/
theorem cut_ow {h : H} {s : Sl} {l : List Int} {lo hi : Int} (r : Ow h s 1 (ic l)) (h0 : 0 ≤ lo) (h1 : lo ≤ hi) (h2 : hi ≤ l.length) {K : Sl → Prop} (hk : ∀ s', Rd h s' 1 (ic ((l.drop lo.toNat).take (hi - lo).toNat)) → K s') : cut s 1 lo hi h K := by
  have hl := r.rd.ilen
  have hlen : ((l.drop lo.toNat).take (hi - lo).toNat).length = (hi - lo).toNat := by rw [List.length_take, List.length_drop]; omega
  obtain ⟨a, b⟩ | ⟨o, a, b, c, d, e⟩ := r.at_
  · refine ⟨⟨h0, h1⟩, by unfold okS; rw [a]; trivial, fun _ => by omega, fun hn => absurd a hn, hk _ ⟨by rw [ic_len, hlen, Nat.mul_one], .inl (by show (hi - lo).toNat = 0; omega)⟩⟩
  · have hc : cells h o s.n = some (ic l) := by
      unfold cells
      rw [e]
      simp [ic_len, d, hl]
    refine ⟨⟨h0, h1⟩, by unfold okS; rw [a]; simp [hc], fun hn => (by rw [a] at hn; cases hn), fun _ => ⟨b, by omega⟩, hk _ ⟨by rw [ic_len, hlen, Nat.mul_one], .inr ⟨rfl, by simp [a], ?_⟩⟩⟩
    show range h s.o s.n (s.off + lo.toNat * 1) ((hi - lo).toNat * 1) = _
    rw [a, range_of hc (by rw [ic_len]; omega), c]
    simp [ic, List.map_drop, List.map_take]
theorem clone_c {h0 : H} {x : Sl} {l : List Int} (r : Rd h0 x 1 (ic l)) (hl : l.length ≤ 1048576) : callS SP i_slices_Clone_s_int64_int64_ [.sl x] h0 fun s h' => Ow h' s 1 (ic l) ∧ Fr h0.length s ∧ Ext h0 h' := by
  have hx := r.ilen
  apply slices_Clone_s_int64_int64__call
  unfold slices_Clone_s_int64_int64__main
  refine bif_b (fun hn => ⟨_, rfl, ?_, Fr.nil _, Ext.refl _⟩) (fun hn => ?_)
  · have : x.len = 0 := by
      rcases r.at_ with h | ⟨_, h, _⟩
      · exact h
      · unfold isNilS at hn
        cases ho : x.o <;> simp [ho] at hn h
    have : l = [] := List.length_eq_zero_iff.1 (by omega)
    subst this
    exact Ow.nil _ _
  · refine newS_ow (by rfl) fun s h1 os ls so e1 => ?_
    have x1 : Ext h0 h1 := by rw [e1]; exact Ext.app _ _
    refine app_ow (cs := []) (by omega) os (r.ext x1) (by unfold lim; omega) fun s' h' o' ln b k1 k2 => ⟨_, rfl, by simpa using o', fun o e => ?_, x1.but_ b fun o e => by rw [so] at e; cases e; exact Nat.le_refl _⟩
    have := k1 _ so
    rw [this] at e; cases e; exact Nat.le_refl _
/-! ### the search -/
def rowsG (H W : Nat) (l : List Int) : List (List Int) := tab2 H fun y => (l.drop (y * W)).take W
structure TEnv (h : H) (H_ W : Nat) (oc oh ow ok os of_ od : Nat) (sc : Sl) (c : Int) (s : Sl) (gk : Nat) (capk : List AVal) : Prop where
  vc : Var h oc (.sl sc)
  vh : Var h oh (i64 H_)
  vw : Var h ow (i64 W)
  vk : Var h ok (.func gk capk)
  vs : Obj h os (SetC c s)
  vf : Var h of_ (.func i_impl_Set_tori_1 [.ptr (pt oc), .ptr (pt oh), .ptr (pt ow), .ptr (pt ok), .ptr ⟨some os, 2, 0⟩, .ptr (pt of_)])
theorem TEnv.chg {P : Nat → Prop} {h h' : H} {H_ W : Nat} {oc oh ow ok os of_ od : Nat} {sc : Sl} {c : Int} {s : Sl} {gk : Nat} {capk : List AVal} (e : TEnv h H_ W oc oh ow ok os of_ od sc c s gk capk) (x : Chg P h h')
    (hn : ¬ P oc ∧ ¬ P oh ∧ ¬ P ow ∧ ¬ P ok ∧ ¬ P os ∧ ¬ P of_) : TEnv h' H_ W oc oh ow ok os of_ od sc c s gk capk :=
  ⟨e.vc.chg x hn.1, e.vh.chg x hn.2.1, e.vw.chg x hn.2.2.1, e.vk.chg x hn.2.2.2.1, e.vs.chg x hn.2.2.2.2.1, e.vf.chg x hn.2.2.2.2.2⟩
theorem tdiv_nat (a b : Nat) : Int.tdiv (a : Int) (b : Int) = ((a / b : Nat) : Int) := rfl
theorem tmod_nat (a b : Nat) : Int.tmod (a : Int) (b : Int) = ((a % b : Nat) : Int) := rfl
section
variable {hb : H} {c : Int} {s : Sl} {ts : List Tile} {H_ W : Nat} {oc oh ow ok os of_ od : Nat} {sc : Sl} {gk : Nat} {capk : List AVal} {n1 : Nat} {σ : Type} {f : σ → List Int → σ × Bool} {I : σ → H → Prop}
theorem toriRec (r : Rd hb s 4 (tcs ts)) (hN : ts.length ≤ 16) (hH : 1 ≤ H_ ∧ H_ ≤ 3) (hW : 1 ≤ W ∧ W ≤ 3) (hn : n1 ≤ oc ∧ n1 ≤ oh ∧ n1 ≤ ow ∧ n1 ≤ ok ∧ n1 ≤ os ∧ n1 ≤ of_ ∧ n1 ≤ od) (hbn : hb.length ≤ n1)
    (hd : od ≠ oc ∧ od ≠ oh ∧ od ≠ ow ∧ od ≠ ok ∧ od ≠ os ∧ od ≠ of_) (hsc : sc.o = some od) (hI : ∀ (t : σ) (h h' : H), I t h → But (some od) h h' → I t h')
    (hk : ∀ (t : σ) (l : List Int) (h h' : H) (u : Sl), l.length = H_ * W → (∀ x ∈ l, 0 ≤ x ∧ x < (ts.length : Int)) → I t h' → od < h.length → NewSS h.length h' u (rowsG H_ W l) → Ext hb h' → callB SP gk (.sl u :: capk) h' fun b h'' => b = (f t l).2 ∧ I (f t l).1 h'' ∧ Chg (fun o => o < n1 ∧ hb.length ≤ o) h' h'') :
    ∀ (m : Nat) (pre : List Int) (t : σ) (h : H), pre.length + m = H_ * W → (∀ x ∈ pre, 0 ≤ x ∧ x < (ts.length : Int)) → TEnv h H_ W oc oh ow ok os of_ od sc c s gk capk → (∃ j : List Int, j.length = m ∧ Ow h sc 1 (ic (pre ++ j))) → I t h → Ext hb h →
    callB SP i_impl_Set_tori_1 [i64 pre.length, .ptr (pt oc), .ptr (pt oh), .ptr (pt ow), .ptr (pt ok), .ptr ⟨some os, 2, 0⟩, .ptr (pt of_)] h fun b h' => b = (runU f (flat ts H_ W m pre) t).2 ∧ I (runU f (flat ts H_ W m pre) t).1 h' ∧
      TEnv h' H_ W oc oh ow ok os of_ od sc c s gk capk ∧ (∃ j : List Int, j.length = m ∧ Ow h' sc 1 (ic (pre ++ j))) ∧ Ext hb h' ∧ n1 ≤ h'.length
  | 0, pre, t, h, hl, hp, e, ⟨j, hj, o⟩, i, x => by
    have hj0 : j = [] := List.length_eq_zero_iff.1 hj
    subst hj0
    rw [List.append_nil] at o
    have hsl := o.rd.ilen
    have hnl : n1 ≤ h.length := by have := e.vc.lt; omega
    have hHW : H_ * W ≤ 3 * 3 := Nat.mul_le_mul hH.2 hW.2
    apply impl_Set_tori_1_call
    unfold impl_Set_tori_1_main
    refine e.vc.ldS ?_
    refine bif_eq (fun _ => ?_) (fun hne => absurd (by omega) hne)
    refine newS_ow (by rfl) fun u h1 ou lu uo e1 => ?_
    have x1 : Ext h h1 := by rw [e1]; exact Ext.app _ _
    have ns : NewSS h.length h1 u [] := NewSS.mk0 ou (fun o e => by rw [uo] at e; cases e; exact Nat.le_refl _)
    refine (e.vh.ext x1).ldI ?_
    refine impl_Set_tori_1_rule0 _ _ _ _ _ _ (fun u y g => 0 ≤ y ∧ y ≤ H_ ∧ Ext h g ∧ NewSS h.length g u (tab2 y.toNat fun y => (pre.drop (y * W)).take W)) (fun _ y _ => (H_ - y).toNat) ?_ _ _ ⟨by omega, by omega, x1, by simpa [tab2] using ns⟩
    rintro X u y g ⟨y0, y1, xg, n⟩ hX
    unfold impl_Set_tori_1_b0
    refine bif_dec (fun hy => ?_) (fun hy => ?_)
    · refine (e.vc.ext xg).ldS ?_
      refine (e.vw.ext xg).ldI ?_
      refine (e.vw.ext xg).ldI ?_
      have hyW : (y.toNat + 1) * W ≤ H_ * W := Nat.mul_le_mul_right _ (by omega)
      have hyW' : y.toNat * W + W ≤ H_ * W := by rw [Nat.add_mul, Nat.one_mul] at hyW; exact hyW
      obtain ⟨z, rfl⟩ : ∃ z : Nat, y = z := ⟨y.toNat, by omega⟩
      have e1 : ((z : Int) * (W : Int)) = ((z * W : Nat) : Int) := by push_cast; rfl
      have e2 : (((z : Int) + 1) * (W : Int)) = ((z * W + W : Nat) : Int) := by push_cast; rw [Int.add_mul, Int.one_mul]
      simp only [Int.toNat_natCast] at *
      rw [w64_of (by rw [e1]; omega) (by rw [e1]; omega), w64_of (n := (z : Int) + 1) (by omega) (by omega), w64_of (by rw [e2]; omega) (by rw [e2]; omega), e1, e2]
      refine cut_ow (o.ext xg) (by omega) (by omega) (by omega) fun v rv => ?_
      rw [show ((z * W : Nat) : Int).toNat = z * W by omega, show (((z * W + W : Nat) : Int) - ((z * W : Nat) : Int)).toNat = W by omega] at rv
      refine (clone_c rv (by rw [List.length_take]; omega)).to ?_
      rintro w g2 ⟨ow', fw, x2⟩
      refine (n.ext x2).push ow' fw xg.len ⟨g, n, Nat.le_refl _, x2⟩ (by rw [tab2_len]; unfold lim; omega) (Nat.le_trans xg.len x2.len) fun u' g3 n' bt => ?_
      refine hX _ _ _ ⟨by omega, by omega, (xg.trans x2).but_ bt (fun o e => n.fr o e), ?_⟩ (by omega)
      rw [show ((z : Int) + 1).toNat = z + 1 by omega, tab2_succ]
      exact n'
    · unfold impl_Set_tori_1_C1004
      refine (e.vk.ext xg).ldV (via_func ?_)
      rw [show y.toNat = H_ by omega] at n
      have hi : I t g := hI t h g i (xg.but _)
      refine (hk t pre h g u hl hp hi (o.lt hsc) n (x.trans xg)).to ?_
      rintro b g2 ⟨hb2, hi2, cg⟩
      have hnotP : ∀ q, n1 ≤ q → ¬ (q < n1 ∧ hb.length ≤ q) := fun q hq hh => by omega
      have hrun : runU f (flat ts H_ W 0 pre) t = f t pre := by
        simp only [flat, runU]
        split
        · next hh => rw [← hh]
        · next hh => rw [Bool.not_eq_true] at hh; rw [← hh]
      rw [hrun]
      refine ⟨_, rfl, hb2, hi2, (e.chg (xg.chg fun _ => False) ⟨id, id, id, id, id, id⟩).chg cg ?_, ⟨[], rfl, ?_⟩, (x.trans xg).chg_ cg fun q hq => hq.2, Nat.le_trans hnl (Nat.le_trans xg.len cg.1)⟩
      · exact ⟨hnotP _ hn.1, hnotP _ hn.2.1, hnotP _ hn.2.2.1, hnotP _ hn.2.2.2.1, hnotP _ hn.2.2.2.2.1, hnotP _ hn.2.2.2.2.2.1⟩
      · rw [List.append_nil]
        exact (o.ext xg).chg cg fun q hq => by rw [hsc] at hq; cases hq; exact hnotP _ hn.2.2.2.2.2.2
  | m + 1, pre, t, h, hl, hp, e, ⟨j, hj, o⟩, i, x => by
    have hsl := o.rd.ilen
    rw [List.length_append] at hsl
    have hnl : n1 ≤ h.length := by have := e.vc.lt; omega
    have hHW : H_ * W ≤ 3 * 3 := Nat.mul_le_mul hH.2 hW.2
    have hrl := r.tlen
    have hdW : pre.length / W * W ≤ pre.length := Nat.div_mul_le_self _ _
    have hmW : pre.length % W < W := Nat.mod_lt _ (by omega)
    have hmL : pre.length % W ≤ pre.length := Nat.mod_le _ _
    have hdL : pre.length / W ≤ pre.length := Nat.div_le_self _ _
    have hd1 : 0 < pre.length / W → W ≤ pre.length := fun hh => by
      have := Nat.mul_le_mul_right W hh
      rw [Nat.one_mul] at this
      omega
    apply impl_Set_tori_1_call
    unfold impl_Set_tori_1_main
    generalize hKK : (fun (v : AVal) (h' : H) => ∃ r, v = .bool r ∧ (r = (runU f (flat ts H_ W (m + 1) pre) t).2 ∧ I (runU f (flat ts H_ W (m + 1) pre) t).1 h' ∧ TEnv h' H_ W oc oh ow ok os of_ od sc c s gk capk ∧ (∃ j : List Int, j.length = m + 1 ∧ Ow h' sc 1 (ic (pre ++ j))) ∧ Ext hb h' ∧ n1 ≤ h'.length)) = KK
    have fin : ∀ (r : Bool) h', (r = (runU f (flat ts H_ W (m + 1) pre) t).2 ∧ I (runU f (flat ts H_ W (m + 1) pre) t).1 h' ∧ TEnv h' H_ W oc oh ow ok os of_ od sc c s gk capk ∧ (∃ j : List Int, j.length = m + 1 ∧ Ow h' sc 1 (ic (pre ++ j))) ∧ Ext hb h' ∧ n1 ≤ h'.length) → KK (.bool r) h' := fun r h' hh => by rw [← hKK]; exact ⟨r, rfl, hh⟩
    clear hKK
    refine e.vc.ldS ?_
    refine bif_eq (fun hne => by omega) (fun _ => ?_)
    refine e.vw.ldI ⟨by omega, ?_⟩
    refine e.vw.ldI ⟨by omega, ?_⟩
    refine isPt_in (e.vs.ldS rfl rfl ?_)
    rw [tdiv_nat, tmod_nat, w64_of (n := ((pre.length / W : Nat) : Int)) (Int.le_trans (by decide) (Int.natCast_nonneg _)) (Int.lt_of_le_of_lt (Int.ofNat_le.2 hdL) (by omega))]
    generalize hg : (fun k : Nat => sel (OkC ts H_ W pre (k : Int)) (flat ts H_ W m (pre ++ [(k : Int)])) []) = g
    have hflat : flat ts H_ W (m + 1) pre = (List.range ts.length).flatMap g := by rw [← hg]; rfl
    rw [hflat] at fin
    refine impl_Set_tori_1_rule2 _ _ _ _ _ _ _ _ _ _ _ _ (fun k h' => 0 ≤ k ∧ k ≤ ts.length ∧ TEnv h' H_ W oc oh ow ok os of_ od sc c s gk capk ∧ (∃ j : List Int, j.length = m + 1 ∧ Ow h' sc 1 (ic (pre ++ j))) ∧ Ext hb h' ∧ n1 ≤ h'.length ∧
      (runU f ((List.range k.toNat).flatMap g) t).2 = true ∧ I (runU f ((List.range k.toNat).flatMap g) t).1 h') (fun k _ => (ts.length - k).toNat) ?_ _ ⟨by omega, by omega, e, ⟨j, hj, o⟩, x, hnl, rfl, i⟩
    clear i x e o hj hsl
    clear j
    rintro X k h ⟨k0, k1, e, ⟨j, hj, o⟩, x, hnl, ht, i⟩ hX
    have hsl := o.rd.ilen
    rw [List.length_append] at hsl
    unfold impl_Set_tori_1_b2
    refine bif_dec (fun hk1 => ?_) (fun hk1 => ?_)
    rotate_left
    · unfold impl_Set_tori_1_C1012
      rw [show k.toNat = ts.length by omega] at ht i
      exact fin _ _ ⟨ht.symm, i, e, ⟨j, hj, o⟩, x, hnl⟩
    obtain ⟨a, rfl⟩ : ∃ a : Nat, k = a := ⟨k.toNat, by omega⟩
    rw [Int.toNat_natCast] at ht i
    have rh := r.ext x
    refine rh.tileG (by omega) (by omega) ?_
    refine newO_obj fun h3 o3 x3 _ => ?_
    refine o3.stA fun h4 o4 b4 _ => ?_
    have x4 : Ext h h4 := x3.but_ b4 (some_le (Nat.le_refl _))
    have e4 : TEnv h4 H_ W oc oh ow ok os of_ od sc c s gk capk := e.chg (x4.chg fun _ => False) ⟨id, id, id, id, id, id⟩
    refine e4.vc.ldS ?_
    refine (o.ext x4).stI (by omega) (by omega) _ fun h7 o7 b7 l7 => ?_
    rw [hsc] at b7
    have o47 : Obj h7 h.length (tc (tat ts (a : Int))) := o4.but b7 (fun q => by have := (o.ext x4).lt hsc; have := o.lt hsc; cases q; omega)
    have e7 : TEnv h7 H_ W oc oh ow ok os of_ od sc c s gk capk := e4.chg (b7.chg (P := fun q => q = od) fun q hq => by cases hq; rfl) ⟨fun q => hd.1 q.symm, fun q => hd.2.1 q.symm, fun q => hd.2.2.1 q.symm, fun q => hd.2.2.2.1 q.symm, fun q => hd.2.2.2.2.1 q.symm, fun q => hd.2.2.2.2.2 q.symm⟩
    have x7 : Ext hb h7 := (x.trans x4).but_ b7 (some_le (by omega))
    have i7 : I (runU f ((List.range a).flatMap g) t).1 h7 := hI _ _ _ i ((x4.but _).trans b7)
    have hnl7 : n1 ≤ h7.length := by have := x4.len; omega
    have r7 := r.ext x7
    obtain ⟨j0, j', rfl⟩ : ∃ j0 j', j = j0 :: j' := by
      cases j with
      | nil => simp at hj
      | cons a b => exact ⟨a, b, rfl⟩
    have hset : (pre ++ j0 :: j').set (pre.length : Int).toNat (a : Int) = (pre ++ [(a : Int)]) ++ j' := by
      rw [Int.toNat_natCast, List.set_append_right _ _ (Nat.le_refl _)]; simp
    rw [hset] at o7
    have hj' : j'.length = m := by simpa using hj
    have hp' : ∀ q ∈ pre ++ [(a : Int)], 0 ≤ q ∧ q < (ts.length : Int) := fun q hq => by
      rcases List.mem_append.1 hq with hq | hq
      · exact hp q hq
      · simp at hq; omega
    have hval : ∀ y, y ≤ pre.length → 0 ≤ gt (pre ++ [(a : Int)]) y ∧ gt (pre ++ [(a : Int)]) y < (ts.length : Int) := fun y hy => by
      have hy' : y < (pre ++ [(a : Int)]).length := by simp; omega
      have : gt (pre ++ [(a : Int)]) y ∈ pre ++ [(a : Int)] := by
        unfold gt
        rw [List.getD_eq_getElem?_getD, List.getElem?_eq_getElem hy']
        exact List.getElem_mem _
      exact hp' _ this
    have hlen7 : ((pre ++ [(a : Int)]) ++ j').length = H_ * W := by simp; omega
    -- a side of a cell that is set
    have side : ∀ {y : Nat} {z : Int} {q : Nat} {K : Int → Prop}, z = (y : Int) → y ≤ pre.length → q < 4 → K (E_ ts (gt (pre ++ [(a : Int)]) y) q) → ixS sc 1 z fun p => ldI .i64 p h7 fun n => ixS s 4 n fun p => ixA p 4 1 (q : Int) fun p => ldI .i64 p h7 K := fun {y z q K} hz hy hq hK => by
      subst hz
      refine o7.rd.ldG (by omega) (by omega) ?_
      have hgl : (pre ++ [(a : Int)] ++ j').getD y 0 = gt (pre ++ [(a : Int)]) y := gt_left (by simp; omega)
      rw [Int.toNat_natCast, hgl]
      exact r7.sideG (hval y hy).1 (hval y hy).2 (by omega) (by omega) hK
    have own : ∀ {q : Nat} {K : Int → Prop}, q < 4 → K (E_ ts (a : Int) q) → ixA ⟨some h.length, 4, 0⟩ 4 1 (q : Int) fun p => ldI .i64 p h7 K := fun {q K} hq hK => o47.sdI (by omega) (by omega) hK
    -- the next number
    have next : ∀ (b : Bool) h', b = true → (runU f (g a) (runU f ((List.range a).flatMap g) t).1).2 = true → I (runU f (g a) (runU f ((List.range a).flatMap g) t).1).1 h' → TEnv h' H_ W oc oh ow ok os of_ od sc c s gk capk → (∃ j : List Int, j.length = m + 1 ∧ Ow h' sc 1 (ic (pre ++ j))) → Ext hb h' → n1 ≤ h'.length →
        impl_Set_tori_1_C4 SP KK X (pre.length : Int) (pt oc) (pt oh) (pt ow) ⟨some os, 2, 0⟩ (pt of_) ((pre.length / W : Nat) : Int) ((pre.length % W : Nat) : Int) s (s.len : Int) (a : Int) h' := fun _ h' _ q1 q2 q3 q4 q5 q6 => by
      unfold impl_Set_tori_1_C4 impl_Set_tori_1_C1016
      rw [w64_of (by omega) (by omega)]
      refine hX _ _ ⟨by omega, by omega, q3, q4, q5, q6, ?_⟩ (by omega)
      rw [show ((a : Int) + 1).toNat = a + 1 by omega, runU_succ ht]
      exact ⟨q1, q2⟩
    have skip : ¬ OkC ts H_ W pre (a : Int) → impl_Set_tori_1_C4 SP KK X (pre.length : Int) (pt oc) (pt oh) (pt ow) ⟨some os, 2, 0⟩ (pt of_) ((pre.length / W : Nat) : Int) ((pre.length % W : Nat) : Int) s (s.len : Int) (a : Int) h7 := fun hno => by
      have hga : g a = [] := by rw [← hg]; exact sel_no hno
      refine next true h7 rfl ?_ ?_ e7 ⟨(a : Int) :: j', by simp [hj'], by simpa using o7⟩ x7 hnl7
      · rw [hga]; rfl
      · rw [hga]; exact i7
    have c22 : ∀ b : Bool, (b = false ↔ (pre.length / W = H_ - 1 → E_ ts (gt (pre ++ [(a : Int)]) (pre.length % W)) 1 = E_ ts (a : Int) 3)) →
        (0 < pre.length % W → E_ ts (gt (pre ++ [(a : Int)]) (pre.length - 1)) 2 = E_ ts (a : Int) 0) → (pre.length % W = W - 1 → E_ ts (gt (pre ++ [(a : Int)]) (pre.length / W * W)) 0 = E_ ts (a : Int) 2) → (0 < pre.length / W → E_ ts (gt (pre ++ [(a : Int)]) (pre.length - W)) 3 = E_ ts (a : Int) 1) →
        impl_Set_tori_1_C1022 SP KK X (pre.length : Int) (pt oc) (pt oh) (pt ow) ⟨some os, 2, 0⟩ (pt of_) ((pre.length / W : Nat) : Int) ((pre.length % W : Nat) : Int) s (s.len : Int) (a : Int) b h7 := fun b hb4 a1 a2 a3 => by
      unfold impl_Set_tori_1_C1022
      refine bif_b (fun hbt => skip fun ok => ?_) (fun hbf => ?_)
      · have := hb4.2 ok.2.2.2; rw [hbt] at this; cases this
      have hok : OkC ts H_ W pre (a : Int) := ⟨a1, a2, a3, hb4.1 hbf⟩
      have hga : g a = flat ts H_ W m (pre ++ [(a : Int)]) := by rw [← hg]; exact sel_yes hok
      refine e7.vf.ldV (via_func ?_)
      rw [w64_of (by omega) (by omega)]
      have ih := toriRec r hN hH hW hn hbn hd hsc hI hk m (pre ++ [(a : Int)]) (runU f ((List.range a).flatMap g) t).1 h7 (by simp; omega) hp' e7 ⟨j', hj', o7⟩ i7 x7
      rw [show ((pre ++ [(a : Int)]).length : Int) = (pre.length : Int) + 1 by simp] at ih
      refine ih.to ?_
      rintro b2 h8 ⟨hb2, i8, e8, ⟨j8, hj8, o8⟩, x8, n8⟩
      rw [← hga] at hb2 i8
      have o8' : ∃ j : List Int, j.length = m + 1 ∧ Ow h8 sc 1 (ic (pre ++ j)) := ⟨(a : Int) :: j8, by simp [hj8], by simpa using o8⟩
      refine bif_not (fun hf => ?_) (fun htr => next b2 h8 htr (by rw [← hb2]; exact htr) i8 e8 o8' x8 n8)
      have hs := runU_succ (f := f) (g := g) (s := t) ht
      have hst := runU_stop (f := f) (g := g) (s := t) (k := a + 1) (n := ts.length) (by omega) (by rw [hs, ← hb2]; exact hf)
      refine fin _ _ ⟨?_, ?_, e8, o8', x8, n8⟩
      · rw [hst, hs, ← hb2, hf]
      · rw [hst, hs]; exact i8
    have c21 : ∀ b : Bool, (b = false ↔ (0 < pre.length / W → E_ ts (gt (pre ++ [(a : Int)]) (pre.length - W)) 3 = E_ ts (a : Int) 1)) →
        (0 < pre.length % W → E_ ts (gt (pre ++ [(a : Int)]) (pre.length - 1)) 2 = E_ ts (a : Int) 0) → (pre.length % W = W - 1 → E_ ts (gt (pre ++ [(a : Int)]) (pre.length / W * W)) 0 = E_ ts (a : Int) 2) →
        impl_Set_tori_1_C1021 SP KK X (pre.length : Int) (pt oc) (pt oh) (pt ow) ⟨some os, 2, 0⟩ (pt of_) ((pre.length / W : Nat) : Int) ((pre.length % W : Nat) : Int) ⟨some h.length, 4, 0⟩ s (s.len : Int) (a : Int) b h7 := fun b hb4 a1 a2 => by
      unfold impl_Set_tori_1_C1021
      refine bif_b (fun hbt => skip fun ok => ?_) (fun hbf => ?_)
      · have := hb4.2 ok.2.2.1; rw [hbt] at this; cases this
      have a3 := hb4.1 hbf
      refine e7.vh.ldI ?_
      rw [w64_of (by omega) (by omega)]
      refine bif_eq (fun hq => ?_) (fun hq => c22 _ ⟨fun _ hh => by omega, fun _ => rfl⟩ a1 a2 a3)
      refine isPt_in (e7.vs.ldS rfl rfl ?_)
      refine e7.vc.ldS ?_
      refine side (q := 1) rfl (by omega) (by omega) ?_
      refine own (q := 3) (by omega) ?_
      exact c22 _ ⟨fun hh _ => by simpa using hh, fun hh => by simpa using hh (by omega)⟩ a1 a2 a3
    have c20 : ∀ b : Bool, (b = false ↔ (pre.length % W = W - 1 → E_ ts (gt (pre ++ [(a : Int)]) (pre.length / W * W)) 0 = E_ ts (a : Int) 2)) →
        (0 < pre.length % W → E_ ts (gt (pre ++ [(a : Int)]) (pre.length - 1)) 2 = E_ ts (a : Int) 0) →
        impl_Set_tori_1_C1020 SP KK X (pre.length : Int) (pt oc) (pt oh) (pt ow) ⟨some os, 2, 0⟩ (pt of_) ((pre.length / W : Nat) : Int) ((pre.length % W : Nat) : Int) ⟨some h.length, 4, 0⟩ s (s.len : Int) (a : Int) b h7 := fun b hb4 a1 => by
      unfold impl_Set_tori_1_C1020
      refine bif_b (fun hbt => skip fun ok => ?_) (fun hbf => ?_)
      · have := hb4.2 ok.2.1; rw [hbt] at this; cases this
      have a2 := hb4.1 hbf
      refine bif_dec (fun hq => ?_) (fun hq => c21 _ ⟨fun _ hh => by omega, fun _ => rfl⟩ a1 a2)
      have hWp := hd1 (by omega)
      refine isPt_in (e7.vs.ldS rfl rfl ?_)
      refine e7.vc.ldS ?_
      refine e7.vw.ldI ?_
      rw [w64_of (n := (pre.length : Int) - (W : Int)) (by omega) (by omega)]
      refine side (y := pre.length - W) (q := 3) (by omega) (by omega) (by omega) ?_
      refine own (q := 1) (by omega) ?_
      exact c21 _ ⟨fun hh _ => by simpa using hh, fun hh => by simpa using hh (by omega)⟩ a1 a2
    have c19 : ∀ b : Bool, (b = false ↔ (0 < pre.length % W → E_ ts (gt (pre ++ [(a : Int)]) (pre.length - 1)) 2 = E_ ts (a : Int) 0)) →
        impl_Set_tori_1_C1019 SP KK X (pre.length : Int) (pt oc) (pt oh) (pt ow) ⟨some os, 2, 0⟩ (pt of_) ((pre.length / W : Nat) : Int) ((pre.length % W : Nat) : Int) ⟨some h.length, 4, 0⟩ s (s.len : Int) (a : Int) b h7 := fun b hb4 => by
      unfold impl_Set_tori_1_C1019
      refine bif_b (fun hbt => skip fun ok => ?_) (fun hbf => ?_)
      · have := hb4.2 ok.1; rw [hbt] at this; cases this
      have a1 := hb4.1 hbf
      refine e7.vw.ldI ?_
      rw [w64_of (n := (W : Int) - 1) (by omega) (by omega)]
      refine bif_eq (fun hq => ?_) (fun hq => c20 _ ⟨fun _ hh => by omega, fun _ => rfl⟩ a1)
      refine isPt_in (e7.vs.ldS rfl rfl ?_)
      refine e7.vc.ldS ?_
      refine e7.vw.ldI ?_
      have em : ((pre.length / W : Nat) : Int) * (W : Int) = ((pre.length / W * W : Nat) : Int) := by push_cast; rfl
      rw [em, w64_of (n := ((pre.length / W * W : Nat) : Int)) (by omega) (by omega)]
      refine side (y := pre.length / W * W) (q := 0) rfl (by omega) (by omega) ?_
      refine own (q := 2) (by omega) ?_
      exact c20 _ ⟨fun hh _ => by simpa using hh, fun hh => by simpa using hh (by omega)⟩ a1
    refine bif_dec (fun hq => ?_) (fun hq => c19 _ ⟨fun _ hh => by omega, fun _ => rfl⟩)
    refine isPt_in (e7.vs.ldS rfl rfl ?_)
    refine e7.vc.ldS ?_
    rw [w64_of (n := (pre.length : Int) - 1) (by omega) (by omega)]
    refine side (y := pre.length - 1) (q := 2) (by omega) (by omega) (by omega) ?_
    refine own (q := 0) (by omega) ?_
    exact c19 _ ⟨fun hh _ => by simpa using hh, fun hh => by simpa using hh (by omega)⟩
end
end Go.Proofs.Ytfmjjpophipfbaa.Cl
