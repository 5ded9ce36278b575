/- Contracts of functions, joined. No claim is stated here. -/
import Derived.Test.YtlcgclmobfdbcaaGreatFb1
import Derived.Test.YtlcgclmobfdbcaaGreatFa2
import Derived.RangeFuncNested
import Derived.RangeFuncLeaves
import Derived.RangeFuncCalls
import Derived.LoopNIn
set_option linter.unusedVariables false
set_option linter.unusedSimpArgs false
namespace Go.Proofs.YtlcgclmobfdbcaaGreat.Cl
open Go
theorem zvs (a : Int) : w64 (w64 a + 1) = w64 (a + 1) := by
 unfold w64 IntKind.wrap
 simp [IntKind.signed, IntKind.bits]
 omega
theorem NewSS.cat {n m : Nat} {h h0 : H} {s t : Sl} {ls ks : List (List Int)} (r0 : NewSS n h0 s ls) (ex : Ext h0 h) (hm : h0.length ≤ m) (hn : n ≤ h0.length) (r2 : NewSS m h t ks) (hl : ((ls.length + ks.length : Nat) : Int) ≤ lim)
  {K : Sl → H → Prop} (hk : ∀ s' h', NewSS n h' s' (ls ++ ks) → But s.o h h' → K s' h') : Cl.app s t 1 h K := by
 obtain ⟨vs, a1, a2, a3, a4, a5, a6⟩ := r0
 obtain ⟨us, b1, b2, b3, b4, b5, b6⟩ := r2
 have hs : s.len = ls.length := by have := a2.len; simp at this; omega
 have ht : t.len = ks.length := by have := b2.len; simp at this; omega
 have hxl := ex.len
 have sold : ∀ o, s.o = some o → o < h0.length := fun o e => a2.lt e
 have vold : ∀ (i : Nat) v, vs[i]? = some v → ∀ o, v.o = some o → o < h0.length := fun i v hv o e => by
  obtain ⟨l, hl⟩ := wC a1 hv
  exact (a4 i v l hv hl).1.lt e
 have unew : ∀ (i : Nat) u, us[i]? = some u → ∀ o, u.o = some o → m ≤ o ∧ o < h.length := fun i u hu o e => by
  obtain ⟨l, hl⟩ := wC b1 hu
  exact ⟨(b4 i u l hu hl).2 o e, (b4 i u l hu hl).1.lt e⟩
 refine yw (by omega) (a2.ext ex) b2.rd (by rw [hs, ht]; exact_mod_cast hl) fun s' h' o' ln b k1 k2 => ?_
 have hso : ∀ o, s'.o = some o → s.o = some o ∨ h.length ≤ o := fun o e => by
  cases hq : s.o with
  | none => exact .inr (k2 hq o e)
  | some p => rw [k1 p hq] at e; exact .inl e
 have keep : ∀ {w : Sl} {l : List Int}, Ow h w 1 (ic l) → (∀ o, w.o = some o → s.o ≠ some o) → Ow h' w 1 (ic l) := fun {w l} ow hne => by
  refine ow.but b ?_
  cases hw : w.o with
  | none =>
   cases hq : s.o with
   | none => exact .inr rfl
   | some _ => exact .inl (by simp)
  | some o => exact .inl (by intro e; exact hne o hw e)
 have une : ∀ (i : Nat) u, us[i]? = some u → ∀ o, u.o = some o → s.o ≠ some o := fun i u hu o e e2 => by
  have := sold o e2
  have := unew i u hu o e
  omega
 have spl : ∀ {k : Nat} {y : Sl}, (vs ++ us)[k]? = some y → (k < vs.length ∧ vs[k]? = some y) ∨ (vs.length ≤ k ∧ us[k - vs.length]? = some y) := fun {k y} e => by
  rw [List.getElem?_append] at e
  split at e
  ·next hk => exact .inl ⟨hk, e⟩
  ·next hk => exact .inr ⟨by omega, e⟩
 refine hk s' h' ⟨vs ++ us, by simp [a1, b1], by simpa using o', ?_, ?_, ?_, ?_⟩ b
 ·intro o e
  rcases hso o e with e | e
  ·exact a3 o e
  ·omega
 ·intro i w l a c
  rcases spl a with ⟨hi, hv⟩ | ⟨hi, hu⟩
  ·rw [List.getElem?_append_left (by omega)] at c
   obtain ⟨p, q⟩ := a4 i w l hv c
   exact ⟨keep (p.ext ex) (a6 i w hv), q⟩
  ·rw [List.getElem?_append_right (by omega), ← a1] at c
   obtain ⟨p, q⟩ := b4 _ w l hu c
   exact ⟨keep p (une _ w hu), fun o e => by have := q o e; omega⟩
 ·intro i j v w hne a c o e e2
  rcases spl a with ⟨hi, hv⟩ | ⟨hi, hv⟩ <;> rcases spl c with ⟨hj, hw⟩ | ⟨hj, hw⟩
  ·exact a5 i j v w hne hv hw o e e2
  ·have := vold i v hv o e
   have := unew _ w hw o e2
   omega
  ·have := vold j w hw o e2
   have := unew _ v hv o e
   omega
  ·exact b5 _ _ v w (by omega) hv hw o e e2
 ·intro i w a o e e2
  have hlt : o < h.length ∧ s.o ≠ some o := by
   rcases spl a with ⟨hi, hv⟩ | ⟨hi, hv⟩
   ·exact ⟨by have := vold i w hv o e; omega, a6 i w hv o e⟩
   ·exact ⟨(unew _ w hv o e).2, une _ w hv o e⟩
  rcases hso o e2 with e3 | e3
  ·exact hlt.2 e3
  ·omega
theorem xq (n : Nat) : (List.replicate n [AVal.int .i64 0]).flatten = ic (List.replicate n 0) := by
 induction n with
 | zero => rfl
 | succ n ih => rw [List.replicate_succ, List.flatten_cons, ih, List.replicate_succ]; rfl
section
variable {hb h0 : H} {c : Int} {s : Sl} {ts : List Tile} {H_ W : Nat} {gk : Nat} {capk : List AVal} {σ : Type} {f : σ → List Int → σ × Bool} {I : σ → H → Prop} {t : σ}
theorem zyP (r : Rd hb s 4 (tcs ts)) (hN : ts.length ≤ 16) (hH : 1 ≤ H_ ∧ H_ ≤ 3) (hW : 1 ≤ W ∧ W ≤ 3) (x0 : Ext hb h0) (hI : ∀ (t : σ) (h h' : H), I t h → But (some (h0.length + 2)) h h' → I t h')
  (hk : ∀ (t : σ) (l : List Int) (h h' : H) (u : Sl), l.length = H_ * W → (∀ x ∈ l, 0 ≤ x ∧ x < (ts.length : Int)) → I t h' → h0.length + 2 < h.length → NewSS h.length h' u (zgW H_ W l) → Ext hb h' → callB SP gk (.sl u :: capk) h' fun b h'' => b = (f t l).2 ∧ I (f t l).1 h'' ∧ Chg (fun o => o < h0.length ∧ hb.length ≤ o) h' h'')
  (i0 : I t h0) : callV SP zjs [.agg (SetC c s), i64 H_, i64 W, .func gk capk] h0 fun _ h' => I (runU f (flat ts H_ W (H_ * W) []) t).1 h' ∧ Ext hb h' := by
 have hHW : H_ * W ≤ 3 * 3 := Nat.mul_le_mul hH.2 hW.2
 have eHW : (H_ : Int) * (W : Int) = ((H_ * W : Nat) : Int) := by push_cast; rfl
 have xl := x0.len
 apply zuN
 unfold WM
 refine zi fun h1 o1 x1 l1 => ?_
 refine yE (fun _ => ?_) (fun e => absurd (show true = false from e) (by decide))
 refine zS fun h2 v2 x2 l2 => ?_
 rw [eHW, zd (by omega) (by omega)]
 refine zeG (by omega) (by unfold lim; omega) fun sc h3 oc lc so e3 => ?_
 rw [xq, Int.toNat_natCast] at oc
 have x3 : Ext h2 h3 := by rw [e3]; exact Ext.app _ _
 have l3 : h3.length = h2.length + 1 := by rw [e3]; simp
 refine zS fun h4 v4 x4 l4 => ?_
 refine zS fun h5 v5 x5 l5 => ?_
 refine zS fun h6 v6 x6 l6 => ?_
 have v46 := v4.ext (x5.trans x6)
 have v56 := v5.ext x6
 refine v46.st _ fun h7 v7 b7 l7 => ?_
 have v57 := v56.but b7 (fun e => by have := Option.some.inj e; omega)
 refine v57.st _ fun h8 v8 b8 l8 => ?_
 have v68 := (v6.but b7 (fun e => by have := Option.some.inj e; omega)).but b8 (fun e => by have := Option.some.inj e; omega)
 refine v68.st _ fun h9 v9 b9 l9 => ?_
 refine zS fun h10 v10 x10 l10 => ?_
 refine v10.st _ fun h11 v11 b11 l11 => ?_
 have C3 : Chg (fun o => h3.length ≤ o) h3 h11 := (((((((x4.chg _).trans (x5.chg _)).trans (x6.chg _)).trans (b7.chg fun i e => by cases e; exact Nat.le_refl _)).trans (b8.chg fun i e => by cases e; omega)).trans (b9.chg fun i e => by cases e; omega)).trans (x10.chg _)).trans (b11.chg fun i e => by cases e; omega)
 have vc : Var h11 h3.length (.sl sc) := (((v7.but b8 (fun e => by have := Option.some.inj e; omega)).but b9 (fun e => by have := Option.some.inj e; omega)).ext x10).but b11 (fun e => by have := Option.some.inj e; omega)
 have vh : Var h11 h4.length (i64 H_) := ((v8.but b9 (fun e => by have := Option.some.inj e; omega)).ext x10).but b11 (fun e => by have := Option.some.inj e; omega)
 have vw : Var h11 h5.length (i64 W) := (v9.ext x10).but b11 (fun e => by have := Option.some.inj e; omega)
 have hP : ∀ q, q < h3.length → ¬ (h3.length ≤ q) := fun q hq hh => by omega
 have vk : Var h11 h1.length (.func gk capk) := (v2.ext x3).chg C3 (hP _ (by omega))
 have vs : Obj h11 h0.length (SetC c s) := (o1.ext (x2.trans x3)).chg C3 (hP _ (by omega))
 have oc' : Ow h11 sc 1 (ic ([] ++ List.replicate (H_ * W) 0)) := oc.chg C3 fun i e => by rw [so] at e; cases e; exact hP _ (by omega)
 have X : Ext h0 h11 := ((x1.trans x2).trans x3).chg_ C3 fun i hi => by omega
 refine v11.ldV (wi ?_)
 have e2 : h2.length = h0.length + 2 := by omega
 rw [← e2] at hI hk
 refine (zmB (n1 := h0.length) (od := h2.length) r hN hH hW ⟨by omega, by omega, by omega, by omega, by omega, by omega, by omega⟩ xl ⟨by omega, by omega, by omega, by omega, by omega, by omega⟩ so hI hk (H_ * W) [] t h11 (by simp) (by simp) ⟨vc, vh, vw, vk, vs, v11⟩ ⟨_, by simp, oc'⟩
  (hI _ _ _ i0 (X.but _)) (x0.trans X)).to ?_
 rintro b h12 ⟨_, hi, _, _, x, _⟩
 exact ⟨hi, x⟩
end
section
variable {h0 : H} {c : Int} {s : Sl} {ts : List Tile} {H_ W : Nat}
def cntF (t : Nat) (_ : List Int) : Nat × Bool := (t + 1, true)
theorem ziT : ∀ (l : List (List Int)) (t : Nat), runU cntF l t = (t + l.length, true)
 | [], t => rfl
 | x :: l, t => by
  rw [runU]
  simp only [cntF, if_true]
  rw [ziT l (t + 1), List.length_cons, Nat.add_assoc, Nat.add_comm 1]
theorem zjw : ∀ (m : Nat) (pre : List Int), (flat ts H_ W m pre).length ≤ ts.length ^ m
 | 0, pre => by simp [flat]
 | m + 1, pre => by
  rw [flat, List.length_flatMap, Nat.pow_succ, Nat.mul_comm]
  have : ∀ (l : List Nat), (l.map fun (k : Nat) => (sel (OkC ts H_ W pre (k : Int)) (flat ts H_ W m (pre ++ [(k : Int)])) []).length).sum ≤ l.length * ts.length ^ m := fun l => by
   induction l with
   | nil => simp
   | cons a l ih =>
    rw [List.map_cons, List.sum_cons, List.length_cons, Nat.add_mul, Nat.one_mul]
    have : (sel (OkC ts H_ W pre (a : Int)) (flat ts H_ W m (pre ++ [(a : Int)])) []).length ≤ ts.length ^ m := by
     by_cases hh : OkC ts H_ W pre (a : Int)
     ·rw [zj hh]; exact zjw m _
     ·rw [zK hh]; exact Nat.zero_le _
    omega
  have := this (List.range ts.length)
  rwa [List.length_range] at this
theorem Qh (hN : ts.length ≤ 16) (hH : H_ ≤ 3) (hW : W ≤ 3) : (flat ts H_ W (H_ * W) []).length ≤ 68719476736 := by
 have hHW : H_ * W ≤ 3 * 3 := Nat.mul_le_mul hH hW
 refine Nat.le_trans (zjw _ _) (Nat.le_trans (Nat.pow_le_pow_left hN _) ?_)
 exact Nat.le_trans (Nat.pow_le_pow_right (by omega) hHW) (by decide)
theorem ziz (r : Rd h0 s 4 (tcs ts)) (hN : ts.length ≤ 16) (hH : 1 ≤ H_ ∧ H_ ≤ 3) (hW : 1 ≤ W ∧ W ≤ 3) :
  callI SP .i64 znN [.agg (SetC c s), i64 H_, i64 W] h0 fun n h' => n = ((flat ts H_ W (H_ * W) []).length : Int) ∧ Ext h0 h' := by
 apply zxb
 unfold zbr
 refine zi fun h1 o1 x1 l1 => ?_
 refine zS fun h2 v2 x2 l2 => ?_
 refine v2.st _ fun h3 v3 b3 l3 => ?_
 have X3 : Ext h0 h3 := (x1.trans x2).but_ b3 (zn (by omega))
 have o3 := (o1.ext x2).but b3 (fun e => by have := Option.some.inj e; omega)
 refine o3.ldA rfl ?_
 refine (zyP (σ := Nat) (f := cntF) (I := fun t h => Var h h1.length (i64 (w64 t))) (t := 0) r hN hH hW X3 (fun t h h' v x => v.but x (fun e => by have := Option.some.inj e; omega)) ?_ v3).to ?_
 ·intro t l h h' u hl hx v hlen n x
  apply zuL
  unfold WK
  refine v.ldI ?_
  refine v.st _ fun h'' v' b' _ => ⟨_, rfl, rfl, ?_, b'.chg fun i e => by cases e; omega⟩
  rw [zvs] at v'
  exact v'
 ·rintro _ h4 ⟨v, x⟩
  rw [ziT] at v
  have := Qh (H_ := H_) (W := W) hN hH.2 hW.2
  refine v.ldI ⟨_, rfl, ?_, x⟩
  rw [zd (by omega) (by omega)]
  simp
end
section
variable {h0 : H} {c : Int} {s q : Sl} {ts : List Tile} {W : Nat}
theorem Q5 {h0 : H} {x : Sl} {l : List Int} (r : Rd h0 x 1 (ic l)) (hl : l.length ≤ 1048576) : callS SP Zl [.sl x] h0 fun s h' => Ow h' s 1 (ic l) ∧ Fr h0.length s ∧ Ext h0 h' := by
 have hx := r.ilen
 apply zgl
 unfold Zr
 refine zm (by rfl) fun s h1 os ls so e1 => ?_
 have x1 : Ext h0 h1 := by rw [e1]; exact Ext.app _ _
 refine yw (cs := []) (by omega) os (r.ext x1) (by unfold lim; omega) fun s' h' o' ln b k1 k2 => ⟨_, rfl, by simpa using o', fun o e => ?_, x1.but_ b fun o e => by rw [so] at e; cases e; exact Nat.le_refl _⟩
 have := k1 _ so
 rw [this] at e; cases e; exact Nat.le_refl _
theorem xM {c : Int} {n : Nat} (h0 : 1 ≤ c) (h1 : c ≤ 6) (hn : n ≤ 3) : 1 ≤ c ^ n ∧ c ^ n ≤ 216 := by
 have a : n = 0 ∨ n = 1 ∨ n = 2 ∨ n = 3 := by omega
 have b : c = 1 ∨ c = 2 ∨ c = 3 ∨ c = 4 ∨ c = 5 ∨ c = 6 := by omega
 rcases a with rfl | rfl | rfl | rfl <;> rcases b with rfl | rfl | rfl | rfl | rfl | rfl <;> decide
theorem zuS {c : Int} (h0 : 1 ≤ c) (h1 : c ≤ 6) {l : List Int} (hl : l.length ≤ 3) (hd : ∀ d ∈ l, 0 ≤ d ∧ d < c) : 0 ≤ dec c l ∧ dec c l < 216 := by
 have a := WP h0 _ l rfl hd
 have b := xM h0 h1 hl
 omega
theorem zeP (r : Rd h0 s 4 (tcs ts)) (S : wh c ts) (hc : c ≤ 6) {w : List Int} (rw' : Rd h0 q 1 (ic w)) (hw : Wd ts W w) (hW : W ≤ 3) {k : Nat} (hk : k < 4) :
  callI SP .i64 zjp [.agg (SetC c s), .sl q, i64 k] h0 fun n h' => n = cd c ts k w ∧ Ext h0 h' := by
 have hq := rw'.ilen
 have hwl := hw.1
 apply zuk
 unfold Wv
 refine zi fun h1 o1 x1 l1 => ?_
 refine zlU _ _ _ _ _ (fun a i h => 0 ≤ i ∧ i ≤ w.length ∧ Ext h1 h ∧ a = dec c ((w.take i.toNat).map fun n => E_ ts n k)) (fun _ i _ => (w.length - i).toNat) ?_ _ _ ⟨by omega, by omega, Ext.refl _, by simp [dec]⟩
 rintro X a i h ⟨i0, i1, x, ea⟩ hX
 unfold zim zum
 have o := o1.ext x
 have hdig := hw.digits S hk
 have hmem : ∀ (n : Nat) (d : Int), d ∈ (w.take n).map (fun n => E_ ts n k) → 0 ≤ d ∧ d < c := fun n d hd => by
  obtain ⟨y, hy, rfl⟩ := List.mem_map.1 hd
  exact hdig _ (List.mem_map.2 ⟨y, List.mem_of_mem_take hy, rfl⟩)
 refine zc (fun hi => ?_) (fun hi => ⟨_, rfl, ?_, x1.trans x⟩)
 ·refine zg (o.ldI rfl rfl ?_)
  refine zg (o.ldS rfl rfl ?_)
  have hi' : i.toNat < w.length := by omega
  have hgi : w.getD i.toNat 0 = w[i.toNat] := by rw [List.getD_eq_getElem?_getD, List.getElem?_eq_getElem hi']; rfl
  have hv := hw.2 _ (List.getElem_mem hi')
  refine (rw'.ext (x1.trans x)).ldG i0 (by omega) ?_
  rw [hgi]
  refine (r.ext (x1.trans x)).sideG hv.1 hv.2 (by omega) (by omega) ?_
  rw [Int.toNat_natCast]
  have hs : 0 ≤ sd (tat ts w[i.toNat]) k ∧ sd (tat ts w[i.toNat]) k < c := S.2 _ k hk hv.1 hv.2
  have hb := zuS S.1 hc (l := (w.take i.toNat).map fun n => E_ ts n k) (by simp; omega) (hmem _)
  rw [← ea] at hb
  have hm0 : 0 ≤ a * c := Int.mul_nonneg hb.1 (by have := S.1; omega)
  have hm1 : a * c ≤ 216 * 6 := Int.mul_le_mul (by omega) hc (by have := S.1; omega) (by omega)
  rw [zd (n := a * c) (by omega) (by omega), zd (n := a * c + sd (tat ts w[i.toNat]) k) (by omega) (by omega), zd (n := i + 1) (by omega) (by omega)]
  refine hX _ _ _ ⟨by omega, by omega, x, ?_⟩ (by omega)
  rw [show (i + 1).toNat = i.toNat + 1 by omega, List.take_succ_eq_append_getElem hi', List.map_append, List.map_cons, List.map_nil, WQ, ← ea]
 ·rw [ea, show i.toNat = w.length by omega, List.take_length]; rfl
theorem ZQ (hc : 1 ≤ c) (hc6 : c ≤ 6) (hW : W ≤ 3) : callI SP .i64 znK [i64 c, i64 W] h0 fun n h' => n = c ^ W ∧ Ext h0 h' := by
 apply zwC
 unfold zau
 refine zoZ _ _ _ (fun i a h => 0 ≤ i ∧ i ≤ W ∧ Ext h0 h ∧ a = c ^ (W - i.toNat)) (fun i _ _ => i.toNat) ?_ _ _ ⟨by omega, by omega, Ext.refl _, by simp⟩
 rintro X i a h ⟨i0, i1, x, ea⟩ hX
 unfold zpb zzC
 refine zc (fun hi => ?_) (fun hi => ⟨_, rfl, ?_, x⟩)
 ·have hb := xM hc hc6 (n := W - i.toNat) (by omega)
  rw [← ea] at hb
  have hm1 : a * c ≤ 216 * 6 := Int.mul_le_mul (by omega) hc6 (by omega) (by omega)
  have hm0 : 0 ≤ a * c := Int.mul_nonneg (by omega) (by omega)
  rw [zd (n := i - 1) (by omega) (by omega), zd (n := a * c) (by omega) (by omega)]
  refine hX _ _ _ ⟨by omega, by omega, x, ?_⟩ (by omega)
  rw [ea, ← Int.pow_succ]; congr 1; omega
 ·rw [ea]; congr 1; omega
theorem VS : ∀ (m : Nat) (w : List Int), (rounds ts m w).length ≤ ts.length ^ m
 | 0, w => by
  rw [rounds]
  by_cases hh : vS ts w
  ·rw [zj hh]; simp
  ·rw [zK hh]; simp
 | m + 1, w => by
  rw [rounds, List.length_flatMap, Nat.pow_succ, Nat.mul_comm]
  have : ∀ (l : List Nat), (l.map fun (k : Nat) => (sel (hC ts w (k : Int)) (rounds ts m (w ++ [(k : Int)])) []).length).sum ≤ l.length * ts.length ^ m := fun l => by
   induction l with
   | nil => simp
   | cons a l ih =>
    rw [List.map_cons, List.sum_cons, List.length_cons, Nat.add_mul, Nat.one_mul]
    have : (sel (hC ts w (a : Int)) (rounds ts m (w ++ [(a : Int)])) []).length ≤ ts.length ^ m := by
     by_cases hh : hC ts w (a : Int)
     ·rw [zj hh]; exact VS m _
     ·rw [zK hh]; exact Nat.zero_le _
    omega
  have := this (List.range ts.length)
  rwa [List.length_range] at this
theorem z7 (hN : ts.length ≤ 16) {m : Nat} (hm : m ≤ 3) (w : List Int) : (rounds ts m w).length ≤ 4096 :=
 Nat.le_trans (VS m w) (Nat.le_trans (Nat.pow_le_pow_left hN _) (Nat.le_trans (Nat.pow_le_pow_right (by omega) hm) (by decide)))
theorem Xm (r : Rd h0 s 4 (tcs ts)) (hN : ts.length ≤ 16) (hW : 1 ≤ W ∧ W ≤ 3) : ∀ (m : Nat) (w : List Int) (n : Nat) (x : Sl) (h : H), w.length + m = W → (∀ d ∈ w, 0 ≤ d ∧ d < (ts.length : Int)) → Ext h0 h → Ow h x 1 (ic w) → Fr n x → n ≤ h.length →
  callS SP Qd [.agg (SetC c s), .sl x, i64 W] h fun u h' => NewSS n h' u (rounds ts m w) ∧ Ext h h'
 | 0, w, n, x, h, hw, hd, e0, o, fx, hn => by
  have hl := r.tlen
  have hx := o.rd.ilen
  have hval : ∀ y, y < w.length → 0 ≤ w.getD y 0 ∧ w.getD y 0 < (ts.length : Int) := fun y hy => by
   rw [List.getD_eq_getElem?_getD, List.getElem?_eq_getElem hy]
   exact hd _ (List.getElem_mem _)
  apply zgi
  unfold Zp
  refine zi fun h1 o1 x1 l1 => ?_
  refine zu (fun _ => ?_) (fun hne => absurd (by omega) hne)
  have r1 := r.ext (e0.trans x1)
  have rx := o.rd.ext x1
  refine zg (o1.ldS rfl rfl ?_)
  rw [zd (n := (x.len : Int) - 1) (by omega) (by omega)]
  refine rx.ldG (by omega) (by omega) ?_
  refine r1.sideG (hval _ (by omega)).1 (hval _ (by omega)).2 (by omega) (by omega) ?_
  refine zg (o1.ldS rfl rfl ?_)
  refine rx.ldG (by omega) (by omega) ?_
  refine r1.sideG (hval _ (by omega)).1 (hval _ (by omega)).2 (by omega) (by omega) ?_
  have e1 : ((x.len : Int) - 1).toNat = w.length - 1 := by omega
  rw [e1]
  have x1' := x1.len
  refine zu (fun hq => ?_) (fun hq => ?_)
  ·rw [rounds, zj (show vS ts w from hq)]
   refine zm (by rfl) fun u h2 ou lu uo e2 => ⟨_, rfl, ⟨[x], rfl, ou, fun p e => by rw [uo] at e; cases e; omega, ?_, ?_, ?_⟩, x1.trans (by rw [e2]; exact Ext.app _ _)⟩
   ·intro i v l a b
    have : i = 0 := by have := (List.getElem?_eq_some_iff.1 a).1; simpa using this
    subst this
    simp at a b
    subst a b
    exact ⟨(o.ext x1).ext (by rw [e2]; exact Ext.app _ _), fx⟩
   ·intro i j v z hne a b
    have h1 := (List.getElem?_eq_some_iff.1 a).1
    have h2 := (List.getElem?_eq_some_iff.1 b).1
    simp at h1 h2
    omega
   ·intro i v a p e
    have := List.mem_of_getElem? a
    simp at this
    subst this
    rw [uo]
    intro e2
    cases e2
    have := (o.ext x1).lt e
    omega
  ·rw [rounds, zK (show ¬ vS ts w from hq)]
   refine zm (by rfl) fun u h2 ou lu uo e2 => ⟨_, rfl, NewSS.mk0 ou fun p e => by rw [uo] at e; cases e; omega, x1.trans (by rw [e2]; exact Ext.app _ _)⟩
 | m + 1, w, n, x, h, hw, hd, e0, o, fx, hn => by
  have hl := r.tlen
  have hx := o.rd.ilen
  have hval : ∀ y, y < w.length → 0 ≤ w.getD y 0 ∧ w.getD y 0 < (ts.length : Int) := fun y hy => by
   rw [List.getD_eq_getElem?_getD, List.getElem?_eq_getElem hy]
   exact hd _ (List.getElem_mem _)
  apply zgi
  unfold Zp
  generalize hKK : (fun (v : AVal) (h' : H) => ∃ u, v = .sl u ∧ (NewSS n h' u (rounds ts (m + 1) w) ∧ Ext h h')) = KK
  have fin : ∀ (u : Sl) h', NewSS n h' u (rounds ts (m + 1) w) ∧ Ext h h' → KK (.sl u) h' := fun u h' hh => by rw [← hKK]; exact ⟨u, rfl, hh⟩
  clear hKK
  refine zi fun h1 o1 x1 l1 => ?_
  refine zu (fun hne => by omega) (fun _ => ?_)
  refine zm (by rfl) fun u h2 ou lu uo e2 => ?_
  have x2 : Ext h1 h2 := by rw [e2]; exact Ext.app _ _
  have ns : NewSS h1.length h2 u [] := NewSS.mk0 ou (fun o e => by rw [uo] at e; cases e; exact Nat.le_refl _)
  generalize hg : (fun k : Nat => sel (hC ts w (k : Int)) (rounds ts m (w ++ [(k : Int)])) []) = g
  have hflat : rounds ts (m + 1) w = (List.range ts.length).flatMap g := by rw [← hg]; rfl
  have hsm := z7 hN (m := m + 1) (by omega) w
  rw [hflat] at fin hsm
  refine zlW _ _ _ _ _ _ (fun u k h' => 0 ≤ k ∧ k ≤ ts.length ∧ Ext h1 h' ∧ NewSS h1.length h' u ((List.range k.toNat).flatMap g)) (fun _ k _ => (ts.length - k).toNat) ?_ _ _ ⟨by omega, by omega, x2, by simpa using ns⟩
  rintro X u k h' ⟨k0, k1, x', nu⟩ hX
  have oS := o1.ext x'
  have E' := x1.trans x'
  have rh := r.ext (e0.trans E')
  have rx := o.rd.ext E'
  unfold zin zup
  refine zg (oS.ldS rfl rfl ?_)
  refine zc (fun hk1 => ?_) (fun hk1 => ?_)
  rotate_left
  ·rw [show k.toNat = ts.length by omega] at nu
   exact fin _ _ ⟨nu.le (by omega), E'⟩
  obtain ⟨a, rfl⟩ : ∃ a : Nat, k = a := ⟨k.toNat, by omega⟩
  rw [Int.toNat_natCast] at nu
  have hx' := x'.len
  have hmono : ((List.range a).flatMap g).length + (g a).length ≤ 4096 := by
   have e1 : (List.range ts.length).flatMap g = (List.range a).flatMap g ++ (g a ++ ((List.range (ts.length - (a + 1))).map fun i => a + 1 + i).flatMap g) := by
    obtain ⟨d, hd⟩ : ∃ d, ts.length = a + 1 + d := ⟨ts.length - (a + 1), by omega⟩
    rw [hd, List.range_add, List.flatMap_append, List.range_succ, List.flatMap_append]
    simp [show a + 1 + d - (a + 1) = d by omega]
   rw [e1, List.length_append, List.length_append] at hsm
   omega
  have stay : ∀ (h'' : H) (u' : Sl), Ext h1 h'' → NewSS h1.length h'' u' ((List.range a).flatMap g ++ g a) → X (vP x (W : Int) ⟨some h.length, 2, 0⟩ (x.len : Int) u' (w64 ((a : Int) + 1))) h'' := fun h'' u' q1 q2 => by
   rw [zd (by omega) (by omega)]
   refine hX _ _ _ ⟨by omega, by omega, q1, ?_⟩ (by omega)
   rw [show ((a : Int) + 1).toNat = a + 1 by omega, List.range_succ, List.flatMap_append]
   simpa using q2
  -- the word grows by a
  have go : ∀ (Y : Sl → H → Prop), g a = rounds ts m (w ++ [(a : Int)]) → (∀ u' h'', Ext h1 h'' → NewSS h1.length h'' u' ((List.range a).flatMap g ++ g a) → Y u' h'') →
    qE 11 h' fun h23 => ldA ⟨some h.length, 2, 0⟩ 2 h23 fun cs24 => callS SP Zl [.sl x] h23 fun s26 h25 => (Cl.range h25 (some h.length) 2 0 2 = Cl.range h23 (some h.length) 2 0 2) ∧ (
     vE 1 1 [.int .i64 (a : Int)] h25 (h'.length + 5) fun s27 h28 => (Cl.range h28 (some h.length) 2 0 2 = Cl.range h23 (some h.length) 2 0 2) ∧ (
     Cl.app s26 s27 1 h28 fun s29 h30 => (Cl.range h30 (some h.length) 2 0 2 = Cl.range h23 (some h.length) 2 0 2) ∧ (
     callS SP Qd [.agg cs24, .sl s29, .int .i64 (W : Int)] h30 fun s32 h31 => Cl.app u s32 1 h31 Y))) := fun Y hga hY => by
   refine YF fun ha xa la => ?_
   have oA := oS.ext xa
   refine oA.ldA rfl ?_
   refine (Q5 (rx.ext xa) (by omega)).to ?_
   rintro z hb ⟨oz, fz, xb⟩
   have lb := xb.len
   have oB := oA.ext xb
   have rng : ∀ {hh : H}, Obj hh h.length (SetC c s) → Cl.range hh (some h.length) 2 0 2 = some (SetC c s) := fun q => q.rangeE rfl
   refine ⟨by rw [rng oB, rng oA], ?_⟩
   have hol := oS.lt
   refine wH (by omega) (by rfl) fun y hc oy ly yo bc lc => ?_
   have oC := oB.but bc (fun e => by have := Option.some.inj e; omega)
   refine ⟨by rw [rng oC, rng oA], ?_⟩
   have ozC : Ow hc z 1 (ic w) := by
    refine oz.but bc ?_
    cases hz : z.o with
    | none => exact .inl (by simp)
    | some p => exact .inl (by intro e; cases e; have := fz _ hz; omega)
   have hzl := ozC.rd.ilen
   refine yw (by omega) ozC oy.rd (by unfold lim; omega) fun v hd' ov lv bv k1 k2 => ?_
   have fv : Fr ha.length v := fun p e => by
    cases hz : z.o with
    | none => have := k2 hz p e; omega
    | some q => rw [k1 q hz] at e; cases e; exact fz _ hz
   have oD : Obj hd' h.length (SetC c s) := oC.but bv fun e => by have := fz _ e; omega
   refine ⟨by rw [rng oD, rng oA], ?_⟩
   have XD : Ext h' hd' := by
    refine (Ext.but_ (xa.trans xb) bc (zn (by omega))).but_ bv fun p e => by have := fz _ e; omega
   have ov' : Ow hd' v 1 (ic (w ++ [(a : Int)])) := by rw [Xu]; exact ov
   have XDl := XD.len
   have lD : h'.length ≤ hd'.length := XDl
   refine (Xm r hN hW m (w ++ [(a : Int)]) h'.length v hd' (by simp; omega) (fun d hd2 => ?_) ((e0.trans E').trans XD) ov' (fv.le (by omega)) lD).to ?_
   ·rcases List.mem_append.1 hd2 with hd2 | hd2
    ·exact hd d hd2
    ·simp at hd2; omega
   rintro t he ⟨nt, xe⟩
   rw [← hga] at nt
   refine NewSS.cat nu (XD.trans xe) (Nat.le_refl _) hx' nt (by unfold lim; omega) fun u' hf nf bf => ?_
   exact hY _ _ ((x'.trans (XD.trans xe)).but_ bf fun p e => nu.fr p e) nf
  have skip : ¬ hC ts w (a : Int) → g a = [] := fun hno => by rw [← hg]; exact zK hno
  have goes : hC ts w (a : Int) → g a = rounds ts m (w ++ [(a : Int)]) := fun hy => by rw [← hg]; exact zj hy
  refine zu (fun hz => ?_) (fun hz => ?_)
  ·exact go _ (goes fun hh => by omega) fun u' h'' q1 q2 => stay h'' u' q1 q2
  ·refine zg (oS.ldS rfl rfl ?_)
   rw [zd (n := (x.len : Int) - 1) (by omega) (by omega)]
   refine rx.ldG (by omega) (by omega) ?_
   have e1 : ((x.len : Int) - 1).toNat = w.length - 1 := by omega
   rw [e1]
   refine rh.sideG (hval _ (by omega)).1 (hval _ (by omega)).2 (by omega) (by omega) ?_
   refine zg (oS.ldS rfl rfl ?_)
   refine rh.sideG (by omega) (by omega) (by omega) (by omega) ?_
   refine zu (fun hq => ?_) (fun hq => ?_)
   ·exact go _ (goes fun _ => hq) fun u' h'' q1 q2 => stay h'' u' q1 q2
   ·refine stay _ _ x' ?_
    rw [skip fun hh => hq (hh (by omega)), List.append_nil]
    exact nu
end
end Go.Proofs.YtlcgclmobfdbcaaGreat.Cl
set_option linter.unusedVariables false
set_option linter.unusedSimpArgs false
namespace Go.Proofs.YtlcgclmobfdbcaaGreat.Cl
open Go
theorem zyT {h : H} {s : Sl} {l : List Int} {x : Int} (r : Ow h s 1 (ic l)) (hl : (l.length : Int) + 1 ≤ lim) {K : Sl → H → Prop}
  (hk : ∀ s' h', Ow h' s' 1 (ic (l ++ [x])) → But s.o h h' → (∀ o, s'.o = some o → s.o = some o ∨ h.length ≤ o) → K s' h') : newS 1 1 [.int .i64 x] h fun t h1 => app s t 1 h1 K := by
 refine zm (by rfl) fun t h1 ot tl to e1 => ?_
 have e1' : Ext h h1 := by rw [e1]; exact Ext.app _ _
 have := e1'.len
 have hsl := r.rd.ilen
 refine yw (by omega) (r.ext e1') ot.rd (by rw [tl, hsl]; exact_mod_cast hl) fun s' h' o' ln b k1 k2 => hk s' h' (by rw [Xu]; exact o') ((e1'.but _).trans b) fun o e => ?_
 cases hq : s.o with
 | none => have := k2 hq o e; exact .inr (by omega)
 | some p => rw [k1 p hq] at e; exact .inl e
theorem YD {n : Nat} {f : Nat → Int} {i : Nat} {v : Int} : (tab1 n f).set i v = tab1 n fun j => if j = i then v else f j := by
 apply List.ext_getElem?
 intro j
 unfold tab1
 rw [List.getElem?_set]
 by_cases hj : j < n
 ·by_cases e : i = j
  ·subst e
   simp [hj]
  ·rw [if_neg e, List.getElem?_map, List.getElem?_map, List.getElem?_range hj]
   simp [show ¬ j = i from fun h => e h.symm]
 ·by_cases e : i = j
  ·subst e
   simp [hj]
  ·simp [e, hj]
theorem yB {n : Nat} {f g : Nat → Int} (h : ∀ j, j < n → f j = g j) : tab1 n f = tab1 n g := by
 unfold tab1
 exact List.map_congr_left fun j hj => h j (List.mem_range.1 hj)
theorem q8 (n : Nat) : List.replicate n 0 = tab1 n fun _ => 0 := by
 unfold tab1
 induction n with
 | zero => rfl
 | succ n ih => rw [List.range_succ, List.map_append, ← ih, List.replicate_succ']; rfl
theorem zmJ {α : Type} (l : List α) (f g : α → Nat) : (l.map fun x => f x + g x).sum = (l.map f).sum + (l.map g).sum := by
 induction l with
 | nil => rfl
 | cons a l ih => simp only [List.map_cons, List.sum_cons, ih]; omega
theorem Za {α : Type} (l : List α) : (l.map fun _ => 0).sum = 0 := by
 induction l with
 | nil => rfl
 | cons a l ih => simp only [List.map_cons, List.sum_cons, ih]
theorem zCp {S : Nat} {t : Int} (h0 : 0 ≤ t) (h1 : t < S) (g : Int → Nat) : ((List.range S).map fun (y : Nat) => if t = (y : Int) then g y else 0).sum = g t := by
 induction S with
 | zero => omega
 | succ S ih =>
  rw [List.range_succ, List.map_append, List.sum_append, List.map_cons, List.map_nil, List.sum_cons, List.sum_nil]
  by_cases e : t = (S : Int)
  ·rw [if_pos e]
   have : ((List.range S).map fun (y : Nat) => if t = (y : Int) then g y else 0) = (List.range S).map fun _ => 0 := List.map_congr_left fun y hy => by
    have := List.mem_range.1 hy
    rw [if_neg (by omega)]
   rw [this, Za, e]; omega
  ·rw [if_neg e, ih (by omega)]; omega
theorem YE {S : Nat} {α : Type} (t : α → Int) (g : α → Int → Nat) : ∀ (l : List α), (∀ w ∈ l, 0 ≤ t w ∧ t w < S) → ((List.range S).map fun (y : Nat) => (l.map fun w => if t w = (y : Int) then g w y else 0).sum).sum = (l.map fun w => g w (t w)).sum
 | [], _ => by simp [Za]
 | w :: l, h => by
  simp only [List.map_cons, List.sum_cons]
  rw [zmJ, zCp (h w (by simp)).1 (h w (by simp)).2, YE t g l fun x hx => h x (by simp [hx])]
noncomputable def cnt (c : Int) (ts : List Tile) (W n : Nat) (s x : Int) : Nat := (seqs c ts W n s x).length
theorem zmR {α : Type} {A : Prop} [Decidable A] {l : List α} : (sel A l []).length = if A then l.length else 0 := by
 by_cases a : A
 ·rw [zj a, if_pos a]
 ·rw [zK a, if_neg a]; rfl
theorem zkc {c : Int} {ts : List Tile} {W : Nat} {s x : Int} : cnt c ts W 0 s x = if s = x then 1 else 0 := by unfold cnt; rw [seqs, zmR]; rfl
theorem YQ {c : Int} {ts : List Tile} {W n : Nat} {s x : Int} : cnt c ts W (n + 1) s x = ((zh ts W).map fun w => if cd c ts 1 w = s then cnt c ts W n (cd c ts 3 w) x else 0).sum := by
 unfold cnt
 rw [seqs, List.length_flatMap]
 congr 1
 refine List.map_congr_left fun w _ => ?_
 rw [zmR, List.length_map]
theorem zkm {c : Int} {ts : List Tile} {W H : Nat} (S : wh c ts) (hH : 1 ≤ H) {N : Nat} (hN : (N : Int) = c ^ W) : (yp c ts W H).length = ((List.range N).map fun (y : Nat) => cnt c ts W H (y : Int) (y : Int)).sum := by
 have e : ((List.range N).map fun (y : Nat) => cnt c ts W H (y : Int) (y : Int)) = (List.range N).map fun (y : Nat) => ((zh ts W).map fun w => if cd c ts 1 w = (y : Int) then (fun w (y : Int) => cnt c ts W (H - 1) (cd c ts 3 w) y) w y else 0).sum := by
  refine List.map_congr_left fun y _ => ?_
  rw [show H = (H - 1) + 1 by omega, YQ]; simp
 rw [e, YE (fun w => cd c ts 1 w) (fun w (y : Int) => cnt c ts W (H - 1) (cd c ts 3 w) y) (zh ts W) fun w hw => by rw [hN]; exact (yP hw).bound S (by omega)]
 unfold yp
 rw [List.length_flatMap]
 congr 1
 refine List.map_congr_left fun w _ => ?_
 rw [List.length_map]; rfl
theorem YZ {α : Type} (l : List α) (f : α → Nat) (b : Nat) (h : ∀ x ∈ l, f x ≤ b) : (l.map f).sum ≤ l.length * b := by
 induction l with
 | nil => simp
 | cons a l ih =>
  simp only [List.map_cons, List.sum_cons, List.length_cons, Nat.add_mul, Nat.one_mul]
  have := h a (by simp)
  have := ih fun x hx => h x (by simp [hx])
  omega
section
variable {c : Int} {ts : List Tile} {W : Nat}
noncomputable def psum (c : Int) (ts : List Tile) (W n : Nat) (x : Int) (i : Nat) (a : Int) : Nat := (((zh ts W).take i).map fun w => if cd c ts 1 w = a then cnt c ts W n (cd c ts 3 w) x else 0).sum
theorem zgw (hN : ts.length ≤ 16) (hW : W ≤ 3) : ∀ (n : Nat) (s x : Int), cnt c ts W n s x ≤ 4096 ^ n
 | 0, s, x => by rw [zkc]; split <;> simp
 | n + 1, s, x => by
  rw [YQ, Nat.pow_succ, Nat.mul_comm]
  refine Nat.le_trans (YZ _ _ (4096 ^ n) fun w _ => ?_) (Nat.mul_le_mul_right _ (z7 hN hW []))
  split
  ·exact zgw hN hW n _ _
  ·exact Nat.zero_le _
theorem VW (hN : ts.length ≤ 16) (hW : W ≤ 3) {n : Nat} (hn : n ≤ 2) (x : Int) (i : Nat) (a : Int) : psum c ts W n x i a ≤ 68719476736 := by
 unfold psum
 refine Nat.le_trans (YZ _ _ (4096 ^ n) fun w _ => ?_) (Nat.le_trans (Nat.mul_le_mul (Nat.le_trans (List.length_take_le' _ _) (z7 hN hW [])) (Nat.pow_le_pow_right (by omega) hn)) (by decide))
 split
 ·exact zgw hN hW n _ _
 ·exact Nat.zero_le _
theorem zni {n : Nat} {x a : Int} : psum c ts W n x 0 a = 0 := rfl
theorem zew {n : Nat} {x a : Int} {i : Nat} (hi : i < (zh ts W).length) : psum c ts W n x (i + 1) a = psum c ts W n x i a + if cd c ts 1 (zh ts W)[i] = a then cnt c ts W n (cd c ts 3 (zh ts W)[i]) x else 0 := by
 unfold psum
 rw [List.take_succ_eq_append_getElem hi, List.map_append, List.sum_append]
 simp
theorem zvL {n : Nat} {x a : Int} : psum c ts W n x (zh ts W).length a = cnt c ts W (n + 1) a x := by
 unfold psum
 rw [List.take_length, YQ]
end
section
variable {h0 : H} {c : Int} {s q : Sl} {ts : List Tile} {W : Nat}
theorem ZN (r : Rd h0 s 4 (tcs ts)) (hN : ts.length ≤ 16) (S : wh c ts) (hc : c ≤ 6) (hW : 1 ≤ W ∧ W ≤ 3) :
  callV SP znL [.agg (SetC c s), i64 W] h0 fun v h' => ∃ a b d, v = .tuple [.sl a, .sl b, .sl d] ∧ NewSS h0.length h' a (zh ts W) ∧ Rd h' b 1 (ic ((zh ts W).map (cd c ts 1))) ∧ Rd h' d 1 (ic ((zh ts W).map (cd c ts 3))) ∧ Ext h0 h' := by
 apply zwE
 unfold zax
 refine zi fun h1 o1 x1 l1 => ?_
 refine o1.ldA rfl ?_
 refine zm (by rfl) fun z h2 oz lz zo e2 => ?_
 have x2 : Ext h1 h2 := by rw [e2]; exact Ext.app _ _
 have l2 : h2.length = h1.length + 1 := by rw [e2]; simp
 refine (Xm r hN hW W [] h1.length z h2 (by simp) (by simp) (x1.trans x2) oz (fun o e => by rw [zo] at e; cases e; exact Nat.le_refl _) x2.len).to ?_
 rintro a h3 ⟨na, x3⟩
 replace na : NewSS h1.length h3 a (zh ts W) := na
 refine zm (by rfl) fun b h4 ob lb bo e4 => ?_
 have x4 : Ext h3 h4 := by rw [e4]; exact Ext.app _ _
 refine zm (by rfl) fun d h5 od ld do_ e5 => ?_
 have x5 : Ext h4 h5 := by rw [e5]; exact Ext.app _ _
 have l4 : h4.length = h3.length + 1 := by rw [e4]; simp
 have X3 := (x1.trans x2).trans x3
 have hwl : (zh ts W).length ≤ 4096 := z7 hN hW.2 ([] : List Int)
 have hal := na.rd.len
 refine zpj _ _ _ _ (fun b d i h => 0 ≤ i ∧ i ≤ (zh ts W).length ∧ Ext h3 h ∧ Ow h b 1 (ic (((zh ts W).take i.toNat).map (cd c ts 1))) ∧ Ow h d 1 (ic (((zh ts W).take i.toNat).map (cd c ts 3))) ∧ Fr h3.length b ∧ Fr h3.length d ∧ (∀ o, b.o = some o → d.o ≠ some o)) (fun _ _ i _ => ((zh ts W).length - i).toNat) ?_ _ _ _
  ⟨by omega, by omega, x4.trans x5, ob.ext x5, od, (fun o e => by rw [bo] at e; cases e; omega), (fun o e => by rw [do_] at e; cases e; omega), (fun o e e2 => by rw [bo] at e; rw [do_] at e2; cases e; have := Option.some.inj e2; omega)⟩
 rintro X b d i h ⟨i0, i1, x, ob, od, fb, fd, hbd⟩ hX
 unfold zpl zzL
 have XX := X3.trans x
 have na' := na.ext x
 refine zc (fun hi => ?_) (fun hi => ⟨a, b, d, rfl, na'.le (by omega), ?_, ?_, XX⟩)
 rotate_left
 ·rw [show i.toNat = (zh ts W).length by omega, List.take_length] at ob; exact ob.rd
 ·rw [show i.toNat = (zh ts W).length by omega, List.take_length] at od; exact od.rd
 obtain ⟨k, rfl⟩ : ∃ k : Nat, i = k := ⟨i.toNat, by omega⟩
 rw [Int.toNat_natCast] at ob od
 have hk : k < (zh ts W).length := by omega
 have hrow : rw_ (zh ts W) k = (zh ts W)[k] := by unfold rw_; rw [List.getD_eq_getElem?_getD, List.getElem?_eq_getElem hk]; rfl
 have hwd := yP (List.getElem_mem hk)
 have oo := o1.ext ((x2.trans x3).trans x)
 have hb3 : ∀ {g : H}, Ext h g → h.length ≤ g.length := fun e => e.len
 refine oo.ldA rfl ?_
 refine na'.rd.ldG (by omega) (by omega) fun v rv lv => ?_
 rw [Int.toNat_natCast, hrow] at rv
 refine (zeP (r.ext XX) S hc rv hwd hW.2 (k := 1) (by omega)).to ?_
 rintro _ g1 ⟨rfl, y1⟩
 refine zyT (ob.ext y1) (by simp; unfold lim; omega) fun b' g2 ob' bb' hb' => ?_
 have hxl := x.len
 have hy1 := y1.len
 have od1 : Ow g2 d 1 (ic (((zh ts W).take k).map (cd c ts 3))) := by
  refine (od.ext y1).but bb' ?_
  cases hd : d.o with
  | none =>
   cases hb : b.o with
   | none => exact .inr rfl
   | some _ => exact .inl (by simp)
  | some o => exact .inl fun e => hbd o e hd
 have z2 : Ext h3 g2 := (x.trans y1).but_ bb' fun o e => fb o e
 have nb2 := na.ext z2
 have hg2 := bb'.1
 have oo2 := o1.ext ((x2.trans x3).trans z2)
 refine oo2.ldA rfl ?_
 refine nb2.rd.ldG (by omega) (by omega) fun v2 rv2 lv2 => ?_
 rw [Int.toNat_natCast, hrow] at rv2
 refine (zeP (r.ext (X3.trans z2)) S hc rv2 hwd hW.2 (k := 3) (by omega)).to ?_
 rintro _ g3 ⟨rfl, y3⟩
 have hy3 := y3.len
 refine zyT (od1.ext y3) (by simp; unfold lim; omega) fun d' g4 od' bd' hd' => ?_
 have hbd' : ∀ o, b'.o = some o → d.o ≠ some o := fun o e e2 => by
  rcases hb' o e with e3 | e3
  ·exact hbd o e3 e2
  ·have := od.lt e2; omega
 have ob2 : Ow g4 b' 1 (ic (((zh ts W).take k).map (cd c ts 1) ++ [cd c ts 1 (zh ts W)[k]])) := by
  refine (ob'.ext y3).but bd' ?_
  cases hb : b'.o with
  | none =>
   cases hd : d.o with
   | none => exact .inr rfl
   | some _ => exact .inl (by simp)
  | some o => exact .inl fun e => hbd' o hb e
 rw [zd (by omega) (by omega)]
 refine hX _ _ _ _ ⟨by omega, by omega, (z2.trans y3).but_ bd' fun o e => fd o e, ?_, ?_, ?_, ?_, ?_⟩ (by omega)
 ·rw [show ((k : Int) + 1).toNat = k + 1 by omega, List.take_succ_eq_append_getElem hk, List.map_append]; exact ob2
 ·rw [show ((k : Int) + 1).toNat = k + 1 by omega, List.take_succ_eq_append_getElem hk, List.map_append]; exact od'
 ·intro o e
  rcases hb' o e with e3 | e3
  ·exact fb o e3
  ·omega
 ·intro o e
  rcases hd' o e with e3 | e3
  ·exact fd o e3
  ·omega
 ·intro o e e2
  rcases hd' o e2 with e3 | e3
  ·exact hbd' o e e3
  ·have := ob'.lt e; omega
theorem mapG {l : List (List Int)} {f : List Int → Int} {i : Nat} (h : i < l.length) : (l.map f).getD i 0 = f l[i] := by
 rw [List.getD_eq_getElem?_getD, List.getElem?_map, List.getElem?_eq_getElem h]; rfl
theorem ZO (hN : ts.length ≤ 16) (S : wh c ts) (hc : c ≤ 6) (hW : 1 ≤ W ∧ W ≤ 3) {tq bq : Sl} (rt : Rd h0 tq 1 (ic ((zh ts W).map (cd c ts 1)))) (rb : Rd h0 bq 1 (ic ((zh ts W).map (cd c ts 3)))) {N n : Nat} (hNS : (N : Int) = c ^ W) (hn : n ≤ 3) {x : Int} (x0 : 0 ≤ x) (x1 : x < N) :
  callS SP zhk [.agg (SetC c s), .sl tq, .sl bq, i64 N, i64 n, i64 x] h0 fun u h' => Rd h' u 1 (ic (tab1 N fun a => (cnt c ts W n (a : Int) x : Int))) ∧ Ext h0 h' := by
 have hpw := xM S.1 hc hW.2
 rw [← hNS] at hpw
 have hwl : (zh ts W).length ≤ 4096 := z7 hN hW.2 ([] : List Int)
 have htl := rt.ilen
 rw [List.length_map] at htl
 apply zjC
 unfold YN
 refine zi fun h1 o1 y1 l1 => ?_
 refine zeG (by omega) (by unfold lim; omega) fun u h2 ou lu uo e2 => ?_
 rw [xq, Int.toNat_natCast, q8] at ou
 have y2 : Ext h1 h2 := by rw [e2]; exact Ext.app _ _
 refine zfr _ _ _ _ _ _ _ _ (fun i h => 0 ≤ i ∧ i ≤ N ∧ Ext h0 h ∧ Ow h u 1 (ic (tab1 N fun j => if j < i.toNat ∧ (j : Int) = x then 1 else 0))) (fun i _ => (N - i).toNat) ?_ _ ⟨by omega, by omega, y1.trans y2, by simpa using ou⟩
 rintro X i h ⟨i0, i1, e, o⟩ hX
 have hy1 := y1.len
 have frU : ∀ p, u.o = some p → h0.length ≤ p := fun p hp => by rw [uo] at hp; cases hp; exact hy1
 unfold zjF zpi
 refine zc (fun hi => ?_) (fun hi => ?_)
 ·refine zc (fun hx => by omega) (fun _ => ?_)
  have hol := o.rd.ilen
  rw [zW] at hol
  refine zu (fun hx => ?_) (fun hx => ?_)
  ·refine o.stI i0 (by omega) _ fun h' o' b' _ => ?_
   rw [zd (by omega) (by omega)]
   refine hX _ _ ⟨by omega, by omega, e.but_ b' frU, ?_⟩ (by omega)
   rw [YD] at o'
   refine (yB fun j hj => ?_) ▸ o'
   by_cases hji : j = i.toNat
   ·subst hji
    rw [if_pos rfl, if_pos ⟨by omega, by omega⟩]
   ·rw [if_neg hji]
    by_cases hj2 : j < i.toNat ∧ (j : Int) = x
    ·omega
    ·rw [if_neg hj2, if_neg (by omega)]
  ·rw [zd (by omega) (by omega)]
   refine hX _ _ ⟨by omega, by omega, e, ?_⟩ (by omega)
   refine (yB fun j hj => ?_) ▸ o
   by_cases hj2 : j < i.toNat ∧ (j : Int) = x
   ·rw [if_pos hj2, if_pos ⟨by omega, hj2.2⟩]
   ·rw [if_neg hj2, if_neg (by omega)]
 ·refine zfq _ _ _ _ _ (fun k v g => 0 ≤ k ∧ k ≤ n ∧ Ext h0 g ∧ Rd g v 1 (ic (tab1 N fun a => (cnt c ts W (n - k.toNat) (a : Int) x : Int)))) (fun k _ _ => k.toNat) ?_ _ _ ⟨by omega, by omega, e, ?_⟩
  rotate_left
  ·refine (yB fun j hj => ?_) ▸ o.rd
   rw [Int.toNat_natCast, Nat.sub_self, zkc]
   by_cases hj2 : (j : Int) = x
   ·rw [if_pos ⟨by omega, hj2⟩, if_pos hj2]; rfl
   ·rw [if_neg (by omega), if_neg hj2]; rfl
  clear hX o i0 i1 e hi
  rintro X k v g ⟨k0, k1, e, rv⟩ hX
  unfold zjE zph
  refine zc (fun hk => ?_) (fun hk => ⟨_, rfl, ?_, e⟩)
  rotate_left
  ·rw [show n - k.toNat = n by omega] at rv; exact rv
  obtain ⟨m, hm⟩ : ∃ m, m = n - k.toNat := ⟨_, rfl⟩
  rw [← hm] at rv
  refine zeG (by omega) (by unfold lim; omega) fun z g2 oz lz zo e2 => ?_
  rw [xq, Int.toNat_natCast, q8] at oz
  have y2 : Ext g g2 := by rw [e2]; exact Ext.app _ _
  refine zfp _ _ X _ _ _ _ _ _ (fun i h => 0 ≤ i ∧ i ≤ (zh ts W).length ∧ Ext g h ∧ Ow h z 1 (ic (tab1 N fun a => (psum c ts W m x i.toNat (a : Int) : Int)))) (fun i _ => ((zh ts W).length - i).toNat) ?_ _ ⟨by omega, by omega, y2, by simpa [zni] using oz⟩
  rintro Y i h ⟨i0, i1, e', o⟩ hY
  have frZ : ∀ p, z.o = some p → g.length ≤ p := fun p hp => by rw [zo] at hp; cases hp; exact Nat.le_refl _
  unfold zjD zpf zpg
  refine zc (fun hi => ?_) (fun hi => ?_)
  ·obtain ⟨w, rfl⟩ : ∃ w : Nat, i = w := ⟨i.toNat, by omega⟩
   rw [Int.toNat_natCast] at o
   have hw : w < (zh ts W).length := by omega
   have hwd := yP (List.getElem_mem hw)
   have b1 := hwd.bound (k := 1) S (by omega)
   have b3 := hwd.bound (k := 3) S (by omega)
   rw [← hNS] at b1 b3
   have rt' := rt.ext (e.trans e')
   have rb' := rb.ext (e.trans e')
   refine rt'.ldG (by omega) (by rw [List.length_map]; omega) ?_
   rw [Int.toNat_natCast, mapG hw]
   refine rt'.ldG (by omega) (by rw [List.length_map]; omega) ?_
   rw [Int.toNat_natCast, mapG hw]
   refine o.rd.ldG b1.1 (by rw [zW]; omega) ?_
   rw [wL (by omega)]
   refine rb'.ldG (by omega) (by rw [List.length_map]; omega) ?_
   rw [Int.toNat_natCast, mapG hw]
   refine (rv.ext e').ldG b3.1 (by rw [zW]; omega) ?_
   rw [wL (by omega)]
   have hol := o.rd.ilen
   rw [zW] at hol
   have p1 := VW (c := c) hN hW.2 (n := m) (by omega) x w (cd c ts 1 (zh ts W)[w])
   have p2 := VW (c := c) hN hW.2 (n := m) (by omega) x (w + 1) (cd c ts 1 (zh ts W)[w])
   rw [zew hw, if_pos rfl] at p2
   have c1 : ((cd c ts 1 (zh ts W)[w]).toNat : Int) = cd c ts 1 (zh ts W)[w] := by omega
   have c3 : ((cd c ts 3 (zh ts W)[w]).toNat : Int) = cd c ts 3 (zh ts W)[w] := by omega
   rw [c1, c3]
   refine o.stI b1.1 (by omega) _ fun h' o' b' _ => ?_
   rw [zd (n := (w : Int) + 1) (by omega) (by omega)]
   refine hY _ _ ⟨by omega, by omega, e'.but_ b' frZ, ?_⟩ (by omega)
   rw [YD] at o'
   refine (yB fun j hj => ?_) ▸ o'
   rw [show ((w : Int) + 1).toNat = w + 1 by omega, zew hw]
   by_cases hj1 : j = (cd c ts 1 (zh ts W)[w]).toNat
   ·rw [if_pos hj1, if_pos (by omega), show ((j : Nat) : Int) = cd c ts 1 (zh ts W)[w] by omega]
    rw [zd (by omega) (by omega)]
    unfold mnI
    push_cast
    omega
   ·rw [if_neg hj1, if_neg (by omega)]; simp
  ·rw [zd (by omega) (by omega)]
   refine hX _ _ _ ⟨by omega, by omega, e.trans e', ?_⟩ (by omega)
   rw [show i.toNat = (zh ts W).length by omega] at o
   refine (yB fun j hj => ?_) ▸ o.rd
   rw [zvL]
   congr 2; omega
end
end Go.Proofs.YtlcgclmobfdbcaaGreat.Cl
set_option linter.unusedVariables false
set_option linter.unusedSimpArgs false
namespace Go.Proofs.YtlcgclmobfdbcaaGreat.Cl
open Go
theorem setOK.sides {c : Int} {ts : List Tile} (h : setOK c ts) : wh c ts := by
 refine ⟨h.1.1, fun n k hk n0 n1 => ?_⟩
 obtain ⟨j, rfl⟩ : ∃ j : Nat, n = j := ⟨n.toNat, by omega⟩
 have := (h.2.2 j (by omega)).1
 unfold qV at this
 simp only [Bool.and_eq_true, decide_eq_true_eq] at this
 have hk' : k = 0 ∨ k = 1 ∨ k = 2 ∨ k = 3 := by omega
 rcases hk' with rfl | rfl | rfl | rfl
 ·show 0 ≤ (tat ts j).1 ∧ (tat ts j).1 < c; omega
 ·show 0 ≤ (tat ts j).2.1 ∧ (tat ts j).2.1 < c; omega
 ·show 0 ≤ (tat ts j).2.2.1 ∧ (tat ts j).2.2.1 < c; omega
 ·show 0 ≤ (tat ts j).2.2.2 ∧ (tat ts j).2.2.2 < c; omega
def Size (a b : Int) : Prop := (1 ≤ a ∧ a ≤ 3) ∧ 1 ≤ b ∧ b ≤ 3
noncomputable def yr (c : Int) (ts : List Tile) (a b : Int) : Int := ((yp c ts b.toNat a.toNat).length : Int)
section
variable {h0 : H} {c : Int} {s : Sl} {ts : List Tile} {a b : Int}
theorem WR (r : Rd h0 s 4 (tcs ts)) (hs : setOK c ts) (hz : Size a b) : callI SP .i64 znN [.agg (SetC c s), i64 a, i64 b] h0 fun n h' => n = yr c ts a b ∧ Ext h0 h' := by
 obtain ⟨x, rfl⟩ : ∃ x : Nat, a = x := ⟨a.toNat, by have := hz.1; omega⟩
 obtain ⟨y, rfl⟩ : ∃ y : Nat, b = y := ⟨b.toNat, by have := hz.2; omega⟩
 have hx := hz.1; have hy := hz.2
 refine (ziz r hs.2.1 (H_ := x) (W := y) (by omega) (by omega)).to ?_
 rintro n h' ⟨rfl, e⟩
 refine ⟨?_, e⟩
 rw [Xx hs.sides (by omega) (by omega), List.length_map]
 rfl
theorem zed (hs : setOK c ts) (hz : Size a b) : 0 ≤ yr c ts a b ∧ yr c ts a b ≤ 68719476736 := by
 obtain ⟨x, rfl⟩ : ∃ x : Nat, a = x := ⟨a.toNat, by have := hz.1; omega⟩
 obtain ⟨y, rfl⟩ : ∃ y : Nat, b = y := ⟨b.toNat, by have := hz.2; omega⟩
 have hx := hz.1; have hy := hz.2
 have := Qh (ts := ts) (H_ := x) (W := y) hs.2.1 (by omega) (by omega)
 rw [Xx hs.sides (by omega) (by omega), List.length_map] at this
 unfold yr
 simp only [Int.toNat_natCast]
 omega
theorem QT {f : Nat → Nat} {n m : Nat} (h : n ≤ m) : ((List.range n).map f).sum ≤ ((List.range m).map f).sum := by
 obtain ⟨d, rfl⟩ : ∃ d, m = n + d := ⟨m - n, by omega⟩
 rw [List.range_add, List.map_append, List.sum_append]; omega
theorem qz (f : Nat → Nat) (n : Nat) : ((List.range (n + 1)).map f).sum = ((List.range n).map f).sum + f n := by
 rw [List.range_succ, List.map_append, List.sum_append]; simp
theorem zyE {W n : Nat} {x y : Int} (h : ∀ w ∈ zh ts W, cd c ts 1 w ≠ x) : cnt c ts W (n + 1) x y = 0 := by
 rw [YQ]
 have : ((zh ts W).map fun w => if cd c ts 1 w = x then cnt c ts W n (cd c ts 3 w) y else 0) = (zh ts W).map fun _ => 0 := List.map_congr_left fun w hw => if_neg (h w hw)
 rw [this, Za]
theorem V8 (r : Rd h0 s 4 (tcs ts)) (hs : setOK c ts) (hz : Size a b) : callI SP .i64 zwk [.agg (SetC c s), i64 a, i64 b] h0 fun n h' => n = yr c ts a b ∧ Ext h0 h' := by
 have hsm := zed hs hz
 obtain ⟨x, rfl⟩ : ∃ x : Nat, a = x := ⟨a.toNat, by have := hz.1; omega⟩
 obtain ⟨y, rfl⟩ : ∃ y : Nat, b = y := ⟨b.toNat, by have := hz.2; omega⟩
 have hx := hz.1; have hy := hz.2
 have S := hs.sides
 have hpw := xM (n := y) hs.1.1 hs.1.2 (by omega)
 obtain ⟨N, hN⟩ : ∃ N : Nat, (N : Int) = c ^ y := ⟨(c ^ y).toNat, by omega⟩
 have htot : yr c ts x y = (((List.range N).map fun (i : Nat) => cnt c ts y x (i : Int) (i : Int)).sum : Nat) := by
  unfold yr
  rw [Int.toNat_natCast, Int.toNat_natCast, zkm S (by omega) hN]
 rw [htot] at hsm ⊢
 apply zxa
 unfold zbp
 refine zi fun h1 o1 x1 l1 => ?_
 refine o1.ldA rfl ?_
 refine (ZN (r.ext x1) hs.2.1 S hs.1.2 (W := y) (by omega)).to ?_
 rintro _ h3 ⟨wq, tq, bq, rfl, nw, rt, rb, x3⟩
 refine ⟨_, rfl, _, rfl, _, rfl, _, rfl, _, rfl, _, rfl, ?_⟩
 have o3 := o1.ext x3
 have X3 := x1.trans x3
 refine zg (o3.ldI rfl rfl ?_)
 refine (ZQ hs.1.1 hs.1.2 (W := y) (by omega)).to ?_
 rintro _ h4 ⟨rfl, x4⟩
 rw [← hN] at hpw ⊢
 have htl := rt.ilen
 rw [List.length_map] at htl
 have hwl : (zh ts y).length ≤ 4096 := z7 hs.2.1 (by omega) ([] : List Int)
 refine zpV _ _ _ _ _ _ _ (fun t i h => 0 ≤ i ∧ i ≤ N ∧ Ext h3 h ∧ t = (((List.range i.toNat).map fun (i : Nat) => cnt c ts y x (i : Int) (i : Int)).sum : Nat)) (fun _ i _ => (N - i).toNat) ?_ _ _ ⟨by omega, by omega, x4, rfl⟩
 rintro X t i h ⟨i0, i1, e, et⟩ hX
 unfold zqa zAz
 refine zc (fun hi => ?_) (fun hi => ⟨_, rfl, by rw [et, show i.toNat = N by omega], X3.trans e⟩)
 obtain ⟨j, rfl⟩ : ∃ j : Nat, i = j := ⟨i.toNat, by omega⟩
 rw [Int.toNat_natCast] at et
 have stay : ∀ (t' : Int) h', Ext h3 h' → t' = t + (cnt c ts y x (j : Int) (j : Int) : Nat) → X (Ql (x : Int) ⟨some h0.length, 2, 0⟩ tq bq (N : Int) t' (w64 ((j : Int) + 1))) h' := fun t' h' q1 q2 => by
  rw [zd (by omega) (by omega)]
  refine hX _ _ _ ⟨by omega, by omega, q1, ?_⟩ (by omega)
  rw [show ((j : Int) + 1).toNat = j + 1 by omega, qz, q2, et]
  push_cast; rfl
 have hrt := rt.ext e
 refine zpU _ _ X _ _ _ _ _ _ _ (fun f k h' => 0 ≤ k ∧ k ≤ (zh ts y).length ∧ h' = h ∧ (f = true ↔ ∃ q, ∃ hq : q < (zh ts y).length, q < k.toNat ∧ cd c ts 1 (zh ts y)[q] = j)) (fun _ k _ => ((zh ts y).length - k).toNat) ?_ _ _ ⟨by omega, by omega, rfl, by simp⟩
 rintro Y f k h' ⟨k0, k1, rfl, hf⟩ hY
 unfold zpZ zAy zqb
 refine zc (fun hk => ?_) (fun hk => ?_)
 ·refine yE (fun hft => ?_) (fun hff => ?_)
  ·rw [zd (by omega) (by omega)]
   refine hY _ _ _ ⟨by omega, by omega, rfl, ?_⟩ (by omega)
   obtain ⟨q, hq, h1, h2⟩ := hf.1 hft
   simp only [true_iff]
   exact ⟨q, hq, by omega, h2⟩
  ·refine hrt.ldG k0 (by rw [List.length_map]; omega) ?_
   have hkn : k.toNat < (zh ts y).length := by omega
   rw [mapG hkn, zd (by omega) (by omega)]
   refine hY _ _ _ ⟨by omega, by omega, rfl, ?_⟩ (by omega)
   rw [beq_iff_eq]
   constructor
   ·exact fun he => ⟨k.toNat, hkn, by omega, he⟩
   ·rintro ⟨q, hq, h1, h2⟩
    by_cases e : q = k.toNat
    ·subst e; exact h2
    ·have := hf.2 ⟨q, hq, by omega, h2⟩
     rw [hff] at this; cases this
 ·refine yE (fun hft => ?_) (fun hff => ?_)
  ·refine ((o3.ext e)).ldA rfl ?_
   refine (ZO hs.2.1 S hs.1.2 (W := y) (by omega) hrt (rb.ext e) hN (n := x) (by omega) (x := (j : Int)) (by omega) (by omega)).to ?_
   rintro u h5 ⟨ru, x5⟩
   refine ru.ldG (by omega) (by rw [zW]; omega) ?_
   rw [Int.toNat_natCast, wL (by omega)]
   have hle := QT (f := fun (i : Nat) => cnt c ts y x (i : Int) (i : Int)) (n := j + 1) (m := N) (by omega)
   rw [qz] at hle
   refine stay _ _ (e.trans x5) ?_
   rw [zd (by omega) (by omega)]
  ·refine stay _ _ e ?_
   have : cnt c ts y x (j : Int) (j : Int) = 0 := by
    obtain ⟨x', rfl⟩ : ∃ x', x = x' + 1 := ⟨x - 1, by omega⟩
    refine zyE fun w hw he => ?_
    obtain ⟨q, hq, rfl⟩ := List.getElem_of_mem hw
    have := hf.2 ⟨q, hq, by omega, he⟩
    rw [hff] at this; cases this
   rw [this]; simp
theorem areSizes_k {h : H} : callB SP zwm [i64 a, i64 b] h fun r h' => (r = true ↔ Size a b) ∧ Ext h h' := by
 apply zxg
 unfold zbB
 refine vZ ?_
 refine zc (fun h1 => ?_) (fun h1 => ⟨_, rfl, ⟨fun f => by simp at f, fun f => absurd f.1 h1⟩, Ext.refl _⟩)
 refine vZ ⟨_, rfl, ?_, Ext.refl _⟩
 rw [decide_eq_true_eq]
 exact ⟨fun f => ⟨h1, f⟩, fun f => f.2⟩
theorem zeQ (r : Rd h0 s 4 (tcs ts)) : callI SP .i64 zkN [.agg (SetC c s), i64 a, i64 b, i64 3] h0 fun n h' => n = zG (setOK c ts) (Size a b) ∧ Ext h0 h' := by
 apply zjG
 unfold YO
 refine zi fun h1 o1 x1 l1 => ?_
 refine o1.ldA rfl ?_
 refine (ZR (r.ext x1)).to ?_
 rintro e h2 ⟨he, x2⟩
 have X := x1.trans x2
 refine zF (fun hq => ⟨_, rfl, (yY fun hs => ?_).symm, X⟩) (fun hq => ?_)
 ·rw [he.2 hs] at hq; cases hq
 have hs := he.1 hq
 refine ZS ?_
 refine zF (fun h => ⟨_, rfl, (yM hs fun z => ?_).symm, X⟩) (fun h => ?_)
 ·exact of_decide_eq_false h z.1
 refine ZS ?_
 refine zF (fun h' => ⟨_, rfl, (yM hs fun z => ?_).symm, X⟩) (fun h' => ⟨_, rfl, (zT hs ⟨of_decide_eq_true h, of_decide_eq_true h'⟩).symm, X⟩)
 exact of_decide_eq_false h' z.2
end
noncomputable def zq (c : Int) (ts : List Tile) (a b : Int) : Int := sel (setOK c ts ∧ Size a b) (yr c ts a b) 0
noncomputable def zH (c : Int) (ts : List Tile) : List (List Int) := sel (setOK c ts) (tab2 3 fun i => tab1 3 fun j => yr c ts ((i : Int) + 1) ((j : Int) + 1)) []
theorem Yb {c : Int} {ts : List Tile} (sz : ts.length ≤ 1048576) : (zH c ts).length < 1000000 ∧ ve (zH c ts) < 1000000 :=
 Y1 fun _ => by
  have h1 := wk 3 fun i => tab1 3 fun j => yr c ts ((i : Int) + 1) ((j : Int) + 1)
  have := zee (ls := tab2 3 fun i => tab1 3 fun j => yr c ts ((i : Int) + 1) ((j : Int) + 1)) (n := 3) fun l hl => by
   obtain ⟨i, _, rfl⟩ := List.mem_map.1 hl
   rw [zW]; omega
  omega
section
variable {h0 : H} {c : Int} {s : Sl} {ts : List Tile} {a b : Int}
theorem vl (r : Rd h0 s 4 (tcs ts)) (sz : ts.length ≤ 1048576) (ba : yN a) (bb : yN b) :
  callV SP i_f7 [.agg (SetC c s), i64 a, i64 b] h0 fun v h' => v = .tuple [i64 (zq c ts a b), i64 (zG (setOK c ts) (Size a b))] ∧ Ext h0 h' := by
 apply zDi
 unfold zhr
 refine zi fun h1 o1 x1 n1 => ?_
 refine zS fun h2 v2 x2 n2 => ?_
 refine zS fun h3 v3 x3 n3 => ?_
 have o3 := o1.ext (x2.trans x3)
 have w2 := v2.ext x3
 have x13 := x1.trans (x2.trans x3)
 refine o3.ldA rfl ?_
 refine (wG (r.ext x13) (by omega) _ _ (Size a b) fun _ h x => ?_).to ?_
 ·apply zxc
  unfold zbt
  refine (w2.ext x).ldI ?_
  refine (v3.ext x).ldI ?_
  exact areSizes_k.to fun b h' e => ⟨_, rfl, e⟩
 rintro n h4 ⟨rfl, x4⟩
 have X := x13.trans x4
 refine zL (fun hq => ⟨?_, X⟩) (fun hq => ?_)
 ·rw [zq, zK (zO hq)]
 have hc := zN hq
 refine (o3.ext x4).ldA rfl ?_
 refine (w2.ext x4).ldI ?_
 refine (v3.ext x4).ldI ?_
 refine (WR (r.ext X) hc.1 hc.2).to ?_
 rintro _ h5 ⟨rfl, x5⟩
 exact ⟨by rw [zq, zj hc, hq], X.trans x5⟩
theorem Yt (r : Rd h0 s 4 (tcs ts)) (sz : ts.length ≤ 1048576) (ba : yN a) (bb : yN b) :
  callV SP i_f8 [.agg (SetC c s), i64 a, i64 b] h0 fun v h' => v = .tuple [i64 (zq c ts a b), i64 (zG (setOK c ts) (Size a b))] ∧ Ext h0 h' := by
 apply zDe
 unfold zhp
 refine zi fun h1 o1 x1 n1 => ?_
 refine o1.ldA rfl ?_
 refine (zeQ (r.ext x1)).to ?_
 rintro n h4 ⟨rfl, x4⟩
 have X := x1.trans x4
 refine zL (fun hq => ⟨?_, X⟩) (fun hq => ?_)
 ·rw [zq, zK (zO hq)]
 have hc := zN hq
 refine (o1.ext x4).ldA rfl ?_
 refine (V8 (r.ext X) hc.1 hc.2).to ?_
 rintro _ h5 ⟨rfl, x5⟩
 exact ⟨by rw [zq, zj hc, hq], X.trans x5⟩
theorem ZV (r : Rd h0 s 4 (tcs ts)) (sz : ts.length ≤ 1048576) :
  callV SP zCW [.agg (SetC c s)] h0 fun v h' => ∃ w, v = .tuple [.sl w, i64 (zG (setOK c ts) True)] ∧ NewSS h0.length h' w (zH c ts) ∧ Ext h0 h' := by
 apply zyd
 unfold zdx
 refine zi fun h1 o1 x1 n1 => ?_
 refine o1.ldA rfl ?_
 refine (zdZ (r.ext x1) (by omega)).to ?_
 rintro e h2 ⟨he, x2⟩
 have X := x1.trans x2
 refine zF (fun hq => ⟨Sl.nil, ?_, ?_, X⟩) (fun hq => ?_)
 ·rw [yY fun hs => by rw [he.2 hs] at hq; cases hq]
 ·rw [zH, zK fun hs => by rw [he.2 hs] at hq; cases hq]; exact NewSS.nil _ _
 have hs := he.1 hq
 refine zm (by rfl) fun u h3 ou lu uo e3 => ?_
 have x3 : Ext h2 h3 := by rw [e3]; exact Ext.app _ _
 refine zsq _ _ _ (fun u i h => 1 ≤ i ∧ i ≤ 4 ∧ Ext h2 h ∧ NewSS h2.length h u (tab2 (i - 1).toNat fun i => tab1 3 fun j => yr c ts ((i : Int) + 1) ((j : Int) + 1))) (fun _ i _ => (4 - i).toNat) ?_ _ _ ⟨by omega, by omega, x3, NewSS.mk0 ou fun o e => by rw [uo] at e; cases e; exact Nat.le_refl _⟩
 rintro Z u i h ⟨i0, i1, x, n⟩ hZ
 unfold zsv zBA
 refine zc (fun hi => ?_) (fun hi => ⟨u, ?_, ?_, X.trans x⟩)
 rotate_left
 ·rw [zT hs trivial]
 ·rw [zH, zj hs]
  rw [show (i - 1).toNat = 3 by omega] at n
  exact n.le X.len
 refine zm (by rfl) fun t h4 ot lt to e4 => ?_
 have x4 : Ext h h4 := by rw [e4]; exact Ext.app _ _
 refine zsp _ _ Z _ _ _ (fun t k h' => 1 ≤ k ∧ k ≤ 4 ∧ Ext h h' ∧ Ow h' t 1 (ic (tab1 (k - 1).toNat fun j => yr c ts i ((j : Int) + 1))) ∧ Fr h.length t) (fun _ k _ => (4 - k).toNat) ?_ _ _ ⟨by omega, by omega, x4, ot, fun o e => by rw [to] at e; cases e; exact Nat.le_refl _⟩
 rintro Y t k h' ⟨k0, k1, x', ot, ft⟩ hY
 unfold zsu zBy zBz
 refine zc (fun hk => ?_) (fun hk => ?_)
 ·refine (o1.ext (x2.trans (x.trans x'))).ldA rfl ?_
  refine (WR (r.ext (X.trans (x.trans x'))) hs (a := i) (b := k) ⟨⟨by omega, by omega⟩, by omega, by omega⟩).to ?_
  rintro _ h5 ⟨rfl, x5⟩
  refine zCx (ot.ext x5) (by rw [zW]; unfold lim; omega) fun t' h6 ot' bt ft' => ?_
  rw [zd (by omega) (by omega)]
  refine hY _ _ _ ⟨by omega, by omega, (x'.trans x5).but_ bt (fun o e => ft o e), ?_, ft' _ ft (Nat.le_trans x'.len x5.len)⟩ (by omega)
  rw [show (k + 1 - 1).toNat = (k - 1).toNat + 1 by omega, YY, show (((k - 1).toNat : Nat) : Int) + 1 = k by omega]
  exact ot'
 ·rw [show (k - 1).toNat = 3 by omega] at ot
  refine (n.ext x').push ot ft x.len ⟨h, n, Nat.le_refl _, x'⟩ (by rw [wk]; unfold lim; omega) (Nat.le_trans x.len x'.len) fun u' h'' n' bt => ?_
  rw [zd (by omega) (by omega)]
  refine hZ _ _ _ ⟨by omega, by omega, (x.trans x').but_ bt (fun o e => n.fr o e), ?_⟩ (by omega)
  rw [show (i + 1 - 1).toNat = (i - 1).toNat + 1 by omega, qZ, show (((i - 1).toNat : Nat) : Int) + 1 = i by omega]
  exact n'
theorem ZE (r : Rd h0 s 4 (tcs ts)) (sz : ts.length ≤ 1048576) :
  callV SP zCV [.agg (SetC c s)] h0 fun v h' => ∃ w, v = .tuple [.sl w, i64 (zG (setOK c ts) True)] ∧ NewSS h0.length h' w (zH c ts) ∧ Ext h0 h' := by
 apply zyb
 unfold zdv
 refine zi fun h1 o1 x1 n1 => ?_
 refine o1.ldA rfl ?_
 refine (ZR (r.ext x1)).to ?_
 rintro e h2 ⟨he, x2⟩
 have X := x1.trans x2
 refine zF (fun hq => ⟨Sl.nil, ?_, ?_, X⟩) (fun hq => ?_)
 ·rw [yY fun hs => by rw [he.2 hs] at hq; cases hq]
 ·rw [zH, zK fun hs => by rw [he.2 hs] at hq; cases hq]; exact NewSS.nil _ _
 have hs := he.1 hq
 refine zm (by rfl) fun u h3 ou lu uo e3 => ?_
 have x3 : Ext h2 h3 := by rw [e3]; exact Ext.app _ _
 refine zsj _ _ _ (fun u i h => 1 ≤ i ∧ i ≤ 4 ∧ Ext h2 h ∧ NewSS h2.length h u (tab2 (i - 1).toNat fun i => tab1 3 fun j => yr c ts ((i : Int) + 1) ((j : Int) + 1))) (fun _ i _ => (4 - i).toNat) ?_ _ _ ⟨by omega, by omega, x3, NewSS.mk0 ou fun o e => by rw [uo] at e; cases e; exact Nat.le_refl _⟩
 rintro Z u i h ⟨i0, i1, x, n⟩ hZ
 unfold zso zBt
 refine zc (fun hi => ?_) (fun hi => ⟨u, ?_, ?_, X.trans x⟩)
 rotate_left
 ·rw [zT hs trivial]
 ·rw [zH, zj hs]
  rw [show (i - 1).toNat = 3 by omega] at n
  exact n.le X.len
 refine zm (by rfl) fun t h4 ot lt to e4 => ?_
 have x4 : Ext h h4 := by rw [e4]; exact Ext.app _ _
 refine zsi _ _ Z _ _ _ (fun t k h' => 1 ≤ k ∧ k ≤ 4 ∧ Ext h h' ∧ Ow h' t 1 (ic (tab1 (k - 1).toNat fun j => yr c ts i ((j : Int) + 1))) ∧ Fr h.length t) (fun _ k _ => (4 - k).toNat) ?_ _ _ ⟨by omega, by omega, x4, ot, fun o e => by rw [to] at e; cases e; exact Nat.le_refl _⟩
 rintro Y t k h' ⟨k0, k1, x', ot, ft⟩ hY
 unfold zsn zBr zBs
 refine zc (fun hk => ?_) (fun hk => ?_)
 ·refine (o1.ext (x2.trans (x.trans x'))).ldA rfl ?_
  refine (V8 (r.ext (X.trans (x.trans x'))) hs (a := i) (b := k) ⟨⟨by omega, by omega⟩, by omega, by omega⟩).to ?_
  rintro _ h5 ⟨rfl, x5⟩
  refine zCx (ot.ext x5) (by rw [zW]; unfold lim; omega) fun t' h6 ot' bt ft' => ?_
  rw [zd (by omega) (by omega)]
  refine hY _ _ _ ⟨by omega, by omega, (x'.trans x5).but_ bt (fun o e => ft o e), ?_, ft' _ ft (Nat.le_trans x'.len x5.len)⟩ (by omega)
  rw [show (k + 1 - 1).toNat = (k - 1).toNat + 1 by omega, YY, show (((k - 1).toNat : Nat) : Int) + 1 = k by omega]
  exact ot'
 ·rw [show (k - 1).toNat = 3 by omega] at ot
  refine (n.ext x').push ot ft x.len ⟨h, n, Nat.le_refl _, x'⟩ (by rw [wk]; unfold lim; omega) (Nat.le_trans x.len x'.len) fun u' h'' n' bt => ?_
  rw [zd (by omega) (by omega)]
  refine hZ _ _ _ ⟨by omega, by omega, (x.trans x').but_ bt (fun o e => n.fr o e), ?_⟩ (by omega)
  rw [show (i + 1 - 1).toNat = (i - 1).toNat + 1 by omega, qZ, show (((i - 1).toNat : Nat) : Int) + 1 = i by omega]
  exact n'
end
end Go.Proofs.YtlcgclmobfdbcaaGreat.Cl
set_option linter.unusedVariables false
set_option linter.unusedSimpArgs false
namespace Go.Proofs.YtlcgclmobfdbcaaGreat.Cl
open Go
theorem vJ {α β : Type} {f : α → List β} : ∀ (l : List α), (∀ x ∈ l, f x = []) → l.flatMap f = []
 | [], _ => rfl
 | a :: l, h => by rw [List.flatMap_cons, h a (by simp), vJ l fun x hx => h x (by simp [hx])]; rfl
theorem wZ {α β : Type} {f : α → List β} : ∀ (l : List α) (q : Nat) (hq : q < l.length), (∀ j (hj : j < l.length), j < q → f l[j] = []) → f l[q] ≠ [] → (l.flatMap f).head? = (f l[q]).head?
 | a :: l, 0, hq, _, h => by
  rw [List.flatMap_cons]
  simp only [List.getElem_cons_zero] at h ⊢
  cases hf : f a with
  | nil => exact absurd hf h
  | cons b m => rfl
 | a :: l, q + 1, hq, h0, h => by
  have := h0 0 (by simp) (by omega)
  simp only [List.getElem_cons_zero] at this
  rw [List.flatMap_cons, this, List.nil_append]
  simp only [List.getElem_cons_succ] at h ⊢
  exact wZ l q (by simpa using hq) (fun j hj hjq => by have := h0 (j + 1) (by simp; omega) (by omega); simpa using this) h
theorem zaa {α β : Type} (f : α → β) (l : List α) : (l.map f).head? = l.head?.map f := by cases l <;> rfl
theorem QY {W : Nat} : ∀ (ws : List (List Int)), (∀ w ∈ ws, w.length = W) → zgW ws.length W ws.flatten = ws := fun ws h => by
 have key : ∀ (ws : List (List Int)), (∀ w ∈ ws, w.length = W) → ∀ y (hy : y < ws.length), (ws.flatten.drop (y * W)).take W = ws[y] := fun ws => by
  induction ws with
  | nil => intro _ y hy; simp at hy
  | cons a l ih =>
   intro h y hy
   have ha := h a (by simp)
   cases y with
   | zero => simp [← ha]
   | succ y =>
    have := ih (fun w hw => h w (by simp [hw])) y (by simpa using hy)
    rw [List.flatten_cons, Nat.add_mul, Nat.one_mul, Nat.add_comm, ← List.drop_drop, ← ha, List.drop_left]
    rw [ha]
    simpa using this
 unfold zgW tab2
 apply List.ext_getElem (by simp)
 intro i h1 h2
 simp only [List.getElem_map, List.getElem_range]
 exact key ws h i h2
noncomputable def zZ (c : Int) (ts : List Tile) (a b : Int) : Option (List (List Int)) := (yp c ts b.toNat a.toNat).head?
theorem NewSS.nonnil {n h s ls} (r : NewSS n h s ls) (hl : ls ≠ []) : vG s = false := by
 have hlen := r.rd.len
 obtain ⟨vs, a1, a2, _⟩ := r
 have : 0 < ls.length := List.length_pos_iff.2 hl
 obtain ⟨p, q⟩ | ⟨o, p, _⟩ := a2.at_
 ·omega
 ·unfold vG; rw [p]; rfl
def fstF (_ : Option (List Int)) (l : List Int) : Option (List Int) × Bool := (some l, false)
theorem zvG (l : List (List Int)) : (runU fstF l none).1 = l.head? := by
 cases l with
 | nil => rfl
 | cons a l => simp [runU, fstF]
section
variable {h0 : H} {c : Int} {s : Sl} {ts : List Tile} {a b : Int}
theorem Yo (r : Rd h0 s 4 (tcs ts)) (hs : setOK c ts) (hz : Size a b) : callS SP zwl [.agg (SetC c s), i64 a, i64 b] h0 fun u h' => (match zZ c ts a b with | none => u = Sl.nil | some ws => ws ≠ [] ∧ NewSS h0.length h' u ws) ∧ Ext h0 h' := by
 obtain ⟨x, rfl⟩ : ∃ x : Nat, a = x := ⟨a.toNat, by have := hz.1; omega⟩
 obtain ⟨y, rfl⟩ : ∃ y : Nat, b = y := ⟨b.toNat, by have := hz.2; omega⟩
 have hx := hz.1; have hy := hz.2
 apply zxf
 unfold zbz
 refine zi fun h1 o1 x1 l1 => ?_
 refine zS fun h2 v2 x2 l2 => ?_
 refine v2.st _ fun h3 v3 b3 l3 => ?_
 have X3 : Ext h0 h3 := (x1.trans x2).but_ b3 (zn (by omega))
 have o3 := (o1.ext x2).but b3 (fun e => by have := Option.some.inj e; omega)
 refine o3.ldA rfl ?_
 refine (zyP (σ := Option (List Int)) (f := fstF) (H_ := x) (W := y) (I := fun t h => match t with
   | none => Var h h1.length (.sl Sl.nil)
   | some l => ∃ u, Var h h1.length (.sl u) ∧ NewP (fun i => h0.length ≤ i ∧ i ≠ h3.length + 2) h u (zgW x y l)) (t := none) r hs.2.1 (by omega) (by omega) X3 ?_ ?_ v3).to ?_
 ·intro t h h' i e
  cases t with
  | none => exact Var.but i e (fun e => by have := Option.some.inj e; omega)
  | some l =>
   obtain ⟨u, v, n⟩ := i
   exact ⟨u, v.but e (fun e => by have := Option.some.inj e; omega), n.chg (e.chg (P := fun i => i = h3.length + 2) fun i hi => by cases hi; rfl) fun i p _ => p.2⟩
 ·intro t l h h' u hl hxs i hlen n e
  have hv : ∃ v, Var h' h1.length v := by
   cases t with
   | none => exact ⟨_, i⟩
   | some l => obtain ⟨u, v, _⟩ := i; exact ⟨_, v⟩
  obtain ⟨v, hv⟩ := hv
  apply zuM
  unfold WL
  refine hv.st _ fun h'' v' b' _ => ⟨_, rfl, rfl, ⟨u, v', ?_⟩, b'.chg fun i e => by cases e; omega⟩
  have n2 : NewP (fun i => h0.length ≤ i ∧ i ≠ h3.length + 2 ∧ i ≠ h1.length) h' u (zgW x y l) := n.p fun i p q => ⟨by omega, by omega, by omega⟩
  have n3 := n2.chg (b'.chg (P := fun i => i = h1.length) fun i e => by cases e; rfl) fun i p _ => p.2.2
  obtain ⟨vs, c1, c2, c3, c4, c5⟩ := n3
  exact ⟨vs, c1, c2, fun o e => ⟨(c3 o e).1, (c3 o e).2.1⟩, fun i v l p q => ⟨(c4 i v l p q).1, fun o e => ⟨((c4 i v l p q).2 o e).1, ((c4 i v l p q).2 o e).2.1⟩⟩, c5⟩
 ·rintro _ h4 ⟨hi, e⟩
  rw [zvG, Xx hs.sides (by omega) (by omega), zaa] at hi
  have hX : Ext h0 h4 := e
  unfold zZ
  simp only [Int.toNat_natCast]
  cases hh : (yp c ts y x).head? with
  | none =>
   rw [hh] at hi
   exact Var.ldS hi ⟨_, rfl, rfl, hX⟩
  | some ws =>
   rw [hh] at hi
   obtain ⟨u, v, n⟩ := hi
   have hmem : ws ∈ yp c ts y x := List.mem_of_head? hh
   obtain ⟨f1, f2⟩ := YX (by omega) hmem
   have hr : zgW x y ws.flatten = ws := by
    have := QY (W := y) ws fun w hw => (f2 w hw).1
    rwa [f1] at this
   rw [hr] at n
   refine v.ldS ⟨_, rfl, ⟨?_, n.ss fun i p => p.1⟩, hX⟩
   intro hnil
   rw [hnil] at f1
   simp at f1
   omega
theorem cnt_pos {W n : Nat} {x y : Int} : cnt c ts W n x y ≠ 0 ↔ seqs c ts W n x y ≠ [] := by
 unfold cnt
 rw [Ne, List.length_eq_zero_iff]
theorem ZP (r : Rd h0 s 4 (tcs ts)) (hs : setOK c ts) (hz : Size a b) : callV SP znO [.agg (SetC c s), i64 a, i64 b] h0 fun v h' => ∃ u f, v = .tuple [.sl u, .bool f] ∧
  (match zZ c ts a b with | none => f = false ∧ u = Sl.nil | some ws => f = true ∧ NewSS h0.length h' u ws) ∧ Ext h0 h' := by
 obtain ⟨x, rfl⟩ : ∃ x : Nat, a = x := ⟨a.toNat, by have := hz.1; omega⟩
 obtain ⟨y, rfl⟩ : ∃ y : Nat, b = y := ⟨b.toNat, by have := hz.2; omega⟩
 have hx := hz.1; have hy := hz.2
 have S := hs.sides
 have hpw := xM (n := y) hs.1.1 hs.1.2 (by omega)
 obtain ⟨N, hN⟩ : ∃ N : Nat, (N : Int) = c ^ y := ⟨(c ^ y).toNat, by omega⟩
 have hwl : (zh ts y).length ≤ 4096 := z7 hs.2.1 (by omega) ([] : List Int)
 apply zxe
 unfold zbv
 generalize hKK : (fun (v : AVal) (h' : H) => ∃ u f, v = .tuple [.sl u, .bool f] ∧ (match zZ c ts x y with | none => f = false ∧ u = Sl.nil | some ws => f = true ∧ NewSS h0.length h' u ws) ∧ Ext h0 h') = KK
 have fin0 : ∀ h', zZ c ts x y = none → Ext h0 h' → KK (.tuple [.sl Sl.nil, .bool false]) h' := fun h' e x => by rw [← hKK]; exact ⟨_, _, rfl, by rw [e]; exact ⟨rfl, rfl⟩, x⟩
 have fin1 : ∀ u ws h', zZ c ts x y = some ws → NewSS h0.length h' u ws → Ext h0 h' → KK (.tuple [.sl u, .bool true]) h' := fun u ws h' e n x => by rw [← hKK]; exact ⟨_, _, rfl, by rw [e]; exact ⟨rfl, n⟩, x⟩
 clear hKK
 refine zi fun h1 o1 x1 l1 => ?_
 refine o1.ldA rfl ?_
 refine (ZN (r.ext x1) hs.2.1 S hs.1.2 (W := y) (by omega)).to ?_
 rintro _ h3 ⟨wq, tq, bq, rfl, nw, rt, rb, x3⟩
 refine ⟨_, rfl, _, rfl, _, rfl, _, rfl, _, rfl, _, rfl, ?_⟩
 have o3 := o1.ext x3
 have X3 := x1.trans x3
 refine zg (o3.ldI rfl rfl ?_)
 refine (ZQ hs.1.1 hs.1.2 (W := y) (by omega)).to ?_
 rintro _ h4 ⟨rfl, x4⟩
 rw [← hN] at hpw ⊢
 have hal := nw.rd.len
 have hgets : ∀ {k : Nat} (hk : k < (zh ts y).length), rw_ (zh ts y) k = (zh ts y)[k] := fun {k} hk => by unfold rw_; rw [List.getD_eq_getElem?_getD, List.getElem?_eq_getElem hk]; rfl
 generalize hp : (fun w : List Int => (seqs c ts y (x - 1) (cd c ts 3 w) (cd c ts 1 w)).map (w :: ·)) = pc
 have hfirst : zZ c ts x y = ((zh ts y).flatMap pc).head? := by rw [← hp]; rfl
 refine zqe _ _ _ _ _ _ _ _ (fun i h => 0 ≤ i ∧ i ≤ (zh ts y).length ∧ Ext h3 h ∧ ∀ j (hj : j < (zh ts y).length), j < i.toNat → pc (zh ts y)[j] = []) (fun i _ => ((zh ts y).length - i).toNat) ?_ _ ⟨by omega, by omega, x4, fun j hj h => by omega⟩
 rintro X i h ⟨i0, i1, e, hnone⟩ hX
 unfold zql zAJ zAI
 refine zc (fun hi => ?_) (fun hi => ?_)
 rotate_left
 ·refine fin0 _ ?_ (X3.trans e)
  rw [hfirst, vJ _ fun w hw => ?_]; rfl
  obtain ⟨q, hq, rfl⟩ := List.getElem_of_mem hw
  exact hnone q hq (by omega)
 obtain ⟨k, rfl⟩ : ∃ k : Nat, i = k := ⟨i.toNat, by omega⟩
 rw [Int.toNat_natCast] at hnone
 have hk : k < (zh ts y).length := by omega
 have hwd := yP (List.getElem_mem hk)
 have b1 := hwd.bound (k := 1) S (by omega)
 have b3 := hwd.bound (k := 3) S (by omega)
 rw [← hN] at b1 b3
 have hrt := rt.ext e
 have hrb := rb.ext e
 have XX := X3.trans e
 refine hrt.ldG (by omega) (by rw [List.length_map]; omega) ?_
 rw [Int.toNat_natCast, mapG hk]
 refine zm (by rfl) fun u g1 ou lu uo e1 => ?_
 have y1 : Ext h g1 := by rw [e1]; exact Ext.app _ _
 refine (o3.ext (e.trans y1)).ldA rfl ?_
 rw [zd (n := (x : Int) - 1) (by omega) (by omega), show (x : Int) - 1 = ((x - 1 : Nat) : Int) by omega]
 refine (ZO hs.2.1 S hs.1.2 (W := y) (by omega) (hrt.ext y1) (hrb.ext y1) hN (n := x - 1) (by omega) (x := cd c ts 1 (zh ts y)[k]) b1.1 b1.2).to ?_
 rintro u6 g5 ⟨ru, y5⟩
 refine (hrb.ext y1).ixC (by omega) (by rw [List.length_map]; omega) fun p hpc => ?_
 rw [Int.toNat_natCast, mapG hk] at hpc
 refine ⟨_, y5.cell hpc, ⟨(y5.cellE hpc).symm, ?_⟩⟩
 refine ru.ldG b3.1 (by rw [zW]; omega) ?_
 rw [wL (by omega), show (((cd c ts 3 (zh ts y)[k]).toNat : Nat) : Int) = cd c ts 3 (zh ts y)[k] by omega]
 have hpck : pc (zh ts y)[k] = (seqs c ts y (x - 1) (cd c ts 3 (zh ts y)[k]) (cd c ts 1 (zh ts y)[k])).map ((zh ts y)[k] :: ·) := by rw [← hp]
 refine zu (fun hq => ?_) (fun hq => ?_)
 ·rw [zd (by omega) (by omega)]
  refine hX _ _ ⟨by omega, by omega, (e.trans y1).trans y5, fun j hj hlt => ?_⟩ (by omega)
  by_cases ej : j = k
  ·subst ej
   rw [hpck]
   have : cnt c ts y (x - 1) (cd c ts 3 (zh ts y)[j]) (cd c ts 1 (zh ts y)[j]) = 0 := by omega
   unfold cnt at this
   rw [List.length_eq_zero_iff.1 this]; rfl
  ·exact hnone j hj (by omega)
 have hne : seqs c ts y (x - 1) (cd c ts 3 (zh ts y)[k]) (cd c ts 1 (zh ts y)[k]) ≠ [] := cnt_pos.1 (by omega)
 have hft : zZ c ts x y = (seqs c ts y (x - 1) (cd c ts 3 (zh ts y)[k]) (cd c ts 1 (zh ts y)[k])).head?.map ((zh ts y)[k] :: ·) := by
  rw [hfirst, wZ (zh ts y) k hk hnone (by rw [hpck]; simpa using hne), hpck, zaa]
 have nsu : NewSS h.length g1 u [] := NewSS.mk0 ou (fun o e => by rw [uo] at e; cases e; exact Nat.le_refl _)
 have nw5 := nw.ext ((e.trans y1).trans y5)
 refine nw5.rd.ldG (by omega) (by omega) fun v rv lv => ?_
 rw [Int.toNat_natCast, hgets hk] at rv
 have hwk := hwd.1
 refine (Q5 rv (by omega)).to ?_
 rintro z g6 ⟨oz, fz, y6⟩
 have ly1 := y1.len; have ly5 := y5.len; have ly6 := y6.len
 refine ((nsu.ext y5).ext y6).push oz fz (by omega) ⟨g1, nsu, by omega, y5.trans y6⟩ (by unfold lim; simp) (by omega) fun u' g8 nu bu => ?_
 have z8 : Ext h g8 := ((y1.trans y5).trans y6).but_ bu fun o e => nsu.fr o e
 refine (hrb.ext z8).ldG (by omega) (by rw [List.length_map]; omega) ?_
 rw [Int.toNat_natCast, mapG hk, zd (n := (x : Int) - 2) (by omega) (by omega)]
 generalize hx0 : cd c ts 1 (zh ts y)[k] = xt at *
 refine zqd _ _ _ _ _ _ _ _ _ (fun u nd m g => -1 ≤ m ∧ m ≤ (x : Int) - 2 ∧ Ext h g ∧ (0 ≤ nd ∧ nd < N) ∧ ∃ ws rest, NewSS h.length g u ws ∧ ws.length + (m + 1).toNat = x ∧ (seqs c ts y (m + 1).toNat nd xt).head? = some rest ∧ zZ c ts x y = some (ws ++ rest)) (fun _ _ m _ => (m + 1).toNat) ?_ _ _ _ ?_
 rotate_left
 ·refine ⟨by omega, by omega, z8, b3, [(zh ts y)[k]], ?_⟩
  rw [show ((x : Int) - 2 + 1).toNat = x - 1 by omega]
  cases hh : (seqs c ts y (x - 1) (cd c ts 3 (zh ts y)[k]) xt).head? with
  | none => exact absurd (List.head?_eq_none_iff.1 hh) hne
  | some rest =>
   rw [hh] at hft
   exact ⟨rest, nu, by simp; omega, rfl, by rw [hft]; rfl⟩
 clear hX hnone hq nu bu z8 oz fz rv ru hpc nsu hft hne hpck
 rintro Y u nd m g ⟨m0, m1, eg, hnd, ws, rest, n, hl, hh, hf⟩ hY
 unfold zqk zAH
 refine zc (fun hm => ?_) (fun hm => ?_)
 rotate_left
 ·rw [show (m + 1).toNat = 0 by omega] at hh
  have hrest : rest = [] := by
   have := (Xk (List.mem_of_head? hh)).2
   simpa using this
  subst hrest
  rw [List.append_nil] at hf
  exact fin1 _ _ _ hf (n.le XX.len) (XX.trans eg)
 obtain ⟨q, rfl⟩ : ∃ q : Nat, m = q := ⟨m.toNat, by omega⟩
 rw [show ((q : Int) + 1).toNat = q + 1 by omega] at hh hl
 refine (o3.ext (e.trans eg)).ldA rfl ?_
 have hx0' : 0 ≤ xt ∧ xt < N := b1
 refine (ZO hs.2.1 S hs.1.2 (W := y) (by omega) (hrt.ext eg) (hrb.ext eg) hN (n := q) (by omega) (x := xt) hx0'.1 hx0'.2).to ?_
 rintro u2 g2 ⟨ru2, y2⟩
 generalize hpp : (fun w : List Int => sel (cd c ts 1 w = nd) ((seqs c ts y q (cd c ts 3 w) xt).map (w :: ·)) []) = pp
 have hsq : seqs c ts y (q + 1) nd xt = (zh ts y).flatMap pp := by rw [← hpp]; rfl
 refine zqc _ _ _ Y _ _ _ _ _ _ _ _ (fun u' nd' i g' => 0 ≤ i ∧ i ≤ (zh ts y).length ∧ u = u' ∧ nd = nd' ∧ g2 = g' ∧ ∀ j (hj : j < (zh ts y).length), j < i.toNat → pp (zh ts y)[j] = []) (fun _ _ i _ => ((zh ts y).length - i).toNat) ?_ _ _ _ ⟨by omega, by omega, rfl, rfl, rfl, fun j hj h => by omega⟩
 rintro Z _ _ i _ ⟨i0, i1, rfl, rfl, rfl, hno⟩ hZ
 unfold zqj zqm zAG
 have EG := eg.trans y2
 have ht2 := hrt.ext EG
 have hb2 := hrb.ext EG
 have hbl := rb.ilen
 rw [List.length_map] at hbl
 have htl := rt.ilen
 rw [List.length_map] at htl
 refine zc (fun hi2 => ?_) (fun hi2 => ?_)
 rotate_left
 ·exfalso
  rw [hsq, vJ _ fun w hw => ?_] at hh
  ·cases hh
  ·obtain ⟨j, hj, rfl⟩ := List.getElem_of_mem hw
   exact hno j hj (by omega)
 obtain ⟨j, rfl⟩ : ∃ j : Nat, i = j := ⟨i.toNat, by omega⟩
 rw [Int.toNat_natCast] at hno
 have hj : j < (zh ts y).length := by omega
 have hwd2 := yP (List.getElem_mem hj)
 have c1 := hwd2.bound (k := 1) S (by omega)
 have c3 := hwd2.bound (k := 3) S (by omega)
 rw [← hN] at c1 c3
 have hppj : pp (zh ts y)[j] = sel (cd c ts 1 (zh ts y)[j] = nd) ((seqs c ts y q (cd c ts 3 (zh ts y)[j]) xt).map ((zh ts y)[j] :: ·)) [] := by rw [← hpp]
 have more : pp (zh ts y)[j] = [] → Z (XE ⟨some h0.length, 2, 0⟩ wq tq bq (N : Int) xt u nd (q : Int) u2 (w64 ((j : Int) + 1))) g2 := fun hpj => by
  rw [zd (by omega) (by omega)]
  refine hZ _ _ _ _ ⟨by omega, by omega, rfl, rfl, rfl, fun j' hj' hlt => ?_⟩ (by omega)
  by_cases ej : j' = j
  ·subst ej; exact hpj
  ·exact hno j' hj' (by omega)
 refine ht2.ldG (by omega) (by rw [List.length_map]; omega) ?_
 rw [Int.toNat_natCast, mapG hj]
 refine zu (fun hq1 => ?_) (fun hq1 => more (by rw [hppj, zK hq1]))
 refine hb2.ldG (by omega) (by rw [List.length_map]; omega) ?_
 rw [Int.toNat_natCast, mapG hj]
 refine ru2.ldG c3.1 (by rw [zW]; omega) ?_
 rw [wL (by omega), show (((cd c ts 3 (zh ts y)[j]).toNat : Nat) : Int) = cd c ts 3 (zh ts y)[j] by omega]
 refine zc (fun hq2 => ?_) (fun hq2 => more ?_)
 rotate_left
 ·rw [hppj, zj hq1]
  have : cnt c ts y q (cd c ts 3 (zh ts y)[j]) xt = 0 := by omega
  unfold cnt at this
  rw [List.length_eq_zero_iff.1 this]; rfl
 have hne2 : seqs c ts y q (cd c ts 3 (zh ts y)[j]) xt ≠ [] := cnt_pos.1 (by omega)
 rw [hsq, wZ (zh ts y) j hj hno (by rw [hppj, zj hq1]; simpa using hne2), hppj, zj hq1, zaa] at hh
 have nw2 := nw.ext (e.trans EG)
 refine nw2.rd.ldG (by omega) (by omega) fun v rv lv => ?_
 rw [Int.toNat_natCast, hgets hj] at rv
 have hwk2 := hwd2.1
 refine (Q5 rv (by omega)).to ?_
 rintro z g8 ⟨oz, fz, y8⟩
 have ly2 := y2.len; have ly8 := y8.len; have leg := eg.len
 refine ((n.ext y2).ext y8).push oz fz (by omega) ⟨g2, n.ext y2, by omega, y8⟩ (by unfold lim; omega) (by omega) fun u' g9 nu bu => ?_
 have z9 : Ext h g9 := (EG.trans y8).but_ bu fun o e => n.fr o e
 refine (hrb.ext z9).ldG (by omega) (by rw [List.length_map]; omega) ?_
 rw [Int.toNat_natCast, mapG hj, zd (n := (q : Int) - 1) (by omega) (by omega)]
 refine hY _ _ _ _ ⟨by omega, by omega, z9, c3, ws ++ [(zh ts y)[j]], ?_⟩ (by omega)
 rw [show ((q : Int) - 1 + 1).toNat = q by omega]
 cases hh2 : (seqs c ts y q (cd c ts 3 (zh ts y)[j]) xt).head? with
 | none => exact absurd (List.head?_eq_none_iff.1 hh2) hne2
 | some rest' =>
  rw [hh2] at hh
  have hr : (zh ts y)[j] :: rest' = rest := Option.some.inj hh
  exact ⟨rest', nu, by simp; omega, rfl, by rw [hf, ← hr]; simp⟩
end
open Classical in
noncomputable def xV (A B T : Prop) : Int := if zG A B = 0 then (if T then 0 else 4) else zG A B
theorem Zt {A B T : Prop} (h : zG A B ≠ 0) : xV A B T = zG A B := by unfold xV; rw [if_neg h]
theorem WS {A B T : Prop} (h : zG A B = 0) (t : ¬ T) : xV A B T = 4 := by unfold xV; rw [if_pos h, if_neg t]
theorem WT {A B T : Prop} (h : zG A B = 0) (t : T) : xV A B T = 0 := by unfold xV; rw [if_pos h, if_pos t]
noncomputable def zI (c : Int) (ts : List Tile) (a b : Int) : List (List Int) := sel (setOK c ts ∧ Size a b) ((zZ c ts a b).getD []) []
theorem Xz {c : Int} {ts : List Tile} {a b : Int} (hz : Size a b) {ws} (h : zZ c ts a b = some ws) : ws.length ≤ 3 ∧ ∀ w ∈ ws, w.length ≤ 3 := by
 have h1 := hz.1; have h2 := hz.2
 obtain ⟨f1, f2⟩ := YX (by omega) (List.mem_of_head? h)
 exact ⟨by omega, fun w hw => by have := (f2 w hw).1; omega⟩
theorem Qg {o : Option (List (List Int))} (h : ∀ ws, o = some ws → ws.length ≤ 3 ∧ ∀ w ∈ ws, w.length ≤ 3) : (o.getD []).length < 1000000 ∧ ve (o.getD []) < 1000000 := by
 cases o with
 | none => exact zej
 | some ws =>
  have := h ws rfl
  have := zee (ls := ws) (n := 3) this.2
  show ws.length < 1000000 ∧ ve ws < 1000000
  omega
theorem Ye {c : Int} {ts : List Tile} {a b : Int} (sz : ts.length ≤ 1048576) (ba : yN a) (bb : yN b) : (zI c ts a b).length < 1000000 ∧ ve (zI c ts a b) < 1000000 :=
 Y1 fun h => Qg fun ws e => Xz h.2 e
section
variable {h0 : H} {c : Int} {s : Sl} {ts : List Tile} {a b : Int}
theorem ZX (r : Rd h0 s 4 (tcs ts)) (sz : ts.length ≤ 1048576) (ba : yN a) (bb : yN b) :
  callV SP i_f5 [.agg (SetC c s), i64 a, i64 b] h0 fun v h' => ∃ w, v = .tuple [.sl w, i64 (xV (setOK c ts) (Size a b) (zZ c ts a b ≠ none))] ∧ NewSS h0.length h' w (zI c ts a b) ∧ Ext h0 h' := by
 apply zDu
 unfold zhv
 refine zi fun h1 o1 x1 n1 => ?_
 refine zS fun h2 v2 x2 n2 => ?_
 refine zS fun h3 v3 x3 n3 => ?_
 have o3 := o1.ext (x2.trans x3)
 have w2 := v2.ext x3
 have x13 := x1.trans (x2.trans x3)
 refine o3.ldA rfl ?_
 refine (wG (r.ext x13) (by omega) _ _ (Size a b) fun _ h x => ?_).to ?_
 ·apply zxh
  unfold zbD
  refine (w2.ext x).ldI ?_
  refine (v3.ext x).ldI ?_
  exact areSizes_k.to fun b h' e => ⟨_, rfl, e⟩
 rintro n h4 ⟨rfl, x4⟩
 have X := x13.trans x4
 refine zL (fun hq => ⟨Sl.nil, ?_, ?_, X⟩) (fun hq => ?_)
 ·rw [Zt hq]
 ·rw [zI, zK (zO hq)]; exact NewSS.nil _ _
 have hc := zN hq
 refine (o3.ext x4).ldA rfl ?_
 refine (w2.ext x4).ldI ?_
 refine (v3.ext x4).ldI ?_
 refine (Yo (r.ext X) hc.1 hc.2).to ?_
 rintro u h5 ⟨hu, x5⟩
 rw [zI, zj hc]
 cases hf : zZ c ts a b with
 | none =>
  rw [hf] at hu
  have hu' : u = Sl.nil := hu
  subst hu'
  refine yE (fun _ => ⟨Sl.nil, ?_, NewSS.nil _ _, X.trans x5⟩) (fun e => absurd (show true = false from e) (by decide))
  rw [WS hq fun f => f rfl]
 | some ws =>
  rw [hf] at hu
  obtain ⟨hne, nu⟩ := hu
  refine yE (fun e => ?_) (fun _ => ⟨u, ?_, nu.le X.len, X.trans x5⟩)
  ·rw [nu.nonnil hne] at e; cases e
  ·rw [WT hq (by simp)]
theorem ZG (r : Rd h0 s 4 (tcs ts)) (sz : ts.length ≤ 1048576) (ba : yN a) (bb : yN b) :
  callV SP i_f6 [.agg (SetC c s), i64 a, i64 b] h0 fun v h' => ∃ w, v = .tuple [.sl w, i64 (xV (setOK c ts) (Size a b) (zZ c ts a b ≠ none))] ∧ NewSS h0.length h' w (zI c ts a b) ∧ Ext h0 h' := by
 apply zDp
 unfold zht
 refine zi fun h1 o1 x1 n1 => ?_
 refine o1.ldA rfl ?_
 refine (zeQ (r.ext x1)).to ?_
 rintro n h4 ⟨rfl, x4⟩
 have X := x1.trans x4
 refine zL (fun hq => ⟨Sl.nil, ?_, ?_, X⟩) (fun hq => ?_)
 ·rw [Zt hq]
 ·rw [zI, zK (zO hq)]; exact NewSS.nil _ _
 have hc := zN hq
 refine (o1.ext x4).ldA rfl ?_
 refine (ZP (r.ext X) hc.1 hc.2).to ?_
 rintro _ h5 ⟨u, f, rfl, hu, x5⟩
 refine ⟨_, rfl, _, rfl, _, rfl, _, rfl, ?_⟩
 rw [zI, zj hc]
 cases hf : zZ c ts a b with
 | none =>
  rw [hf] at hu
  obtain ⟨rfl, rfl⟩ := hu
  refine zF (fun _ => ⟨Sl.nil, ?_, NewSS.nil _ _, X.trans x5⟩) (fun e => by cases e)
  rw [WS hq fun f => f rfl]
 | some ws =>
  rw [hf] at hu
  obtain ⟨rfl, nu⟩ := hu
  refine zF (fun e => by cases e) (fun _ => ⟨u, ?_, nu.le X.len, X.trans x5⟩)
  rw [WT hq (by simp)]
end
end Go.Proofs.YtlcgclmobfdbcaaGreat.Cl
set_option linter.unusedVariables false
set_option linter.unusedSimpArgs false
namespace Go.Proofs.YtlcgclmobfdbcaaGreat.Cl
open Go
theorem NewSS.pushCX {n : Nat} {g g' : H} {s : Sl} {ls : List (List Int)} {P : Nat → Prop} (r0 : NewSS n g s ls) (c : Chg P g g') (hn : ∀ i, n ≤ i → i < g.length → ¬ P i) {v : Sl} {l : List Int} (ov : Ow g' v 1 (ic l)) (fv : Fr g.length v) (hng : n ≤ g.length) (hl : (ls.length : Int) + 1 ≤ lim) {K : Sl → H → Prop}
  (hk : ∀ s' h', NewSS n h' s' (ls ++ [l]) → But s.o g' h' → (∀ o, s.o = some o → s'.o = some o) → K s' h') : newS 1 1 [.sl v] g' fun t h1 => Cl.app s t 1 h1 K := by
 refine zm (by rfl) fun t h1 ot tl to e1 => ?_
 have x1 : Ext g' h1 := by rw [e1]; exact Ext.app _ _
 have c1 : Chg P g h1 := c.trans (x1.chg P)
 have r1 := r0.chg c1 hn
 have cl := c.1
 have xl := x1.len
 obtain ⟨vs, a1, a2, a3, a4, a5, a6⟩ := r0
 have hs0 : ∀ o, s.o = some o → o < g.length := fun o e => a2.lt e
 have own1 := a2.chg c1 fun i e => hn i (a3 i e) (a2.lt e)
 refine r1.app (ov.ext x1) (fv.le hng) (fun o e => ⟨fun e2 => ?_, fun us hu w hw e2 => ?_⟩) ot.rd hl (by omega) fun s' h' n' b k1 _ => hk s' h' n' ((x1.but _).trans b) k1
 ·have := fv o e; have := hs0 o e2; omega
 ·have hq : us = vs := by
   have a := hu.rd.sread (by omega)
   have b := own1.rd.sread (by omega)
   rw [a] at b
   have : us.map AVal.sl = vs.map AVal.sl := Option.some.inj b
   exact List.map_inj_right (fun a b e => by simpa using e) |>.1 this
  subst hq
  obtain ⟨i, hi⟩ := List.getElem?_of_mem hw
  obtain ⟨l', hl'⟩ := wC a1 hi
  have := (a4 i w l' hi hl').1.lt e2
  have := fv o e
  omega
section
variable {h : H} {o : Nat}
theorem zCw {g : H} {s : Sl} {l : List Int} {x : Int} (r : Ow g s 1 (ic l)) (hl : (l.length : Int) + 1 ≤ lim) {K : Sl → H → Prop}
  (hk : ∀ s' h', Ow h' s' 1 (ic (l ++ [x])) → But s.o g h' → (∀ o, s'.o = some o → s.o = some o ∨ g.length ≤ o) → g.length ≤ h'.length → K s' h') : newS 1 1 [.int .i64 x] g fun t h1 => app s t 1 h1 K :=
 zCv r (by rw [xz]; exact hl) fun s' h' o b f l => hk s' h' (by rw [Xu]; exact o) b f l
def RdSF (n : Nat) (h : H) (s : Sl) (ls : List (List Int)) : Prop := ∃ vs : List Sl, vs.length = ls.length ∧ Rd h s 1 (vs.map .sl) ∧ Fr n s ∧ ∀ (i : Nat) v l, vs[i]? = some v → ls[i]? = some l → Rd h v 1 (ic l) ∧ Fr n v
theorem RdSF.rd {n : Nat} {s : Sl} {ls : List (List Int)} (r : RdSF n h s ls) : RdSS h s ls := by
 obtain ⟨vs, a, b, _, d⟩ := r
 exact ⟨vs, a, b, fun i v l x y => (d i v l x y).1⟩
theorem RdSF.le {n m : Nat} {s : Sl} {ls : List (List Int)} (r : RdSF n h s ls) (hm : m ≤ n) : RdSF m h s ls := by
 obtain ⟨vs, a, b, c, d⟩ := r
 exact ⟨vs, a, b, c.le hm, fun i v l x y => ⟨(d i v l x y).1, (d i v l x y).2.le hm⟩⟩
theorem RdSF.chg {n : Nat} {h' : H} {s : Sl} {ls : List (List Int)} {P : Nat → Prop} (r : RdSF n h s ls) (c : Chg P h h') (hP : ∀ i, n ≤ i → ¬ P i) : RdSF n h' s ls := by
 obtain ⟨vs, a, b, f, d⟩ := r
 exact ⟨vs, a, b.chg c fun i e => hP i (f i e), f, fun i v l x y => ⟨(d i v l x y).1.chg c fun k e => hP k ((d i v l x y).2 k e), (d i v l x y).2⟩⟩
theorem NewSS.sf {n : Nat} {s : Sl} {ls : List (List Int)} (r : NewSS n h s ls) : RdSF n h s ls := by
 obtain ⟨vs, a, b, f, d, _⟩ := r
 exact ⟨vs, a, b.rd, f, fun i v l x y => ⟨(d i v l x y).1.rd, (d i v l x y).2⟩⟩
def zvo (h : H) (o : Nat) (w : Sl) (h' : H) : Prop := ∃ rows, RdSF h.length h' w rows ∧ rows.length ≤ 100 ∧ (∀ l ∈ rows, l.length ≤ 100) ∧ Src h' o ∧ Chg (fun i => i = o) h h'
def Bel (n : Nat) (rows : List (List Int)) : Prop := ∀ l ∈ rows, ∀ x ∈ l, 0 ≤ x ∧ x < (n : Int)
theorem zmj (r : Src h o) {u : Sl} {c : Int} {ts : List Tile} (ru : Rd h u 4 (tcs ts)) (fu : ∀ i, u.o = some i → i ≠ o) (h1n : 1 ≤ ts.length) (hn : ts.length ≤ 1000) : callS SP zeZ [.ptr ⟨some o, 3, 0⟩, .agg (SetC c u)] h (zvo h o) := by
 have hlt := r.lt
 have hul := ru.tlen
 apply ztU
 unfold Wp
 refine zi fun h1 a1 x1 n1 => ?_
 have r1 := r.ext x1
 refine (ya r1 4).to ?_
 rintro A h2 ⟨hA, r2, b2, l2⟩
 have hA1 := hA.1
 have hA2 := hA.2.1 (by omega)
 refine (ya r2 4).to ?_
 rintro B h3 ⟨hB, r3, b3, l3⟩
 have hB1 := hB.1
 have hB2 := hB.2.1 (by omega)
 have c13 : Chg (fun i => i = o ∨ h1.length ≤ i) h1 h3 := (r1.self b2).trans (r2.self b3)
 refine zm (by rfl) fun s h4 os ls so e4 => ?_
 have x4 : Ext h3 h4 := by rw [e4]; exact Ext.app _ _
 have n4 : h4.length = h3.length + 1 := by rw [e4]; simp
 have c14 := c13.trans (x4.chg _)
 have acc : ∀ {g : H}, Chg (fun i => i = o ∨ h1.length ≤ i) h1 g → Obj g h.length (SetC c u) ∧ Rd g u 4 (tcs ts) := fun {g} cg => ⟨a1.chg cg (by omega), (ru.ext x1).keep (P := fun i => i = o) cg fun i e => fu i e⟩
 have up : ∀ {g : H}, Chg (fun i => i = o ∨ h1.length ≤ i) h1 g → Chg (fun i => i = o) h g := fun {g} cg => ((x1.chg (fun i => i = o)).trans (Chg.refl _ _)).trans ⟨cg.1, fun i hi hno => by
  by_cases hh : i < h1.length
  ·exact cg.2 i hi fun e => by omega
  ·omega⟩
 have a4 := (acc c14).1
 refine zg (a4.ldS rfl rfl ?_)
 refine ⟨((acc c13).1.cellE rfl).trans (a4.cellE rfl).symm, ?_⟩
 rw [zd (n := 1 + A) (by omega) (by omega), zd (n := 1 + B) (by omega) (by omega)]
 -- the end
 have fin : ∀ {w : Sl} {g : H} {rows : List (List Int)}, NewSS h1.length g w rows → 1 ≤ rows.length → rows.length ≤ 10 → (∀ l ∈ rows, 1 ≤ l.length ∧ l.length ≤ 10) → Src g o → Chg (fun i => i = o ∨ h1.length ≤ i) h1 g → zij SP (fun v h' => ∃ r, v = .sl r ∧ zvo h o r h') ⟨some o, 3, 0⟩ w (u.len : Int) g := fun {w g rows} nw hr1 hr2 hrl rg cg => by
  unfold zij
  have hcg := cg.1
  refine (ya rg 24).to ?_
  rintro z g1 ⟨_, rg1, b1, l1⟩
  have c1 := cg.trans (rg.self b1)
  have nw1 := nw.chg (b1.chg (P := fun i => i = o) fun i e => (Option.some.inj e).symm) fun i hi hi2 => by omega
  have hlast : ∀ l ∈ rows, l.length ≤ 100 := fun l hl => by have := hrl l hl; omega
  refine zu (fun _ => ?_) (fun _ => ?_)
  ·refine zm (by rfl) fun v g2 ov lv vo e2 => ?_
   have y2 : Ext g1 g2 := by rw [e2]; exact Ext.app _ _
   refine nw1.pushCX (y2.chg fun _ => False) (fun _ _ _ f => f) (l := []) ov (fun i e => by rw [vo] at e; cases e; exact Nat.le_refl _) (by omega) (by unfold lim; omega) fun w' g3 nw3 b3' k3 => ?_
   refine ⟨w', rfl, _, nw3.sf.le (by omega), by rw [List.length_append, List.length_singleton]; omega, fun l hl => ?_, (rg1.ext y2).but b3' fun i e => ?_, up ((c1.trans (y2.chg _)).trans (b3'.chg fun i e => ?_))⟩
   ·rcases List.mem_append.1 hl with hl | hl
    ·exact hlast l hl
    ·rw [List.mem_singleton] at hl; subst hl; simp
   ·obtain ⟨_, _, _, f, _⟩ := nw1; have := f i e; omega
   ·obtain ⟨_, _, _, f, _⟩ := nw1; exact .inr (f i e)
  refine zu (fun _ => ?_) (fun _ => ?_)
  ·obtain ⟨vs, e1, e2, e3, e4, e5, e6⟩ := nw1
   have hv0 : vs[0]? = some vs[0] := List.getElem?_eq_getElem (by omega)
   have hr0 : rows[0]? = some rows[0] := List.getElem?_eq_getElem (by omega)
   have hwl : w.len = vs.length := by have := e2.len; simp at this; omega
   refine e2.rd.ldS (by omega) (by omega) fun v hv' => ?_
   rw [show (0 : Int).toNat = 0 from rfl, hv0] at hv'
   have hve := Option.some.inj hv'
   subst hve
   have hl0 := hrl rows[0] (List.getElem_mem _)
   refine ZJ rg1 (l := [-1, (u.len : Int)]) rfl rfl (by simp) fun y g2 hy rg2 c2 => ?_
   have rowC : ∀ (i : Nat) v l, vs[i]? = some v → rows[i]? = some l → Ow g2 v 1 (ic l) ∧ Fr h1.length v := fun i v l a b => by
    obtain ⟨p, q⟩ := e4 i v l a b
    exact ⟨p.chg c2 fun i e => by have := q i e; omega, q⟩
   obtain ⟨r0, f0⟩ := rowC 0 _ _ hv0 hr0
   have e4' : ∀ {y : Int} (i : Nat) v l, vs[i]? = some v → (rows.set 0 (rows[0].set (0 : Int).toNat y))[i]? = some l → Fr h1.length v := fun {y} i v l a b => by
    have hi : i < rows.length := by have := (List.getElem?_eq_some_iff.1 a).1; omega
    exact (e4 i v rows[i] a (List.getElem?_eq_getElem hi)).2
   have hvl := r0.rd.ilen
   refine r0.stI (by omega) (by omega) _ fun g3 o3 b3' l3 => ?_
   refine ⟨w, rfl, rows.set 0 (rows[0].set (0 : Int).toNat y), ⟨vs, by simpa using e1, (e2.chg c2 fun i e => by have := e3 i e; omega).rd.but b3' ?_, e3.le (by omega), fun i v l a b => ⟨?_, (e4' i v l a b).le (by omega)⟩⟩, by rw [List.length_set]; omega, fun l hl => ?_, rg2.but b3' fun i e => by have := f0 i e; omega, up ((c1.trans (c2.to fun i _ e => .inl e)).trans (b3'.chg fun i e => .inr (f0 i e)))⟩
   ·cases hq : vs[0].o with
    | none => exact .inr rfl
    | some i => exact .inl fun e => e6 0 _ hv0 i hq e.symm
   ·rw [List.getElem?_set] at b
    by_cases hi : 0 = i
    ·subst hi
     rw [if_pos rfl, if_pos (by omega)] at b
     rw [hv0] at a
     rw [← Option.some.inj a, ← Option.some.inj b]
     exact o3.rd
    ·rw [if_neg hi] at b
     refine (rowC i v l a b).1.rd.but b3' ?_
     cases hq : vs[0].o with
     | none => exact .inr rfl
     | some k => exact .inl fun e => e5 0 i _ _ hi hv0 a k hq e.symm
   ·rcases List.mem_or_eq_of_mem_set hl with hl | hl
    ·exact hlast l hl
    ·subst hl; rw [List.length_set]; omega
  refine zu (fun _ => ?_) (fun _ => ?_)
  ·refine zm (by rfl) fun w' g2 ow2 lw wo e => ?_
   have x : Ext g1 g2 := by rw [e]; exact Ext.app _ _
   exact ⟨w', rfl, [], ⟨[], rfl, ow2.rd, fun i ei => (by rw [wo] at ei; have := Option.some.inj ei; omega), fun i v l a => (by simp at a)⟩, by simp, fun l hl => (by cases hl), rg1.ext x, up (c1.trans (x.chg _))⟩
  ·exact ⟨w, rfl, rows, nw1.sf.le (by omega), by omega, hlast, rg1, up c1⟩
 refine zlM _ _ _ _ _ _ _ (fun w i g => ∃ (k : Nat) (rows : List (List Int)), i = k ∧ (k : Int) ≤ 1 + A ∧ rows.length = k ∧ NewSS h1.length g w rows ∧ (∀ l ∈ rows, (l.length : Int) = 1 + B) ∧ Bel ts.length rows ∧ Src g o ∧ Chg (fun i => i = o ∨ h1.length ≤ i) h1 g) (fun _ i _ => (1 + A - i).toNat) ?_ _ _
  ⟨0, [], rfl, by omega, rfl, NewSS.mk0 os (fun i e => by rw [so] at e; have := Option.some.inj e; have := c13.1; omega), fun l hl => (by cases hl), fun l hl => (by cases hl), r3.ext x4, c14⟩
 rintro X w _ g ⟨k, rows, rfl, hk, hrl, nw, hrw, hbel, rg, cg⟩ hX
 have hcg := cg.1
 unfold zii
 refine zc (fun hi => ?_) (fun hi => fin nw (by omega) (by omega) (fun l hl => by have := hrw l hl; omega) rg cg)
 refine zm (by rfl) fun s2 g1 os2 ls2 so2 e2 => ?_
 have y1 : Ext g g1 := by rw [e2]; exact Ext.app _ _
 have m1 : g1.length = g.length + 1 := by rw [e2]; simp
 refine zlL _ _ X _ _ _ _ _ _ _ (fun s i g' => ∃ (x : Nat) (row : List Int), i = x ∧ (x : Int) ≤ 1 + B ∧ row.length = x ∧ Ow g' s 1 (ic row) ∧ s.o.isSome = true ∧ Fr g.length s ∧ (∀ y ∈ row, 0 ≤ y ∧ y < (ts.length : Int)) ∧ Src g' o ∧ Chg (fun i => i = o ∨ g.length ≤ i) g g') (fun _ i _ => (1 + B - i).toNat) ?_ _ _
  ⟨0, [], rfl, by omega, rfl, os2, by rw [so2]; rfl, fun i e => (by rw [so2] at e; cases e; exact Nat.le_refl _), fun y hy => (by cases hy), rg.ext y1, y1.chg _⟩
 rintro X2 s _ g2 ⟨x, row, rfl, hx, hxl, ow, _, fs, hrow, rg2, cg2⟩ hX2
 have hcg2 := cg2.1
 unfold zih
 have cg2' : Chg (fun i => i = o ∨ h1.length ≤ i) h1 g2 := cg.trans (cg2.to fun i _ e => e.imp id fun e => by omega)
 refine zc (fun hi2 => ?_) (fun hi2 => ?_)
 rotate_left
 ·unfold ztZ
  refine nw.pushCX cg2 (fun i hi hi2 e => by omega) ow fs hcg (by unfold lim; omega) fun w' g3 nw3 b3' _ => ?_
  unfold zua
  rw [zd (n := (k : Int) + 1) (by omega) (by omega)]
  have fw : ∀ i, w.o = some i → h1.length ≤ i := by obtain ⟨_, _, _, f, _⟩ := nw; exact f
  refine hX _ _ _ ⟨k + 1, _, by push_cast; rfl, by omega, by rw [List.length_append, List.length_singleton]; omega, nw3, fun l hl => ?_, fun l hl => ?_, rg2.but b3' fun i e => by have := fw i e; omega, cg2'.trans (b3'.chg fun i e => .inr (fw i e))⟩ (by omega)
  ·rcases List.mem_append.1 hl with hl | hl
   ·exact hrw l hl
   ·rw [List.mem_singleton] at hl; subst hl; omega
  ·rcases List.mem_append.1 hl with hl | hl
   ·exact hbel l hl
   ·rw [List.mem_singleton] at hl; subst hl; exact hrow
 refine (ya rg2 _).to ?_
 rintro own g3 ⟨hown, rg3, b3', l3'⟩
 have ho1 := hown.1
 have ho2 := hown.2.1 (by omega)
 have cg3 := cg2.trans (rg2.self b3')
 have cg3' := cg2'.trans (rg2.self b3')
 have ow3 := ow.but b3' (.inl fun e => by have := fs _ e.symm; omega)
 have nw3 := nw.chg cg3 fun i hi hi2 e => by omega
 have aR := acc cg3'
 have push : ∀ {y : Int}, 0 ≤ y → y < (ts.length : Int) → qQ SP (fun v h' => ∃ r, v = .sl r ∧ zvo h o r h') X X2 ⟨some o, 3, 0⟩ ⟨some h.length, 2, 0⟩ (1 + A) (1 + B) w (u.len : Int) (k : Int) s (x : Int) y g3 := fun {y} hy0 hy1 => by
  unfold qQ
  refine zCw ow3 (by unfold lim; omega) fun s' g4 ow4 b4 hs4 l4 => ?_
  unfold ztY
  rw [zd (n := (x : Int) + 1) (by omega) (by omega)]
  refine hX2 _ _ _ ⟨x + 1, _, by push_cast; rfl, by omega, by rw [List.length_append, List.length_singleton]; omega, ow4, ?_, fs.push (h := g3) (by omega) hs4, fun z hz => ?_, rg3.but b4 fun i e => by have := fs i e; omega, cg3.trans (b4.chg fun i e => .inr (fs i e))⟩ (by omega)
  ·have hl4 := ow4.rd.ilen
   rw [List.length_append, List.length_singleton] at hl4
   obtain ⟨_, q⟩ | ⟨i, q, _⟩ := ow4.at_
   ·omega
   ·rw [q]; rfl
  ·rcases List.mem_append.1 hz with hz | hz
   ·exact hrow z hz
   ·rw [List.mem_singleton] at hz; subst hz; exact ⟨hy0, hy1⟩
 refine zlK _ _ X X2 _ _ _ _ _ _ _ _ _ (fun y i g' => (0 ≤ y ∧ y < (ts.length : Int)) ∧ (0 ≤ i ∧ i ≤ (ts.length : Int)) ∧ g3 = g') (fun _ i _ => ((ts.length : Int) - i).toNat) ?_ _ _ ⟨⟨ho1, by omega⟩, ⟨by omega, by omega⟩, rfl⟩
 rintro X4 own z _ ⟨⟨ho1, ho2⟩, hz, rfl⟩ hX4
 unfold zig
 refine zc (fun hz2 => ⟨by omega, ?_⟩) (fun _ => push ho1 ho2)
 have hw1 : w64 (own + z) = own + z := zd (by omega) (by omega)
 have hm0 : 0 ≤ Int.tmod (w64 (own + z)) (u.len : Int) := by rw [hw1]; exact Int.tmod_nonneg _ (by omega)
 have hm1 : Int.tmod (w64 (own + z)) (u.len : Int) < ts.length := by
  rw [hw1]
  have := Int.tmod_lt_of_pos (own + z) (show (0 : Int) < u.len by omega)
  omega
 have again : X4 (vO ⟨some o, 3, 0⟩ ⟨some h.length, 2, 0⟩ (1 + A) (1 + B) w (u.len : Int) (k : Int) s (x : Int) own (w64 (z + 1))) g3 := by
  rw [zd (n := z + 1) (by omega) (by omega)]
  exact hX4 _ _ _ ⟨⟨ho1, ho2⟩, ⟨by omega, by omega⟩, rfl⟩ (by omega)
 have above : 0 < k → ∀ {K : Int → Prop}, (∀ a, 0 ≤ a → a < (ts.length : Int) → K a) → ixS w 1 (w64 ((k : Int) - 1)) fun p => ldS p g3 fun s2 => ixS s2 1 (x : Int) fun p => ldI .i64 p g3 fun n => K n := fun hk0 {K} hK => by
  rw [zd (n := (k : Int) - 1) (by omega) (by omega)]
  refine nw3.rd.ld (by omega) (by omega) fun v l hv rv lv => ?_
  have hm := List.mem_of_getElem? hv
  have hlr := hrw l hm
  exact rv.ldI (by omega) (by omega) fun y hy => by
   have := hbel l hm y (List.mem_of_getElem? hy)
   exact hK y this.1 this.2
 refine zu (fun hx0 => ?_) (fun hx0 => ?_)
 ·refine zu (fun _ => push hm0 hm1) (fun hk0 => ?_)
  refine zg (aR.1.ldS rfl rfl ?_)
  refine above (by omega) fun n4 p0 p1 => ?_
  refine aR.2.sideG p0 p1 (by omega) (by omega) ?_
  refine zg (aR.1.ldS rfl rfl ?_)
  refine aR.2.sideG hm0 hm1 (by omega) (by omega) ?_
  exact zu (fun _ => push hm0 hm1) (fun _ => again)
 ·refine zg (aR.1.ldS rfl rfl ?_)
  rw [zd (n := (x : Int) - 1) (by omega) (by omega)]
  have hsl := ow3.rd.ilen
  refine ow3.rd.ldI (by omega) (by omega) fun y hy => ?_
  have hyb := hrow y (List.mem_of_getElem? hy)
  refine aR.2.sideG hyb.1 hyb.2 (by omega) (by omega) ?_
  refine zg (aR.1.ldS rfl rfl ?_)
  refine aR.2.sideG hm0 hm1 (by omega) (by omega) ?_
  refine zu (fun _ => ?_) (fun _ => again)
  refine zu (fun _ => push hm0 hm1) (fun hk0 => ?_)
  refine zg (aR.1.ldS rfl rfl ?_)
  refine above (by omega) fun n4 p0 p1 => ?_
  refine aR.2.sideG p0 p1 (by omega) (by omega) ?_
  refine zg (aR.1.ldS rfl rfl ?_)
  refine aR.2.sideG hm0 hm1 (by omega) (by omega) ?_
  exact zu (fun _ => push hm0 hm1) (fun _ => again)
end
end Go.Proofs.YtlcgclmobfdbcaaGreat.Cl
set_option linter.unusedVariables false
set_option linter.unusedSimpArgs false
namespace Go.Proofs.YtlcgclmobfdbcaaGreat.Cl
open Go
theorem NewSS.dbl {n : Nat} {g : H} {s : Sl} {ls : List (List Int)} (r : NewSS n g s ls) {k : Nat} (hk : k < ls.length) (hl : ls[k].length ≤ 1000) (hng : n ≤ g.length) {K : H → Prop}
  (hK : ∀ g', NewSS n g' s (ls.set k (ls[k] ++ ls[k])) → Chg (fun i => n ≤ i) g g' → K g') :
  ixS s 1 (k : Int) fun p0 => ldS p0 g fun s1 => ixS s 1 (k : Int) fun p2 => ldS p2 g fun s3 => Cl.app s1 s3 1 g fun s4 h5 => ixS s 1 (k : Int) fun p6 => Cl.st1 p6 (.sl s4) h5 K := by
 obtain ⟨vs, e1, e2, e3, e4, e5, e6⟩ := r
 have hvl : k < vs.length := by omega
 have hv : vs[k]? = some vs[k] := List.getElem?_eq_getElem hvl
 have hr : ls[k]? = some ls[k] := List.getElem?_eq_getElem hk
 have hsl : s.len = vs.length := by have := e2.len; simp at this; omega
 obtain ⟨r0, f0⟩ := e4 k _ _ hv hr
 refine e2.rd.ldS (by omega) (by omega) fun v hv' => ?_
 rw [Int.toNat_natCast, hv] at hv'
 have hve := Option.some.inj hv'
 subst hve
 refine e2.rd.ldS (by omega) (by omega) fun v hv' => ?_
 rw [Int.toNat_natCast, hv] at hv'
 have hve := Option.some.inj hv'
 subst hve
 have hvlen := r0.rd.ilen
 refine yw (by omega) r0 r0.rd (by rw [hvlen]; unfold lim; omega) fun s4 g5 o4 l4 b4 k1 k2 => ?_
 have hs4 : ∀ i, s4.o = some i → vs[k].o = some i ∨ g.length ≤ i := fun i e => by
  cases hq : vs[k].o with
  | none => have := k2 hq i e; exact .inr (by omega)
  | some q => rw [k1 q hq] at e; exact .inl e
 have hbn : ∀ {w : Sl}, (∀ i, vs[k].o = some i → w.o ≠ some i) → vs[k].o ≠ w.o ∨ vs[k].o = none := fun {w} hw => by
  cases hq : vs[k].o with
  | none => exact .inr rfl
  | some i => exact .inl fun e => hw i hq e.symm
 have out5 := e2.but b4 (hbn fun i e => e6 k _ hv i e)
 refine out5.stC (by omega) (by omega) _ fun g6 o6 b6 l6 => ?_
 rw [Int.toNat_natCast, show (vs.map AVal.sl).set k (.sl s4) = (vs.set k s4).map .sl by rw [List.map_set]] at o6
 have hsn : ∀ i, s.o = some i → i < g.length := fun i e => e2.lt e
 refine hK g6 ⟨vs.set k s4, by simpa using e1, o6, e3, fun i v l a b => ?_, fun i j v w hij a b => ?_, fun i v a => ?_⟩ ((b4.chg fun i e => f0 i e).trans (b6.chg fun i e => e3 i e))
 ·rw [List.getElem?_set] at a b
  by_cases hi : k = i
  ·subst hi
   rw [if_pos rfl, if_pos hvl] at a
   rw [if_pos rfl, if_pos hk] at b
   rw [← Option.some.inj a, ← Option.some.inj b]
   refine ⟨?_, fun q e => ?_⟩
   ·rw [Xu]
    refine o4.but b6 ?_
    cases hq : s.o with
    | none => exact .inr rfl
    | some q =>
     refine .inl fun e => ?_
     rcases hs4 q e.symm with h1 | h1
     ·exact e6 k _ hv q h1 hq
     ·have := hsn q hq; omega
   ·rcases hs4 q e with h1 | h1
    ·exact f0 q h1
    ·omega
  ·rw [if_neg hi] at a b
   obtain ⟨p, q⟩ := e4 i v l a b
   refine ⟨(p.but b4 (hbn fun m e => e5 k i _ _ hi hv a m e)).but b6 ?_, q⟩
   cases hq : s.o with
   | none => exact .inr rfl
   | some m => exact .inl fun e => e6 i v a m e.symm hq
 ·intro q e
  rw [List.getElem?_set] at a b
  by_cases hi : k = i
  ·subst hi
   rw [if_pos rfl, if_pos hvl] at a
   rw [if_neg hij] at b
   rw [← Option.some.inj a] at e
   rcases hs4 q e with h1 | h1
   ·exact e5 k j _ _ hij hv b q h1
   ·intro e2'
    obtain ⟨l', hl'⟩ := wC e1 b
    have := (e4 j w l' b hl').1.lt e2'
    omega
  ·rw [if_neg hi] at a
   by_cases hj : k = j
   ·subst hj
    rw [if_pos rfl, if_pos hvl] at b
    rw [← Option.some.inj b]
    intro e2'
    rcases hs4 q e2' with h1 | h1
    ·exact e5 i k _ _ hij a hv q e h1
    ·obtain ⟨l', hl'⟩ := wC e1 a
     have := (e4 i v l' a hl').1.lt e
     omega
   ·rw [if_neg hj] at b
    exact e5 i j v w hij a b q e
 ·intro q e
  rw [List.getElem?_set] at a
  by_cases hi : k = i
  ·subst hi
   rw [if_pos rfl, if_pos hvl] at a
   rw [← Option.some.inj a] at e
   rcases hs4 q e with h1 | h1
   ·exact e6 k _ hv q h1
   ·intro e2'
    have := hsn q e2'; omega
  ·rw [if_neg hi] at a
   exact e6 i v a q e
section
variable {h : H} {o : Nat}
def DrG (h : H) (o : Nat) (v : AVal) (h' : H) : Prop := ∃ u c ts w rows, v = .tuple [.agg (SetC c u), .sl w] ∧ Rd h' u 4 (tcs ts) ∧ ts.length ≤ 17 ∧ Fr h.length u ∧ RdSF h.length h' w rows ∧ rows.length ≤ 100 ∧ (∀ l ∈ rows, l.length ≤ 100) ∧ Src h' o ∧ Chg (fun i => i = o) h h'
theorem zhm {c : Int} {ts : List Tile} {a b : Int} (hz : Size a b) {ws : List (List Int)} (h : zZ c ts a b = some ws) : Rect ws ∧ ws.length ≤ 3 ∧ wide ws ≤ 3 := by
 have hm : ws ∈ yp c ts b.toNat a.toNat := List.mem_of_head? h
 obtain ⟨h1, h2⟩ := YX (by have := hz.1; omega) hm
 have hrow : ∀ y, y < ws.length → (rw_ ws y).length = b.toNat := fun y hy => by
  have : rw_ ws y ∈ ws := by
   unfold rw_
   rw [List.getD_eq_getElem?_getD, List.getElem?_eq_getElem hy]
   exact List.getElem_mem hy
  exact (h2 _ this).1
 have hz1 := hz.1
 have hz2 := hz.2
 have hw : wide ws = b.toNat := hrow 0 (by omega)
 exact ⟨⟨by omega, by omega, fun y hy => by rw [hrow y hy, hw], by omega, by omega⟩, by omega, by omega⟩
theorem wQ {g : H} {p : Nat} {l : List AVal} {u : Sl} {c : Int} {ts : List Tile} (P : Obj g p l) (hl : l.length = 2) (r : Rd g u 4 (tcs ts)) (hn : u.o ≠ some p) {K : List AVal → H → Prop}
  (hk : ∀ h', Rd h' u 4 (tcs ts) → But (some p) g h' → h'.length = g.length → K (SetC c u) h') : stN ⟨some p, 2, 0⟩ 2 (SetC c u) g fun h6 => ldA ⟨some p, 2, 0⟩ 2 h6 fun cs => K cs h6 := by
 refine P.stA (fun h6 o6 b6 n6 => ?_) hl
 exact o6.ldA rfl (hk h6 (r.but b6 (.inl fun e => hn e.symm)) b6 n6)
theorem Rd.ix2 {h h' : H} {s : Sl} {cs : List AVal} (r : Rd h s 1 cs) (r' : Rd h' s 1 cs) {i : Nat} (hi : i < cs.length) {K : Pt → Prop} (hk : ∀ p, Cl.cell h p = cs[i]? → Cl.cell h' p = cs[i]? → K p) : ixS s 1 (i : Int) K := by
 have hl := r.len
 obtain h0 | ⟨a, b, c⟩ := r.at_
 ·omega
 obtain h0 | ⟨a', b', c'⟩ := r'.at_
 ·omega
 refine ⟨⟨by omega, by omega⟩, a, b, hk _ ?_ ?_⟩
 ·have := zY c (i := i) (by omega)
  rw [Int.toNat_natCast, Nat.mul_one, this]
 ·have := zY c' (i := i) (by omega)
  rw [Int.toNat_natCast, Nat.mul_one, this]
theorem zeM (r : Src h o) : callV SP zwh [.ptr ⟨some o, 3, 0⟩] h (DrG h o) := by
 have hlt := r.lt
 apply zwB
 unfold zas
 refine zl fun h1 o1 x1 n1 => ?_
 refine (Xn (r.ext x1)).to ?_
 rintro _ h2 ⟨u, c, ts, rfl, ru, hw, fu, r2, c2⟩
 have hc2 := c2.1
 have h16 := hw.len
 refine zl fun h3 o3 x3 n3 => ?_
 refine o3.stA fun h4 o4 b4 n4 => ?_
 have x24 : Ext h2 h4 := x3.but_ b4 (zn (Nat.le_refl _))
 have r4 := r2.ext x24
 have ru4 := ru.ext x24
 have hul := ru4.tlen
 have p4 := (o1.chg c2 (by omega)).ext x24
 have C4 : Chg (fun i => i = o ∨ h.length ≤ i) h h4 := ((x1.chg _).trans (c2.to fun i _ e => .inl e)).trans (x24.chg _)
 have acc : ∀ {g : H}, Chg (fun i => i = o ∨ h4.length ≤ i) h4 g → Obj g h.length [.int .i64 0, .sl Sl.nil] ∧ Obj g h2.length (SetC c u) ∧ Rd g u 4 (tcs ts) ∧ Chg (fun i => i = o ∨ h.length ≤ i) h g := fun {g} cg =>
  ⟨p4.chg cg (by omega), o4.chg cg (by omega), ru4.keep (P := fun i => i = o) cg fun i e => by have := fu i e; omega, C4.trans (cg.to fun i _ e => e.imp id fun e => by omega)⟩
 -- the end
 have fin : ∀ {g : H} {w : Sl} {rows : List (List Int)}, Chg (fun i => i = o ∨ h4.length ≤ i) h4 g → Src g o → RdSF h1.length g w rows → rows.length ≤ 100 → (∀ l ∈ rows, l.length ≤ 100) → zjA SP (DrG h o) ⟨some o, 3, 0⟩ ⟨some h.length, 2, 0⟩ ⟨some h2.length, 2, 0⟩ w g := fun {g w rows} cg rg rw_ hr hrl => by
  obtain ⟨q1, q4, ru', ch⟩ := acc cg
  have hcg := cg.1
  unfold zjA
  refine q4.ldA rfl ?_
  refine (zyK (n := h1.length) rg ru' hw fu (by omega) (by omega)).to ?_
  rintro _ g1 ⟨v, d, us, rfl, rv, hus, fv, rg1, c1⟩
  refine wQ (q1.chg c1 (by omega)) rfl rv (fun e => by have := fv _ e; omega) fun g2 rv2 b2 l2 => ?_
  have c12 : Chg (fun i => i = o ∨ i = h.length) g g2 := (c1.to fun i _ e => .inl e).trans (b2.chg fun i e => .inr (Option.some.inj e).symm)
  refine ⟨v, d, us, w, rows, rfl, rv2, hus, fv.le (by omega), (rw_.chg c12 fun i hi e => by omega).le (by omega), hr, hrl, rg1.but b2 fun i e => by have := Option.some.inj e; omega, ?_⟩
  exact (ch.trans (c12.to fun i _ e => e.imp id fun e => by omega)).to fun i hi e => by omega
 refine zg (o4.ldS rfl rfl ?_)
 refine zu (fun _ => ?_) (fun hne => ?_)
 ·refine o4.ldA rfl ?_
  refine (zyK (n := h1.length) r4 ru4 hw fu (by omega) (by omega)).to ?_
  rintro _ g1 ⟨v, d, us, rfl, rv, hus, fv, rg1, c1⟩
  have hc1 := c1.1
  refine zm (by rfl) fun a g2 oa la ao e2 => ?_
  have y2 : Ext g1 g2 := by rw [e2]; exact Ext.app _ _
  have m2 : g2.length = g1.length + 1 := by rw [e2]; simp
  refine zm (by rfl) fun b g3 ob lb bo e3 => ?_
  have y3 : Ext g2 g3 := by rw [e3]; exact Ext.app _ _
  refine wQ (((p4.chg c1 (by omega)).ext y2).ext y3) rfl (rv.ext (y2.trans y3)) (fun e => by have := fv _ e; omega) fun g4 rv4 b4' l4 => ?_
  refine ⟨v, d, us, b, [[0]], rfl, rv4, hus, fv.le (by omega), ⟨[a], rfl, ob.rd.but b4' (.inl fun e => by rw [bo] at e; have := Option.some.inj e; omega), fun i e => by rw [bo] at e; have := Option.some.inj e; omega, fun i v' l' hv hl => ?_⟩, by simp, by simp, ((rg1.ext y2).ext y3).but b4' fun i e => by have := Option.some.inj e; omega, ?_⟩
  ·cases i with
   | zero =>
    simp at hv hl
    subst hv hl
    exact ⟨(oa.ext y3).rd.but b4' (.inl fun e => by rw [ao] at e; have := Option.some.inj e; omega), fun i e => by rw [ao] at e; have := Option.some.inj e; omega⟩
   | succ i => simp at hv
  ·exact (((C4.trans (c1.to fun i _ e => .inl e)).trans ((y2.trans y3).chg _)).trans (b4'.chg fun i e => .inr (by have := Option.some.inj e; omega))).to fun i hi e => by omega
 have hs : setOK c ts := by
  rcases hw with hs | hs
  ·exact hs
  ·rw [hs.2] at hul; simp at hul; omega
 have htl : 1 ≤ ts.length := by omega
 refine zm (by rfl) fun z h5 oz lz zo e5 => ?_
 have x5 : Ext h4 h5 := by rw [e5]; exact Ext.app _ _
 have n5 : h5.length = h4.length + 1 := by rw [e5]; simp
 refine YF fun h6 x6 n6 => ?_
 have X6 := x5.trans x6
 have c46 : Chg (fun i => i = o ∨ h4.length ≤ i) h4 h6 := X6.chg _
 refine (acc c46).2.1.ldA rfl ?_
 refine wH (by omega) (by rfl) fun q7 h7 oq7 lq7 qo7 b7 n7 => ?_
 have c47 := c46.trans (b7.chg (P := fun i => i = o ∨ h4.length ≤ i) fun i e => .inr (by have := Option.some.inj e; omega))
 refine ⟨((acc c47).2.1.rangeE rfl).trans ((acc c46).2.1.rangeE rfl).symm, ?_⟩
 have r7 := (r4.ext X6).but b7 fun i e => by have := Option.some.inj e; omega
 refine (Y7 r7 (l := [1, 2, 2, 3]) oq7.rd (by rw [qo7]; exact zp (by omega)) (by simp)).to ?_
 rintro a h8 ⟨ha, r8, b8, n8⟩
 have c48 := c47.trans (r7.self b8)
 refine ⟨((acc c48).2.1.rangeE rfl).trans ((acc c46).2.1.rangeE rfl).symm, ?_⟩
 refine wH (by omega) (by rfl) fun q9 h9 oq9 lq9 qo9 b9 n9 => ?_
 have c49 := c48.trans (b9.chg (P := fun i => i = o ∨ h4.length ≤ i) fun i e => .inr (by have := Option.some.inj e; omega))
 refine ⟨((acc c49).2.1.rangeE rfl).trans ((acc c46).2.1.rangeE rfl).symm, ?_⟩
 have r9 := r8.but b9 fun i e => by have := Option.some.inj e; omega
 refine (Y7 r9 (l := [1, 2, 3, 3]) oq9.rd (by rw [qo9]; exact zp (by omega)) (by simp)).to ?_
 rintro b h10 ⟨hb, r10, b10, n10⟩
 have c410 := c49.trans (r9.self b10)
 refine ⟨((acc c410).2.1.rangeE rfl).trans ((acc c46).2.1.rangeE rfl).symm, ?_⟩
 have hz : Size a b := by
  unfold Size
  simp at ha hb
  omega
 refine (ZP (acc c410).2.2.1 hs hz).to ?_
 rintro _ h11 ⟨w, f, rfl, hm, x11⟩
 refine ⟨_, rfl, _, rfl, _, rfl, _, rfl, ?_⟩
 have c411 := c410.trans (x11.chg _)
 have r11 := r10.ext x11
 have rowsEnd : ∀ {g : H}, Chg (fun i => i = o ∨ h4.length ≤ i) h4 g → Src g o → ldA ⟨some h2.length, 2, 0⟩ 2 g fun cs => callS SP zeZ [.ptr ⟨some o, 3, 0⟩, .agg cs] g fun w g' => zjA SP (DrG h o) ⟨some o, 3, 0⟩ ⟨some h.length, 2, 0⟩ ⟨some h2.length, 2, 0⟩ w g' := fun {g} cg rg => by
  have A := acc cg
  have hcg := cg.1
  refine A.2.1.ldA rfl ?_
  refine (zmj rg A.2.2.1 (fun i e => by have := fu i e; omega) htl (by omega)).to ?_
  rintro w g' ⟨rows, rw_, hr, hrl, rg', c'⟩
  exact fin (cg.trans (c'.to fun i _ e => .inl e)) rg' (rw_.le (by omega)) hr hrl
 cases hF : zZ c ts a b with
 | none =>
  rw [hF] at hm
  obtain ⟨rfl, rfl⟩ := hm
  exact rowsEnd c411 r11
 | some ws =>
  rw [hF] at hm
  obtain ⟨rfl, nw⟩ := hm
  obtain ⟨R, hws, hwd⟩ := zhm hz hF
  refine (ya r11 6).to ?_
  rintro t h12 ⟨_, r12, b12, n12⟩
  have c412 := c411.trans (r11.self b12)
  have hc410 := c410.1
  refine zc (fun _ => ?_) (fun _ => rowsEnd c412 r12)
  have nw12 := nw.chg (b12.chg (P := fun i => i = o) fun i e => (Option.some.inj e).symm) fun i hi _ => by omega
  have hwl := nw12.rd.len
  have R0 := R.h0
  refine (ya r12 _).to ?_
  rintro y h13 ⟨hy, r13, b13, n13⟩
  have hy1 := hy.1
  have hy2 := hy.2.1 (by omega)
  have c413 := c412.trans (r12.self b13)
  have nw13 := nw12.chg (b13.chg (P := fun i => i = o) fun i e => (Option.some.inj e).symm) fun i hi _ => by omega
  obtain ⟨vs, e1, e2, e3, e4, _⟩ := nw12
  have e2' := e2.but b13 (.inl fun e => by have := e3 _ e.symm; omega)
  have hv0 : vs[0]? = some vs[0] := List.getElem?_eq_getElem (by omega)
  have hr0 : ws[0]? = some ws[0] := List.getElem?_eq_getElem (by omega)
  have hvl := (e4 0 _ _ hv0 hr0).1.rd.ilen
  have hw0 : ws[0].length = wide ws := by
   have := R.w 0 (by omega)
   unfold wide rw_ at *
   rw [List.getD_eq_getElem?_getD, hr0] at *
   rfl
  refine e2.rd.ix2 e2'.rd (i := 0) (by simp; omega) fun p hc hc' => ?_
  rw [List.getElem?_map, hv0] at hc hc'
  refine ⟨vs[0], hc', hc.trans hc'.symm, ?_⟩
  refine (ya r13 _).to ?_
  rintro x h14 ⟨hx, r14, b14, n14⟩
  have W0 := R.w0
  have hx1 := hx.1
  have hx2 := hx.2.1 (by omega)
  have c414 := c413.trans (r13.self b14)
  have nw14 := nw13.chg (b14.chg (P := fun i => i = o) fun i e => (Option.some.inj e).symm) fun i hi _ => by omega
  refine (zkI nw14.rd R y x hy1 (by omega) hx1 (by omega)).to ?_
  rintro s h15 ⟨ns, x15⟩
  have c415 := c414.trans (x15.chg _)
  refine (ya (r14.ext x15) 4).to ?_
  rintro k0 h16 ⟨_, r16, b16, n16⟩
  have c416 := c415.trans ((r14.ext x15).self b16)
  have hc414 := c414.1
  have ns16 := ns.chg (b16.chg (P := fun i => i = o) fun i e => (Option.some.inj e).symm) fun i hi _ => by omega
  have hsl : (vA ws y.toNat x.toNat).length = ws.length := qa _ _ _
  have hsr : ∀ l ∈ vA ws y.toNat x.toNat, l.length ≤ 3 := fun l hl => by
   obtain ⟨i, hi, rfl⟩ := List.getElem_of_mem hl
   have h1 : (rw_ (vA ws y.toNat x.toNat) i).length = wide ws := ZH (by omega)
   unfold rw_ at h1
   rw [List.getD_eq_getElem?_getD, List.getElem?_eq_getElem hi] at h1
   have h2 : (vA ws y.toNat x.toNat)[i].length = wide ws := h1
   omega
  refine zu (fun _ => ?_) (fun _ => fin c416 r16 (ns16.sf.le (by omega)) (by omega) fun l hl => by have := hsr l hl; omega)
  generalize vA ws y.toNat x.toNat = S at *
  refine zoW _ _ _ _ _ _ (fun i g => ∃ (k : Nat) (rows : List (List Int)), i = k ∧ k ≤ S.length ∧ rows.length = S.length ∧ NewSS h14.length g s rows ∧ (∀ (j : Nat) (hj : j < rows.length), k ≤ j → rows[j].length ≤ 3) ∧ (∀ l ∈ rows, l.length ≤ 100) ∧ Src g o ∧ Chg (fun i => i = o ∨ h4.length ≤ i) h4 g) (fun i _ => ((S.length : Int) - i).toNat) ?_ _
   ⟨0, S, rfl, by omega, rfl, ns16, fun j hj _ => hsr _ (List.getElem_mem hj), fun l hl => (by have := hsr l hl; omega), r16, c416⟩
  rintro X _ g ⟨k, rows, rfl, hk, hrl, nr, hsm, hbg, rg, cg⟩ hX
  have hlen := nr.rd.len
  have hcg := cg.1
  unfold zoY
  refine zc (fun hi => ?_) (fun _ => fin cg rg (nr.sf.le (by omega)) (by omega) hbg)
  have hkr : k < rows.length := by omega
  have h3' := hsm k hkr (Nat.le_refl _)
  have hg14 : h14.length ≤ g.length := by
   obtain ⟨_, e1', e2'', e3', _⟩ := nr
   obtain ⟨_, q⟩ | ⟨i, q, _⟩ := e2''.at_
   ·omega
   ·have := e3' i q; have := e2''.lt q; omega
  refine nr.dbl hkr (by omega) hg14 fun g' nr' c' => ?_
  rw [zd (n := (k : Int) + 1) (by omega) (by omega)]
  refine hX _ _ ⟨k + 1, _, by push_cast; rfl, by omega, by rw [List.length_set]; exact hrl, nr', fun j hj hkj => ?_, fun l hl => ?_, rg.chg c' fun i hi e => by omega, cg.trans (c'.to fun i _ e => .inr (by omega))⟩ (by omega)
  ·rw [List.getElem_set, if_neg (by omega)]
   rw [List.length_set] at hj
   exact hsm j hj (by omega)
  ·rcases List.mem_or_eq_of_mem_set hl with hl | hl
   ·exact hbg l hl
   ·subst hl; rw [List.length_append]; omega
end
end Go.Proofs.YtlcgclmobfdbcaaGreat.Cl
set_option linter.unusedVariables false
set_option linter.unusedSimpArgs false
namespace Go.Proofs.YtlcgclmobfdbcaaGreat.Cl
open Go
def CodeB (h : H) (s : Sl) (q : List Int) : Prop := Rd h s 1 (bc q) ∧ q.length ≤ 1000000 ∧ ∀ b ∈ q, 0 ≤ b ∧ b < 256
section
variable {h : H} {o : Nat}
theorem CodeB.ext {h h' : H} {s : Sl} {q : List Int} (r : CodeB h s q) (x : Ext h h') : CodeB h' s q := ⟨r.1.ext x, r.2⟩
theorem CodeB.from {s : Sl} {q : List Int} (r : CodeB h s q) : callP SP zeW [.sl s] h fun p h' => p = ⟨some h.length, 3, 0⟩ ∧ Src h' h.length ∧ Ext h h' := by
 refine zGi r.1 ?_ r.2.1 r.2.2
 obtain hl | ⟨x, y, e⟩ := r.1.at_
 ·exact .inl hl
 ·refine .inr fun i hi => ?_
  obtain ⟨j, xs, hj, hc, _, _⟩ := yL e
  rw [hi] at hj
  rw [Option.some.inj hj]
  exact qu hc
theorem VZ {u : Sl} {c : Int} {K : Pt → List AVal → H → Prop} (hk : ∀ h', Obj h' h.length (SetC c u) → Ext h h' → h'.length = h.length + 1 → K ⟨some h.length, 2, 0⟩ (SetC c u) h') :
  newO [.int .i64 0, .sl Sl.nil] h fun p h1 => stN p 2 (SetC c u) h1 fun h2 => ldA p 2 h2 fun cs => K p cs h2 := by
 refine zl fun h1 o1 x1 n1 => ?_
 refine o1.stA fun h2 o2 b2 n2 => ?_
 exact o2.ldA rfl (hk h2 o2 (x1.but_ b2 (zn (Nat.le_refl _))) (by omega))
theorem vD {u : Sl} {c : Int} {K : Pt → H → Prop} (hk : ∀ h', Obj h' h.length (SetC c u) → Ext h h' → h'.length = h.length + 1 → K ⟨some h.length, 2, 0⟩ h') :
  newO [.int .i64 0, .sl Sl.nil] h fun p h1 => stN p 2 (SetC c u) h1 fun h2 => K p h2 := by
 refine zl fun h1 o1 x1 n1 => ?_
 refine o1.stA fun h2 o2 b2 n2 => ?_
 exact hk h2 o2 (x1.but_ b2 (zn (Nat.le_refl _))) (by omega)
def DrR (h : H) (o : Nat) (w : Sl) (h' : H) : Prop := ∃ l, Rd h' w 1 (ic l) ∧ l.length ≤ 1000 ∧ Fr h.length w ∧ Src h' o ∧ Chg (fun i => i = o) h h'
theorem DrR.mk {g : H} {w : Sl} {l : List Int} (rd : Rd g w 1 (ic l)) (hl : l.length ≤ 1000) (fw : Fr h.length w) (rg : Src g o) (ch : Chg (fun i => i = o ∨ h.length ≤ i) h g) : DrR h o w g :=
 ⟨l, rd, hl, fw, rg, ch.to fun i hi e => by omega⟩
end
end Go.Proofs.YtlcgclmobfdbcaaGreat.Cl
set_option linter.unusedVariables false
set_option linter.unusedSimpArgs false
namespace Go.Proofs.YtlcgclmobfdbcaaGreat.Cl
open Go
def DrT2 (h : H) (v : AVal) (h' : H) : Prop := ∃ u c ts n m, v = .tuple [.agg (SetC c u), i64 n, i64 m] ∧ Rd h' u 4 (tcs ts) ∧ ts.length ≤ 17 ∧ yN n ∧ yN m ∧ Fr h.length u ∧ Ext h h'
def DrGT (h : H) (v : AVal) (h' : H) : Prop := ∃ u c ts w rows, v = .tuple [.agg (SetC c u), .sl w] ∧ Rd h' u 4 (tcs ts) ∧ ts.length ≤ 17 ∧ RdSS h' w rows ∧ rows.length ≤ 100 ∧ (∀ l ∈ rows, l.length ≤ 100) ∧ Ext h h'
section
variable {h : H}
theorem zeO {s : Sl} {q : List Int} (r : CodeB h s q) : callV SP zwn [.sl s] h (DrT2 h) := by
 apply zxj
 unfold zbH
 refine zl fun h1 o1 x1 n1 => ?_
 refine (r.ext x1).from.to ?_
 rintro _ h2 ⟨rfl, r2, x2⟩
 have hq := r2.lt
 refine (Xn r2).to ?_
 rintro _ h3 ⟨u, c, ts, rfl, ru, hw, fu, r3, c3⟩
 have hc3 := c3.1
 refine (zyK (n := h2.length) r3 ru hw fu hc3 hq).to ?_
 rintro _ h4 ⟨v, d, us, rfl, rv, hus, fv, r4, c4⟩
 have hc4 := c4.1
 refine vD fun h5 o5 x5 n5 => ?_
 have hx5 := x5.len
 refine (zyW (r4.ext x5) 3 (by omega)).to ?_
 rintro a h6 ⟨ha, r6, c6⟩
 have hc6 := c6.1
 refine zm (by rfl) fun w h7 ow lw wo e7 => ?_
 have x7 : Ext h6 h7 := by rw [e7]; exact Ext.app _ _
 have n7 : h7.length = h6.length + 1 := by rw [e7]; simp
 refine (Y7 (r6.ext x7) (l := [1, 2, 2, 3, 3, a]) ow.rd (by rw [wo]; exact zp (by omega)) (by simp)).to ?_
 rintro n h8 ⟨hn, r8, b8, n8⟩
 refine (zyW r8 3 (by omega)).to ?_
 rintro b h9 ⟨hb, r9, c9⟩
 have hc9 := c9.1
 refine zm (by rfl) fun w' h10 ow' lw' wo' e10 => ?_
 have x10 : Ext h9 h10 := by rw [e10]; exact Ext.app _ _
 have n10 : h10.length = h9.length + 1 := by rw [e10]; simp
 refine (Y7 (r9.ext x10) (l := [1, 2, 2, 3, b]) ow'.rd (by rw [wo']; exact zp (by omega)) (by simp)).to ?_
 rintro m h11 ⟨hm, r11, b11, n11⟩
 have hnb : yN n := by
  unfold yN at ha ⊢
  simp at hn; omega
 have hmb : yN m := by
  unfold yN at hb ⊢
  simp at hm; omega
 have X : Chg (fun i => i = h1.length) h5 h11 := ((c6.trans (x7.chg _)).trans (b8.chg fun i e => (Option.some.inj e).symm)).trans ((c9.trans (x10.chg _)).trans (b11.chg fun i e => (Option.some.inj e).symm))
 have Y : Chg (fun i => i = h1.length) h2 h11 := ((c3.trans c4).trans (x5.chg _)).trans X
 refine (o5.chg X (by omega)).ldA rfl ?_
 have rv11 := (rv.ext x5).chg X fun i e => by have := fv i e; omega
 refine wQ ((o1.ext x2).chg Y (by omega)) rfl rv11 (fun e => by have := fv _ e; omega) fun h12 rv12 b12 n12 => ?_
 have hx2 := x2.len
 exact ⟨v, d, us, n, m, rfl, rv12, hus, hnb, hmb, fv.le (by omega), ((x1.trans x2).chg_ Y fun i e => by omega).but_ b12 (zn (Nat.le_refl _))⟩
end
end Go.Proofs.YtlcgclmobfdbcaaGreat.Cl
set_option linter.unusedVariables false
set_option linter.unusedSimpArgs false
namespace Go.Proofs.YtlcgclmobfdbcaaGreat.Cl
open Go
def PV (hW : H) (n : Nat) (h : H) (v : Sl) (T : List (List Int)) : Prop :=
 ∃ us : List Sl, us.length = T.length ∧ (∀ (k : Nat) u w, us[k]? = some u → T[k]? = some w → Rd hW u 1 (ic w)) ∧ Rd h v 1 (us.map .sl) ∧ ∀ o, v.o = some o → n ≤ o ∧ o < h.length
theorem PV.rd {hW n h v T} (r : PV hW n h v T) (x : Ext hW h) : RdSS h v T := by
 obtain ⟨us, a, b, c, _⟩ := r
 exact ⟨us, a, c, fun k u w p q => (b k u w p q).ext x⟩
theorem PV.chg {P : Nat → Prop} {hW n h h' v T} (r : PV hW n h v T) (x : Chg P h h') (hn : ∀ o, v.o = some o → ¬ P o) : PV hW n h' v T := by
 obtain ⟨us, a, b, c, d⟩ := r
 exact ⟨us, a, b, c.chg x hn, fun o e => ⟨(d o e).1, Nat.lt_of_lt_of_le (d o e).2 x.1⟩⟩
theorem PV.ext {hW n h h' v T} (r : PV hW n h v T) (x : Ext h h') : PV hW n h' v T := r.chg (x.chg fun _ => False) fun _ _ f => f
theorem PV.le {hW n m h v T} (r : PV hW n h v T) (hm : m ≤ n) : PV hW m h v T := by
 obtain ⟨us, a, b, c, d⟩ := r
 exact ⟨us, a, b, c, fun o e => ⟨Nat.le_trans hm (d o e).1, (d o e).2⟩⟩
def TL (hW : H) (n : Nat) (h : H) (s : Sl) (Ts : List (List (List Int))) : Prop :=
 ∃ vs : List Sl, vs.length = Ts.length ∧ Ow h s 1 (vs.map .sl) ∧ (∀ o, s.o = some o → n ≤ o) ∧ ∀ (i : Nat) v T, vs[i]? = some v → Ts[i]? = some T → PV hW n h v T ∧ ∀ o, v.o = some o → s.o ≠ some o
theorem TL.len {hW n h s Ts} (r : TL hW n h s Ts) : s.len = Ts.length := by
 obtain ⟨vs, a, b, _⟩ := r
 have := b.len; simp at this; omega
theorem TL.nil {hW n h s} (o : Ow h s 1 []) (f : ∀ o, s.o = some o → n ≤ o) : TL hW n h s [] := ⟨[], rfl, o, f, fun i v T a => by simp at a⟩
theorem TL.ext {hW n h h' s Ts} (r : TL hW n h s Ts) (x : Ext h h') : TL hW n h' s Ts := by
 obtain ⟨vs, a, b, c, d⟩ := r
 exact ⟨vs, a, b.ext x, c, fun i v T p q => ⟨(d i v T p q).1.ext x, (d i v T p q).2⟩⟩
theorem TL.le {hW n m h s Ts} (r : TL hW n h s Ts) (hm : m ≤ n) : TL hW m h s Ts := by
 obtain ⟨vs, a, b, c, d⟩ := r
 exact ⟨vs, a, b, fun o e => Nat.le_trans hm (c o e), fun i v T p q => ⟨(d i v T p q).1.le hm, (d i v T p q).2⟩⟩
section
variable {hW h0 : H} {c : Int} {s wq tq bq : Sl} {ts : List Tile} {W : Nat}
theorem PV.more {n : Nat} {h : H} {v : Sl} {T : List (List Int)} {u : Sl} {w : List Int} (r : PV hW n h v T) (ru : Rd hW u 1 (ic w)) {h' : H} {z : Sl} {us' : List AVal} (hz : Rd h' z 1 us')
  (hus : ∀ us : List Sl, Rd h v 1 (us.map .sl) → us.length = T.length → us' = us.map AVal.sl ++ [.sl u]) {m : Nat} (hm : ∀ o, z.o = some o → m ≤ o ∧ o < h'.length) : PV hW m h' z (T ++ [w]) := by
 obtain ⟨us, a, b, cc, d⟩ := r
 have := hus us cc a
 subst this
 refine ⟨us ++ [u], by simp [a], fun k u' w' p q => ?_, by simpa using hz, hm⟩
 rw [List.getElem?_append] at p q
 split at p
 ·next hk => rw [if_pos (by omega)] at q; exact b k u' w' p q
 ·next hk =>
  rw [if_neg (by omega)] at q
  have : k = us.length := by
   have := (List.getElem?_eq_some_iff.1 p).1
   simp at this; omega
  subst this
  simp [a] at p q
  subst p q
  exact ru
end
end Go.Proofs.YtlcgclmobfdbcaaGreat.Cl
set_option linter.unusedVariables false
set_option linter.unusedSimpArgs false
namespace Go.Proofs.YtlcgclmobfdbcaaGreat.Cl
open Go
theorem TL.ld {hW : H} {n : Nat} {h : H} {s : Sl} {Ts : List (List (List Int))} (r : TL hW n h s Ts) (e : Ext hW h) {i : Nat} (h1 : i < Ts.length) {K : Sl → Prop} (hk : ∀ v, RdSS h v Ts[i] → K v) : ixS s 1 (i : Int) fun p => Cl.ldS p h K := by
 obtain ⟨vs, a, b, c, d⟩ := r
 refine b.rd.ldS (by omega) (by omega) fun x hx => ?_
 rw [Int.toNat_natCast] at hx
 exact hk x ((d _ x _ hx (List.getElem?_eq_getElem h1)).1.rd e)
section
variable {h0 : H} {c : Int} {s : Sl} {ts : List Tile} {a b : Int}
end
end Go.Proofs.YtlcgclmobfdbcaaGreat.Cl
set_option linter.unusedVariables false
set_option linter.unusedSimpArgs false
namespace Go.Proofs.YtlcgclmobfdbcaaGreat.Cl
open Go
section
variable {rows : List (List Int)}
end
end Go.Proofs.YtlcgclmobfdbcaaGreat.Cl
set_option linter.unusedVariables false
set_option linter.unusedSimpArgs false
namespace Go.Proofs.YtlcgclmobfdbcaaGreat.Cl
open Go
section
variable {ts : List Tile} {W : Nat} {c : Int}
theorem mem_sel_iff {α : Type} {A : Prop} {l : List α} {x : α} : x ∈ sel A l [] ↔ A ∧ x ∈ l := by
 by_cases a : A
 ·rw [zj a]; exact ⟨fun h => ⟨a, h⟩, fun h => h.2⟩
 ·rw [zK a]; exact ⟨fun h => (by cases h), fun h => absurd h.1 a⟩
theorem xD {α β : Type} {f : α → List β} : ∀ {l : List α}, l.Nodup → (∀ a ∈ l, (f a).Nodup) → (∀ a b x, a ∈ l → b ∈ l → x ∈ f a → x ∈ f b → a = b) → (l.flatMap f).Nodup
 | [], _, _, _ => by simp
 | a :: l, hn, hf, hd => by
  have h1 := List.nodup_cons.1 hn
  rw [List.flatMap_cons, List.nodup_append]
  refine ⟨hf a (by simp), xD h1.2 (fun b hb => hf b (by simp [hb])) fun b d x hb hd2 => hd b d x (by simp [hb]) (by simp [hd2]), fun x hx y hy e => ?_⟩
  subst e
  obtain ⟨b, hb, hxb⟩ := List.mem_flatMap.1 hy
  have := hd a b x (by simp) (by simp [hb]) hx hxb
  subst this
  exact h1.1 hb
theorem Zi {α : Type} {A : Prop} {l : List α} (h : l.Nodup) : (sel A l []).Nodup := by
 by_cases a : A
 ·rw [zj a]; exact h
 ·rw [zK a]; exact List.nodup_nil
theorem Yk : ∀ (m : Nat) (w : List Int), (rounds ts m w).Nodup
 | 0, w => Zi (by simp)
 | m + 1, w => by
  rw [rounds]
  refine xD List.nodup_range (fun k _ => Zi (Yk m _)) fun a b x _ _ ha hb => ?_
  obtain ⟨r1, e1, _, _⟩ := xI _ _ (mem_sel_iff.1 ha).2
  obtain ⟨r2, e2, _, _⟩ := xI _ _ (mem_sel_iff.1 hb).2
  rw [e1, List.append_assoc, List.append_assoc] at e2
  have := List.append_cancel_left e2
  simp at this
  omega
theorem YV : (zh ts W).Nodup := Yk _ _
theorem VO : ∀ (n : Nat) (s x : Int), (seqs c ts W n s x).Nodup
 | 0, s, x => Zi (by simp)
 | n + 1, s, x => by
  rw [seqs]
  refine xD YV (fun w _ => Zi ?_) fun a b x _ _ ha hb => ?_
  ·exact (VO n _ _).map _ fun {p q} h e => h (List.cons.inj e).2
  ·obtain ⟨p, _, rfl⟩ := List.mem_map.1 (mem_sel_iff.1 ha).2
   obtain ⟨q, _, e⟩ := List.mem_map.1 (mem_sel_iff.1 hb).2
   exact (List.cons.inj e).1.symm
theorem zkk (H : Nat) : (yp c ts W H).Nodup := by
 unfold yp
 refine xD YV (fun w _ => ?_) fun a b x _ _ ha hb => ?_
 ·exact (VO _ _ _).map _ fun {p q} h e => h (List.cons.inj e).2
 ·obtain ⟨p, _, rfl⟩ := List.mem_map.1 ha
  obtain ⟨q, _, e⟩ := List.mem_map.1 hb
  exact (List.cons.inj e).1.symm
theorem ZI : ∀ (m : Nat) (w v : List Int), v ∈ rounds ts m w ↔ ∃ r, v = w ++ r ∧ r.length = m ∧ (∀ x ∈ r, 0 ≤ x ∧ x < (ts.length : Int)) ∧ (∀ i, w.length ≤ i → i < v.length → 0 < i → E_ ts (gt v (i - 1)) 2 = E_ ts (gt v i) 0) ∧ vS ts v
 | 0, w, v => by
  rw [rounds, mem_sel_iff, List.mem_singleton]
  constructor
  ·rintro ⟨h1, rfl⟩
   exact ⟨[], by simp, rfl, by simp, fun i h2 h3 => by omega, h1⟩
  ·rintro ⟨r, e, hl, _, _, h1⟩
   have : r = [] := List.length_eq_zero_iff.1 hl
   subst this
   rw [List.append_nil] at e
   subst e
   exact ⟨h1, rfl⟩
 | m + 1, w, v => by
  rw [rounds, List.mem_flatMap]
  constructor
  ·rintro ⟨k, hk, h⟩
   obtain ⟨hc, h⟩ := mem_sel_iff.1 h
   obtain ⟨r, e, hl, hr, ha, hcl⟩ := (ZI m _ v).1 h
   refine ⟨(k : Int) :: r, by rw [e, List.append_assoc]; rfl, by simp [hl], fun x hx => ?_, fun i h2 h3 h4 => ?_, hcl⟩
   ·rcases List.mem_cons.1 hx with rfl | hx
    ·have := List.mem_range.1 hk; omega
    ·exact hr x hx
   ·by_cases hi : i = w.length
    ·subst hi
     have h5 := hc h4
     have e1 : gt v w.length = (k : Int) := by rw [e, List.append_assoc, ← Nat.add_zero w.length, qm]; rfl
     have e2 : gt v (w.length - 1) = gt w (w.length - 1) := by rw [e, List.append_assoc, xP (by omega)]
     rw [e1, e2]; exact h5
    ·exact ha i (by simp; omega) h3 h4
  ·rintro ⟨r, e, hl, hr, ha, hcl⟩
   cases r with
   | nil => simp at hl
   | cons k r =>
    have hk := hr k (by simp)
    obtain ⟨n, rfl⟩ : ∃ n : Nat, k = n := ⟨k.toNat, by omega⟩
    refine ⟨n, List.mem_range.2 (by omega), mem_sel_iff.2 ⟨fun hw => ?_, (ZI m _ v).2 ⟨r, by rw [e, List.append_assoc]; rfl, by simpa using hl, fun x hx => hr x (by simp [hx]), fun i h2 h3 h4 => ha i (by simp at h2; omega) h3 h4, hcl⟩⟩⟩
    have h5 := ha w.length (Nat.le_refl _) (by rw [e]; simp) hw
    have e1 : gt v w.length = (n : Int) := by rw [e, ← Nat.add_zero w.length, qm]; rfl
    have e2 : gt v (w.length - 1) = gt w (w.length - 1) := by rw [e, xP (by omega)]
    rw [e1, e2] at h5; exact h5
theorem words_iff {v : List Int} : v ∈ zh ts W ↔ Wd ts W v ∧ (∀ i, 0 < i → i < W → E_ ts (gt v (i - 1)) 2 = E_ ts (gt v i) 0) ∧ vS ts v := by
 unfold zh
 rw [ZI]
 constructor
 ·rintro ⟨r, e, hl, hr, ha, hcl⟩
  rw [List.nil_append] at e
  subst e
  exact ⟨⟨hl, hr⟩, fun i h1 h2 => ha i (by simp) (by omega) h1, hcl⟩
 ·rintro ⟨⟨hl, hr⟩, ha, hcl⟩
  exact ⟨v, by simp, hl, hr, fun i _ h2 h3 => ha i h3 (by omega), hcl⟩
theorem YI : ∀ (n : Nat) (s x : Int) (T : List (List Int)), T ∈ seqs c ts W n s x ↔ T.length = n ∧ (∀ w ∈ T, w ∈ zh ts W) ∧ (∀ i, i < n → cd c ts 1 (rw_ T i) = if i = 0 then s else cd c ts 3 (rw_ T (i - 1))) ∧ (if n = 0 then s else cd c ts 3 (rw_ T (n - 1))) = x
 | 0, s, x, T => by
  rw [seqs, mem_sel_iff, List.mem_singleton]
  constructor
  ·rintro ⟨h, rfl⟩
   exact ⟨rfl, by simp, fun i hi => by omega, by rw [if_pos rfl]; exact h⟩
  ·rintro ⟨h1, _, _, h2⟩
   rw [if_pos rfl] at h2
   exact ⟨h2, List.length_eq_zero_iff.1 h1⟩
 | n + 1, s, x, T => by
  rw [seqs, List.mem_flatMap]
  constructor
  ·rintro ⟨w, hw, h⟩
   obtain ⟨hc, h⟩ := mem_sel_iff.1 h
   obtain ⟨T', hT, rfl⟩ := List.mem_map.1 h
   obtain ⟨h1, h2, h3, h4⟩ := (YI n _ x T').1 hT
   refine ⟨by simp [h1], fun v hv => ?_, fun i hi => ?_, ?_⟩
   ·rcases List.mem_cons.1 hv with rfl | hv
    ·exact hw
    ·exact h2 v hv
   ·cases i with
    | zero => rw [if_pos rfl]; exact hc
    | succ i =>
     rw [if_neg (by omega)]
     have := h3 i (by omega)
     show cd c ts 1 (rw_ T' i) = cd c ts 3 (rw_ (w :: T') i)
     rw [this]
     cases i with
     | zero => rw [if_pos rfl]; rfl
     | succ i => rw [if_neg (by omega)]; rfl
   ·rw [if_neg (by omega)]
    cases n with
    | zero => rw [if_pos rfl] at h4; exact h4
    | succ n => rw [if_neg (by omega)] at h4; exact h4
  ·rintro ⟨h1, h2, h3, h4⟩
   cases T with
   | nil => simp at h1
   | cons w T' =>
    have hc := h3 0 (by omega)
    rw [if_pos rfl] at hc
    refine ⟨w, h2 w (by simp), mem_sel_iff.2 ⟨hc, List.mem_map.2 ⟨T', (YI n _ x T').2 ⟨by simpa using h1, fun v hv => h2 v (by simp [hv]), fun i hi => ?_, ?_⟩, rfl⟩⟩⟩
    ·have := h3 (i + 1) (by omega)
     rw [if_neg (by omega)] at this
     show cd c ts 1 (rw_ (w :: T') (i + 1)) = _
     rw [this]
     cases i with
     | zero => rw [if_pos rfl]; rfl
     | succ i => rw [if_neg (by omega)]; rfl
    ·rw [if_neg (by omega)] at h4
     cases n with
     | zero => rw [if_pos rfl]; exact h4
     | succ n => rw [if_neg (by omega)]; exact h4
theorem zvy {H : Nat} (hH : 1 ≤ H) {T : List (List Int)} : T ∈ yp c ts W H ↔ T.length = H ∧ (∀ w ∈ T, w ∈ zh ts W) ∧ (∀ i, 0 < i → i < H → cd c ts 1 (rw_ T i) = cd c ts 3 (rw_ T (i - 1))) ∧ cd c ts 3 (rw_ T (H - 1)) = cd c ts 1 (rw_ T 0) := by
 unfold yp
 rw [List.mem_flatMap]
 constructor
 ·rintro ⟨w, hw, h⟩
  obtain ⟨T', hT, rfl⟩ := List.mem_map.1 h
  obtain ⟨h1, h2, h3, h4⟩ := (YI _ _ _ T').1 hT
  refine ⟨by simp [h1]; omega, fun v hv => ?_, fun i h0 hi => ?_, ?_⟩
  ·rcases List.mem_cons.1 hv with rfl | hv
   ·exact hw
   ·exact h2 v hv
  ·obtain ⟨j, rfl⟩ : ∃ j, i = j + 1 := ⟨i - 1, by omega⟩
   have := h3 j (by omega)
   show cd c ts 1 (rw_ T' j) = cd c ts 3 (rw_ (w :: T') j)
   rw [this]
   cases j with
   | zero => rw [if_pos rfl]; rfl
   | succ j => rw [if_neg (by omega)]; rfl
  ·obtain ⟨m, rfl⟩ : ∃ m, H = m + 1 := ⟨H - 1, by omega⟩
   show cd c ts 3 (rw_ (w :: T') m) = cd c ts 1 w
   rw [show m + 1 - 1 = m from rfl] at h4
   cases m with
   | zero => rw [if_pos rfl] at h4; exact h4
   | succ m => rw [if_neg (by omega)] at h4; exact h4
 ·rintro ⟨h1, h2, h3, h4⟩
  cases T with
  | nil => simp at h1; omega
  | cons w T' =>
   refine ⟨w, h2 w (by simp), List.mem_map.2 ⟨T', (YI _ _ _ T').2 ⟨by simp at h1; omega, fun v hv => h2 v (by simp [hv]), fun i hi => ?_, ?_⟩, rfl⟩⟩
   ·have := h3 (i + 1) (by omega) (by omega)
    show cd c ts 1 (rw_ (w :: T') (i + 1)) = _
    rw [this]
    cases i with
    | zero => rw [if_pos rfl]; rfl
    | succ i => rw [if_neg (by omega)]; rfl
   ·obtain ⟨m, rfl⟩ : ∃ m, H = m + 1 := ⟨H - 1, by omega⟩
    have h5 : cd c ts 3 (rw_ (w :: T') m) = cd c ts 1 w := h4
    rw [show m + 1 - 1 = m from rfl]
    cases m with
    | zero => rw [if_pos rfl]; exact h5
    | succ m => rw [if_neg (by omega)]; exact h5
end
end Go.Proofs.YtlcgclmobfdbcaaGreat.Cl
set_option linter.unusedVariables false
set_option linter.unusedSimpArgs false
namespace Go.Proofs.YtlcgclmobfdbcaaGreat.Cl
open Go
theorem zeE {α : Type} [DecidableEq α] : ∀ (l m : List α), l.Nodup → (∀ x ∈ l, x ∈ m) → l.length ≤ m.length
 | [], _, _, _ => by simp
 | a :: l, m, h, hs => by
  have h1 := List.nodup_cons.1 h
  have hm : a ∈ m := hs a (by simp)
  have := zeE l (m.erase a) h1.2 fun x hx => (List.mem_erase_of_ne (fun e => h1.1 (by rw [← e]; exact hx))).2 (hs x (by simp [hx]))
  rw [List.length_erase_of_mem hm] at this
  have := List.length_pos_of_mem hm
  simp only [List.length_cons]
  omega
def TorC (ts : List Tile) (rows : List (List Int)) (H W : Nat) : Prop := ∀ y x, y < H → x < W → S_ ts rows y x 2 = S_ ts rows y ((x + 1) % W) 0 ∧ S_ ts rows y x 3 = S_ ts rows ((y + 1) % H) x 1
section
variable {ts : List Tile} {rows : List (List Int)} {c : Int} {H W : Nat}
theorem zmz (R : Rect rows) : zHC ts rows ↔ TorC ts rows rows.length (wide rows) := by
 have R0 := R.h0
 have W0 := R.w0
 have hw := R.w
 constructor
 ·rintro ⟨hf, hc, ht⟩ y x hy hx
  refine ⟨?_, ?_⟩
  ·by_cases e : x + 1 < wide rows
   ·rw [Nat.mod_eq_of_lt e]
    exact (hf y (x + 1) hy (by rw [hw y hy]; exact e)).1 (by omega)
   ·have : x + 1 = wide rows := by omega
    rw [this, Nat.mod_self]
    have h := hc y hy
    rw [hw y hy] at h
    rw [show x = wide rows - 1 by omega]
    exact h
  ·by_cases e : y + 1 < rows.length
   ·rw [Nat.mod_eq_of_lt e]
    exact (hf (y + 1) x e (by rw [hw _ e]; exact hx)).2 (by omega)
   ·have : y + 1 = rows.length := by omega
    rw [this, Nat.mod_self]
    have h := ht x (by rw [hw 0 (by omega)]; exact hx)
    rw [show y = rows.length - 1 by omega]
    exact h
 ·intro h
  refine ⟨fun y x hy hx => ⟨fun h0 => ?_, fun h0 => ?_⟩, fun y hy => ?_, fun x hx => ?_⟩
  ·rw [hw y hy] at hx
   have := (h y (x - 1) hy (by omega)).1
   rw [show x - 1 + 1 = x by omega, Nat.mod_eq_of_lt hx] at this
   exact this
  ·rw [hw y hy] at hx
   have := (h (y - 1) x (by omega) hx).2
   rw [show y - 1 + 1 = y by omega, Nat.mod_eq_of_lt hy] at this
   exact this
  ·rw [hw y hy]
   have := (h y (wide rows - 1) hy (by omega)).1
   rw [show wide rows - 1 + 1 = wide rows by omega, Nat.mod_self] at this
   exact this
  ·rw [hw 0 (by omega)] at hx
   have := (h (rows.length - 1) x (by omega) hx).2
   rw [show rows.length - 1 + 1 = rows.length by omega, Nat.mod_self] at this
   exact this
theorem wP {T : List (List Int)} {y : Nat} (hy : y < T.length) : rw_ T y ∈ T := by
 unfold rw_
 rw [List.getD_eq_getElem?_getD, List.getElem?_eq_getElem hy]
 exact List.getElem_mem hy
theorem wV (S : wh c ts) (hH : 1 ≤ H) (hW : 1 ≤ W) {T : List (List Int)} : T ∈ yp c ts W H ↔ T.length = H ∧ (∀ w ∈ T, Wd ts W w) ∧ TorC ts T H W := by
 rw [zvy hH]
 constructor
 ·rintro ⟨h1, h2, h3, h4⟩
  have hwd : ∀ y, y < H → Wd ts W (rw_ T y) := fun y hy => (words_iff.1 (h2 _ (wP (by omega)))).1
  refine ⟨h1, fun w hw => (words_iff.1 (h2 w hw)).1, fun y x hy hx => ⟨?_, ?_⟩⟩
  ·obtain ⟨a1, a2, a3⟩ := words_iff.1 (h2 _ (wP (show y < T.length by omega)))
   by_cases e : x + 1 < W
   ·rw [Nat.mod_eq_of_lt e]
    exact a2 (x + 1) (by omega) e
   ·have : x + 1 = W := by omega
    rw [this, Nat.mod_self]
    unfold vS at a3
    rw [a1.1] at a3
    rw [show x = W - 1 by omega]
    exact a3
  ·by_cases e : y + 1 < H
   ·rw [Nat.mod_eq_of_lt e]
    have := (WU S (hwd (y + 1) e) (hwd y hy) (by omega) (by omega)).1 (h3 (y + 1) (by omega) e) x hx
    exact this.symm
   ·have : y + 1 = H := by omega
    rw [this, Nat.mod_self]
    have := (WU S (hwd (H - 1) (by omega)) (hwd 0 (by omega)) (by omega) (by omega)).1 h4 x hx
    rw [show y = H - 1 by omega]
    exact this
 ·rintro ⟨h1, h2, h3⟩
  have hwd : ∀ y, y < H → Wd ts W (rw_ T y) := fun y hy => h2 _ (wP (by omega))
  refine ⟨h1, fun w hw => ?_, fun i i0 i1 => ?_, ?_⟩
  ·obtain ⟨y, hy, rfl⟩ := List.getElem_of_mem hw
   have er : rw_ T y = T[y] := by unfold rw_; rw [List.getD_eq_getElem?_getD, List.getElem?_eq_getElem hy]; rfl
   rw [← er]
   refine words_iff.2 ⟨hwd y (by omega), fun i i0 i1 => ?_, ?_⟩
   ·have := (h3 y (i - 1) (by omega) (by omega)).1
    rw [show i - 1 + 1 = i by omega, Nat.mod_eq_of_lt i1] at this
    exact this
   ·unfold vS
    rw [(hwd y (by omega)).1]
    have := (h3 y (W - 1) (by omega) (by omega)).1
    rw [show W - 1 + 1 = W by omega, Nat.mod_self] at this
    exact this
  ·refine (WU S (hwd i i1) (hwd (i - 1) (by omega)) (by omega) (by omega)).2 fun x hx => ?_
   have := (h3 (i - 1) x (by omega) hx).2
   rw [show i - 1 + 1 = i by omega, Nat.mod_eq_of_lt i1] at this
   exact this.symm
  ·refine (WU S (hwd (H - 1) (by omega)) (hwd 0 (by omega)) (by omega) (by omega)).2 fun x hx => ?_
   have := (h3 (H - 1) x (by omega) hx).2
   rw [show H - 1 + 1 = H by omega, Nat.mod_self] at this
   exact this
theorem zmA (hH : 1 ≤ H) (hH3 : H ≤ 3) (hW : 1 ≤ W) (hW3 : W ≤ 3) {T : List (List Int)} (h1 : T.length = H) (h2 : ∀ w ∈ T, Wd ts W w) : Rect T ∧ wide T = W := by
 have hw : ∀ y, y < T.length → (rw_ T y).length = W := fun y hy => (h2 _ (wP hy)).1
 have hwd : wide T = W := hw 0 (by omega)
 exact ⟨⟨by omega, by omega, fun y hy => by rw [hw y hy, hwd], by omega, by omega⟩, hwd⟩
end
end Go.Proofs.YtlcgclmobfdbcaaGreat.Cl
set_option linter.unusedVariables false
set_option linter.unusedSimpArgs false
namespace Go.Proofs.YtlcgclmobfdbcaaGreat.Cl
open Go
theorem qp {β : Type} {f : Nat → Option β} {n m : Nat} {r : β} (h : ∀ j, j < n → f j = none) (e : f n = some r) (hm : n < m) : (List.range m).findSome? f = some r := by
 obtain ⟨d, rfl⟩ : ∃ d, m = n + 1 + d := ⟨m - (n + 1), by omega⟩
 rw [List.range_add, List.range_succ, List.findSome?_append, List.findSome?_append]
 have : (List.range n).findSome? f = none := List.findSome?_eq_none_iff.2 fun x hx => h x (List.mem_range.1 hx)
 rw [this]
 simp [e]
theorem wI {β : Type} {f : Nat → Option β} {m : Nat} (h : ∀ j, j < m → f j = none) : (List.range m).findSome? f = none :=
 List.findSome?_eq_none_iff.2 fun x hx => h x (List.mem_range.1 hx)
noncomputable def valT (c : Int) (ts : List Tile) (n k : Nat) : Option (List (List Int)) := if n % k = 0 ∧ n / k ≤ 3 then zZ c ts (k : Int) ((n / k : Nat) : Int) else none
noncomputable def rowT (c : Int) (ts : List Tile) (n : Nat) : Option (List (List Int)) := (List.range 3).findSome? fun k => valT c ts n (k + 1)
noncomputable def yH (c : Int) (ts : List Tile) : Option (List (List Int)) := (List.range 9).findSome? fun n => rowT c ts (n + 1)
noncomputable def zv (c : Int) (ts : List Tile) : List (List Int) := sel (setOK c ts) ((yH c ts).getD []) []
theorem YW {n k : Nat} (hn : 1 ≤ n) (k1 : 1 ≤ k) (k3 : k ≤ 3) (h : n % k = 0 ∧ n / k ≤ 3) : Size (k : Int) ((n / k : Nat) : Int) := by
 have : 1 ≤ n / k := by
  rcases Nat.eq_zero_or_pos (n / k) with e | e
  ·have := Nat.div_add_mod n k
   rw [e, h.1] at this
   omega
  ·exact e
 exact ⟨by omega, by omega⟩
theorem zhg {c : Int} {ts : List Tile} {ws} (h : yH c ts = some ws) : ws.length ≤ 3 ∧ ∀ w ∈ ws, w.length ≤ 3 := by
 obtain ⟨n, hn, h⟩ := List.exists_of_findSome?_eq_some h
 obtain ⟨k, hk, h⟩ := List.exists_of_findSome?_eq_some h
 have := List.mem_range.1 hk
 unfold valT at h
 split at h
 ·next hh => exact Xz (YW (by omega) (by omega) (by omega) hh) h
 ·cases h
theorem Yd {c : Int} {ts : List Tile} (sz : ts.length ≤ 1048576) : (zv c ts).length < 1000000 ∧ ve (zv c ts) < 1000000 :=
 Y1 fun h => Qg fun ws e => zhg e
section
variable {h0 : H} {c : Int} {s : Sl} {ts : List Tile}
theorem ZW (r : Rd h0 s 4 (tcs ts)) (sz : ts.length ≤ 1048576) :
  callV SP zCU [.agg (SetC c s)] h0 fun v h' => ∃ w, v = .tuple [.sl w, i64 (xV (setOK c ts) True (yH c ts ≠ none))] ∧ NewSS h0.length h' w (zv c ts) ∧ Ext h0 h' := by
 apply zxZ
 unfold zdt
 refine zi fun h1 o1 x1 n1 => ?_
 refine o1.ldA rfl ?_
 refine (zdZ (r.ext x1) (by omega)).to ?_
 rintro e h2 ⟨he, x2⟩
 have X := x1.trans x2
 refine zF (fun hq => ⟨Sl.nil, ?_, ?_, X⟩) (fun hq => ?_)
 ·have : zG (setOK c ts) True = 1 := yY fun hs => by rw [he.2 hs] at hq; cases hq
  rw [Zt (by rw [this]; decide), this]
 ·rw [zv, zK fun hs => by rw [he.2 hs] at hq; cases hq]; exact NewSS.nil _ _
 have hs := he.1 hq
 have h0c : zG (setOK c ts) True = 0 := zT hs trivial
 refine zsd _ _ _ (fun i h => 1 ≤ i ∧ i ≤ 10 ∧ Ext h2 h ∧ ∀ j, j < (i - 1).toNat → rowT c ts (j + 1) = none) (fun i _ => (10 - i).toNat) ?_ _ ⟨by omega, by omega, Ext.refl _, fun j h => by omega⟩
 rintro Z i h ⟨i0, i1, x, hno⟩ hZ
 unfold zsh zBm
 refine zc (fun hi => ?_) (fun hi => ⟨Sl.nil, ?_, ?_, X.trans x⟩)
 rotate_left
 ·have : yH c ts = none := wI fun j hj => hno j (by omega)
  rw [WS h0c fun f => f this]
 ·have : yH c ts = none := wI fun j hj => hno j (by omega)
  rw [zv, zj hs, this]; exact NewSS.nil _ _
 obtain ⟨n, rfl⟩ : ∃ n : Nat, i = (n : Int) + 1 := ⟨(i - 1).toNat, by omega⟩
 rw [show ((n : Int) + 1 - 1).toNat = n by omega] at hno
 refine zsc _ _ Z _ _ (fun k h' => 1 ≤ k ∧ k ≤ 4 ∧ Ext h h' ∧ ∀ j, j < (k - 1).toNat → valT c ts (n + 1) (j + 1) = none) (fun k _ => (4 - k).toNat) ?_ _ ⟨by omega, by omega, Ext.refl _, fun j h => by omega⟩
 rintro Y k h' ⟨k0, k1, x', hnk⟩ hY
 unfold zsg zBk zBl
 refine zc (fun hk => ?_) (fun hk => ?_)
 rotate_left
 ·rw [zd (by omega) (by omega)]
  refine hZ _ _ ⟨by omega, by omega, x.trans x', fun j hj => ?_⟩ (by omega)
  by_cases e : j = n
  ·subst e; exact wI fun q hq => hnk q (by omega)
  ·exact hno j (by omega)
 obtain ⟨q, rfl⟩ : ∃ q : Nat, k = (q : Int) + 1 := ⟨(k - 1).toNat, by omega⟩
 rw [show ((q : Int) + 1 - 1).toNat = q by omega] at hnk
 have en : (n : Int) + 1 = ((n + 1 : Nat) : Int) := by push_cast; rfl
 have ek : (q : Int) + 1 = ((q + 1 : Nat) : Int) := by push_cast; rfl
 have next : ∀ h'', Ext h h'' → valT c ts (n + 1) (q + 1) = none → Y (Yq ⟨some h0.length, 2, 0⟩ ((n : Int) + 1) (w64 ((q : Int) + 1 + 1))) h'' := fun h'' y hv => by
  rw [zd (by omega) (by omega)]
  refine hY _ _ ⟨by omega, by omega, y, fun j hj => ?_⟩ (by omega)
  by_cases e : j = q
  ·subst e; exact hv
  ·exact hnk j (by omega)
 have hdl : (n + 1) / (q + 1) ≤ n + 1 := Nat.div_le_self _ _
 refine ⟨by omega, ?_⟩
 rw [en, ek, QP]
 rw [← en, ← ek]
 refine zL (fun hm => next _ x' ?_) (fun hm => ?_)
 ·unfold valT; rw [if_neg (by omega)]
 refine ⟨by omega, ?_⟩
 rw [en, ek, QQ, zd (Int.le_trans (by decide) (Int.natCast_nonneg _)) (Int.lt_of_le_of_lt (Int.ofNat_le.2 hdl) (by omega))]
 rw [← en, ← ek]
 refine zc (fun hm2 => next _ x' ?_) (fun hm2 => ?_)
 ·unfold valT; rw [if_neg (by omega)]
 refine (o1.ext (x2.trans (x.trans x'))).ldA rfl ?_
 refine ⟨by omega, ?_⟩
 have hcond : (n + 1) % (q + 1) = 0 ∧ (n + 1) / (q + 1) ≤ 3 := by omega
 have hsz := YW (n := n + 1) (k := q + 1) (by omega) (by omega) (by omega) hcond
 rw [ek]
 refine (Yo (r.ext (X.trans (x.trans x'))) hs hsz).to ?_
 rintro u h5 ⟨hu, x5⟩
 have hval : valT c ts (n + 1) (q + 1) = zZ c ts ((q + 1 : Nat) : Int) (((n + 1) / (q + 1) : Nat) : Int) := by unfold valT; rw [if_pos hcond]
 cases hf : zZ c ts ((q + 1 : Nat) : Int) (((n + 1) / (q + 1) : Nat) : Int) with
 | none =>
  rw [hf] at hu
  have hu' : u = Sl.nil := hu
  subst hu'
  refine zF (fun e => absurd (show true = false from e) (by decide)) (fun _ => ?_)
  rw [← ek]
  exact next _ (x'.trans x5) (by rw [hval, hf])
 | some ws =>
  rw [hf] at hu
  obtain ⟨hne, nu⟩ := hu
  have hrow : rowT c ts (n + 1) = some ws := qp (n := q) (fun j hj => hnk j hj) (by rw [hval, hf]) (by omega)
  have hleast : yH c ts = some ws := qp (n := n) (fun j hj => hno j hj) hrow (by omega)
  have E := X.trans (x.trans x')
  refine zF (fun _ => ⟨u, ?_, ?_, E.trans x5⟩) (fun e => ?_)
  ·rw [WT h0c (by rw [hleast]; simp)]
  ·rw [zv, zj hs, hleast]; exact nu.le E.len
  ·rw [nu.nonnil hne] at e; cases e
theorem ZF (r : Rd h0 s 4 (tcs ts)) (sz : ts.length ≤ 1048576) :
  callV SP zCT [.agg (SetC c s)] h0 fun v h' => ∃ w, v = .tuple [.sl w, i64 (xV (setOK c ts) True (yH c ts ≠ none))] ∧ NewSS h0.length h' w (zv c ts) ∧ Ext h0 h' := by
 apply zxY
 unfold zdr
 refine zi fun h1 o1 x1 n1 => ?_
 refine o1.ldA rfl ?_
 refine (ZR (r.ext x1)).to ?_
 rintro e h2 ⟨he, x2⟩
 have X := x1.trans x2
 refine zF (fun hq => ⟨Sl.nil, ?_, ?_, X⟩) (fun hq => ?_)
 ·have : zG (setOK c ts) True = 1 := yY fun hs => by rw [he.2 hs] at hq; cases hq
  rw [Zt (by rw [this]; decide), this]
 ·rw [zv, zK fun hs => by rw [he.2 hs] at hq; cases hq]; exact NewSS.nil _ _
 have hs := he.1 hq
 have h0c : zG (setOK c ts) True = 0 := zT hs trivial
 refine zrX _ _ _ (fun i h => 1 ≤ i ∧ i ≤ 10 ∧ Ext h2 h ∧ ∀ j, j < (i - 1).toNat → rowT c ts (j + 1) = none) (fun i _ => (10 - i).toNat) ?_ _ ⟨by omega, by omega, Ext.refl _, fun j h => by omega⟩
 rintro Z i h ⟨i0, i1, x, hno⟩ hZ
 unfold zsb zBf
 refine zc (fun hi => ?_) (fun hi => ⟨Sl.nil, ?_, ?_, X.trans x⟩)
 rotate_left
 ·have : yH c ts = none := wI fun j hj => hno j (by omega)
  rw [WS h0c fun f => f this]
 ·have : yH c ts = none := wI fun j hj => hno j (by omega)
  rw [zv, zj hs, this]; exact NewSS.nil _ _
 obtain ⟨n, rfl⟩ : ∃ n : Nat, i = (n : Int) + 1 := ⟨(i - 1).toNat, by omega⟩
 rw [show ((n : Int) + 1 - 1).toNat = n by omega] at hno
 refine zrW _ _ Z _ _ (fun k h' => 1 ≤ k ∧ k ≤ 4 ∧ Ext h h' ∧ ∀ j, j < (k - 1).toNat → valT c ts (n + 1) (j + 1) = none) (fun k _ => (4 - k).toNat) ?_ _ ⟨by omega, by omega, Ext.refl _, fun j h => by omega⟩
 rintro Y k h' ⟨k0, k1, x', hnk⟩ hY
 unfold zsa zBd zBe
 refine zc (fun hk => ?_) (fun hk => ?_)
 rotate_left
 ·rw [zd (by omega) (by omega)]
  refine hZ _ _ ⟨by omega, by omega, x.trans x', fun j hj => ?_⟩ (by omega)
  by_cases e : j = n
  ·subst e; exact wI fun q hq => hnk q (by omega)
  ·exact hno j (by omega)
 obtain ⟨q, rfl⟩ : ∃ q : Nat, k = (q : Int) + 1 := ⟨(k - 1).toNat, by omega⟩
 rw [show ((q : Int) + 1 - 1).toNat = q by omega] at hnk
 have en : (n : Int) + 1 = ((n + 1 : Nat) : Int) := by push_cast; rfl
 have ek : (q : Int) + 1 = ((q + 1 : Nat) : Int) := by push_cast; rfl
 have next : ∀ h'', Ext h h'' → valT c ts (n + 1) (q + 1) = none → Y (Yp ⟨some h0.length, 2, 0⟩ ((n : Int) + 1) (w64 ((q : Int) + 1 + 1))) h'' := fun h'' y hv => by
  rw [zd (by omega) (by omega)]
  refine hY _ _ ⟨by omega, by omega, y, fun j hj => ?_⟩ (by omega)
  by_cases e : j = q
  ·subst e; exact hv
  ·exact hnk j (by omega)
 have hdl : (n + 1) / (q + 1) ≤ n + 1 := Nat.div_le_self _ _
 refine ⟨by omega, ?_⟩
 rw [en, ek, QP]
 rw [← en, ← ek]
 refine zL (fun hm => next _ x' ?_) (fun hm => ?_)
 ·unfold valT; rw [if_neg (by omega)]
 refine ⟨by omega, ?_⟩
 rw [en, ek, QQ, zd (Int.le_trans (by decide) (Int.natCast_nonneg _)) (Int.lt_of_le_of_lt (Int.ofNat_le.2 hdl) (by omega))]
 rw [← en, ← ek]
 refine zc (fun hm2 => next _ x' ?_) (fun hm2 => ?_)
 ·unfold valT; rw [if_neg (by omega)]
 refine (o1.ext (x2.trans (x.trans x'))).ldA rfl ?_
 refine ⟨by omega, ?_⟩
 have hcond : (n + 1) % (q + 1) = 0 ∧ (n + 1) / (q + 1) ≤ 3 := by omega
 have hsz := YW (n := n + 1) (k := q + 1) (by omega) (by omega) (by omega) hcond
 rw [ek]
 refine (ZP (r.ext (X.trans (x.trans x'))) hs hsz).to ?_
 rintro _ h5 ⟨u, f, rfl, hu, x5⟩
 refine ⟨_, rfl, _, rfl, _, rfl, _, rfl, ?_⟩
 have hval : valT c ts (n + 1) (q + 1) = zZ c ts ((q + 1 : Nat) : Int) (((n + 1) / (q + 1) : Nat) : Int) := by unfold valT; rw [if_pos hcond]
 cases hf : zZ c ts ((q + 1 : Nat) : Int) (((n + 1) / (q + 1) : Nat) : Int) with
 | none =>
  rw [hf] at hu
  obtain ⟨rfl, rfl⟩ := hu
  refine yE (fun e => by cases e) (fun _ => ?_)
  rw [← ek]
  exact next _ (x'.trans x5) (by rw [hval, hf])
 | some ws =>
  rw [hf] at hu
  obtain ⟨rfl, nu⟩ := hu
  have hrow : rowT c ts (n + 1) = some ws := qp (n := q) (fun j hj => hnk j hj) (by rw [hval, hf]) (by omega)
  have hleast : yH c ts = some ws := qp (n := n) (fun j hj => hno j hj) hrow (by omega)
  have E := X.trans (x.trans x')
  refine yE (fun _ => ⟨u, ?_, ?_, E.trans x5⟩) (fun e => by cases e)
  ·rw [WT h0c (by rw [hleast]; simp)]
  ·rw [zv, zj hs, hleast]; exact nu.le E.len
end
end Go.Proofs.YtlcgclmobfdbcaaGreat.Cl
set_option linter.unusedVariables false
set_option linter.unusedSimpArgs false
namespace Go.Proofs.YtlcgclmobfdbcaaGreat.Cl
abbrev MD : Int := 10007
section
variable {a r c : List Int} {n : Nat}
end
end Go.Proofs.YtlcgclmobfdbcaaGreat.Cl
set_option linter.unusedVariables false
set_option linter.unusedSimpArgs false
namespace Go.Proofs.YtlcgclmobfdbcaaGreat.Cl
open Go
end Go.Proofs.YtlcgclmobfdbcaaGreat.Cl
set_option linter.unusedVariables false
set_option linter.unusedSimpArgs false
namespace Go.Proofs.YtlcgclmobfdbcaaGreat.Cl
open Go
def Bm (l : List Int) : Prop := ∀ x ∈ l, 0 ≤ x ∧ x < MD
theorem Bm.at {l : List Int} (b : Bm l) (i : Nat) : 0 ≤ l.getD i 0 ∧ l.getD i 0 < MD := by
 rw [List.getD_eq_getElem?_getD]
 cases h : l[i]? with
 | none => exact ⟨by decide, by decide⟩
 | some x => exact b x (List.mem_of_getElem? h)
theorem Bm.nil : Bm [] := fun x h => by cases h
end Go.Proofs.YtlcgclmobfdbcaaGreat.Cl
set_option linter.unusedVariables false
set_option linter.unusedSimpArgs false
namespace Go.Proofs.YtlcgclmobfdbcaaGreat.Cl
open Go
end Go.Proofs.YtlcgclmobfdbcaaGreat.Cl
set_option linter.unusedVariables false
set_option linter.unusedSimpArgs false
namespace Go.Proofs.YtlcgclmobfdbcaaGreat.Cl
abbrev Edge := Nat × Nat
def zvA (es : List Edge) (A : Nat → Bool) (w : Nat) : Bool := es.any fun e => e.1 == w && A e.2
theorem stepB_iff {es : List Edge} {A : Nat → Bool} {w : Nat} : zvA es A w = true ↔ ∃ e ∈ es, e.1 = w ∧ A e.2 = true := by
 unfold zvA
 simp [List.any_eq_true]
structure zvn (n : Nat) (es : List Edge) (A : Nat → Bool) : Prop where
 fix : ∀ w, w < n → zvA es A w = A w
 top : ∀ G : Nat → Bool, (∀ w, G w = true → zvA es G w = true) → ∀ w, G w = true → A w = true
def zHX (es : List Edge) : List Edge := es.map fun e => (e.2, e.1)
def zkG (A B : Nat → Bool) (e : Edge) : Bool := A e.1 && B e.2
structure Lst (n : Nat) (es : List Edge) (A B : Nat → Bool) : Prop where
 hn : ∀ e ∈ es, e.1 < n ∧ e.2 < n
 a : zvn n (zHX es) A
 b : zvn n es B
section
variable {n : Nat} {es : List Edge} {A B : Nat → Bool}
theorem Lst.top (L : Lst n es A B) {Q : Edge → Bool} (hp : ∀ e ∈ es, Q e = true → ∃ e' ∈ es, Q e' = true ∧ e'.2 = e.1) (hs : ∀ e ∈ es, Q e = true → ∃ e' ∈ es, Q e' = true ∧ e'.1 = e.2) {e : Edge} (he : e ∈ es) (h : Q e = true) : zkG A B e = true := by
 unfold zkG
 rw [Bool.and_eq_true]
 constructor
 ·refine L.a.top (fun w => es.any fun e => Q e && e.1 == w) (fun w hw => ?_) e.1 (List.any_eq_true.2 ⟨e, he, by simp [h]⟩)
  obtain ⟨x, hx, h2⟩ := List.any_eq_true.1 hw
  simp at h2
  obtain ⟨y, hy, y1, y2⟩ := hp x hx h2.1
  refine stepB_iff.2 ⟨(y.2, y.1), List.mem_map.2 ⟨y, hy, rfl⟩, by simp [y2, h2.2], List.any_eq_true.2 ⟨y, hy, by simp [y1]⟩⟩
 ·refine L.b.top (fun w => es.any fun e => Q e && e.2 == w) (fun w hw => ?_) e.2 (List.any_eq_true.2 ⟨e, he, by simp [h]⟩)
  obtain ⟨x, hx, h2⟩ := List.any_eq_true.1 hw
  simp at h2
  obtain ⟨y, hy, y1, y2⟩ := hs x hx h2.1
  refine stepB_iff.2 ⟨y, hy, by simp [y2, h2.2], List.any_eq_true.2 ⟨y, hy, by simp [y1]⟩⟩
theorem Lst.word (L : Lst n es A B) {w : Nat} (hw : w < n) : (A w && B w) = true ↔ (∃ e ∈ es, zkG A B e = true ∧ (e.1 = w ∨ e.2 = w)) := by
 rw [Bool.and_eq_true]
 constructor
 ·rintro ⟨h1, h2⟩
  have h3 := L.b.fix w hw
  rw [h2] at h3
  obtain ⟨y, hy, y1, y2⟩ := stepB_iff.1 h3
  refine ⟨y, hy, ?_, .inl y1⟩
  unfold zkG
  rw [y1, h1, y2]; rfl
 ·rintro ⟨e, he, h, q⟩
  rcases q with rfl | rfl
  ·have h' := h
   unfold zkG at h
   rw [Bool.and_eq_true] at h
   refine ⟨h.1, ?_⟩
   rw [← L.b.fix e.1 hw]
   exact stepB_iff.2 ⟨e, he, rfl, h.2⟩
  ·unfold zkG at h
   rw [Bool.and_eq_true] at h
   refine ⟨?_, h.2⟩
   rw [← L.a.fix e.2 hw]
   exact stepB_iff.2 ⟨(e.2, e.1), List.mem_map.2 ⟨e, he, rfl⟩, rfl, h.1⟩
end
end Go.Proofs.YtlcgclmobfdbcaaGreat.Cl
set_option linter.unusedVariables false
set_option linter.unusedSimpArgs false
namespace Go.Proofs.YtlcgclmobfdbcaaGreat.Cl
open Go
section
variable (c : Int) (ts : List Tile)
def colP : Nat → Int → Int → Int → List (Int × Int)
 | 0, _, l, r => [(l, r)]
 | m + 1, s, l, r => ts.flatMap fun t => if 0 ≤ s ∧ s ≠ sd t 1 then [] else colP m (sd t 3) (l * c + sd t 0) (r * c + sd t 2)
def colI (h : Nat) : Nat → Int → Int → Int → Int → List (Int × Int × Int)
 | 0, top, _, l, r => [(l, r, top)]
 | m + 1, top, last, l, r => ts.flatMap fun t => if m + 1 < h ∧ sd t 1 ≠ last then [] else colI h m (if m + 1 = h then sd t 1 else top) (sd t 3) (l * c + sd t 0) (r * c + sd t 2)
end
variable {c : Int} {ts : List Tile}
def zuY (c : Int) (ts : List Tile) (h : Int) : List (Int × Int) := colP c ts h.toNat (-1) 0 0
end Go.Proofs.YtlcgclmobfdbcaaGreat.Cl
set_option linter.unusedVariables false
set_option linter.unusedSimpArgs false
namespace Go.Proofs.YtlcgclmobfdbcaaGreat.Cl
open Go
section
variable {h0 : H} {x : Sl} {n : Int}
end
end Go.Proofs.YtlcgclmobfdbcaaGreat.Cl
set_option linter.unusedVariables false
set_option linter.unusedSimpArgs false
namespace Go.Proofs.YtlcgclmobfdbcaaGreat.Cl
open Go
theorem Obj.same {h h' o cs} (x : Obj h o cs) (y : Obj h' o cs) {n : Nat} (hn : cs.length = n) : Cl.range h (some o) n 0 n = Cl.range h' (some o) n 0 n := (x.rangeE hn).trans (y.rangeE hn).symm
def bl (n : Nat) (A : Nat → Bool) : List Bool := (List.range n).map A
theorem zHy (n A) : (bl n A).length = n := by simp [bl]
theorem Ow.blen {h : H} {s : Sl} {n : Nat} {A : Nat → Bool} (r : Ow h s 1 ((bl n A).map .bool)) : s.len = n := by have := r.len; rw [List.length_map, zHy] at this; omega
section
variable {h0 : H} {c : Int} {s : Sl} {ts : List Tile}
end
end Go.Proofs.YtlcgclmobfdbcaaGreat.Cl
set_option linter.unusedVariables false
set_option linter.unusedSimpArgs false
namespace Go.Proofs.YtlcgclmobfdbcaaGreat.Cl
open Go
def c3 (l : List (Int × Int × Int)) : List AVal := (l.map fun x => [i64 x.1, i64 x.2.1, i64 x.2.2]).flatten
theorem zCi : ∀ l, (c3 l).length = l.length * 3
 | [] => rfl
 | a :: l => by
  have := zCi l
  unfold c3 at *
  rw [List.map_cons, List.flatten_cons, List.length_append, this, List.length_cons]
  simp; omega
def zHD (c : Int) (s : Sl) (H w : Int) (q : Sl) : List AVal := [i64 c, .sl s, i64 H, i64 w, .sl q]
section
variable {hb : H} {c w : Int} {s : Sl} {ts : List Tile} {H_ : Nat} {op ot oh oe os n1 : Nat}
end
end Go.Proofs.YtlcgclmobfdbcaaGreat.Cl
set_option linter.unusedVariables false
set_option linter.unusedSimpArgs false
namespace Go.Proofs.YtlcgclmobfdbcaaGreat.Cl
open Go
def zHv (c : Int) (ts : List Tile) (H_ : Nat) : List (Int × Int × Int) := colI c ts H_ H_ 0 0 0 0
open Classical in
noncomputable def zFF (c : Int) (ts : List Tile) (h : Int) : Int := if zG (setOK c ts) (1 ≤ h ∧ h ≤ 4) = 0 then (if c ^ h.toNat > 700 ∨ 5000 < (zuY c ts h).length then 3 else 0) else zG (setOK c ts) (1 ≤ h ∧ h ≤ 4)
theorem zFE {c : Int} {ts : List Tile} {h : Int} (q : zG (setOK c ts) (1 ≤ h ∧ h ≤ 4) = 0) (t : ¬ (c ^ h.toNat > 700 ∨ 5000 < (zuY c ts h).length)) : zFF c ts h = 0 := by unfold zFF; rw [if_pos q, if_neg t]
structure StripOK (c : Int) (ts : List Tile) (h : Int) : Prop where
 set : setOK c ts
 hh : 1 ≤ h ∧ h ≤ 4
 pw : c ^ h.toNat ≤ 700
 ln : (zuY c ts h).length ≤ 5000
theorem StripOK.code {c : Int} {ts : List Tile} {h : Int} (k : StripOK c ts h) : zFF c ts h = 0 := zFE (zT k.set k.hh) fun f => by
 have := k.pw
 have := k.ln
 omega
structure Strip (h : H) (n : Nat) (c : Int) (s : Sl) (ts : List Tile) (H_ : Nat) (os : Nat) (q : Sl) : Prop where
 o : Obj h os (zHD c s H_ (c ^ H_) q)
 cols : Ow h q 3 (c3 (zHv c ts H_))
 fr : Fr n q
 os_ : n ≤ os
 ne : q.o ≠ some os
theorem Strip.ext {h h' : H} {n : Nat} {c : Int} {s : Sl} {ts : List Tile} {H_ os : Nat} {q : Sl} (k : Strip h n c s ts H_ os q) (x : Ext h h') : Strip h' n c s ts H_ os q := ⟨k.o.ext x, k.cols.ext x, k.fr, k.os_, k.ne⟩
theorem Strip.le {h : H} {n m : Nat} {c : Int} {s : Sl} {ts : List Tile} {H_ os : Nat} {q : Sl} (k : Strip h n c s ts H_ os q) (hm : m ≤ n) : Strip h m c s ts H_ os q := ⟨k.o, k.cols, k.fr.le hm, Nat.le_trans hm k.os_, k.ne⟩
theorem Strip.len {h : H} {n : Nat} {c : Int} {s : Sl} {ts : List Tile} {H_ os : Nat} {q : Sl} (k : Strip h n c s ts H_ os q) : q.len = (zHv c ts H_).length := by have := k.cols.len; rw [zCi] at this; omega
section
variable {h0 : H} {c : Int} {s : Sl} {ts : List Tile} {H_ : Nat}
end
end Go.Proofs.YtlcgclmobfdbcaaGreat.Cl
set_option linter.unusedVariables false
set_option linter.unusedSimpArgs false
namespace Go.Proofs.YtlcgclmobfdbcaaGreat.Cl
open Go
theorem NewSS.one {n : Nat} {h h' : H} {v u : Sl} {l : List Int} (ov : Ow h v 1 (ic l)) (fv : Fr n v) (x : Ext h h') (ou : Ow h' u 1 [.sl v]) (fu : ∀ o, u.o = some o → h.length ≤ o) (hn : n ≤ h.length) : NewSS n h' u [l] := by
 refine ⟨[v], rfl, ou, (fun o e => Nat.le_trans hn (fu o e)), fun i w l' a b => ?_, fun i j w w' hne a b => ?_, fun i w a o e e2 => ?_⟩
 ·have hi : i = 0 := by have := (List.getElem?_eq_some_iff.1 a).1; simpa using this
  subst hi
  simp at a b
  subst a b
  exact ⟨ov.ext x, fv⟩
 ·have hi : i = 0 := by have := (List.getElem?_eq_some_iff.1 a).1; simpa using this
  have hj : j = 0 := by have := (List.getElem?_eq_some_iff.1 b).1; simpa using this
  omega
 ·have hi : i = 0 := by have := (List.getElem?_eq_some_iff.1 a).1; simpa using this
  subst hi
  simp at a
  subst a
  have := ov.lt e
  have := fu o e2
  omega
section
variable {h0 : H} {c : Int} {s : Sl} {ts : List Tile} {H_ : Nat}
end
end Go.Proofs.YtlcgclmobfdbcaaGreat.Cl
set_option linter.unusedVariables false
set_option linter.unusedSimpArgs false
namespace Go.Proofs.YtlcgclmobfdbcaaGreat.Cl
open Go
section
variable {h0 : H} {c : Int} {s : Sl} {ts : List Tile} {H_ : Nat}
end
end Go.Proofs.YtlcgclmobfdbcaaGreat.Cl
set_option linter.unusedVariables false
set_option linter.unusedSimpArgs false
namespace Go.Proofs.YtlcgclmobfdbcaaGreat.Cl
open Go
section
variable {hb : H} {n N : Nat} {c : Int} {s : Sl} {ts : List Tile} {H_ os : Nat} {q : Sl} {f : Int → Int} {B : Int} {gf gv : Nat} {capf capv : List AVal} {σ : Type} {g : σ → Int → σ × Bool} {I : σ → H → Prop} {J : σ → Prop} {n1 : Nat}
end
end Go.Proofs.YtlcgclmobfdbcaaGreat.Cl
set_option linter.unusedVariables false
set_option linter.unusedSimpArgs false
namespace Go.Proofs.YtlcgclmobfdbcaaGreat.Cl
open Go
section
variable {h0 : H} {c : Int} {s : Sl} {ts : List Tile} {a n : Int}
end
end Go.Proofs.YtlcgclmobfdbcaaGreat.Cl
set_option linter.unusedVariables false
set_option linter.unusedSimpArgs false
namespace Go.Proofs.YtlcgclmobfdbcaaGreat.Cl
open Go
section
variable {h0 : H} {u w : Sl} {L : List (Int × Int × Int)} {N : Nat} {now : List Int}
end
section
variable {h0 : H} {c : Int} {s : Sl} {ts : List Tile} {a n : Int}
end
end Go.Proofs.YtlcgclmobfdbcaaGreat.Cl
set_option linter.unusedVariables false
set_option linter.unusedSimpArgs false
namespace Go.Proofs.YtlcgclmobfdbcaaGreat.Cl
open Go
def WV (ks : List Int) (k : Int) : List Int := if k ∈ ks then ks else ks ++ [k]
theorem zgJ {ks : List Int} (h : ks.Nodup) (k : Int) : (WV ks k).Nodup := by
 unfold WV
 split
 ·exact h
 ·next hn => exact List.nodup_append.2 ⟨h, by simp, fun a ha b hb e => hn (by rw [List.mem_singleton.1 hb] at e; rw [← e]; exact ha)⟩
theorem zkD {ks : List Int} {k x : Int} : x ∈ WV ks k ↔ x ∈ ks ∨ x = k := by
 unfold WV
 split
 ·next h => exact ⟨.inl, fun h2 => h2.elim id fun e => by rw [e]; exact h⟩
 ·simp
def ksE (ks : List Int) : List (AVal × AVal) := ks.map fun k => (i64 k, .bool true)
def MpK (h : H) (o : Nat) (ks : List Int) : Prop := h[o]? = some (.mp (ksE ks))
theorem MpK.lt {h o ks} (x : MpK h o ks) : o < h.length := (List.getElem?_eq_some_iff.1 x).1
theorem MpK.ext {h h' o ks} (x : MpK h o ks) (e : Ext h h') : MpK h' o ks := e.own x
theorem MpK.but {h h' o ks} {p : Option Nat} (x : MpK h o ks) (b : But p h h') (hn : p ≠ some o) : MpK h' o ks := b.get x hn
section
variable {h0 : H} {c : Int} {s : Sl} {ts : List Tile} {n : Int}
end
end Go.Proofs.YtlcgclmobfdbcaaGreat.Cl
set_option linter.unusedVariables false
set_option linter.unusedSimpArgs false
namespace Go.Proofs.YtlcgclmobfdbcaaGreat.Cl
open Go
abbrev PL := List (Int × Int)
def fw (R : PL) : Nat → Int → Nat
 | 0, _ => 1
 | n + 1, k => (R.map fun e => if e.1 = k then fw R n e.2 else 0).sum
def bw (R : PL) : Nat → Int → Nat
 | 0, _ => 1
 | n + 1, k => (R.map fun e => if e.2 = k then bw R n e.1 else 0).sum
theorem QU {α β : Type} (f : α → β → Nat) : ∀ (l : List α) (m : List β), (l.map fun a => (m.map fun b => f a b).sum).sum = (m.map fun b => (l.map fun a => f a b).sum).sum
 | [], m => by simp [Za]
 | a :: l, m => by
  simp only [List.map_cons, List.sum_cons]
  rw [QU f l m, ← zmJ]
theorem ziL {α : Type} (f : α → Nat) (c : Nat) : ∀ l : List α, (l.map f).sum * c = (l.map fun a => f a * c).sum
 | [] => by simp
 | a :: l => by simp only [List.map_cons, List.sum_cons, Nat.add_mul, ziL f c l]
theorem ziM {α : Type} (f : α → Nat) (c : Nat) : ∀ l : List α, c * (l.map f).sum = (l.map fun a => c * f a).sum
 | [] => by simp
 | a :: l => by simp only [List.map_cons, List.sum_cons, Nat.mul_add, ziM f c l]
theorem xC {α : Type} {f g : α → Nat} {l : List α} (h : ∀ a ∈ l, f a = g a) : (l.map f).sum = (l.map g).sum := by rw [List.map_congr_left h]
theorem zDb (R : PL) (n m : Nat) : (R.map fun e => bw R (n + 1) e.1 * fw R m e.2).sum = (R.map fun e => bw R n e.1 * fw R (m + 1) e.2).sum := by
 have e1 : (R.map fun e => bw R (n + 1) e.1 * fw R m e.2).sum = (R.map fun e => (R.map fun d => (if d.2 = e.1 then bw R n d.1 else 0) * fw R m e.2).sum).sum :=
  xC fun e _ => by rw [bw, ziL]
 have e2 : (R.map fun e => bw R n e.1 * fw R (m + 1) e.2).sum = (R.map fun d => (R.map fun e => (if d.2 = e.1 then bw R n d.1 else 0) * fw R m e.2).sum).sum :=
  xC fun d _ => by
   rw [fw, ziM]
   refine xC fun e _ => ?_
   by_cases h : d.2 = e.1
   ·rw [if_pos h, if_pos h.symm]
   ·rw [if_neg h, if_neg (fun e => h e.symm)]; simp
 rw [e1, e2, QU]
theorem zzd (R : PL) : ∀ n m : Nat, (R.map fun e => bw R n e.1 * fw R m e.2).sum = (R.map fun e => bw R 0 e.1 * fw R (m + n) e.2).sum
 | 0, m => rfl
 | n + 1, m => by rw [zDb, zzd R n (m + 1), show m + 1 + n = m + (n + 1) by omega]
theorem zwr (R : PL) (n : Nat) : (R.map fun e => fw R n e.2).sum = (R.map fun e => bw R n e.1).sum := by
 have := zzd R n 0
 simp only [bw, fw, Nat.one_mul, Nat.mul_one, Nat.zero_add] at this
 exact this.symm
def Same (R Q : PL) : Prop := ∀ g : Int × Int → Nat, (R.map g).sum = (Q.map g).sum
theorem zoA {R Q : PL} (h : Same R Q) : ∀ n k, fw R n k = fw Q n k
 | 0, k => rfl
 | n + 1, k => by
  rw [fw, fw, h]
  exact xC fun e _ => by rw [zoA h n]
def tot (R : PL) (n : Nat) : Nat := (R.map fun e => fw R n e.2).sum
theorem zvx {R Q : PL} (h : Same R Q) (n : Nat) : tot R n = tot Q n := by
 unfold tot
 rw [h]
 exact xC fun e _ => by rw [zoA h n]
theorem zGf {R : PL} {N n : Nat} (h : ∀ e ∈ R, 0 ≤ e.1 ∧ e.1 < N) : ((List.range N).map fun (y : Nat) => fw R (n + 1) (y : Int)).sum = tot R n := by
 unfold tot
 rw [← YE (fun e : Int × Int => e.1) (fun e _ => fw R n e.2) R h]
 rfl
theorem zCG {ks : List Int} (h : ks.Nodup) {x : Int} (hx : x ∈ ks) (v : Nat) : (ks.map fun k => if x = k then v else 0).sum = v := by
 induction ks with
 | nil => cases hx
 | cons a ks ih =>
  have h1 := List.nodup_cons.1 h
  simp only [List.map_cons, List.sum_cons]
  by_cases e : x = a
  ·rw [if_pos e]
   have : (ks.map fun k => if x = k then v else 0).sum = 0 := by
    rw [xC (g := fun _ => 0) fun k hk => if_neg fun e2 => h1.1 (by rw [← e, e2]; exact hk), Za]
   omega
  ·rw [if_neg e, ih h1.2 (by simpa [e] using hx)]; omega
theorem zHx {R : PL} {ks : List Int} {n : Nat} (h : ks.Nodup) (hx : ∀ e ∈ R, e.2 ∈ ks) : (ks.map fun k => bw R (n + 1) k).sum = tot R n := by
 unfold tot
 rw [zwr]
 have : (ks.map fun k => bw R (n + 1) k).sum = (ks.map fun k => (R.map fun e => if e.2 = k then bw R n e.1 else 0).sum).sum := rfl
 rw [this, QU]
 exact xC fun e he => zCG h (hx e he) _
def M1 : Nat := 1000000000000001
def sat (n : Nat) : Nat := min n M1
theorem VQ (n : Nat) : sat n ≤ 1000000000000001 := by unfold sat M1; omega
theorem ziS (a b : Nat) : mnI (w64 ((sat a : Int) + (sat b : Int))) 1000000000000001 = (sat (a + b) : Int) := by
 have := VQ a
 have := VQ b
 rw [zd (by omega) (by omega)]
 unfold mnI sat M1
 split <;> omega
theorem ziR (a b : Nat) : mnI 1000000000000001 (w64 ((sat a : Int) + (sat b : Int))) = (sat (a + b) : Int) := by
 have := VQ a
 have := VQ b
 rw [zd (by omega) (by omega)]
 unfold mnI sat M1
 split <;> omega
theorem YJ (n : Nat) (h : n ≤ 1000000000000000) : sat n = n := by unfold sat M1; omega
def putI (k v : Int) : PL → PL
 | [] => [(k, v)]
 | e :: es => if k = e.1 then (k, v) :: es else e :: putI k v es
def lkI (k : Int) : PL → Int
 | [] => 0
 | e :: es => if k = e.1 then e.2 else lkI k es
theorem zyZ (k v j : Int) : ∀ es : PL, lkI j (putI k v es) = if j = k then v else lkI j es
 | [] => by simp [putI, lkI]
 | e :: es => by
  unfold putI
  by_cases h : k = e.1
  ·rw [if_pos h]
   simp only [lkI]
   by_cases h2 : j = k
   ·rw [if_pos h2, if_pos h2]
   ·rw [if_neg h2, if_neg h2, if_neg (by rw [← h]; exact h2)]
  ·rw [if_neg h]
   simp only [lkI, zyZ k v j es]
   by_cases h2 : j = k
   ·subst h2; simp [h]
   ·simp only [if_neg h2]
theorem Q6 (k v : Int) : ∀ es : PL, (putI k v es).map (·.1) = WV (es.map (·.1)) k
 | [] => rfl
 | e :: es => by
  unfold putI
  by_cases h : k = e.1
  ·rw [if_pos h, List.map_cons, List.map_cons]
   unfold WV
   rw [if_pos (by simp [h])]
   simp [h]
  ·rw [if_neg h, List.map_cons, Q6 k v es, List.map_cons]
   unfold WV
   by_cases h2 : k ∈ es.map (·.1)
   ·rw [if_pos h2, if_pos (by simp only [List.mem_cons]; exact .inr h2)]
   ·rw [if_neg h2, if_neg (by simp only [List.mem_cons, not_or]; exact ⟨h, h2⟩)]; rfl
theorem zFX {es : PL} (h : (es.map (·.1)).Nodup) {e : Int × Int} (he : e ∈ es) : lkI e.1 es = e.2 := by
 induction es with
 | nil => cases he
 | cons a es ih =>
  rw [List.map_cons] at h
  have h1 := List.nodup_cons.1 h
  simp only [lkI]
  rcases List.mem_cons.1 he with rfl | h2
  ·rw [if_pos rfl]
  ·rw [if_neg (fun e2 => h1.1 (by rw [← e2]; exact List.mem_map.2 ⟨e, h2, rfl⟩)), ih h1.2 h2]
def mpE (es : PL) : List (AVal × AVal) := es.map fun e => (i64 e.1, i64 e.2)
theorem znp (k v : Int) : ∀ es : PL, wB (i64 k) (i64 v) (mpE es) = some (mpE (putI k v es))
 | [] => rfl
 | a :: es => by
  have ih := znp k v es
  show wB (i64 k) (i64 v) ((i64 a.1, i64 a.2) :: mpE es) = _
  have e : Yw (i64 k) (i64 a.1) = some (k == a.1) := by unfold Yw; simp
  unfold wB putI
  simp only [e]
  by_cases h : k = a.1
  ·rw [beq_iff_eq.2 h, if_pos h]; rfl
  ·rw [beq_eq_false_iff_ne.2 h, if_neg h]
   simp only [ih, Option.map_some]; rfl
theorem zjg (k : Int) : ∀ es : PL, ∃ f, xx (i64 k) (mpE es) = some f ∧ ((f = none ∧ lkI k es = 0) ∨ f = some (i64 (lkI k es)))
 | [] => ⟨none, rfl, .inl ⟨rfl, rfl⟩⟩
 | a :: es => by
  obtain ⟨f, h1, h2⟩ := zjg k es
  show ∃ f, xx (i64 k) ((i64 a.1, i64 a.2) :: mpE es) = some f ∧ _
  have e : Yw (i64 k) (i64 a.1) = some (k == a.1) := by unfold Yw; simp
  unfold xx
  simp only [e, lkI]
  by_cases h : k = a.1
  ·rw [beq_iff_eq.2 h, if_pos h]; exact ⟨_, rfl, .inr rfl⟩
  ·rw [beq_eq_false_iff_ne.2 h, if_neg h]; exact ⟨f, h1, h2⟩
def MpI (h : H) (o : Nat) (es : PL) : Prop := h[o]? = some (.mp (mpE es))
theorem MpI.lt {h o es} (x : MpI h o es) : o < h.length := (List.getElem?_eq_some_iff.1 x).1
theorem MpI.ext {h h' o es} (x : MpI h o es) (e : Ext h h') : MpI h' o es := e.own x
theorem MpI.but {h h' o es} {p : Option Nat} (x : MpI h o es) (b : But p h h') (hn : p ≠ some o) : MpI h' o es := b.get x hn
theorem zyX {h : H} {o : Nat} {es : PL} (x : MpI h o es) (k v : Int) {K : H → Prop} (hk : ∀ h', MpI h' o (putI k v es) → But (some o) h h' → h'.length = h.length → K h') : mput (.map (some o)) (i64 k) (i64 v) h K :=
 ⟨o, _, _, rfl, x, znp k v es, hk _ (by unfold MpI; have := x.lt; simp [this]) ⟨by simp, fun i hi hne => by rw [List.getElem?_set, if_neg (fun e => hne (by rw [e]))]⟩ (by simp)⟩
theorem znq {h : H} {o : Nat} {es : PL} (x : MpI h o es) (k : Int) {K : Int → Prop} (hk : K (lkI k es)) : WW .i64 (.map (some o)) (i64 k) h K := by
 obtain ⟨f, h1, h2⟩ := zjg k es
 exact ⟨some o, mpE es, f, lkI k es, rfl, by simp only [ZL]; rw [show h[o]? = some (.mp (mpE es)) from x], h1, h2, hk⟩
theorem zyV {h : H} {K : AVal → H → Prop} (hk : ∀ h', MpI h' h.length [] → Ext h h' → h'.length = h.length + 1 → K (.map (some h.length)) h') : newM h K :=
 hk _ (by unfold MpI mpE; simp) (Ext.app _ _) (by simp)
def Counts (es : PL) (f : Int → Nat) (B : Int → Prop) : Prop := (es.map (·.1)).Nodup ∧ (∀ k, lkI k es = (sat (f k) : Int)) ∧ ∀ k, B k → k ∈ es.map (·.1)
theorem Counts.nil : Counts [] (fun _ => 0) fun _ => False := ⟨List.nodup_nil, fun k => rfl, fun k h => h.elim⟩
theorem Counts.put {es f B} (c : Counts es f B) (k : Int) (v : Nat) : Counts (putI k (sat (f k + v) : Int) es) (fun j => f j + if k = j then v else 0) fun j => B j ∨ j = k := by
 refine ⟨by rw [Q6]; exact zgJ c.1 k, fun j => ?_, fun j hj => ?_⟩
 ·rw [zyZ]
  show _ = ((sat (f j + if k = j then v else 0) : Nat) : Int)
  by_cases h : j = k
  ·rw [if_pos h, if_pos h.symm, h]
  ·rw [if_neg h, if_neg (fun e => h e.symm), c.2.1]; rfl
 ·rw [Q6, zkD]
  rcases hj with hj | hj
  ·exact .inl (c.2.2 j hj)
  ·exact .inr hj
theorem Counts.sum {es f B} (c : Counts es f B) : ∀ e ∈ es, e.2 = (sat (f e.1) : Int) := fun e he => by rw [← zFX c.1 he, c.2.1]
theorem zvN {α : Type} (g : α → Nat) {l m : List α} (h : l.Perm m) : (l.map g).sum = (m.map g).sum := by
 induction h with
 | nil => rfl
 | cons x _ ih => simp only [List.map_cons, List.sum_cons, ih]
 | swap x y l => simp only [List.map_cons, List.sum_cons]; omega
 | trans _ _ ih1 ih2 => rw [ih1, ih2]
theorem znd {α : Type} (g : α → Nat) (d : α) : ∀ l : List α, ((List.range l.length).map fun i => g (l.getD i d)) = l.map g := fun l => by
 apply List.ext_getElem
 ·simp
 ·intro i h1 h2
  simp only [List.getElem_map, List.getElem_range]
  rw [List.getD_eq_getElem?_getD, List.getElem?_eq_getElem (by simpa using h2)]; rfl
end Go.Proofs.YtlcgclmobfdbcaaGreat.Cl
set_option linter.unusedVariables false
set_option linter.unusedSimpArgs false
namespace Go.Proofs.YtlcgclmobfdbcaaGreat.Cl
open Go
noncomputable def PW (c : Int) (ts : List Tile) (W : Nat) : PL := (zh ts W).map fun w => (cd c ts 1 w, cd c ts 3 w)
noncomputable def zgY (c : Int) (ts : List Tile) (W n i : Nat) (a : Int) : Nat := (((zh ts W).take i).map fun w => if cd c ts 1 w = a then fw (PW c ts W) n (cd c ts 3 w) else 0).sum
section
variable {c : Int} {ts : List Tile} {W : Nat}
theorem zky {n : Nat} {a : Int} : zgY c ts W n 0 a = 0 := rfl
theorem zkz {n : Nat} {a : Int} {i : Nat} (hi : i < (zh ts W).length) : zgY c ts W n (i + 1) a = zgY c ts W n i a + if cd c ts 1 (zh ts W)[i] = a then fw (PW c ts W) n (cd c ts 3 (zh ts W)[i]) else 0 := by
 unfold zgY
 rw [List.take_succ_eq_append_getElem hi, List.map_append, List.sum_append]
 simp
theorem znj {n : Nat} {a : Int} : zgY c ts W n (zh ts W).length a = fw (PW c ts W) (n + 1) a := by
 unfold zgY
 rw [List.take_length, fw]
 unfold PW
 rw [List.map_map]
 rfl
end
section
variable {h0 : H} {c : Int} {s q : Sl} {ts : List Tile} {W : Nat} {a b : Int}
theorem zhj (hN : ts.length ≤ 16) (S : wh c ts) (hc : c ≤ 6) (hW : 1 ≤ W ∧ W ≤ 3) {tq bq : Sl} (rt : Rd h0 tq 1 (ic ((zh ts W).map (cd c ts 1)))) (rb : Rd h0 bq 1 (ic ((zh ts W).map (cd c ts 3)))) {N n : Nat} (hNS : (N : Int) = c ^ W) (hn : n ≤ 5) :
  callS SP zhk [.agg (SetC c s), .sl tq, .sl bq, i64 N, i64 n, i64 (-1)] h0 fun u h' => Rd h' u 1 (ic (tab1 N fun a => (sat (fw (PW c ts W) n (a : Int)) : Int))) ∧ Ext h0 h' := by
 have hpw := xM S.1 hc hW.2
 rw [← hNS] at hpw
 have hwl : (zh ts W).length ≤ 4096 := z7 hN hW.2 ([] : List Int)
 have htl := rt.ilen
 rw [List.length_map] at htl
 apply zjC
 unfold YN
 refine zi fun h1 o1 y1 l1 => ?_
 refine zeG (by omega) (by unfold lim; omega) fun u h2 ou lu uo e2 => ?_
 rw [xq, Int.toNat_natCast, q8] at ou
 have y2 : Ext h1 h2 := by rw [e2]; exact Ext.app _ _
 refine zfr _ _ _ _ _ _ _ _ (fun i h => 0 ≤ i ∧ i ≤ N ∧ Ext h0 h ∧ Ow h u 1 (ic (tab1 N fun j => if j < i.toNat then 1 else 0))) (fun i _ => (N - i).toNat) ?_ _ ⟨by omega, by omega, y1.trans y2, by simpa using ou⟩
 rintro X i h ⟨i0, i1, e, o⟩ hX
 have hy1 := y1.len
 have frU : ∀ p, u.o = some p → h0.length ≤ p := fun p hp => by rw [uo] at hp; cases hp; exact hy1
 unfold zjF zpi
 refine zc (fun hi => ?_) (fun hi => ?_)
 ·refine zc (fun _ => ?_) (fun hx => by omega)
  have hol := o.rd.ilen
  rw [zW] at hol
  refine o.stI i0 (by omega) _ fun h' o' b' _ => ?_
  rw [zd (by omega) (by omega)]
  refine hX _ _ ⟨by omega, by omega, e.but_ b' frU, ?_⟩ (by omega)
  rw [YD] at o'
  refine (yB fun j hj => ?_) ▸ o'
  by_cases hji : j = i.toNat
  ·subst hji
   rw [if_pos rfl, if_pos (by omega)]
  ·rw [if_neg hji]
   by_cases hj2 : j < i.toNat
   ·rw [if_pos hj2, if_pos (by omega)]
   ·rw [if_neg hj2, if_neg (by omega)]
 ·refine zfq _ _ _ _ _ (fun k v g => 0 ≤ k ∧ k ≤ n ∧ Ext h0 g ∧ Rd g v 1 (ic (tab1 N fun a => (sat (fw (PW c ts W) (n - k.toNat) (a : Int)) : Int)))) (fun k _ _ => k.toNat) ?_ _ _ ⟨by omega, by omega, e, ?_⟩
  rotate_left
  ·refine (yB fun j hj => ?_) ▸ o.rd
   rw [Int.toNat_natCast, Nat.sub_self, if_pos (by omega)]; rfl
  clear hX o i0 i1 e hi
  rintro X k v g ⟨k0, k1, e, rv⟩ hX
  unfold zjE zph
  refine zc (fun hk => ?_) (fun hk => ⟨_, rfl, ?_, e⟩)
  rotate_left
  ·rw [show n - k.toNat = n by omega] at rv; exact rv
  obtain ⟨m, hm⟩ : ∃ m, m = n - k.toNat := ⟨_, rfl⟩
  rw [← hm] at rv
  refine zeG (by omega) (by unfold lim; omega) fun z g2 oz lz zo e2 => ?_
  rw [xq, Int.toNat_natCast, q8] at oz
  have y2 : Ext g g2 := by rw [e2]; exact Ext.app _ _
  refine zfp _ _ X _ _ _ _ _ _ (fun i h => 0 ≤ i ∧ i ≤ (zh ts W).length ∧ Ext g h ∧ Ow h z 1 (ic (tab1 N fun a => (sat (zgY c ts W m i.toNat (a : Int)) : Int)))) (fun i _ => ((zh ts W).length - i).toNat) ?_ _ ⟨by omega, by omega, y2, by simpa [zky, sat] using oz⟩
  rintro Y i h ⟨i0, i1, e', o⟩ hY
  have frZ : ∀ p, z.o = some p → g.length ≤ p := fun p hp => by rw [zo] at hp; cases hp; exact Nat.le_refl _
  unfold zjD zpf zpg
  refine zc (fun hi => ?_) (fun hi => ?_)
  ·obtain ⟨w, rfl⟩ : ∃ w : Nat, i = w := ⟨i.toNat, by omega⟩
   rw [Int.toNat_natCast] at o
   have hw : w < (zh ts W).length := by omega
   have hwd := yP (List.getElem_mem hw)
   have b1 := hwd.bound (k := 1) S (by omega)
   have b3 := hwd.bound (k := 3) S (by omega)
   rw [← hNS] at b1 b3
   have rt' := rt.ext (e.trans e')
   have rb' := rb.ext (e.trans e')
   refine rt'.ldG (by omega) (by rw [List.length_map]; omega) ?_
   rw [Int.toNat_natCast, mapG hw]
   refine rt'.ldG (by omega) (by rw [List.length_map]; omega) ?_
   rw [Int.toNat_natCast, mapG hw]
   refine o.rd.ldG b1.1 (by rw [zW]; omega) ?_
   rw [wL (by omega)]
   refine rb'.ldG (by omega) (by rw [List.length_map]; omega) ?_
   rw [Int.toNat_natCast, mapG hw]
   refine (rv.ext e').ldG b3.1 (by rw [zW]; omega) ?_
   rw [wL (by omega)]
   have hol := o.rd.ilen
   rw [zW] at hol
   have c1 : ((cd c ts 1 (zh ts W)[w]).toNat : Int) = cd c ts 1 (zh ts W)[w] := by omega
   have c3 : ((cd c ts 3 (zh ts W)[w]).toNat : Int) = cd c ts 3 (zh ts W)[w] := by omega
   rw [c1, c3, ziS]
   refine o.stI b1.1 (by omega) _ fun h' o' b' _ => ?_
   rw [zd (n := (w : Int) + 1) (by omega) (by omega)]
   refine hY _ _ ⟨by omega, by omega, e'.but_ b' frZ, ?_⟩ (by omega)
   rw [YD] at o'
   refine (yB fun j hj => ?_) ▸ o'
   rw [show ((w : Int) + 1).toNat = w + 1 by omega, zkz hw]
   by_cases hj1 : j = (cd c ts 1 (zh ts W)[w]).toNat
   ·rw [if_pos hj1, if_pos (by omega), show ((j : Nat) : Int) = cd c ts 1 (zh ts W)[w] by omega]
   ·rw [if_neg hj1, if_neg (by omega)]; simp
  ·rw [zd (by omega) (by omega)]
   refine hX _ _ _ ⟨by omega, by omega, e.trans e', ?_⟩ (by omega)
   rw [show i.toNat = (zh ts W).length by omega] at o
   refine (yB fun j hj => ?_) ▸ o.rd
   rw [znj]
   congr 3; omega
def zmv (a b : Int) : Prop := (1 ≤ a ∧ a ≤ 5) ∧ 1 ≤ b ∧ b ≤ 3
theorem zkJ (r : Rd h0 s 4 (tcs ts)) : callI SP .i64 zkN [.agg (SetC c s), i64 a, i64 b, i64 5] h0 fun n h' => n = zG (setOK c ts) (zmv a b) ∧ Ext h0 h' := by
 apply zjG
 unfold YO
 refine zi fun h1 o1 x1 l1 => ?_
 refine o1.ldA rfl ?_
 refine (ZR (r.ext x1)).to ?_
 rintro e h2 ⟨he, x2⟩
 have X := x1.trans x2
 refine zF (fun hq => ⟨_, rfl, (yY fun hs => ?_).symm, X⟩) (fun hq => ?_)
 ·rw [he.2 hs] at hq; cases hq
 have hs := he.1 hq
 refine ZS ?_
 refine zF (fun h => ⟨_, rfl, (yM hs fun z => ?_).symm, X⟩) (fun h => ?_)
 ·exact of_decide_eq_false h z.1
 refine ZS ?_
 refine zF (fun h' => ⟨_, rfl, (yM hs fun z => ?_).symm, X⟩) (fun h' => ⟨_, rfl, (zT hs ⟨of_decide_eq_true h, of_decide_eq_true h'⟩).symm, X⟩)
 exact of_decide_eq_false h' z.2
noncomputable def cyl (c : Int) (ts : List Tile) (a b : Int) : Nat := tot (PW c ts b.toNat) (a.toNat - 1)
open Classical in
noncomputable def zz (c : Int) (ts : List Tile) (a b : Int) : Int := sel (setOK c ts ∧ zmv a b) (if cyl c ts a b ≤ 1000000000000000 then (cyl c ts a b : Int) else 0) 0
open Classical in
noncomputable def zy (c : Int) (ts : List Tile) (a b : Int) : Int := sel (setOK c ts ∧ zmv a b) (if cyl c ts a b ≤ 1000000000000000 then 0 else 3) (zG (setOK c ts) (zmv a b))
theorem sat_big {n : Nat} : (1000000000000000 < (sat n : Int)) ↔ 1000000000000000 < n := by unfold sat M1; omega
theorem xp (r : Rd h0 s 4 (tcs ts)) (sz : ts.length ≤ 1048576) (ba : yN a) (bb : yN b) :
  callV SP znT [.agg (SetC c s), i64 a, i64 b] h0 fun v h' => v = .tuple [i64 (zz c ts a b), i64 (zy c ts a b)] ∧ Ext h0 h' := by
 apply zxp
 unfold zbT
 refine zi fun h1 o1 x1 n1 => ?_
 refine o1.ldA rfl ?_
 refine (zkJ (r.ext x1)).to ?_
 rintro n h2 ⟨rfl, x2⟩
 have X := x1.trans x2
 refine zL (fun hq => ⟨?_, X⟩) (fun hq => ?_)
 ·rw [zz, zy, zK (zO hq), zK (zO hq)]
 have hcz := zN hq
 obtain ⟨hs, hz⟩ := hcz
 obtain ⟨H_, rfl⟩ : ∃ H_ : Nat, a = H_ := ⟨a.toNat, by have := hz.1.1; omega⟩
 obtain ⟨W, rfl⟩ : ∃ W : Nat, b = W := ⟨b.toNat, by have := hz.2.1; omega⟩
 have hW : 1 ≤ W ∧ W ≤ 3 := by have := hz.2; omega
 have hH : 1 ≤ H_ ∧ H_ ≤ 5 := by have := hz.1; omega
 have S := hs.sides
 have hN : ts.length ≤ 16 := hs.2.1
 have hc6 : c ≤ 6 := hs.1.2
 refine (o1.ext x2).ldA rfl ?_
 refine (ZN (r.ext X) hN S hc6 hW).to ?_
 rintro _ h3 ⟨wa, wb, wd, rfl, nw, rb, rd, x3⟩
 refine ⟨_, rfl, ?_⟩
 refine ⟨_, rfl, ?_⟩
 refine ⟨_, rfl, ?_⟩
 refine ⟨_, rfl, ?_⟩
 refine ⟨_, rfl, ?_⟩
 refine ⟨_, rfl, ?_⟩
 have o3 := o1.ext (x2.trans x3)
 refine o3.ldA rfl ?_
 refine zg (o3.ldI rfl rfl ?_)
 refine (ZQ S.1 hc6 hW.2).to ?_
 rintro _ h4 ⟨rfl, x4⟩
 refine ⟨?_, ?_⟩
 ·simp only [range, cells]; rw [show h4[h0.length]? = _ from o3.ext x4, show h3[h0.length]? = _ from o3]
 have hpw := xM S.1 hc6 hW.2
 obtain ⟨N, hNS⟩ : ∃ N : Nat, (N : Int) = c ^ W := ⟨(c ^ W).toNat, by omega⟩
 rw [← hNS]
 refine (zhj hN S hc6 hW (rb.ext x4) (rd.ext x4) hNS hH.2).to ?_
 rintro u h5 ⟨ru, x5⟩
 have XX := (X.trans x3).trans (x4.trans x5)
 have hul := ru.ilen
 rw [zW] at hul
 refine zqq _ _ _ (fun z i h => 0 ≤ i ∧ i ≤ N ∧ Ext h5 h ∧ z = (sat ((List.range i.toNat).map fun (y : Nat) => fw (PW c ts W) H_ (y : Int)).sum : Int)) (fun _ i _ => (N - i).toNat) ?_ _ _ ⟨by omega, by omega, Ext.refl _, by simp [sat]⟩
 rintro Y z i h ⟨i0, i1, y, rfl⟩ hY
 unfold zqs zAP
 refine zc (fun hi => ?_) (fun hi => ?_)
 ·refine (ru.ext y).ldG i0 (by rw [zW]; omega) ?_
  rw [wL (by omega), ziS, zd (by omega) (by omega)]
  refine hY _ _ _ ⟨by omega, by omega, y, ?_⟩ (by omega)
  rw [show (i + 1).toNat = i.toNat + 1 by omega, List.range_succ, List.map_append, List.sum_append]
  simp
 ·have hsum : ((List.range i.toNat).map fun (y : Nat) => fw (PW c ts W) H_ (y : Int)).sum = cyl c ts H_ W := by
   unfold cyl
   rw [show i.toNat = N by omega, Int.toNat_natCast, Int.toNat_natCast]
   rw [← zGf (R := PW c ts W) (N := N) (n := H_ - 1) ?_, show H_ - 1 + 1 = H_ by omega]
   intro e he
   unfold PW at he
   obtain ⟨w, hw, rfl⟩ := List.mem_map.1 he
   have := (yP hw).bound (k := 1) S (by omega)
   rw [← hNS] at this
   exact this
  rw [hsum]
  refine zc (fun hb => ⟨?_, XX.trans y⟩) (fun hb => ⟨?_, XX.trans y⟩)
  ·rw [zz, zy, zj ⟨hs, hz⟩, zj ⟨hs, hz⟩, if_neg, if_neg]
   ·have := sat_big.1 hb; omega
   ·have := sat_big.1 hb; omega
  ·have hle : cyl c ts H_ W ≤ 1000000000000000 := by
    rcases Nat.lt_or_ge 1000000000000000 (cyl c ts H_ W) with h | h
    ·exact absurd (sat_big.2 h) hb
    ·exact h
   rw [zz, zy, zj ⟨hs, hz⟩, zj ⟨hs, hz⟩, if_pos hle, if_pos hle, YJ _ hle]
end
end Go.Proofs.YtlcgclmobfdbcaaGreat.Cl
set_option linter.unusedVariables false
set_option linter.unusedSimpArgs false
namespace Go.Proofs.YtlcgclmobfdbcaaGreat.Cl
open Go
def Ys : Go.Obj → Prop | .cells .. => False | .map .. => False | _ => True
theorem zha {w : World} {rb : Nat} {x y : Go.Obj} (h : w.heap[rb]? = some x) (hx : Ys x) (hy : Ys y) (a : Addr) : (w.putObj rb y).cell? a = w.cell? a := by
 have hl : rb < w.heap.size := (Array.getElem?_eq_some_iff.1 h).1
 unfold World.cell?
 by_cases e : a.block = rb
 ·rw [e, World.putObj_heap_same hl, h]
  cases x <;> cases y <;> first | rfl | exact hx.elim | exact hy.elim
 ·rw [World.putObj_heap_other e]
theorem znk {w : World} {rb : Nat} {x y : Go.Obj} (h : w.heap[rb]? = some x) (hx : Ys x) (hy : Ys y) (a : Addr) : (w.putObj rb y).frozen? a = w.frozen? a := by
 have hl : rb < w.heap.size := (Array.getElem?_eq_some_iff.1 h).1
 unfold World.frozen?
 by_cases e : a.block = rb
 ·rw [e, World.putObj_heap_same hl, h]
  cases x <;> cases y <;> first | rfl | exact hx.elim | exact hy.elim
 ·rw [World.putObj_heap_other e]
theorem zgZ (w : World) (rb : Nat) (y : Go.Obj) : (w.putObj rb y).heap.size = w.heap.size := by simp [World.putObj]
theorem Rel.turn {μ h w} (r : Rel μ h w) {rb : Nat} {x y : Go.Obj} (hr : w.heap[rb]? = some x) (hx : Ys x) (hy : Ys y) : Rel μ h (w.putObj rb y) := by
 refine ⟨fun o cs ho => ?_, fun o cs ho i v hv => ?_, fun o es ho => ?_, r.sep⟩
 ·obtain ⟨h1, h2, h3, h4⟩ := r.own o cs ho
  refine ⟨by rw [zgZ]; exact h1, h2, fun i hi => ?_, fun i v hv => ?_⟩
  ·rw [zha hr hx hy, znk hr hx hy]; exact h3 i hi
  ·obtain ⟨q, d, h5, h6⟩ := h4 i v hv
   exact ⟨q, d, by rw [zha hr hx hy]; exact h5, h6⟩
 ·obtain ⟨q, d, h5, h6⟩ := r.ro o cs ho i v hv
  exact ⟨q, d, by rw [zha hr hx hy]; exact h5, h6⟩
 ·obtain ⟨h1, ms, ck, h2, h3, h4⟩ := r.mp o es ho
  refine ⟨by rw [zgZ]; exact h1, ms, ck, ?_, h3, h4⟩
  rw [World.putObj_heap_other]
  ·exact h2
  ·intro e
   rw [e, hr] at h2
   cases h2
   exact hx
theorem Tr.turn {μ h w μ1 h1 w1} (t : Tr μ h w μ1 h1 w1) {rb : Nat} {x y : Go.Obj} (hr : w1.heap[rb]? = some x) (hx : Ys x) (hy : Ys y) (hb : w.heap.size ≤ rb) : Tr μ h w μ1 h1 (w1.putObj rb y) := by
 refine ⟨t.rel.turn hr hx hy, t.step, ⟨t.keep.os, t.keep.tape, t.keep.output, by rw [zgZ]; exact t.keep.size, fun k hk hn => ?_, t.keep.drawn⟩, t.mine, t.has⟩
 rw [World.putObj_heap_other (by omega)]; exact t.keep.block k hk hn
theorem Tr.apart {μ h w μ1 h1 w1 rb x} (t : Tr μ h w μ1 h1 w1) (hr : w.heap[rb]? = some x) (hm : ¬ Mine μ h rb) : w1.heap[rb]? = some x ∧ ¬ Mine μ1 h1 rb := by
 have hl : rb < w.heap.size := (Array.getElem?_eq_some_iff.1 hr).1
 refine ⟨by rw [t.keep.block rb hl hm]; exact hr, fun hc => ?_⟩
 rcases t.mine rb hc with h | h
 ·exact hm h
 ·omega
section
variable {P : Program} {T : Tab} {S : SatT}
structure zmu (F : Fence) (n : Nat) (P : Program) : Prop where
 all : ∀ f, F.fn f
 deep : F.depth = none
 call : ∀ f args w R, Calls P f args w R → CallsIn F (n - 1) P f args w R
theorem yy (n : Nat) (P : Program) : zmu Fence.wide n P := ⟨fun _ => trivial, rfl, fun _ _ _ _ h => callsIn_wide.2 h⟩
theorem VK (n l : Nat) (P : Program) : zmu (Fence.wide.inRound l) n P := ⟨fun _ => trivial, rfl, fun _ _ _ _ h => CallsIn.inRound l (callsIn_wide.2 h)⟩
theorem OpOK.inn {F : Fence} {n : Nat} (W : zmu F n P) {o : Oper} {a : Act} {w : World} {R : Value → World → Prop} {next : Act → World → Prop} {Q : Exit → Act → World → Prop} (h : OpOK P (execOp a.eval o) w R) (hd : ∀ c, o.op ≠ .defer c)
  (hn : ∀ v w', R v w' → next (a.put o.dst v) w') : o.wpIn F n P a w next Q := by
 refine ⟨fun f _ => W.all f, ?_⟩
 rw [Oper.semAt_eq _ _ _ hd]
 unfold OpOK at h
 split at h
 ·next v w' e => rw [e]; exact hn _ _ h
 ·next w' e => rw [e]; exact hn _ _ h
 ·next f args w' e =>
  rw [e]
  refine ⟨fun hh => (by rw [W.deep] at hh; cases hh), W.call _ _ _ _ (Calls.mono h fun e w'' ⟨v, he, hr⟩ => ?_)⟩
  rw [he]
  exact hn _ _ hr
 ·exact h.elim
theorem Xh {o : Oper} {fr : Frame} {h : H} {K : AVal → H → Prop} (H : opK S T o fr h K) : ∀ c, o.op ≠ .defer c := by
 intro c e
 unfold opK at H
 rw [e] at H
 exact H
theorem Y2 (hS : ∀ f args h v h2, S f args h v h2 → Sat P f args h v h2) (hT : TOK P T) {ops : Array Oper} {k : Frame → H → Prop} {Q : Exit → Act → World → Prop} {F : Fence} {n : Nat} (W : zmu F n P) :
  ∀ (l : List Oper) (i : Nat), ops.toList.drop i = l → ∀ {μ : Mu} {h : H} {w : World} {fr : Frame} {a : Act}, Rel μ h w → VRs μ h fr a.tmps.toList → zr S T ops.toList l k fr h →
   (∀ μ' h' w' fr' a', Tr μ h w μ' h' w' → VRs μ' h' fr' a'.tmps.toList → a'.defers = a.defers → (∀ d, (∀ o ∈ l, o.dst ≠ some d) → a'.tmps[d]? = a.tmps[d]?) → k fr' h' → Q .normal a' w') → wpOpsIn F n P ops Q (List.range' i l.length) a w
 | [], i, _, μ, h, w, fr, a, r, hf, hR, hQ => hQ μ h w fr a (Tr.refl r) hf rfl (fun _ _ => rfl) hR
 | o :: l, i, hl, μ, h, w, fr, a, r, hf, hR, hQ => by
  have ho : ops[i]? = some o := by
   rw [← Array.getElem?_toList]
   have := congrArg (·[0]?) hl
   simpa using this
  have hl' : ops.toList.drop (i + 1) = l := by
   rw [← List.drop_drop, hl]; rfl
  rw [List.length_cons, List.range'_succ]
  simp only [wpOpsIn, ho]
  have stepOK : ∀ {K : AVal → H → Prop}, opK S T o fr h K → (∀ v h', K v h' → zr S T ops.toList l k (put fr o.dst v) h') →
    o.wpIn F n P a w (wpOpsIn F n P ops Q (List.range' (i + 1) l.length)) Q := by
   intro K hK hn
   refine (wn hS hT r hf hK).inn W (Xh hK) fun x w' ⟨v, h', μ', h1, h2, h3⟩ => ?_
   refine Y2 hS hT W l (i + 1) hl' h2.rel (yU (VRs.step h2.step hf) h3) (hn v h' h1) fun μ2 h2' w2 fr2 a2 t2 f2 d2 g2 k2 => ?_
   exact hQ μ2 h2' w2 fr2 a2 (h2.trans t2) f2 (by rw [d2, zR]) (fun d hd => (g2 d fun o' ho' => hd o' (List.mem_cons_of_mem _ ho')).trans (zV (hd o (List.mem_cons_self ..)))) k2
  have skipOK : zr S T ops.toList l k (put fr o.dst .gone) h → wpOpsIn F n P ops Q (List.range' (i + 1) l.length) (a.put o.dst undef) w := by
   intro hK
   refine Y2 hS hT W l (i + 1) hl' r (yU (v := .gone) (x := undef) hf (by simp only [VR]; rfl)) hK fun μ2 h2' w2 fr2 a2 t2 f2 d2 g2 k2 => ?_
   exact hQ μ2 h2' w2 fr2 a2 t2 f2 (by rw [d2, zR]) (fun d hd => (g2 d fun o' ho' => hd o' (List.mem_cons_of_mem _ ho')).trans (zV (hd o (List.mem_cons_self ..)))) k2
  unfold zr at hR
  cases hg : o.guard with
  | none =>
   rw [hg] at hR
   rw [if_pos (by unfold Region.wanted; rw [hg])]
   exact stepOK hR fun v h' hK => hK
  | some g =>
   obtain ⟨j, want⟩ := g
   rw [hg] at hR
   simp only at hR
   have hw : Region.wanted o (yielded ops a.tmps) = (yielded ops a.tmps j == some want) := by unfold Region.wanted; rw [hg]
   cases hd : vR ops.toList j with
   | none => rw [hd] at hR; exact hR.elim
   | some d =>
    rw [hd] at hR
    simp only at hR
    split at hR
    ·next b e =>
     obtain ⟨x, hx1, hx2, hx3⟩ := yn hf hd e (by simp)
     simp only [VR] at hx2
     subst hx2
     have es := YH e (by simp)
     cases b <;> cases want <;> simp only [cond_true, cond_false, es] at hR <;> first
      |(rw [if_pos (by rw [hw, hx3]; rfl)]; exact stepOK hR fun v h' hK => hK)
      |(rw [if_neg (by rw [hw, hx3]; simp)]; exact ⟨fun f _ => W.all f, skipOK hR⟩)
    ·next e =>
     obtain ⟨x, hx1, hx2, hx3⟩ := yn hf hd e (by simp)
     simp only [VR] at hx2
     subst hx2
     rw [if_neg (by rw [hw, hx3]; simp)]
     exact ⟨fun f _ => W.all f, skipOK hR⟩
    ·exact hR.elim
theorem yF (hS : ∀ f args h v h2, S f args h v h2 → Sat P f args h v h2) (hT : TOK P T) {id : Nat} {ops : Array Oper} {k : Frame → H → Prop} {Q : Exit → Act → World → Prop} {F : Fence} {n : Nat} (W : zmu F n P)
  {μ : Mu} {h : H} {w : World} {fr : Frame} {a : Act} (r : Rel μ h w) (hf : VRs μ h fr a.tmps.toList) (hR : zr S T ops.toList ops.toList k fr h)
  (hQ : ∀ μ' h' w' fr' a', Tr μ h w μ' h' w' → VRs μ' h' fr' a'.tmps.toList → a'.defers = a.defers → (∀ d, (∀ o ∈ ops.toList, o.dst ≠ some d) → a'.tmps[d]? = a.tmps[d]?) → k fr' h' → Q .normal a' w') : (Code.region id ops false).wpIn F n P Q a w := by
 refine wpIn_region ?_
 rw [List.range_eq_range', ← Array.length_toList]
 exact Y2 hS hT W ops.toList 0 rfl r hf hR hQ
end
end Go.Proofs.YtlcgclmobfdbcaaGreat.Cl
