/- Contracts of functions, joined. No claim is stated here. -/
import Derived.Test.YtcoampecbpiecaaFb1
import Derived.Test.YtcoampecbpiecaaFb0
set_option linter.unusedVariables false
set_option linter.unusedSimpArgs false
namespace Go.Proofs.Ytcoampecbpiecaa.Cl
open Go
open Classical in
noncomputable def codeL (c : Int) (ts : List Tile) (a : Int) : Int := if codeS c ts a ≠ 0 then codeS c ts a else if 40 < (wordsS c ts a).length then 3 else 0
theorem codeL_1 {c : Int} {ts : List Tile} {a : Int} (h : codeS c ts a ≠ 0) : codeL c ts a = codeS c ts a := by unfold codeL; rw [if_pos h]
theorem codeL_3 {c : Int} {ts : List Tile} {a : Int} (h : codeS c ts a = 0) (h2 : 40 < (wordsS c ts a).length) : codeL c ts a = 3 := by unfold codeL; rw [if_neg (by rw [h]; decide), if_pos h2]
theorem codeL_0 {c : Int} {ts : List Tile} {a : Int} (h : codeS c ts a = 0) (h2 : ¬ 40 < (wordsS c ts a).length) : codeL c ts a = 0 := by unfold codeL; rw [if_neg (by rw [h]; decide), if_neg h2]
theorem codeL_ok {c : Int} {ts : List Tile} {a : Int} (h : codeL c ts a = 0) : StripOK c ts a ∧ (wordsS c ts a).length ≤ 40 := by
 by_cases h1 : codeS c ts a = 0
 ·refine ⟨codeS_ok h1, Classical.byContradiction fun f => ?_⟩
  rw [codeL_3 h1 (by omega)] at h; cases h
 ·rw [codeL_1 h1] at h; exact absurd h h1
theorem table_sq {c : Int} {ts : List Tile} {a : Int} (k : StripOK c ts a) : Sq (wordsS c ts a).length 5000 (tableS c ts a) := by
 have hw : (wordsS c ts a).length = plN (pW c ts a) (nW c a) := wdsL_len
 have hSq := Sq.fold (A := eA c ts a) (B := eB c ts a) (pl := plN (pW c ts a)) (n := plN (pW c ts a) (nW c a)) (colsOf c ts a) 0 (zerT (plN (pW c ts a) (nW c a))) (fun e he hl => (by
  have := last_words k he hl
  exact plN_lt this.1.1 this.1.2)) (Int.le_refl _) (Sq.zero _)
 have hl := k.ln
 rw [hw]
 exact ⟨hSq.1, fun i hi => ⟨(hSq.2 i hi).1, fun j => by have := (hSq.2 i hi).2 j; unfold tableS; omega⟩⟩
def dgs (c : Int) : Nat → Int → List Int
 | 0, _ => []
 | k + 1, w => dgs c k (Int.tdiv w c) ++ [Int.tmod w c]
noncomputable def F_ColumnWords_0 (c : Int) (ts : List Tile) (a : Int) : List (List Int) := sel0 (codeL c ts a = 0) ((wordsS c ts a).map (dgs c a.toNat))
theorem wordsS_in {c : Int} {ts : List Tile} {a : Int} : ∀ w ∈ wordsS c ts a, 0 ≤ w ∧ w < nW c a := fun w hw => by
 obtain ⟨x, hx, rfl⟩ := List.mem_map.1 hw
 have := List.mem_range.1 (List.mem_filter.1 hx).1
 omega
theorem rep_set (i : Nat) (suf : List Int) (x : Int) : (List.replicate (i + 1) 0 ++ suf).set i x = List.replicate i 0 ++ x :: suf := by
 rw [List.replicate_succ', List.append_assoc, List.set_append_right _ _ (by simp)]
 simp
section
variable {h0 : H} {c : Int} {s : Sl} {ts : List Tile} {a : Int}
theorem lastingOf_c (r : Rd h0 s 4 (tcs ts)) (sz : ts.length ≤ 1048576) :
  callV SP i_f29 [.agg (SetC c s), i64 a] h0 fun v h' => ∃ p w t, v = .tuple [.ptr p, .sl w, .sl t, i64 (codeL c ts a)] ∧ (codeL c ts a = 0 → (∃ os q, p = ⟨some os, 5, 0⟩ ∧ Strip h' h0.length c s ts a.toNat os q) ∧ Ow h' w 1 (ic (wordsS c ts a)) ∧ Fr h0.length w ∧ NewSS h0.length h' t (tableS c ts a)) ∧ Ext h0 h' := by
 apply f29_call
 unfold f29_main
 refine newK_obj fun h1 o1 x1 l1 => ?_
 refine o1.ldA rfl ?_
 refine (stripOf_c (n := a) (r.ext x1) sz).to ?_
 rintro _ h3 ⟨p, rfl, hp, x3⟩
 refine ⟨_, rfl, _, rfl, _, rfl, _, rfl, ?_⟩
 have X3 := x1.trans x3
 refine bif_ne (fun hq => ⟨_, _, _, by rw [codeL_1 hq], (fun f => by rw [codeL_1 hq] at f; exact absurd f hq), X3⟩) (fun hq => ?_)
 obtain ⟨os, q, rfl, k⟩ := hp hq
 have ok := codeS_ok hq
 have hpos : (a.toNat : Int) = a := by have := ok.hh; omega
 have hL := lasting_c k (by rw [hpos]; exact ok)
 rw [hpos] at hL
 refine hL.to ?_
 rintro _ h9 ⟨w, t, rfl, ow, fw, nt, x9⟩
 refine ⟨_, rfl, _, rfl, _, rfl, _, rfl, ?_⟩
 have hwl := ow.rd.ilen
 have l3 := X3.len
 refine bif_dec (fun hg => ?_) (fun hg => ?_)
 ·have h3 := codeL_3 hq (show 40 < (wordsS c ts a).length by omega)
  exact ⟨_, _, _, by rw [h3], (fun f => by rw [h3] at f; cases f), X3.trans x9⟩
 ·have h3 := codeL_0 hq (show ¬ 40 < (wordsS c ts a).length by omega)
  exact ⟨_, _, _, by rw [h3], fun _ => ⟨⟨os, q, rfl, (k.ext x9).le x1.len⟩, ow, fw.le l3, nt.le l3⟩, X3.trans x9⟩
theorem impl_ColumnWords_c (r : Rd h0 s 4 (tcs ts)) (sz : ts.length ≤ 1048576) (ba : i64ok a) :
  callV SP i_f8 [.agg (SetC c s), i64 a] h0 fun v h' => ∃ w, v = .tuple [.sl w, i64 (codeL c ts a)] ∧ NewSS h0.length h' w (F_ColumnWords_0 c ts a) ∧ Ext h0 h' := by
 apply f8_call
 unfold f8_main
 refine newK_obj fun h1 o1 x1 l1 => ?_
 refine o1.ldA rfl ?_
 refine (lastingOf_c (a := a) (r.ext x1) sz).to ?_
 rintro _ h3 ⟨p, w, t, rfl, hp, x3⟩
 refine ⟨_, rfl, _, rfl, _, rfl, _, rfl, _, rfl, _, rfl, _, rfl, _, rfl, ?_⟩
 have X3 := x1.trans x3
 refine bif_ne (fun hq => ⟨_, rfl, by rw [F_ColumnWords_0, sel0_no hq]; exact NewSS.nil _ _, X3⟩) (fun hq => ?_)
 obtain ⟨⟨os, q, rfl, k⟩, ow, fw, nt⟩ := hp hq
 have ok := codeL_ok hq
 have hh := ok.1.hh
 obtain ⟨H_, rfl⟩ : ∃ H_ : Nat, a = H_ := ⟨a.toNat, by omega⟩
 have hc1 := ok.1.set.1
 have hin := wordsS_in (c := c) (ts := ts) (a := (H_ : Int))
 have hpw := ok.1.pw
 have hnw : nW c (H_ : Int) ≤ 700 := by unfold nW; omega
 rw [Int.toNat_natCast] at k
 have hwl := ow.rd.ilen
 refine newS_ow (by rfl) fun u h14 ou lu uo e14 => ?_
 have x14 : Ext h3 h14 := by rw [e14]; exact Ext.app _ _
 refine f8_rule0 _ _ _ _ _ _ (fun u i g => ∃ z : Nat, i = z ∧ z ≤ (wordsS c ts H_).length ∧ NewSS h3.length g u (((wordsS c ts H_).take z).map (dgs c H_)) ∧ Ext h3 g) (fun _ i _ => ((wordsS c ts H_).length - i).toNat) ?_ _ _ ⟨0, rfl, by omega, NewSS.mk0 ou (fun o e => by rw [uo] at e; cases e; exact Nat.le_refl _), x14⟩
 rintro X u _ g ⟨z, rfl, hz, nu, xg⟩ hX
 unfold f8_b0 f8_C0
 refine bif_dec (fun hi => ?_) (fun hi => ?_)
 rotate_left
 ·rw [show z = (wordsS c ts H_).length by omega, List.take_length] at nu
  exact ⟨u, by rw [hq], by rw [F_ColumnWords_0, sel0_yes hq, Int.toNat_natCast]; exact nu.le X3.len, X3.trans xg⟩
 have hz' : z < (wordsS c ts H_).length := by omega
 have hwz := hin _ (List.getElem_mem hz')
 refine (ow.ext xg).rd.ldG (by omega) (by omega) ?_
 rw [Int.toNat_natCast, show (wordsS c ts H_).getD z 0 = (wordsS c ts H_)[z] from by rw [List.getD_eq_getElem?_getD, List.getElem?_eq_getElem hz']; rfl]
 refine mkS_ow (by omega) (by unfold lim; omega) fun v h5 ov lv vo e5 => ?_
 have x5 : Ext g h5 := by rw [e5]; exact Ext.app _ _
 rw [zeros_ic, Int.toNat_natCast] at ov
 rw [w64_of (by omega) (by omega)]
 have hmap : ((wordsS c ts H_).take (z + 1)).map (dgs c H_) = ((wordsS c ts H_).take z).map (dgs c H_) ++ [dgs c H_ (wordsS c ts H_)[z]] := by rw [List.take_succ_eq_append_getElem hz', List.map_append]; rfl
 have hvf : Fr g.length v := fun o e => by rw [vo] at e; cases e; exact Nat.le_refl _
 refine f8_rule2 _ _ X _ _ _ _ _ _ _ (fun y i g' => ∃ (j : Nat) (suf : List Int), i = (j : Int) - 1 ∧ j ≤ H_ ∧ (0 ≤ y ∧ y ≤ 700) ∧ dgs c H_ (wordsS c ts H_)[z] = dgs c j y ++ suf ∧ Ow g' v 1 (ic (List.replicate j 0 ++ suf)) ∧ Ext g g') (fun _ i _ => (i + 1).toNat) ?_ _ _ ⟨H_, [], rfl, Nat.le_refl _, by omega, by simp, by simpa using ov, x5⟩
 rintro Y y _ g' ⟨j, suf, rfl, hj, hy, hd, ov, e⟩ hY
 unfold f8_b2 f8_C2 f8_C1
 have hol := ov.rd.ilen
 refine bif_dec (fun hi2 => ?_) (fun hi2 => ?_)
 ·obtain ⟨j, rfl⟩ : ∃ j', j = j' + 1 := ⟨j - 1, by omega⟩
  rw [show ((j + 1 : Nat) : Int) - 1 = (j : Int) by omega]
  have kg := k.ext (xg.trans e)
  rw [dgs] at hd
  have hdiv : 0 ≤ Int.tdiv y c ∧ Int.tdiv y c ≤ 700 := by
   refine ⟨Int.tdiv_nonneg hy.1 (by omega), ?_⟩
   have := Int.tdiv_le_self c hy.1
   omega
  refine ⟨rfl, isPt_in (isPt_in (kg.o.ldI (i := 0) rfl rfl ⟨by omega, ?_⟩))⟩
  refine ov.stI (by omega) (by rw [hol]; simp; omega) _ fun g5 o5 b5 l5 => ?_
  have x5' : Ext g g5 := e.but_ b5 fun o e => hvf o e
  have kg5 := k.ext (xg.trans x5')
  refine ⟨rfl, isPt_in (isPt_in (kg5.o.ldI (i := 0) rfl rfl ⟨by omega, ?_⟩))⟩
  rw [w64_of (by omega) (by omega), w64_of (by omega) (by omega)]
  rw [Int.toNat_natCast, rep_set] at o5
  refine hY _ _ _ ⟨j, Int.tmod y c :: suf, rfl, by omega, hdiv, by rw [hd, List.append_assoc]; rfl, o5, x5'⟩ (by omega)
 ·have hj0 : j = 0 := by omega
  subst hj0
  rw [dgs, List.nil_append] at hd
  have := xg.len
  refine (nu.ext e).push (m := g.length) (l := suf) (by simpa using ov) hvf this ⟨g, nu, Nat.le_refl _, e⟩ (by rw [List.length_map, List.length_take]; unfold lim; omega) (by have := e.len; omega) fun u' g6 nu' b6 => ?_
  rw [w64_of (by omega) (by omega)]
  refine hX _ _ _ ⟨z + 1, by push_cast; rfl, by omega, by rw [hmap, hd]; exact nu', (xg.trans e).but_ b6 fun o e => nu.fr o e⟩ (by omega)
end
end Go.Proofs.Ytcoampecbpiecaa.Cl
set_option linter.unusedVariables false
set_option linter.unusedSimpArgs false
namespace Go.Proofs.Ytcoampecbpiecaa.Cl
open Go
theorem wdsL_asc (p : Nat → Bool) (N : Nat) : Asc (wdsL p N) := by
 unfold wdsL wdsN
 refine List.Pairwise.map _ (fun a b h => by omega) (List.Pairwise.filter _ List.pairwise_lt_range)
theorem wdsL_at {p : Nat → Bool} {w : Nat} (h : p w = true) : ∀ N, w < N → (wdsL p N)[plN p w]? = some (w : Int)
 | 0, hw => by omega
 | N + 1, hw => by
  rw [wdsL_succ]
  by_cases e : w = N
  ·subst e
   rw [if_pos h, List.getElem?_append_right (by rw [wdsL_len]; exact Nat.le_refl _), wdsL_len, Nat.sub_self]; rfl
  ·have ih := wdsL_at h N (by omega)
   split
   ·rw [List.getElem?_append_left (by rw [wdsL_len]; exact plN_lt (by omega) h)]; exact ih
   ·exact ih
end Go.Proofs.Ytcoampecbpiecaa.Cl
set_option linter.unusedVariables false
set_option linter.unusedSimpArgs false
namespace Go.Proofs.Ytcoampecbpiecaa.Cl
open Go
def ShS (hW h : H) (s : Sl) (ls : List (List Int)) : Prop :=
 ∃ us : List Sl, us.length = ls.length ∧ (∀ (k : Nat) u w, us[k]? = some u → ls[k]? = some w → Rd hW u 1 (ic w)) ∧ Ow h s 1 (us.map .sl)
theorem ShS.rd {hW h s ls} (r : ShS hW h s ls) (x : Ext hW h) : RdSS h s ls := by
 obtain ⟨us, a, b, c⟩ := r
 exact ⟨us, a, c.rd, fun k u w p q => (b k u w p q).ext x⟩
theorem ShS.len {hW h s ls} (r : ShS hW h s ls) : s.len = ls.length := by
 obtain ⟨us, a, b, c⟩ := r
 have := c.len; simp at this; omega
theorem ShS.push {hW h : H} {s : Sl} {ls : List (List Int)} (r : ShS hW h s ls) {v : Sl} {l : List Int} (rv : Rd hW v 1 (ic l)) (hl : (ls.length : Int) + 1 ≤ lim) {K : Sl → H → Prop}
  (hk : ∀ s' h', ShS hW h' s' (ls ++ [l]) → But s.o h h' → (∀ o, s.o = some o → s'.o = some o) → K s' h') : newS 1 1 [.sl v] h fun t h1 => Cl.app s t 1 h1 K := by
 have hs := r.len
 obtain ⟨us, a, b, c⟩ := r
 refine newS_ow (by rfl) fun t h1 ot tl to e1 => ?_
 have x1 : Ext h h1 := by rw [e1]; exact Ext.app _ _
 refine app_ow (by omega) (c.ext x1) ot.rd (by rw [tl, hs]; exact_mod_cast hl) fun s' h' o' ln bt k1 k2 => ?_
 refine hk s' h' ⟨us ++ [v], by simp [a], fun k u w p q => ?_, by simpa using o'⟩ ((x1.but _).trans bt) k1
 rw [List.getElem?_append] at p q
 split at p
 ·next hi => rw [if_pos (by omega)] at q; exact b k u w p q
 ·next hi =>
  rw [if_neg (by omega)] at q
  have hk0 : k = us.length := by
   have := (List.getElem?_eq_some_iff.1 p).1
   simp at this; omega
  subst hk0
  simp [a] at p q
  subst p q
  exact rv
abbrev Col := Int × Int × Int
def edX (x : Col) : Edge := (x.1.toNat, x.2.1.toNat)
def keepX (L : List Col) (x : Col) : Bool := (L.any fun y => y.2.1.toNat == x.1.toNat) && L.any fun y => y.1.toNat == x.2.1.toNat
theorem edX_mem {L : List Col} {x : Col} (h : x ∈ L) : edX x ∈ edN (L.map pr) := List.mem_map.2 ⟨pr x, List.mem_map.2 ⟨x, h, rfl⟩, rfl⟩
theorem edX_of {L : List Col} {e : Edge} (h : e ∈ edN (L.map pr)) : ∃ x ∈ L, edX x = e := by
 obtain ⟨y, hy, rfl⟩ := List.mem_map.1 h
 obtain ⟨x, hx, rfl⟩ := List.mem_map.1 hy
 exact ⟨x, hx, rfl⟩
section
variable {n : Nat} {L : List Col} {A B : Nat → Bool}
theorem keep_last (M : Lst n (edN (L.map pr)) A B) {Q : Col → Bool} (hQ : ∀ x ∈ L, lastE A B (edX x) = true → Q x = true) {x : Col} (hx : x ∈ L) (h : lastE A B (edX x) = true) : keepX (L.filter Q) x = true := by
 unfold keepX
 rw [Bool.and_eq_true, List.any_eq_true, List.any_eq_true]
 constructor
 ·obtain ⟨e, he, h1, h2⟩ := M.pred (edX_mem hx) h
  obtain ⟨y, hy, rfl⟩ := edX_of he
  refine ⟨y, List.mem_filter.2 ⟨hy, hQ y hy h1⟩, ?_⟩
  have : y.2.1.toNat = x.1.toNat := h2
  simp [this]
 ·obtain ⟨e, he, h1, h2⟩ := M.succ (edX_mem hx) h
  obtain ⟨y, hy, rfl⟩ := edX_of he
  refine ⟨y, List.mem_filter.2 ⟨hy, hQ y hy h1⟩, ?_⟩
  have : y.1.toNat = x.2.1.toNat := h2
  simp [this]
theorem keep_top (M : Lst n (edN (L.map pr)) A B) {Q : Col → Bool} (hQ : ∀ x ∈ L, Q x = true → keepX (L.filter Q) x = true) {x : Col} (hx : x ∈ L) (h : Q x = true) : lastE A B (edX x) = true := by
 have QE : ∀ e, ((L.filter Q).any fun y => edX y == e) = true ↔ ∃ y ∈ L, Q y = true ∧ edX y = e := fun e => by
  rw [List.any_eq_true]
  constructor
  ·rintro ⟨y, hy, h⟩
   have := List.mem_filter.1 hy
   exact ⟨y, this.1, this.2, by simpa using h⟩
  ·rintro ⟨y, hy, h1, h2⟩
   exact ⟨y, List.mem_filter.2 ⟨hy, h1⟩, by simp [h2]⟩
 refine M.top (Q := fun e => (L.filter Q).any fun y => edX y == e) (fun e he h => ?_) (fun e he h => ?_) (edX_mem hx) ((QE _).2 ⟨x, hx, h, rfl⟩)
 ·obtain ⟨y, hy, hq, rfl⟩ := (QE e).1 h
  have hk := hQ y hy hq
  unfold keepX at hk
  rw [Bool.and_eq_true, List.any_eq_true] at hk
  obtain ⟨z, hz, h2⟩ := hk.1
  have := List.mem_filter.1 hz
  exact ⟨edX z, edX_mem this.1, (QE _).2 ⟨z, this.1, this.2, rfl⟩, (beq_iff_eq.1 h2)⟩
 ·obtain ⟨y, hy, hq, rfl⟩ := (QE e).1 h
  have hk := hQ y hy hq
  unfold keepX at hk
  rw [Bool.and_eq_true, List.any_eq_true, List.any_eq_true] at hk
  obtain ⟨z, hz, h2⟩ := hk.2
  have := List.mem_filter.1 hz
  exact ⟨edX z, edX_mem this.1, (QE _).2 ⟨z, this.1, this.2, rfl⟩, (beq_iff_eq.1 h2)⟩
end
theorem filter_all {α : Type} {p : α → Bool} : ∀ (l : List α), (l.filter p).length = l.length → ∀ x ∈ l, p x = true
 | [], _, x, h => by cases h
 | a :: l, hl, x, h => by
  by_cases ha : p a = true
  ·rw [List.filter_cons_of_pos ha] at hl
   rcases List.mem_cons.1 h with rfl | h
   ·exact ha
   ·exact filter_all l (by simpa using hl) x h
  ·rw [List.filter_cons_of_neg ha] at hl
   have := List.length_filter_le p l
   simp at hl
   omega
theorem any_take_succ {α : Type} {l : List α} {p : α → Bool} {k : Nat} (h : k < l.length) : (l.take (k + 1)).any p = ((l.take k).any p || p l[k]) := by
 rw [List.take_succ_eq_append_getElem h, List.any_append]; simp
section
variable {h0 : H} {u : Sl} {N : Nat} {L : List Col} {A B : Nat → Bool}
theorem l06Keep_c (rd : RdSS h0 u (col3 L)) (hL : L.length ≤ 5000) (hN : N ≤ 1000000) (hin : ∀ x ∈ L, (0 ≤ x.1 ∧ x.1 < N) ∧ 0 ≤ x.2.1 ∧ x.2.1 < N) (M : Lst N (edN (L.map pr)) A B) :
  callS SP i_f61 [.sl u, i64 N] h0 fun v h' => RdSS h' v (col3 (L.filter fun x => lastE A B (edX x))) ∧ Ext h0 h' := by
 apply f61_call
 unfold f61_main
 refine f61_rule0 _ _ _ (fun u h => ∃ Q : Col → Bool, RdSS h u (col3 (L.filter Q)) ∧ (∀ x ∈ L, lastE A B (edX x) = true → Q x = true) ∧ Ext h0 h) (fun u _ => u.len) ?_ _ ⟨fun _ => true, by rw [List.filter_eq_self.2 fun _ _ => rfl]; exact rd, fun _ _ _ => rfl, Ext.refl _⟩
 rintro X u h ⟨Q, rd, hQ, x⟩ hX
 unfold f61_b0
 have hul := rd.len
 rw [col3_len] at hul
 have hfl := List.length_filter_le Q L
 have hin' : ∀ x ∈ L.filter Q, (0 ≤ x.1 ∧ x.1 < N) ∧ 0 ≤ x.2.1 ∧ x.2.1 < N := fun x hx => hin x (List.mem_filter.1 hx).1
 have hkeep := fun {y} (hy : y ∈ L) => keep_last M hQ hy
 have htop := fun (hh : ∀ x ∈ L, Q x = true → keepX (L.filter Q) x = true) {y} (hy : y ∈ L) => keep_top M hh hy
 have hfil : (L.filter Q).filter (keepX (L.filter Q)) = L.filter fun x => Q x && keepX (L.filter Q) x := by
  rw [List.filter_filter]
  exact List.filter_congr fun y _ => Bool.and_comm _ _
 generalize hcur : L.filter Q = cur at *
 have rdx : ∀ {g : H} (e : Ext h g) {k : Nat} (hk : k < cur.length) {q : Nat} (hq : q < 3) {K : Int → Prop}, K (cs3 cur[k] q) → ixS u 1 (k : Int) fun p => Cl.ldS p g fun v => ixS v 1 (q : Int) fun p => Cl.ldI .i64 p g K := fun {g} e {k} hk {q} hq {K} hkk => by
  refine (rd.ext e).ldG (by omega) (by rw [col3_len]; omega) fun v rv lv => ?_
  rw [Int.toNat_natCast, col3_row hk] at rv
  exact rv.ldG (by omega) (by simp; omega) (by rw [Int.toNat_natCast]; exact hkk)
 refine slotK_in fun g0 x0 l0 => ?_
 refine mkSat_ow (by omega) (by omega) (by unfold lim; omega) fun we g2 owe lwe nwe bwe twe => ?_
 refine mkSat_ow (by omega) (by omega) (by unfold lim; omega) fun ea g4 oea lea nea bea tea => ?_
 refine newSat_ow (by omega) (by rfl) fun z g6 oz lz nz bz tz => ?_
 rw [bl_false, Int.toNat_natCast] at owe oea
 have x6 : Ext h g6 := ((x0.but_ bwe (some_le (by omega))).but_ bea (some_le (by omega))).but_ bz (some_le (by omega))
 have owe6 := (owe.but bea (.inl (by rw [nwe]; intro e; have := Option.some.inj e; omega))).but bz (.inl (by rw [nwe]; intro e; have := Option.some.inj e; omega))
 have oea6 := oea.but bz (.inl (by rw [nea]; intro e; have := Option.some.inj e; omega))
 have l6 : g6.length = h.length + 8 := by omega
 refine f61_rule2 _ _ X _ _ _ _ _ (fun i g => ∃ k : Nat, i = k ∧ k ≤ cur.length ∧ Ow g we 1 ((bl N fun w => (cur.take k).any fun y => y.1.toNat == w).map .bool) ∧ Ow g ea 1 ((bl N fun w => (cur.take k).any fun y => y.2.1.toNat == w).map .bool) ∧ Ow g z 1 [] ∧ Ext h g ∧ h.length + 8 ≤ g.length) (fun i _ => (cur.length - i).toNat) ?_ _ ⟨0, rfl, by omega, by simpa using owe6, by simpa using oea6, oz, x6, by omega⟩
 rintro Y _ g ⟨k, rfl, hk, owe, oea, oz, xg, lg⟩ hY
 unfold f61_b2 f61_C2
 refine bif_dec (fun hi => ?_) (fun hi => ?_)
 ·have hk' : k < cur.length := by omega
  have hx := hin' _ (List.getElem_mem hk')
  have ht1 := fun w => any_take_succ (p := fun y : Col => y.1.toNat == w) hk'
  have ht2 := fun w => any_take_succ (p := fun y : Col => y.2.1.toNat == w) hk'
  refine rdx xg hk' (q := 0) (by omega) ?_
  show ixS we 1 cur[k].1 _
  refine owe.stBl hx.1.1 hx.1.2 _ fun g1 o1 b1 l1 => ?_
  rw [nwe] at b1
  have xg1 := xg.but_ b1 (some_le (by omega))
  refine rdx xg1 hk' (q := 1) (by omega) ?_
  show ixS ea 1 cur[k].2.1 _
  have oea1 := oea.but b1 (.inl (by rw [nea]; intro e; have := Option.some.inj e; omega))
  refine oea1.stBl hx.2.1 hx.2.2 _ fun g2 o2 b2 l2 => ?_
  rw [nea] at b2
  rw [w64_of (by omega) (by omega)]
  refine hY _ _ ⟨k + 1, by push_cast; rfl, by omega, ?_, ?_, (oz.but b1 (.inl (by rw [nz]; intro e; have := Option.some.inj e; omega))).but b2 (.inl (by rw [nz]; intro e; have := Option.some.inj e; omega)), xg1.but_ b2 (some_le (by omega)), by omega⟩ (by omega)
  ·rw [show (bl N fun w => (cur.take (k + 1)).any fun y => y.1.toNat == w) = bl N (fun w => if w = cur[k].1.toNat then true else (cur.take k).any fun y => y.1.toNat == w) from bl_congr fun w _ => ?_]
   ·exact o1.but b2 (.inl (by rw [nwe]; intro e; have := Option.some.inj e; omega))
   ·rw [ht1 w]
    split
    ·next e => simp [e]
    ·next e => rw [show (cur[k].1.toNat == w) = false by simp; exact fun f => e f.symm]; simp
  ·rw [show (bl N fun w => (cur.take (k + 1)).any fun y => y.2.1.toNat == w) = bl N (fun w => if w = cur[k].2.1.toNat then true else (cur.take k).any fun y => y.2.1.toNat == w) from bl_congr fun w _ => ?_]
   ·exact o2
   ·rw [ht2 w]
    split
    ·next e => simp [e]
    ·next e => rw [show (cur[k].2.1.toNat == w) = false by simp; exact fun f => e f.symm]; simp
 rw [show k = cur.length by omega, List.take_length] at owe oea
 clear hY
 refine f61_rule4 _ _ X _ _ _ _ (fun z i g' => ∃ k : Nat, i = k ∧ k ≤ cur.length ∧ ShS h g' z (col3 ((cur.take k).filter (keepX cur))) ∧ z.o = some (h.length + 4) ∧ Ow g' we 1 ((bl N fun w => cur.any fun y => y.1.toNat == w).map .bool) ∧ Ow g' ea 1 ((bl N fun w => cur.any fun y => y.2.1.toNat == w).map .bool) ∧ Ext h g' ∧ h.length + 8 ≤ g'.length) (fun _ i _ => (cur.length - i).toNat) ?_ _ _ ⟨0, rfl, by omega, ⟨[], rfl, fun k u w p => by simp at p, oz⟩, nz, owe, oea, xg, lg⟩
 rintro Y z _ g' ⟨k, rfl, hk, sz, nz, owe, oea, xg', lg'⟩ hY
 unfold f61_b4 f61_C4
 have hzl := sz.len
 rw [col3_len] at hzl
 refine bif_dec (fun hi => ?_) (fun hi => ?_)
 ·have hk' : k < cur.length := by omega
  have hx := hin' _ (List.getElem_mem hk')
  have hkx : keepX cur cur[k] = ((cur.any fun y => y.2.1.toNat == cur[k].1.toNat) && cur.any fun y => y.1.toNat == cur[k].2.1.toNat) := rfl
  have hts : (cur.take (k + 1)).filter (keepX cur) = if keepX cur cur[k] then (cur.take k).filter (keepX cur) ++ [cur[k]] else (cur.take k).filter (keepX cur) := by
   rw [List.take_succ_eq_append_getElem hk', List.filter_append]
   by_cases q : keepX cur cur[k] = true
   ·rw [if_pos q, List.filter_cons_of_pos q]; rfl
   ·rw [if_neg q, List.filter_cons_of_neg q]; simp
  have hlt : ((cur.take k).filter (keepX cur)).length ≤ 5000 := by
   have := List.length_filter_le (keepX cur) (cur.take k)
   rw [List.length_take] at this
   omega
  have skip : keepX cur cur[k] = false → Y (f61_e4 u (N : Int) we ea z (w64 ((k : Int) + 1))) g' := fun q => by
   rw [w64_of (by omega) (by omega)]
   refine hY _ _ _ ⟨k + 1, by push_cast; rfl, by omega, ?_, nz, owe, oea, xg', lg'⟩ (by omega)
   rw [hts, q]; exact sz
  refine rdx xg' hk' (q := 0) (by omega) ?_
  show ixS ea 1 cur[k].1 _
  refine oea.rd.ldBl hx.1.1 hx.1.2 ?_
  refine bif_b (fun ha => ?_) (fun ha => skip (by rw [hkx, ha]; rfl))
  refine rdx xg' hk' (q := 1) (by omega) ?_
  show ixS we 1 cur[k].2.1 _
  refine owe.rd.ldBl hx.2.1 hx.2.2 ?_
  refine bif_b (fun hb => ?_) (fun hb => skip (by rw [hkx, hb]; simp))
  have hkt : keepX cur cur[k] = true := by rw [hkx, ha, hb]; rfl
  refine rd.ixC (by omega) (by rw [col3_len]; omega) fun p v cp rv lv => ⟨v, xg'.cell cp, ?_⟩
  rw [Int.toNat_natCast, col3_row hk'] at rv
  refine sz.push rv (by rw [col3_len]; unfold lim; omega) fun z' g7 sz' bz kz => ?_
  rw [nz] at bz
  rw [w64_of (by omega) (by omega)]
  refine hY _ _ _ ⟨k + 1, by push_cast; rfl, by omega, ?_, kz _ nz, owe.but bz (.inl (by rw [nwe]; intro e; have := Option.some.inj e; omega)), oea.but bz (.inl (by rw [nea]; intro e; have := Option.some.inj e; omega)), xg'.but_ bz (some_le (by omega)), by have := bz.1; omega⟩ (by omega)
  rw [hts, hkt, if_pos rfl, col3_app]; exact sz'
 rw [show k = cur.length by omega, List.take_length] at sz hzl
 have rdz := sz.rd xg'
 refine bif_eq (fun hq => ⟨_, rfl, ?_, x.trans xg'⟩) (fun hq => ?_)
 ·have hall := filter_all cur (p := keepX cur) (by omega)
  rw [List.filter_eq_self.2 hall] at rdz
  have e : (L.filter fun x => lastE A B (edX x)) = cur := by
   rw [← hcur]
   refine List.filter_congr fun y hy => ?_
   have a := hQ y hy
   have b : Q y = true → lastE A B (edX y) = true := fun hq => htop (fun x hx hxq => hall x (by rw [← hcur]; exact List.mem_filter.2 ⟨hx, hxq⟩)) hy hq
   revert a b
   cases lastE A B (edX y) <;> cases Q y <;> simp
  rw [e]; exact rdz
 ·have hlen := List.length_filter_le (keepX cur) cur
  rw [hfil] at rdz
  refine hX _ _ ⟨_, rdz, fun y hy hl => ?_, x.trans xg'⟩ (by omega)
  rw [hQ y hy hl, hkeep hy hl]; rfl
end
end Go.Proofs.Ytcoampecbpiecaa.Cl
set_option linter.unusedVariables false
set_option linter.unusedSimpArgs false
namespace Go.Proofs.Ytcoampecbpiecaa.Cl
open Go
def stX (pl : Nat → Nat) (T : List (List Int)) (x : Col) : List (List Int) := incT T (pl x.1.toNat) (pl x.2.1.toNat)
theorem Sq.foldX {pl : Nat → Nat} {n : Nat} : ∀ (l : List Col) (m : Int) (T : List (List Int)), (∀ x ∈ l, pl x.1.toNat < n) → 0 ≤ m → Sq n m T → Sq n (m + l.length) (l.foldl (stX pl) T)
 | [], m, T, _, _, h => by simpa using h
 | x :: l, m, T, hp, m0, h => by
  have := Sq.foldX l (m + 1) _ (fun e he => hp e (by simp [he])) (by omega) (h.inc (j := pl x.2.1.toNat) m0 (hp x (by simp)))
  rw [List.foldl_cons, List.length_cons, show m + ((l.length + 1 : Nat) : Int) = m + 1 + l.length by omega]
  exact this
theorem foldl_keep {α β : Type} {p : α → Bool} {f : β → α → β} : ∀ (l : List α) (x : β), (l.filter p).foldl f x = l.foldl (fun a y => if p y then f a y else a) x
 | [], _ => rfl
 | a :: l, x => by
  by_cases h : p a = true
  ·rw [List.filter_cons_of_pos h, List.foldl_cons, List.foldl_cons, if_pos h]; exact foldl_keep l _
  ·rw [List.filter_cons_of_neg h, List.foldl_cons, if_neg h]; exact foldl_keep l _
def lastC (c : Int) (ts : List Tile) (H_ : Nat) : List Col := (layN c ts H_ lay0).filter fun x => lastE (eA c ts H_) (eB c ts H_) (edX x)
def wordsC (l : List Col) : List Int := l.flatMap fun x => [x.1, x.2.1]
section
variable {c : Int} {ts : List Tile} {H_ : Nat}
theorem cols_lay : colsOf c ts (H_ : Int) = (layN c ts H_ lay0).map pr := by rw [lay_pr]; unfold colsOf; rw [Int.toNat_natCast]
theorem lay_in (ok : StripOK c ts (H_ : Int)) : ∀ x ∈ layN c ts H_ lay0, (0 ≤ x.1 ∧ x.1 < nW c (H_ : Int)) ∧ 0 ≤ x.2.1 ∧ x.2.1 < nW c (H_ : Int) := fun x hx => by
 have hb := lay_bound ok.set.ts H_ x hx
 have hp := pow_small4 (n := H_) ok.set.ts.1 ok.set.1.2 (by have := ok.hh; omega)
 unfold nW
 rw [Int.toNat_natCast]
 omega
theorem lastC_words (ok : StripOK c ts (H_ : Int)) {x : Col} (hx : x ∈ lastC c ts H_) : (x.1.toNat < nW c (H_ : Int) ∧ pW c ts H_ x.1.toNat = true) ∧ x.2.1.toNat < nW c (H_ : Int) ∧ pW c ts H_ x.2.1.toNat = true := by
 have h := List.mem_filter.1 hx
 exact last_words (e := pr x) ok (by rw [cols_lay]; exact List.mem_map.2 ⟨x, h.1, rfl⟩) h.2
theorem wordsC_mem (ok : StripOK c ts (H_ : Int)) (w : Int) : w ∈ wordsC (lastC c ts H_) ↔ w ∈ wordsS c ts H_ := by
 have L := lst_cols ok
 have key : w ∈ wordsS c ts H_ ↔ ∃ n : Nat, n < nW c (H_ : Int) ∧ pW c ts H_ n = true ∧ (n : Int) = w := by
  unfold wordsS wdsL wdsN
  rw [List.mem_map]
  constructor
  ·rintro ⟨n, hn, e⟩
   have := List.mem_filter.1 hn
   exact ⟨n, List.mem_range.1 this.1, this.2, e⟩
  ·rintro ⟨n, h1, h2, e⟩
   exact ⟨n, List.mem_filter.2 ⟨List.mem_range.2 h1, h2⟩, e⟩
 rw [key]
 unfold wordsC
 rw [List.mem_flatMap]
 constructor
 ·rintro ⟨x, hx, hw⟩
  have hl := lastC_words ok hx
  have hi := lay_in ok x (List.mem_filter.1 hx).1
  rcases List.mem_cons.1 hw with e | hw
  ·exact ⟨x.1.toNat, hl.1.1, hl.1.2, by omega⟩
  ·rw [List.mem_singleton] at hw
   exact ⟨x.2.1.toNat, hl.2.1, hl.2.2, by omega⟩
 ·rintro ⟨n, h1, h2, rfl⟩
  obtain ⟨e, he, h3, h4⟩ := (L.word h1).1 h2
  rw [cols_lay] at he
  obtain ⟨x, hx, rfl⟩ := edX_of he
  refine ⟨x, List.mem_filter.2 ⟨hx, h3⟩, ?_⟩
  have hi := lay_in ok x hx
  rcases h4 with h4 | h4
  ·have h4' : x.1.toNat = n := h4
   exact List.mem_cons.2 (.inl (by omega))
  ·have h4' : x.2.1.toNat = n := h4
   exact List.mem_cons.2 (.inr (List.mem_singleton.2 (by omega)))
theorem table_last : tableS c ts (H_ : Int) = (lastC c ts H_).foldl (stX (plN (pW c ts H_))) (zerT (plN (pW c ts H_) (nW c (H_ : Int)))) := by
 unfold tableS lastC
 rw [foldl_keep, cols_lay, List.foldl_map]
 rfl
end
section
variable {h0 : H} {c : Int} {s : Sl} {ts : List Tile} {a : Int}
theorem l06Lasting_c (r : Rd h0 s 4 (tcs ts)) (sz : ts.length ≤ 1048576) :
  callV SP i_f30 [.agg (SetC c s), i64 a] h0 fun v h' => ∃ w t, v = .tuple [.sl w, .sl t, i64 (codeL c ts a)] ∧ (codeL c ts a = 0 → Rd h' w 1 (ic (wordsS c ts a)) ∧ NewSS h0.length h' t (tableS c ts a)) ∧ Ext h0 h' := by
 apply f30_call
 unfold f30_main
 refine newK_obj fun h1 o1 x1 l1 => ?_
 refine o1.ldA rfl ?_
 refine (l06Code_c (n := a) (r.ext x1) sz).to ?_
 rintro _ h3 ⟨u, rfl, hu, _, x3⟩
 refine ⟨_, rfl, _, rfl, _, rfl, _, rfl, ?_⟩
 have X3 := x1.trans x3
 refine bif_ne (fun hq => ⟨_, _, by rw [codeL_1 hq], (fun f => by rw [codeL_1 hq] at f; exact absurd f hq), X3⟩) (fun hq => ?_)
 have ok := codeS_ok hq
 have hh := ok.hh
 obtain ⟨H_, rfl⟩ : ∃ H_ : Nat, a = H_ := ⟨a.toNat, by omega⟩
 have T := ok.set.ts
 have hp := pow_small4 (n := H_) T.1 ok.set.1.2 (by omega)
 have hpw := ok.pw
 rw [Int.toNat_natCast] at hpw
 have hnW : ((nW c (H_ : Int) : Nat) : Int) = c ^ H_ := by unfold nW; rw [Int.toNat_natCast]; omega
 have rdu := hu hq
 rw [Int.toNat_natCast] at rdu
 have hln := ok.ln
 rw [cols_lay, List.length_map] at hln
 refine (o1.ext x3).ldA rfl ?_
 refine (l06Size_c (s := s) T.1 ok.set.1.2 (H_ := H_) (by omega)).to ?_
 rintro _ h10 ⟨rfl, x10⟩
 rw [← hnW]
 have M := lst_cols ok
 rw [cols_lay] at M
 refine (l06Keep_c (rdu.ext x10) hln (by omega) (lay_in ok) M).to ?_
 rintro v h12 ⟨rv, x12⟩
 change RdSS h12 v (col3 (lastC c ts H_)) at rv
 have hll : (lastC c ts H_).length ≤ 5000 := Nat.le_trans (List.length_filter_le _ _) hln
 have hvl := rv.len
 rw [col3_len] at hvl
 have X12 := (X3.trans x10).trans x12
 refine newS_ow (by rfl) fun z h15 oz lz zo e15 => ?_
 have x15 : Ext h12 h15 := by rw [e15]; exact Ext.app _ _
 have rdx : ∀ {g : H} (e : Ext h12 g) {k : Nat} (hk : k < (lastC c ts H_).length) {q : Nat} (hq : q < 3) {K : Int → Prop}, K (cs3 (lastC c ts H_)[k] q) → ixS v 1 (k : Int) fun p => Cl.ldS p g fun v => ixS v 1 (q : Int) fun p => Cl.ldI .i64 p g K := fun {g} e {k} hk {q} hq {K} hkk => by
  refine (rv.ext e).ldG (by omega) (by rw [col3_len]; omega) fun v rv lv => ?_
  rw [Int.toNat_natCast, col3_row hk] at rv
  exact rv.ldG (by omega) (by simp; omega) (by rw [Int.toNat_natCast]; exact hkk)
 refine f30_rule0 _ _ _ (fun z i g => ∃ k : Nat, i = k ∧ k ≤ (lastC c ts H_).length ∧ Ow g z 1 (ic (wordsC ((lastC c ts H_).take k))) ∧ Fr h12.length z ∧ Ext h12 g) (fun _ i _ => ((lastC c ts H_).length - i).toNat) ?_ _ _ ⟨0, rfl, by omega, oz, (fun o e => by rw [zo] at e; cases e; exact Nat.le_refl _), x15⟩
 rintro X z _ g ⟨k, rfl, hk, oz, fz, xg⟩ hX
 unfold f30_b0 f30_C0
 have hwlen : ∀ l : List Col, (wordsC l).length = 2 * l.length := fun l => by
  induction l with
  | nil => rfl
  | cons x l ih => unfold wordsC at *; rw [List.flatMap_cons, List.length_append, ih]; simp; omega
 have hzl := oz.rd.ilen
 rw [hwlen, List.length_take] at hzl
 refine bif_dec (fun hi => ?_) (fun hi => ?_)
 ·have hk' : k < (lastC c ts H_).length := by omega
  refine rdx xg hk' (q := 0) (by omega) ?_
  refine rdx xg hk' (q := 1) (by omega) ?_
  refine newS_ow (by rfl) fun y g9 oy ly yo e9 => ?_
  have x9 : Ext g g9 := by rw [e9]; exact Ext.app _ _
  refine app_ow (by omega) (oz.ext x9) oy.rd (by rw [ly, hzl]; unfold lim; omega) fun z' g11 oz' lz' bz k1 k2 => ?_
  rw [w64_of (by omega) (by omega)]
  have hfz : Fr h12.length z' := fun o e => by
   cases hq : z.o with
   | none => have := k2 hq o e; have := (xg.trans x9).len; omega
   | some p => rw [k1 p hq] at e; cases e; exact fz _ hq
  refine hX _ _ _ ⟨k + 1, by push_cast; rfl, by omega, ?_, hfz, (xg.trans x9).but_ bz fun o e => fz o e⟩ (by omega)
  have : wordsC ((lastC c ts H_).take (k + 1)) = wordsC ((lastC c ts H_).take k) ++ [(lastC c ts H_)[k].1, (lastC c ts H_)[k].2.1] := fm_take _ _ hk'
  rw [this, ic_app]
  exact oz'
 rw [show k = (lastC c ts H_).length by omega, List.take_length] at oz
 refine (sortedD_c _ _ z g (Nat.le_refl _) (by rw [hwlen]; omega) oz.rd).to ?_
 rintro w h0' ⟨l', rw', aw, mw, lw, _, x0⟩
 have hw : l' = wordsS c ts H_ := asc_ext aw (wdsL_asc _ _) fun x => by rw [mw, wordsC_mem ok]
 subst hw
 have hwl := rw'.ilen
 have Xg0 := (X12.trans xg).trans x0
 refine bif_dec (fun hg => ?_) (fun hg => ?_)
 ·have h3 := codeL_3 hq (show 40 < (wordsS c ts H_).length by omega)
  exact ⟨_, _, by rw [h3], (fun f => by rw [h3] at f; cases f), Xg0⟩
 have h3 := codeL_0 hq (show ¬ 40 < (wordsS c ts H_).length by omega)
 have hM : (wordsS c ts H_).length = plN (pW c ts H_) (nW c (H_ : Int)) := wdsL_len
 refine newS_ow (by rfl) fun t g3 ot lt to e3 => ?_
 have y3 : Ext h0' g3 := by rw [e3]; exact Ext.app _ _
 clear hX
 refine f30_rule2 _ _ _ _ (fun t i h => ∃ y : Nat, i = y ∧ y ≤ (wordsS c ts H_).length ∧ NewSS h0'.length h t (List.replicate y (List.replicate (wordsS c ts H_).length 0)) ∧ Ext h0' h) (fun _ i _ => ((wordsS c ts H_).length - i).toNat) ?_ _ _ ⟨0, rfl, by omega, NewSS.mk0 ot (fun o e => by rw [to] at e; cases e; exact Nat.le_refl _), y3⟩
 rintro Y t _ h ⟨y, rfl, hy, nt, xh⟩ hY
 unfold f30_b2 f30_C2
 refine bif_dec (fun hi2 => ?_) (fun hi2 => ?_)
 ·refine mkS_ow (by omega) (by unfold lim; omega) fun r h2 or lr ro e2 => ?_
  have y2 : Ext h h2 := by rw [e2]; exact Ext.app _ _
  rw [show ((w.len : Int)).toNat = (wordsS c ts H_).length by omega, zeros_ic] at or
  have := xh.len
  refine (nt.ext y2).push or (m := h.length) (fun o e => by rw [ro] at e; cases e; exact Nat.le_refl _) this ⟨h, nt, Nat.le_refl _, y2⟩ (by simp; unfold lim; omega) (by have := y2.len; omega) fun t' h3 nt' b3 => ?_
  rw [w64_of (by omega) (by omega)]
  refine hY _ _ _ ⟨y + 1, by push_cast; rfl, by omega, by rw [List.replicate_succ']; exact nt', (xh.trans y2).but_ b3 fun o e => nt.fr o e⟩ (by omega)
 have hyM : y = (wordsS c ts H_).length := by omega
 subst hyM
 clear hY
 refine f30_rule4 _ _ _ _ _ (fun i h' => ∃ z2 : Nat, i = z2 ∧ z2 ≤ (lastC c ts H_).length ∧ NewSS h0'.length h' t (((lastC c ts H_).take z2).foldl (stX (plN (pW c ts H_))) (zerT (wordsS c ts H_).length)) ∧ Ext h0' h') (fun i _ => ((lastC c ts H_).length - i).toNat) ?_ _ ⟨0, rfl, by omega, nt, xh⟩
 rintro Z _ h' ⟨z2, rfl, hz2, nt, xh'⟩ hZ
 unfold f30_b4 f30_C4
 refine bif_dec (fun hi4 => ?_) (fun hi4 => ?_)
 rotate_left
 ·rw [show z2 = (lastC c ts H_).length by omega, List.take_length] at nt
  refine ⟨w, t, by rw [h3], fun _ => ⟨rw'.ext xh', ?_⟩, Xg0.trans xh'⟩
  rw [table_last, ← hM]
  exact nt.le Xg0.len
 have hz' : z2 < (lastC c ts H_).length := by omega
 have hlw : ∀ x ∈ lastC c ts H_, plN (pW c ts H_) x.1.toNat < (wordsS c ts H_).length ∧ plN (pW c ts H_) x.2.1.toNat < (wordsS c ts H_).length := fun x hx => by
  have := lastC_words ok hx
  rw [hM]
  exact ⟨plN_lt this.1.1 this.1.2, plN_lt this.2.1 this.2.2⟩
 have hSq := Sq.foldX (pl := plN (pW c ts H_)) (n := (wordsS c ts H_).length) ((lastC c ts H_).take z2) 0 (zerT (wordsS c ts H_).length) (fun x hx => (hlw x (List.mem_of_mem_take hx)).1) (Int.le_refl _) (Sq.zero _)
 have hft := foldl_take (stX (plN (pW c ts H_))) (zerT (wordsS c ts H_).length) hz'
 have hlwz := hlw _ (List.getElem_mem hz')
 have hwz := lastC_words ok (List.getElem_mem hz')
 have hiz := lay_in ok _ (List.mem_filter.1 (List.getElem_mem hz')).1
 have htl : (((lastC c ts H_).take z2).length : Int) ≤ 5000 := by rw [List.length_take]; omega
 generalize ((lastC c ts H_).take z2).foldl (stX (plN (pW c ts H_))) (zerT (wordsS c ts H_).length) = TT at *
 have X12' := (xg.trans x0).trans xh'
 have find : ∀ {x : Int} {K : Int → H → Prop}, 0 ≤ x → x.toNat < nW c (H_ : Int) → pW c ts H_ x.toNat = true → K (plN (pW c ts H_) x.toNat : Int) h' → callI SP .i64 i_f62 [.sl w, i64 x] h' K := fun {x K} hx0 hx1 hx2 hk => by
  have hat := wdsL_at hx2 _ hx1
  rw [Int.toNat_of_nonneg hx0] at hat
  refine l04Find_c (rw'.ext xh') aw (by omega) fun i hi => ?_
  rcases hi with ⟨j, rfl, hj⟩ | ⟨hno, _⟩
  ·rw [asc_inj aw hj hat]; exact hk
  ·exact absurd (List.mem_of_getElem? hat) hno
 refine rdx X12' hz' (q := 0) (by omega) ?_
 show callI SP .i64 i_f62 [.sl w, i64 (lastC c ts H_)[z2].1] h' _
 refine find hiz.1.1 hwz.1.1 hwz.1.2 ?_
 refine nt.row (by omega) (by rw [hSq.1]; omega) fun v rv stv => ?_
 rw [Int.toNat_natCast] at rv stv
 refine rdx X12' hz' (q := 1) (by omega) ?_
 show callI SP .i64 i_f62 [.sl w, i64 (lastC c ts H_)[z2].2.1] h' _
 refine find hiz.2.1 hwz.2.1 hwz.2.2 ?_
 have hrow := hSq.2 _ hlwz.1
 have hcell := hrow.2 (plN (pW c ts H_) (lastC c ts H_)[z2].2.1.toNat)
 refine rv.ldG (by omega) (by rw [hrow.1]; omega) ?_
 rw [Int.toNat_natCast]
 refine stv _ _ _ (by omega) (by rw [hrow.1]; omega) fun h5 nt5 cg5 l5 => ?_
 rw [Int.toNat_natCast] at nt5
 have hG : (rw_ TT (plN (pW c ts H_) (lastC c ts H_)[z2].1.toNat)).getD (plN (pW c ts H_) (lastC c ts H_)[z2].2.1.toNat) 0 = G TT (plN (pW c ts H_) (lastC c ts H_)[z2].1.toNat) (plN (pW c ts H_) (lastC c ts H_)[z2].2.1.toNat) := rfl
 rw [hG] at nt5
 rw [w64_of (n := (z2 : Int) + 1) (by omega) (by omega)]
 refine hZ _ _ ⟨z2 + 1, by push_cast; rfl, by omega, ?_, xh'.chg_ cg5 fun o ho => ho.1⟩ (by omega)
 rw [hft]
 unfold stX incT
 rw [w64_of (by omega) (by omega)] at nt5
 exact nt5
end
end Go.Proofs.Ytcoampecbpiecaa.Cl
set_option linter.unusedVariables false
set_option linter.unusedSimpArgs false
namespace Go.Proofs.Ytcoampecbpiecaa.Cl
def Wr (t : Nat → Nat → Bool) : Nat → Nat → Nat → Bool
 | 0 => t
 | k + 1 => fun i j => Wr t k i j || (Wr t k i k && Wr t k k j)
theorem Wr_succ {t : Nat → Nat → Bool} {k i j : Nat} : Wr t (k + 1) i j = true ↔ Wr t k i j = true ∨ (Wr t k i k = true ∧ Wr t k k j = true) := by
 rw [show Wr t (k + 1) i j = (Wr t k i j || (Wr t k i k && Wr t k k j)) from rfl, Bool.or_eq_true, Bool.and_eq_true]
theorem Wr_trans (t : Nat → Nat → Bool) : ∀ (k l i j : Nat), l < k → Wr t k i l = true → Wr t k l j = true → Wr t k i j = true
 | 0, l, i, j, h, _, _ => by omega
 | k + 1, l, i, j, h, h1, h2 => by
  have T := Wr_trans t k
  rw [Wr_succ] at h1 h2 ⊢
  by_cases e : l = k
  ·subst e
   have a : Wr t l i l = true := by rcases h1 with h | h; exact h; exact h.1
   have b : Wr t l l j = true := by rcases h2 with h | h; exact h; exact h.2
   exact .inr ⟨a, b⟩
  ·have hl : l < k := by omega
   rcases h1 with a | ⟨a1, a2⟩
   ·rcases h2 with b | ⟨b1, b2⟩
    ·exact .inl (T l i j hl a b)
    ·exact .inr ⟨T l i k hl a b1, b2⟩
   ·rcases h2 with b | ⟨b1, b2⟩
    ·exact .inr ⟨a1, T l k j hl a2 b⟩
    ·exact .inr ⟨a1, b2⟩
theorem Wr_grow {t : Nat → Nat → Bool} {f : Nat → Int} (h : ∀ i j, t i j = true → f i < f j) : ∀ (k i j : Nat), Wr t k i j = true → f i < f j
 | 0, i, j, a => h i j a
 | k + 1, i, j, a => by
  rcases Wr_succ.1 a with a | ⟨a, b⟩
  ·exact Wr_grow h k i j a
  ·exact Int.lt_trans (Wr_grow h k i k a) (Wr_grow h k k j b)
section
variable (n : Nat) (R : Nat → Nat → Bool)
def mutB (i k : Nat) : Bool := R i k && R k i
def partN (i : Nat) : List Nat := (List.range n).filter (mutB R i)
def leadN (i : Nat) : Bool := R i i && (List.range i).all fun k => !mutB R i k
def partL (i : Nat) : List Int := (partN n R i).map fun (k : Nat) => (k : Int)
def partsL : List (List Int) := ((List.range n).filter (leadN R)).map (partL n R)
end
variable {n : Nat} {R : Nat → Nat → Bool}
theorem leadN_iff {i : Nat} : leadN R i = true ↔ R i i = true ∧ ∀ k, k < i → mutB R i k = false := by
 unfold leadN
 rw [Bool.and_eq_true, List.all_eq_true]
 exact and_congr_right fun _ => ⟨fun h k hk => by have := h k (List.mem_range.2 hk); simpa using this, fun h k hk => by simp [h k (List.mem_range.1 hk)]⟩
theorem mutB_symm {i k : Nat} : mutB R i k = mutB R k i := by unfold mutB; rw [Bool.and_comm]
theorem mutB_trans (T : ∀ i l j, l < n → R i l = true → R l j = true → R i j = true) {i l j : Nat} (hl : l < n) (a : mutB R i l = true) (b : mutB R l j = true) : mutB R i j = true := by
 unfold mutB at *
 rw [Bool.and_eq_true] at *
 exact ⟨T _ _ _ hl a.1 b.1, T _ _ _ hl b.2 a.2⟩
theorem lead_of (T : ∀ i l j, l < n → R i l = true → R l j = true → R i j = true) {i : Nat} (hi : i < n) (h : R i i = true) : ∃ k, k ≤ i ∧ leadN R k = true ∧ mutB R k i = true := by
 have key : ∀ m k, k ≤ m → k ≤ i → mutB R k i = true → ∃ k, k ≤ i ∧ leadN R k = true ∧ mutB R k i = true := by
  intro m
  induction m with
  | zero =>
   intro k hk _ hm
   have : k = 0 := by omega
   subst this
   refine ⟨0, by omega, leadN_iff.2 ⟨?_, fun k hk => by omega⟩, hm⟩
   unfold mutB at hm
   rw [Bool.and_eq_true] at hm
   exact T _ _ _ hi hm.1 hm.2
  | succ m ih =>
   intro k hk hki hm
   by_cases hl : leadN R k = true
   ·exact ⟨k, hki, hl, hm⟩
   ·have hkk : R k k = true := by
     unfold mutB at hm
     rw [Bool.and_eq_true] at hm
     exact T _ _ _ hi hm.1 hm.2
    have : ∃ j, j < k ∧ mutB R k j = true := by
     refine Classical.byContradiction fun c => hl (leadN_iff.2 ⟨hkk, fun j hj => ?_⟩)
     cases hq : mutB R k j
     ·rfl
     ·exact absurd ⟨j, hj, hq⟩ c
    obtain ⟨j, hj, hq⟩ := this
    exact ih j (by omega) (by omega) (mutB_trans T (by omega) (by rw [mutB_symm]; exact hq) hm)
 exact key i i (Nat.le_refl _) (Nat.le_refl _) (by unfold mutB; rw [h]; rfl)
theorem filter_first {p : Nat → Bool} {i : Nat} (hp : p i = true) (hn : ∀ k, k < i → p k = false) : ∀ n, i < n → ∃ l, (List.range n).filter p = i :: l
 | 0, h => by omega
 | n + 1, h => by
  rw [List.range_succ, List.filter_append]
  by_cases e : i = n
  ·subst e
   have : (List.range i).filter p = [] := List.filter_eq_nil_iff.2 fun k hk => by rw [hn k (List.mem_range.1 hk)]; simp
   rw [this, List.filter_cons_of_pos hp]
   exact ⟨[], rfl⟩
  ·obtain ⟨l, hl⟩ := filter_first hp hn n (by omega)
   rw [hl]
   exact ⟨_, rfl⟩
theorem part_head {i : Nat} (hi : i < n) : leadN R i = true ↔ ∃ l, partN n R i = i :: l := by
 constructor
 ·intro h
  have h' := leadN_iff.1 h
  exact filter_first (by unfold mutB; rw [h'.1]; rfl) h'.2 n hi
 ·rintro ⟨l, hl⟩
  have hm : i ∈ partN n R i := by rw [hl]; simp
  have hii := (List.mem_filter.1 hm).2
  refine leadN_iff.2 ⟨by unfold mutB at hii; rw [Bool.and_eq_true] at hii; exact hii.1, fun k hk => ?_⟩
  cases hq : mutB R i k
  ·rfl
  ·exfalso
   have hs : ((List.range n).filter (mutB R i)).Pairwise (· < ·) := List.Pairwise.filter _ List.pairwise_lt_range
   have hk2 : k ∈ partN n R i := List.mem_filter.2 ⟨List.mem_range.2 (by omega), hq⟩
   unfold partN at hl hk2
   rw [hl] at hs hk2
   rcases List.mem_cons.1 hk2 with e | e
   ·omega
   ·have := (List.pairwise_cons.1 hs).1 k e
    omega
def metN (R : Nat → Nat → Bool) (i k : Nat) : Bool := (List.range i).any fun j => leadN R j && mutB R j k
theorem met_lead (T : ∀ i l j, l < n → R i l = true → R l j = true → R i j = true) {i : Nat} (hi : i < n) : leadN R i = (!metN R i i && R i i) := by
 have a : leadN R i = true → (!metN R i i && R i i) = true := fun h => by
  have h' := leadN_iff.1 h
  rw [Bool.and_eq_true]
  refine ⟨?_, h'.1⟩
  rw [Bool.not_eq_true', metN, List.any_eq_false]
  intro j hj
  rw [Bool.and_eq_true]
  rintro ⟨_, q⟩
  rw [mutB_symm, h'.2 j (List.mem_range.1 hj)] at q
  cases q
 have b : (!metN R i i && R i i) = true → leadN R i = true := fun h => by
  rw [Bool.and_eq_true, Bool.not_eq_true'] at h
  obtain ⟨k, hk, hl, hm⟩ := lead_of T hi h.2
  by_cases e : k = i
  ·subst e; exact hl
  ·exfalso
   have := h.1
   rw [metN, List.any_eq_false] at this
   exact this k (List.mem_range.2 (by omega)) (by rw [hl, hm]; rfl)
 revert a b
 cases leadN R i <;> cases (!metN R i i && R i i) <;> simp
theorem met_succ {i k : Nat} : metN R (i + 1) k = (metN R i k || (leadN R i && mutB R i k)) := by
 unfold metN
 rw [List.range_succ, List.any_append]
 simp
end Go.Proofs.Ytcoampecbpiecaa.Cl
set_option linter.unusedVariables false
set_option linter.unusedSimpArgs false
namespace Go.Proofs.Ytcoampecbpiecaa.Cl
open Go
structure NewV (n : Nat) (h : H) (s : Sl) (vs : List Sl) (ls : List (List AVal)) : Prop where
 len : vs.length = ls.length
 own : Ow h s 1 (vs.map .sl)
 fr : Fr n s
 rows : ∀ (i : Nat) v l, vs[i]? = some v → ls[i]? = some l → Ow h v 1 l ∧ Fr n v
 dis : ∀ (i j : Nat) v w, i ≠ j → vs[i]? = some v → vs[j]? = some w → ∀ o, v.o = some o → w.o ≠ some o
 sep : ∀ (i : Nat) v, vs[i]? = some v → ∀ o, v.o = some o → s.o ≠ some o
section
variable {n : Nat} {h h' : H} {s : Sl} {vs : List Sl} {ls : List (List AVal)}
theorem NewV.mk0 (o : Ow h s 1 []) (f : Fr n s) : NewV n h s [] [] := ⟨rfl, o, f, fun i v l a => by simp at a, fun i j v w _ a => by simp at a, fun i v a => by simp at a⟩
theorem NewV.ext (r : NewV n h s vs ls) (x : Ext h h') : NewV n h' s vs ls := ⟨r.len, r.own.ext x, r.fr, fun i v l a b => ⟨(r.rows i v l a b).1.ext x, (r.rows i v l a b).2⟩, r.dis, r.sep⟩
theorem NewV.le {m : Nat} (r : NewV n h s vs ls) (hm : m ≤ n) : NewV m h s vs ls := ⟨r.len, r.own, r.fr.le hm, fun i v l a b => ⟨(r.rows i v l a b).1, (r.rows i v l a b).2.le hm⟩, r.dis, r.sep⟩
theorem NewV.slen (r : NewV n h s vs ls) : s.len = ls.length := by have := r.own.len; have := r.len; simp at *; omega
theorem NewV.ldR (r : NewV n h s vs ls) {i : Int} (h0 : 0 ≤ i) (h1 : i < ls.length) {K : Sl → Prop} (hk : ∀ v, vs[i.toNat]? = some v → K v) : ixS s 1 i fun p => Cl.ldS p h K := by
 have := r.len
 exact r.own.rd.ldS h0 (by omega) fun v hv => hk v hv
theorem NewV.row (r : NewV n h s vs ls) {i : Nat} {v : Sl} (hv : vs[i]? = some v) {l : List AVal} (hl : ls[i]? = some l) : Ow h v 1 l := (r.rows i v l hv hl).1
theorem NewV.st (r : NewV n h s vs ls) {i : Nat} {v : Sl} (hv : vs[i]? = some v) {l : List AVal} (hl : ls[i]? = some l) {j : Int} (j0 : 0 ≤ j) (j1 : j < l.length) (x : AVal) {K : H → Prop}
  (hk : ∀ h', NewV n h' s vs (ls.set i (l.set j.toNat x)) → Chg (fun o => n ≤ o ∧ o < h.length) h h' → h'.length = h.length → K h') : ixS v 1 j fun p => Cl.st1 p x h K := by
 have hr := r.rows i v l hv hl
 have hll : v.len = l.length := by have := hr.1.len; omega
 have hil := (List.getElem?_eq_some_iff.1 hl).1
 refine hr.1.stC j0 (by omega) x fun h' o' b lh => hk h' ⟨by simp [r.len], r.own.but b ?_, r.fr, fun k w l' p q => ?_, r.dis, r.sep⟩ (b.chg fun o e => ⟨hr.2 o e, hr.1.lt e⟩) lh
 ·cases hq : v.o with
  | none => exact .inr rfl
  | some o => exact .inl fun e => r.sep _ _ hv o hq e.symm
 ·rw [List.getElem?_set] at q
  by_cases e : i = k
  ·subst e
   rw [if_pos rfl, if_pos hil] at q
   rw [hv] at p
   have e1 := Option.some.inj p
   subst e1
   have e2 := Option.some.inj q
   subst e2
   exact ⟨o', hr.2⟩
  ·rw [if_neg e] at q
   refine ⟨(r.rows k w l' p q).1.but b ?_, (r.rows k w l' p q).2⟩
   cases hq : v.o with
   | none => exact .inr rfl
   | some o => exact .inl fun e2 => r.dis _ _ _ _ e hv p o hq e2.symm
theorem NewV.push {m : Nat} (r0 : NewV n h s vs ls) (x : Ext h h') {v : Sl} {l : List AVal} (ov : Ow h' v 1 l) (fv : Fr m v) (hm : h.length ≤ m) (hn : n ≤ h.length) (hl : (ls.length : Int) + 1 ≤ lim) {K : Sl → H → Prop}
  (hk : ∀ s' g, NewV n g s' (vs ++ [v]) (ls ++ [l]) → But s.o h' g → K s' g) : newS 1 1 [.sl v] h' fun t h1 => Cl.app s t 1 h1 K := by
 have r := r0.ext x
 have hsl := r.slen
 refine newS_ow (by rfl) fun t h1 ot tl to e1 => ?_
 have x1 : Ext h' h1 := by rw [e1]; exact Ext.app _ _
 have x1l := x1.len
 have xl := x.len
 refine app_ow (by omega) (r.own.ext x1) ot.rd (by rw [tl, hsl]; exact_mod_cast hl) fun s' g o' ln b k1 k2 => ?_
 have hso : ∀ o, s'.o = some o → s.o = some o ∨ h1.length ≤ o := fun o e => by
  cases hq : s.o with
  | none => exact .inr (k2 hq o e)
  | some p => rw [k1 p hq] at e; exact .inl e
 have hs0 : ∀ o, s.o = some o → o < h.length := fun o e => r0.own.lt e
 have hw0 : ∀ (i : Nat) w, vs[i]? = some w → ∀ o, w.o = some o → o < h.length := fun i w hw o e => by
  obtain ⟨l', hl'⟩ := mem_idx r0.len hw
  exact (r0.rows i w l' hw hl').1.lt e
 have hget : ∀ {k : Nat} {y : Sl}, (vs ++ [v])[k]? = some y → vs[k]? = some y ∨ (k = vs.length ∧ y = v) := fun {k y} e => by
  rw [List.getElem?_append] at e
  split at e
  ·exact .inl e
  ·have : k = vs.length := by
    have := (List.getElem?_eq_some_iff.1 e).1
    simp at this; omega
   subst this
   simp at e
   exact .inr ⟨rfl, e.symm⟩
 refine hk s' g ⟨by simp [r0.len], by simpa using o', fun o e => ?_, fun i w l' p q => ?_, fun i j w u hne a c o e e2 => ?_, fun i w a o e e2 => ?_⟩ ((x1.but _).trans b)
 ·rcases hso o e with e | e
  ·exact r.fr o e
  ·omega
 ·rcases hget p with p1 | ⟨rfl, rfl⟩
  ·rw [List.getElem?_append_left (by have := (List.getElem?_eq_some_iff.1 p1).1; have := r0.len; omega)] at q
   refine ⟨((r.rows i w l' p1 q).1.ext x1).but b ?_, (r.rows i w l' p1 q).2⟩
   cases hw : w.o with
   | none => cases hq : s.o with
    | none => exact .inr rfl
    | some o => exact .inl (by simp)
   | some o => exact .inl fun e => r.sep i w p1 o hw e
  ·rw [r0.len, List.getElem?_append_right (Nat.le_refl _), Nat.sub_self] at q
   have e2 := Option.some.inj q
   subst e2
   refine ⟨(ov.ext x1).but b ?_, fv.le (by omega)⟩
   cases hw : w.o with
   | none => cases hq : s.o with
    | none => exact .inr rfl
    | some o => exact .inl (by simp)
   | some o => exact .inl fun e => by have := fv o hw; have := hs0 o e; omega
 ·rcases hget a with a1 | ⟨rfl, rfl⟩
  ·rcases hget c with c1 | ⟨rfl, rfl⟩
   ·exact r.dis i j w u hne a1 c1 o e e2
   ·have := hw0 i w a1 o e; have := fv o e2; omega
  ·rcases hget c with c1 | ⟨rfl, rfl⟩
   ·have := hw0 j u c1 o e2; have := fv o e; omega
   ·exact hne rfl
 ·rcases hget a with a1 | ⟨rfl, rfl⟩
  ·rcases hso o e2 with e3 | e3
   ·exact r.sep i w a1 o e e3
   ·have := hw0 i w a1 o e; omega
  ·rcases hso o e2 with e3 | e3
   ·have := hs0 o e3; have := fv o e; omega
   ·have := ov.lt e; omega
end
def tabR (N : Nat) (R : Nat → Nat → Bool) : List (List AVal) := (List.range N).map fun i => (bl N (R i)).map AVal.bool
theorem tabR_len (N R) : (tabR N R).length = N := by simp [tabR]
theorem tabR_at {N : Nat} {R : Nat → Nat → Bool} {i : Nat} (h : i < N) : (tabR N R)[i]? = some ((bl N (R i)).map .bool) := by unfold tabR; rw [List.getElem?_map, List.getElem?_range h]; rfl
theorem tabR_set {N : Nat} {R : Nat → Nat → Bool} {i j : Nat} {b : Bool} : (tabR N R).set i (((bl N (R i)).map AVal.bool).set j (.bool b)) = tabR N fun a c => if a = i ∧ c = j then b else R a c := by
 apply List.ext_getElem (by simp [tabR])
 intro k h1 h2
 rw [List.getElem_set]
 simp only [tabR, List.getElem_map, List.getElem_range]
 by_cases e : i = k
 ·subst e
  rw [if_pos rfl, bl_set]
  congr 1
  exact bl_congr fun w _ => by simp
 ·rw [if_neg e]
  congr 1
  refine bl_congr fun w _ => ?_
  rw [if_neg fun f => e f.1.symm]
theorem tabR_congr {N : Nat} {R Q : Nat → Nat → Bool} (h : ∀ i j, i < N → j < N → R i j = Q i j) : tabR N R = tabR N Q := by
 unfold tabR
 refine List.map_congr_left fun i hi => ?_
 rw [bl_congr fun w hw => h i w (List.mem_range.1 hi) hw]
def NewM (n : Nat) (h : H) (s : Sl) (N : Nat) (R : Nat → Nat → Bool) : Prop := ∃ vs, NewV n h s vs (tabR N R)
section
variable {n N : Nat} {h h' : H} {s : Sl} {R : Nat → Nat → Bool} {vs : List Sl}
theorem NewM.ext (r : NewM n h s N R) (x : Ext h h') : NewM n h' s N R := by obtain ⟨vs, r⟩ := r; exact ⟨vs, r.ext x⟩
theorem NewM.len (r : NewM n h s N R) : s.len = N := by obtain ⟨vs, r⟩ := r; rw [r.slen, tabR_len]
theorem NewV.rdM (r : NewV n h s vs (tabR N R)) {i j : Int} (i0 : 0 ≤ i) (i1 : i < N) (j0 : 0 ≤ j) (j1 : j < N) {K : Bool → Prop} (hk : K (R i.toNat j.toNat)) : ixS s 1 i fun p => Cl.ldS p h fun v => ixS v 1 j fun p => Cl.ldB p h K :=
 r.ldR i0 (by rw [tabR_len]; exact i1) fun v hv => (r.row hv (tabR_at (by omega))).rd.ldBl j0 j1 hk
theorem NewM.rdM (r : NewM n h s N R) {i j : Int} (i0 : 0 ≤ i) (i1 : i < N) (j0 : 0 ≤ j) (j1 : j < N) {K : Bool → Prop} (hk : K (R i.toNat j.toNat)) : ixS s 1 i fun p => Cl.ldS p h fun v => ixS v 1 j fun p => Cl.ldB p h K := by
 obtain ⟨vs, r⟩ := r
 exact r.rdM i0 i1 j0 j1 hk
theorem NewV.stM (r : NewV n h s vs (tabR N R)) {i : Nat} {v : Sl} (hi : i < N) (hv : vs[i]? = some v) {j : Int} (j0 : 0 ≤ j) (j1 : j < N) (b : Bool) {K : H → Prop}
  (hk : ∀ h', NewV n h' s vs (tabR N fun a c => if a = i ∧ c = j.toNat then b else R a c) → Chg (fun o => n ≤ o ∧ o < h.length) h h' → h'.length = h.length → K h') : ixS v 1 j fun p => Cl.st1 p (.bool b) h K :=
 r.st hv (tabR_at hi) j0 (by rw [List.length_map, bl_len]; exact j1) _ fun h' r' c l => hk h' (by rw [← tabR_set]; exact r') c l
end
def tpos (T : List (List Int)) (i j : Nat) : Bool := decide (G T i j > 0)
def midW (t : Nat → Nat → Bool) (k i j a b : Nat) : Bool := if a < i ∨ (a = i ∧ b < j) then Wr t (k + 1) a b else Wr t k a b
theorem midW_col {t : Nat → Nat → Bool} {k i j a : Nat} : midW t k i j a k = Wr t k a k := by
 unfold midW
 split
 ·show (Wr t k a k || (Wr t k a k && Wr t k k k)) = _
  cases Wr t k a k <;> simp
 ·rfl
theorem midW_row {t : Nat → Nat → Bool} {k i j b : Nat} : midW t k i j k b = Wr t k k b := by
 unfold midW
 split
 ·show (Wr t k k b || (Wr t k k k && Wr t k k b)) = _
  cases Wr t k k b <;> simp
 ·rfl
theorem midW_at {t : Nat → Nat → Bool} {k i j : Nat} : midW t k i j i j = Wr t k i j := by unfold midW; rw [if_neg (by omega)]
theorem midW_step {t : Nat → Nat → Bool} {k i j : Nat} (a b : Nat) : (if a = i ∧ b = j then Wr t (k + 1) i j else midW t k i j a b) = midW t k i (j + 1) a b := by
 unfold midW
 by_cases e : a = i ∧ b = j
 ·obtain ⟨rfl, rfl⟩ := e
  rw [if_pos ⟨rfl, rfl⟩, if_pos (by omega)]
 ·rw [if_neg e]
  by_cases q : a < i ∨ (a = i ∧ b < j)
  ·rw [if_pos q, if_pos (by omega)]
  ·rw [if_neg q, if_neg (by omega)]
section
variable {h0 : H} {u : Sl} {T : List (List Int)} {N : Nat} {m : Int}
theorem reach_c (r : RdSS h0 u T) (q : Sq N m T) (hN : N ≤ 1000) : callS SP i_f71 [.sl u] h0 fun v h' => NewM h0.length h' v N (Wr (tpos T) N) ∧ Ext h0 h' := by
 have hul := r.len
 have hT := q.1
 apply f71_call
 unfold f71_main
 refine newS_ow (by rfl) fun v h1 ov lv vo e1 => ?_
 have x1 : Ext h0 h1 := by rw [e1]; exact Ext.app _ _
 refine f71_rule0 _ _ _ _ (fun v i g => ∃ (k : Nat) (vs : List Sl), i = k ∧ k ≤ N ∧ NewV h0.length g v vs ((List.range k).map fun i => (bl N (tpos T i)).map AVal.bool) ∧ Ext h0 g) (fun _ i _ => (N - i).toNat) ?_ _ _ ⟨0, [], rfl, by omega, NewV.mk0 ov (fun o e => by rw [vo] at e; cases e; exact Nat.le_refl _), x1⟩
 rintro X v _ g ⟨k, vs, rfl, hk, nv, xg⟩ hX
 unfold f71_b0 f71_C0
 refine bif_dec (fun hi => ?_) (fun hi => ?_)
 ·have hk' : k < N := by omega
  have hrow := (q.2 k hk').1
  refine (r.ext xg).ldG (by omega) (by omega) fun w rw' lw => ?_
  rw [Int.toNat_natCast] at rw' lw
  refine newS_ow (by rfl) fun z h3 oz lz zo e3 => ?_
  have x3 : Ext g h3 := by rw [e3]; exact Ext.app _ _
  refine f71_rule2 _ _ X _ _ _ _ _ _ (fun z i g' => ∃ j : Nat, i = j ∧ j ≤ N ∧ Ow g' z 1 ((bl j (tpos T k)).map .bool) ∧ Fr g.length z ∧ Ext g g') (fun _ i _ => (N - i).toNat) ?_ _ _ ⟨0, rfl, by omega, oz, (fun o e => by rw [zo] at e; cases e; exact Nat.le_refl _), x3⟩
  rintro Y z _ g' ⟨j, rfl, hj, oz, fz, e⟩ hY
  unfold f71_b2 f71_C2 f71_C1
  have hzl := oz.blen
  refine bif_dec (fun hi2 => ?_) (fun hi2 => ?_)
  ·refine (rw'.ext e).ldG (by omega) (by omega) ?_
   rw [Int.toNat_natCast]
   refine push_c oz (by unfold lim; omega) fun z' g5 oz' lz' bz fz' => ?_
   rw [w64_of (by omega) (by omega)]
   refine hY _ _ _ ⟨j + 1, by push_cast; rfl, by omega, ?_, fz' _ fz e.len, e.but_ bz fun o e => fz o e⟩ (by omega)
   rw [show bl (j + 1) (tpos T k) = bl j (tpos T k) ++ [tpos T k j] from by unfold bl; rw [List.range_succ, List.map_append]; rfl, List.map_append]
   exact oz'
  ·have hjN : j = N := by omega
   subst hjN
   refine nv.push e oz fz (Nat.le_refl _) xg.len (by simp; unfold lim; omega) fun v' g6 nv' b6 => ?_
   rw [w64_of (by omega) (by omega)]
   refine hX _ _ _ ⟨k + 1, vs ++ [z], by push_cast; rfl, by omega, ?_, (xg.trans e).but_ b6 fun o e => nv.fr o e⟩ (by omega)
   rw [List.range_succ, List.map_append]
   exact nv'
 clear hX
 have hkN : k = N := by omega
 subst hkN
 have nv0 : NewV h0.length g v vs (tabR k (Wr (tpos T) 0)) := nv
 have hvl := nv0.slen
 rw [tabR_len] at hvl
 clear nv
 refine f71_rule4 _ _ _ _ (fun i g => ∃ (z : Nat), i = z ∧ z ≤ k ∧ NewV h0.length g v vs (tabR k (Wr (tpos T) z)) ∧ Ext h0 g) (fun i _ => (k - i).toNat) ?_ _ ⟨0, rfl, by omega, nv0, xg⟩
 clear nv0 xg
 rintro X _ g ⟨z, rfl, hz, nv, xg⟩ hX
 unfold f71_b4 f71_C4
 refine bif_dec (fun hi4 => ?_) (fun hi4 => ⟨_, rfl, ⟨vs, (by have e : z = k := (by omega); rw [e] at nv; exact nv)⟩, xg⟩)
 have hz' : z < k := by omega
 refine f71_rule6 _ _ X _ _ _ _ _ (fun i g => ∃ (y : Nat), i = y ∧ y ≤ k ∧ NewV h0.length g v vs (tabR k (midW (tpos T) z y 0)) ∧ Ext h0 g) (fun i _ => (k - i).toNat) ?_ _ ⟨0, rfl, by omega, by rw [tabR_congr (Q := Wr (tpos T) z) fun i j _ _ => by unfold midW; rw [if_neg (by omega)]]; exact nv, xg⟩
 clear nv xg
 rintro Y _ g ⟨y, rfl, hy, nv, xg⟩ hY
 unfold f71_b6 f71_C6 f71_C5
 refine bif_dec (fun hi6 => ?_) (fun hi6 => ?_)
 rotate_left
 ·rw [w64_of (by omega) (by omega)]
  refine hX _ _ ⟨z + 1, by push_cast; rfl, by omega, ?_, xg⟩ (by omega)
  rw [tabR_congr (Q := midW (tpos T) z y 0) fun i j hi hj => by unfold midW; rw [if_pos (by omega)]]
  exact nv
 have hy' : y < k := by omega
 refine f71_rule8 _ _ X Y _ _ _ _ _ _ _ _ (fun i g => ∃ (x : Nat), i = x ∧ x ≤ k ∧ NewV h0.length g v vs (tabR k (midW (tpos T) z y x)) ∧ Ext h0 g) (fun i _ => (k - i).toNat) ?_ _ ⟨0, rfl, by omega, nv, xg⟩
 clear nv xg
 rintro Z _ g ⟨x, rfl, hx, nv, xg⟩ hZ
 unfold f71_b8 f71_C8 f71_C7
 refine bif_dec (fun hi8 => ?_) (fun hi8 => ?_)
 rotate_left
 ·rw [w64_of (by omega) (by omega)]
  refine hY _ _ ⟨y + 1, by push_cast; rfl, by omega, ?_, xg⟩ (by omega)
  rw [tabR_congr (Q := midW (tpos T) z y x) fun i j hi hj => by
   unfold midW
   by_cases q : i < y ∨ (i = y ∧ j < x)
   ·rw [if_pos q, if_pos (by omega)]
   ·rw [if_neg q, if_neg (by omega)]]
  exact nv
 have hx' : x < k := by omega
 refine nv.ldR (by omega) (by rw [tabR_len]; omega) fun w hw => ?_
 rw [Int.toNat_natCast] at hw
 have rd : ∀ {a b : Nat} {K : Bool → Prop}, a < k → b < k → K (midW (tpos T) z y x a b) → ixS v 1 (a : Int) fun p => Cl.ldS p g fun v => ixS v 1 (b : Int) fun p => Cl.ldB p g K := fun {a b K} ha hb hk => nv.rdM (by omega) (by omega) (by omega) (by omega) (by simpa using hk)
 have st : ∀ (b : Bool), b = Wr (tpos T) (z + 1) y x → ixS w 1 (x : Int) fun p => Cl.st1 p (.bool b) g fun h7 => Z (f71_e8 v (z : Int) (y : Int) (v.len : Int) (z : Int) (v.len : Int) (y : Int) (v.len : Int) (w64 ((x : Int) + 1))) h7 := fun b hb => by
  refine nv.stM hy' hw (by omega) (by omega) b fun g7 nv7 cg l7 => ?_
  rw [w64_of (by omega) (by omega)]
  refine hZ _ _ ⟨x + 1, by push_cast; rfl, by omega, ?_, xg.chg_ cg fun o ho => ho.1⟩ (by omega)
  rw [Int.toNat_natCast, hb] at nv7
  rw [tabR_congr fun i j _ _ => (midW_step (t := tpos T) (k := z) (i := y) (j := x) i j).symm]
  exact nv7
 have e1 : Wr (tpos T) (z + 1) y x = (Wr (tpos T) z y x || (Wr (tpos T) z y z && Wr (tpos T) z z x)) := rfl
 refine rd hy' hx' ?_
 rw [midW_at]
 refine bif_b (fun hb => st true (by rw [e1, hb]; rfl)) (fun hb => ?_)
 refine rd hy' hz' ?_
 rw [midW_col]
 refine bif_b (fun hb2 => ?_) (fun hb2 => st false (by rw [e1, hb, hb2]; rfl))
 refine rd hz' hx' ?_
 rw [midW_row]
 exact st _ (by rw [e1, hb, hb2]; simp)
end
end Go.Proofs.Ytcoampecbpiecaa.Cl
set_option linter.unusedVariables false
set_option linter.unusedSimpArgs false
namespace Go.Proofs.Ytcoampecbpiecaa.Cl
open Go
theorem NewSS.pushO {n : Nat} {h h' : H} {s : Sl} {ls : List (List Int)} (r0 : NewSS n h s ls) (x : Ext h h') {v : Sl} {l : List Int} (ov : Ow h' v 1 (ic l)) (fv : Fr h.length v) (hn : n ≤ h.length) (hl : (ls.length : Int) + 1 ≤ lim) {K : Sl → H → Prop}
  (hk : ∀ s' g, NewSS n g s' (ls ++ [l]) → But s.o h' g → (∀ o, s.o = some o → s'.o = some o) → K s' g) : newS 1 1 [.sl v] h' fun t h1 => Cl.app s t 1 h1 K := by
 refine newS_ow (by rfl) fun t h1 ot tl to e1 => ?_
 have e1' : Ext h' h1 := by rw [e1]; exact Ext.app _ _
 refine ((r0.ext x).ext e1').app_new (ov.ext e1') fv hn ⟨h, r0, Nat.le_refl _, x.trans e1'⟩ ot.rd hl (Nat.le_trans hn (Nat.le_trans x.len e1'.len)) fun s' g n' b k1 _ => hk s' g n' ((e1'.but _).trans b) k1
theorem NewV.but {n : Nat} {h h' : H} {s : Sl} {vs : List Sl} {ls : List (List AVal)} (r : NewV n h s vs ls) {p : Option Nat} (b : But p h h') (hp : ∀ o, p = some o → o < n) : NewV n h' s vs ls := by
 have key : ∀ {w : Sl}, Fr n w → p ≠ w.o ∨ p = none := fun {w} f => by
  cases hq : p with
  | none => exact .inr rfl
  | some o => exact .inl fun e => by have := hp o hq; have := f o e.symm; omega
 exact ⟨r.len, r.own.but b (key r.fr), r.fr, fun i v l a c => ⟨(r.rows i v l a c).1.but b (key (r.rows i v l a c).2), (r.rows i v l a c).2⟩, r.dis, r.sep⟩
theorem NewM.but {n N : Nat} {h h' : H} {s : Sl} {R : Nat → Nat → Bool} (r : NewM n h s N R) {p : Option Nat} (b : But p h h') (hp : ∀ o, p = some o → o < n) : NewM n h' s N R := by obtain ⟨vs, r⟩ := r; exact ⟨vs, r.but b hp⟩
def R_ (T : List (List Int)) (N : Nat) : Nat → Nat → Bool := Wr (tpos T) N
theorem R_trans (T : List (List Int)) (N : Nat) : ∀ i l j, l < N → R_ T N i l = true → R_ T N l j = true → R_ T N i j = true := fun i l j hl => Wr_trans (tpos T) N l i j hl
def prtK (R : Nat → Nat → Bool) (i k : Nat) : List Int := ((List.range k).filter (mutB R i)).map fun (k : Nat) => (k : Int)
theorem prtK_succ {R : Nat → Nat → Bool} {i k : Nat} : prtK R i (k + 1) = if mutB R i k then prtK R i k ++ [(k : Int)] else prtK R i k := by
 unfold prtK
 rw [List.range_succ, List.filter_append]
 by_cases h : mutB R i k = true
 ·rw [if_pos h, List.filter_cons_of_pos h, List.map_append]; rfl
 ·rw [if_neg h, List.filter_cons_of_neg h]; simp
theorem prtK_len {R : Nat → Nat → Bool} {i k : Nat} : (prtK R i k).length ≤ k := by
 unfold prtK
 rw [List.length_map]
 have := List.length_filter_le (mutB R i) (List.range k)
 rwa [List.length_range] at this
def prsK (R : Nat → Nat → Bool) (N i : Nat) : List (List Int) := ((List.range i).filter (leadN R)).map (partL N R)
theorem prsK_succ {R : Nat → Nat → Bool} {N i : Nat} : prsK R N (i + 1) = if leadN R i then prsK R N i ++ [partL N R i] else prsK R N i := by
 unfold prsK
 rw [List.range_succ, List.filter_append]
 by_cases h : leadN R i = true
 ·rw [if_pos h, List.filter_cons_of_pos h, List.map_append]; rfl
 ·rw [if_neg h, List.filter_cons_of_neg h]; simp
theorem prsK_len {R : Nat → Nat → Bool} {N i : Nat} : (prsK R N i).length ≤ i := by
 unfold prsK
 rw [List.length_map]
 have := List.length_filter_le (leadN R) (List.range i)
 rwa [List.length_range] at this
section
variable {h0 : H} {u : Sl} {T : List (List Int)} {N : Nat} {m : Int}
theorem strongParts_c (r : RdSS h0 u T) (q : Sq N m T) (hN : N ≤ 1000) : callS SP i_f49 [.sl u] h0 fun v h' => NewSS h0.length h' v (partsL N (R_ T N)) ∧ Ext h0 h' := by
 apply f49_call
 unfold f49_main
 refine newS_ow (by rfl) fun v h1 ov lv vo e1 => ?_
 have x1 : Ext h0 h1 := by rw [e1]; exact Ext.app _ _
 refine (reach_c (r.ext x1) q hN).to ?_
 rintro w h2 ⟨nm, x2⟩
 have hwl := nm.len
 have X2 := x1.trans x2
 refine f49_rule0 _ _ _ _ (fun v i g => ∃ k : Nat, i = k ∧ k ≤ N ∧ NewSS h0.length g v (prsK (R_ T N) N k) ∧ v.o = some h0.length ∧ NewM h1.length g w N (R_ T N) ∧ Ext h0 g ∧ h2.length ≤ g.length) (fun _ i _ => (N - i).toNat) ?_ _ _ ⟨0, rfl, by omega, (NewSS.mk0 ov (fun o e => by rw [vo] at e; cases e; exact Nat.le_refl _)).ext x2, vo, nm, X2, Nat.le_refl _⟩
 rintro X v _ g ⟨k, rfl, hk, nv, fv, nm, xg, lg⟩ hX
 unfold f49_b0 f49_C0
 refine bif_dec (fun hi => ?_) (fun hi => ⟨_, rfl, by rw [show k = N by omega] at nv; exact nv, xg⟩)
 have hk' : k < N := by omega
 refine newS_ow (by rfl) fun z h3 oz lz zo e3 => ?_
 have x3 : Ext g h3 := by rw [e3]; exact Ext.app _ _
 refine f49_rule2 _ _ X _ _ _ _ _ _ (fun z i g' => ∃ j : Nat, i = j ∧ j ≤ N ∧ Ow g' z 1 (ic (prtK (R_ T N) k j)) ∧ Fr g.length z ∧ Ext g g') (fun _ i _ => (N - i).toNat) ?_ _ _ ⟨0, rfl, by omega, oz, (fun o e => by rw [zo] at e; cases e; exact Nat.le_refl _), x3⟩
 rintro Y z _ g' ⟨j, rfl, hj, oz, fz, e⟩ hY
 unfold f49_b2 f49_C2 f49_C1
 have hpl := prtK_len (R := R_ T N) (i := k) (k := j)
 have nme := nm.ext e
 refine bif_dec (fun hi2 => ?_) (fun hi2 => ?_)
 ·have hj' : j < N := by omega
  have hs := prtK_succ (R := R_ T N) (i := k) (k := j)
  have hm : mutB (R_ T N) k j = (R_ T N k j && R_ T N j k) := rfl
  have skip : mutB (R_ T N) k j = false → Y (f49_e2 v w (k : Int) z (w.len : Int) (k : Int) (w.len : Int) (w64 ((j : Int) + 1))) g' := fun f => by
   rw [w64_of (by omega) (by omega)]
   refine hY _ _ _ ⟨j + 1, by push_cast; rfl, by omega, by rw [hs, f]; exact oz, fz, e⟩ (by omega)
  refine nme.rdM (by omega) (by omega) (by omega) (by omega) ?_
  rw [Int.toNat_natCast, Int.toNat_natCast]
  refine bif_b (fun ha => ?_) (fun ha => skip (by rw [hm, ha]; rfl))
  refine nme.rdM (by omega) (by omega) (by omega) (by omega) ?_
  rw [Int.toNat_natCast, Int.toNat_natCast]
  refine bif_b (fun hb => ?_) (fun hb => skip (by rw [hm, hb]; simp))
  refine pushI oz (by unfold lim; omega) fun z' g5 oz' bz fz' => ?_
  rw [w64_of (by omega) (by omega)]
  refine hY _ _ _ ⟨j + 1, by push_cast; rfl, by omega, by rw [hs, hm, ha, hb]; exact oz', fz' _ fz e.len, e.but_ bz fun o e => fz o e⟩ (by omega)
 have hjN : j = N := by omega
 subst hjN
 have hpart : prtK (R_ T j) k j = partL j (R_ T j) k := rfl
 have hhead := part_head (R := R_ T j) hk'
 have hzl := oz.rd.ilen
 have hsx := prsK_succ (R := R_ T j) (N := j) (i := k)
 have hpsl := prsK_len (R := R_ T j) (N := j) (i := k)
 have gl := xg.len
 have el := e.len
 have skip : leadN (R_ T j) k = false → X (f49_e0 v w (w.len : Int) (w64 ((k : Int) + 1))) g' := fun f => by
  rw [w64_of (by omega) (by omega)]
  refine hX _ _ _ ⟨k + 1, by push_cast; rfl, by omega, by rw [hsx, f]; exact nv.ext e, fv, nme, xg.trans e, by omega⟩ (by omega)
 refine bif_dec (fun hg => ?_) (fun hg => skip ?_)
 ·refine oz.rd.ldG (by omega) (by omega) ?_
  have h0' : (prtK (R_ T j) k j).getD (0 : Int).toNat 0 = (((partN j (R_ T j) k).head?.getD 0 : Nat) : Int) := by
   rw [hpart]
   unfold partL
   have hne : (partN j (R_ T j) k) ≠ [] := fun e => by
    have : (prtK (R_ T j) k j).length = 0 := by rw [hpart]; unfold partL; rw [e]; rfl
    omega
   cases hq : partN j (R_ T j) k with
   | nil => exact absurd hq hne
   | cons a l => rfl
  rw [h0']
  refine bif_eq (fun heq => ?_) (fun hne => skip ?_)
  ·have hl : leadN (R_ T j) k = true := hhead.2 (by
    cases hq : partN j (R_ T j) k with
    | nil =>
     have : (prtK (R_ T j) k j).length = 0 := by rw [hpart]; unfold partL; rw [hq]; rfl
     omega
    | cons a l =>
     rw [hq] at heq
     have heq' : (a : Int) = (k : Int) := heq
     have : a = k := by omega
     exact ⟨l, by rw [this]⟩)
   refine nv.pushO e oz fz xg.len (by unfold lim; omega) fun v' g6 nv' b6 k6 => ?_
   rw [w64_of (by omega) (by omega)]
   rw [fv] at b6
   have l1 : h0.length < h1.length := by rw [e1]; simp
   exact hX _ _ _ ⟨k + 1, by push_cast; rfl, by omega, by rw [hsx, hl, if_pos rfl, ← hpart]; exact nv', k6 _ fv, nme.but b6 (fun o e => by cases e; exact l1), (xg.trans e).but_ b6 (some_le (Nat.le_refl _)), by have := b6.1; omega⟩ (by omega)
  ·cases hl : leadN (R_ T j) k with
   | false => rfl
   | true =>
    obtain ⟨l, hq⟩ := hhead.1 hl
    rw [hq] at hne
    exact absurd rfl hne
 ·cases hl : leadN (R_ T j) k with
  | false => rfl
  | true =>
   obtain ⟨l, hq⟩ := hhead.1 hl
   have : (prtK (R_ T j) k j).length = l.length + 1 := by rw [hpart]; unfold partL; rw [hq]; simp
   omega
end
end Go.Proofs.Ytcoampecbpiecaa.Cl
set_option linter.unusedVariables false
set_option linter.unusedSimpArgs false
namespace Go.Proofs.Ytcoampecbpiecaa.Cl
open Go
theorem NewV.chg {n : Nat} {h h' : H} {s : Sl} {vs : List Sl} {ls : List (List AVal)} {P : Nat → Prop} (r : NewV n h s vs ls) (b : Chg P h h') (hn : ∀ i, n ≤ i → i < h.length → ¬ P i) : NewV n h' s vs ls :=
 ⟨r.len, r.own.chg b fun i e => hn i (r.fr i e) (r.own.lt e), r.fr, fun i v l a c => ⟨(r.rows i v l a c).1.chg b fun o e => hn o ((r.rows i v l a c).2 o e) ((r.rows i v l a c).1.lt e), (r.rows i v l a c).2⟩, r.dis, r.sep⟩
theorem NewM.chg {n N : Nat} {h h' : H} {s : Sl} {R : Nat → Nat → Bool} {P : Nat → Prop} (r : NewM n h s N R) (b : Chg P h h') (hn : ∀ i, n ≤ i → i < h.length → ¬ P i) : NewM n h' s N R := by obtain ⟨vs, r⟩ := r; exact ⟨vs, r.chg b hn⟩
theorem NewSS.pushC {n : Nat} {g g' : H} {s : Sl} {ls : List (List Int)} {P : Nat → Prop} (r0 : NewSS n g s ls) (c : Chg P g g') (hn : ∀ i, n ≤ i → i < g.length → ¬ P i) {v : Sl} {l : List Int} (ov : Ow g' v 1 (ic l)) (fv : Fr g.length v) (hng : n ≤ g.length) (hl : (ls.length : Int) + 1 ≤ lim) {K : Sl → H → Prop}
  (hk : ∀ s' h', NewSS n h' s' (ls ++ [l]) → But s.o g' h' → (∀ o, s.o = some o → s'.o = some o) → K s' h') : newS 1 1 [.sl v] g' fun t h1 => Cl.app s t 1 h1 K := by
 refine newS_ow (by rfl) fun t h1 ot tl to e1 => ?_
 have x1 : Ext g' h1 := by rw [e1]; exact Ext.app _ _
 have c1 : Chg P g h1 := c.trans (x1.chg P)
 have r1 := r0.chg c1 hn
 have cl := c.1
 have xl := x1.len
 obtain ⟨vs, a1, a2, a3, a4, a5, a6⟩ := r0
 have hs0 : ∀ o, s.o = some o → o < g.length := fun o e => a2.lt e
 have own1 := a2.chg c1 fun i e => hn i (a3 i e) (a2.lt e)
 refine r1.app (ov.ext x1) (fv.le hng) (fun o e => ⟨fun e2 => ?_, fun us hu w hw e2 => ?_⟩) ot.rd hl (by omega) fun s' h' n' b k1 _ => hk s' h' n' ((x1.but _).trans b) k1
 ·have := fv o e; have := hs0 o e2; omega
 ·have hq : us = vs := by
   have a := hu.rd.sread (by omega)
   have b := own1.rd.sread (by omega)
   rw [a] at b
   have : us.map AVal.sl = vs.map AVal.sl := Option.some.inj b
   exact List.map_inj_right (fun a b e => by simpa using e) |>.1 this
  subst hq
  obtain ⟨i, hi⟩ := List.getElem?_of_mem hw
  obtain ⟨l', hl'⟩ := mem_idx a1 hi
  have := (a4 i w l' hi hl').1.lt e2
  have := fv o e
  omega
section
variable {h0 : H} {u : Sl} {T : List (List Int)} {N : Nat} {m : Int}
theorem l06Reach_c (r : RdSS h0 u T) (q : Sq N m T) (hN : N ≤ 1000) : callS SP i_f72 [.sl u] h0 fun v h' => NewM h0.length h' v N (R_ T N) ∧ Ext h0 h' := by
 have hul := r.len
 have hT := q.1
 apply f72_call
 unfold f72_main
 refine newS_ow (by rfl) fun v h1 ov lv vo e1 => ?_
 have x1 : Ext h0 h1 := by rw [e1]; exact Ext.app _ _
 rw [hul, hT]
 refine f72_rule0 _ _ _ _ (fun v i g => ∃ (k : Nat) (vs : List Sl), i = k ∧ k ≤ N ∧ NewV h0.length g v vs ((List.range k).map fun i => (bl N (tpos T i)).map AVal.bool) ∧ Ext h0 g) (fun _ i _ => (N - i).toNat) ?_ _ _ ⟨0, [], rfl, by omega, NewV.mk0 ov (fun o e => by rw [vo] at e; cases e; exact Nat.le_refl _), x1⟩
 rintro X v _ g ⟨k, vs, rfl, hk, nv, xg⟩ hX
 unfold f72_b0 f72_C0
 refine bif_dec (fun hi => ?_) (fun hi => ?_)
 ·have hk' : k < N := by omega
  have hrow := (q.2 k hk').1
  refine mkS_ow (by omega) (by unfold lim; omega) fun z h3 oz lz zo e3 => ?_
  have x3 : Ext g h3 := by rw [e3]; exact Ext.app _ _
  rw [bl_false, Int.toNat_natCast] at oz
  have fz : Fr g.length z := fun o e => by rw [zo] at e; cases e; exact Nat.le_refl _
  refine f72_rule2 _ _ X _ _ _ _ _ (fun i g' => ∃ j : Nat, i = j ∧ j ≤ N ∧ Ow g' z 1 ((bl N fun w => decide (w < j) && tpos T k w).map .bool) ∧ Ext g g') (fun i _ => (N - i).toNat) ?_ _ ⟨0, rfl, by omega, by simpa using oz, x3⟩
  rintro Y _ g' ⟨j, rfl, hj, oz, e⟩ hY
  unfold f72_b2 f72_C2 f72_C1
  refine bif_dec (fun hi2 => ?_) (fun hi2 => ?_)
  ·refine ((r.ext xg).ext e).ldG (by omega) (by omega) fun w rw' lw => ?_
   rw [Int.toNat_natCast] at rw' lw
   refine rw'.ldG (by omega) (by omega) ?_
   rw [Int.toNat_natCast]
   refine oz.stBl (by omega) (by omega) _ fun g5 o5 b5 l5 => ?_
   rw [w64_of (by omega) (by omega)]
   refine hY _ _ ⟨j + 1, by push_cast; rfl, by omega, ?_, e.but_ b5 fun o e => fz o e⟩ (by omega)
   rw [show (bl N fun w => decide (w < j + 1) && tpos T k w) = bl N (fun w => if w = (j : Int).toNat then decide ((rw_ T k).getD j 0 > 0) else decide (w < j) && tpos T k w) from bl_congr fun w _ => ?_]
   ·exact o5
   ·rw [Int.toNat_natCast]
    split
    ·next e => subst e; rw [decide_eq_true (by omega), Bool.true_and]; rfl
    ·next e => rw [show decide (w < j + 1) = decide (w < j) from by apply decide_eq_decide.2; omega]
  ·have hjN : j = N := by omega
   subst hjN
   rw [show (bl j fun w => decide (w < j) && tpos T k w) = bl j (tpos T k) from bl_congr fun w hw => by rw [decide_eq_true hw, Bool.true_and]] at oz
   refine nv.push e oz fz (Nat.le_refl _) xg.len (by simp; unfold lim; omega) fun v' g6 nv' b6 => ?_
   rw [w64_of (by omega) (by omega)]
   refine hX _ _ _ ⟨k + 1, vs ++ [z], by push_cast; rfl, by omega, ?_, (xg.trans e).but_ b6 fun o e => nv.fr o e⟩ (by omega)
   rw [List.range_succ, List.map_append]
   exact nv'
 clear hX
 have hkN : k = N := by omega
 subst hkN
 have nv0 : NewV h0.length g v vs (tabR k (Wr (tpos T) 0)) := nv
 clear nv
 refine f72_rule4 _ _ _ _ (fun i g => ∃ (z : Nat), i = z ∧ z ≤ k ∧ NewV h0.length g v vs (tabR k (Wr (tpos T) z)) ∧ Ext h0 g) (fun i _ => (k - i).toNat) ?_ _ ⟨0, rfl, by omega, nv0, xg⟩
 clear nv0 xg
 rintro X _ g ⟨z, rfl, hz, nv, xg⟩ hX
 unfold f72_b4 f72_C4
 refine bif_dec (fun hi4 => ?_) (fun hi4 => ⟨_, rfl, ⟨vs, (by have e : z = k := (by omega); rw [e] at nv; exact nv)⟩, xg⟩)
 have hz' : z < k := by omega
 refine f72_rule6 _ _ X _ _ _ (fun i g => ∃ (y : Nat), i = y ∧ y ≤ k ∧ NewV h0.length g v vs (tabR k (midW (tpos T) z y 0)) ∧ Ext h0 g) (fun i _ => (k - i).toNat) ?_ _ ⟨0, rfl, by omega, by rw [tabR_congr (Q := Wr (tpos T) z) fun i j _ _ => by unfold midW; rw [if_neg (by omega)]]; exact nv, xg⟩
 clear nv xg
 rintro Y _ g ⟨y, rfl, hy, nv, xg⟩ hY
 unfold f72_b6 f72_C6 f72_C5
 refine bif_dec (fun hi6 => ?_) (fun hi6 => ?_)
 rotate_left
 ·rw [w64_of (by omega) (by omega)]
  refine hX _ _ ⟨z + 1, by push_cast; rfl, by omega, ?_, xg⟩ (by omega)
  rw [tabR_congr (Q := midW (tpos T) z y 0) fun i j hi hj => by unfold midW; rw [if_pos (by omega)]]
  exact nv
 have hy' : y < k := by omega
 refine nv.ldR (by omega) (by rw [tabR_len]; omega) fun w hw => ?_
 rw [Int.toNat_natCast] at hw
 refine f72_rule8 _ _ X Y _ _ _ _ _ (fun i g => ∃ (x : Nat), i = x ∧ x ≤ k ∧ NewV h0.length g v vs (tabR k (midW (tpos T) z y x)) ∧ Ext h0 g) (fun i _ => (k - i).toNat) ?_ _ ⟨0, rfl, by omega, nv, xg⟩
 clear nv xg
 rintro Z _ g ⟨x, rfl, hx, nv, xg⟩ hZ
 unfold f72_b8 f72_C8 f72_C7
 have done : (∀ j, x ≤ j → j < k → Wr (tpos T) (z + 1) y j = Wr (tpos T) z y j) → Y (f72_e6 (k : Int) v (z : Int) (w64 ((y : Int) + 1))) g := fun hd => by
  rw [w64_of (by omega) (by omega)]
  refine hY _ _ ⟨y + 1, by push_cast; rfl, by omega, ?_, xg⟩ (by omega)
  rw [tabR_congr (Q := midW (tpos T) z y x) fun i j hi hj => by
   unfold midW
   by_cases q : i < y ∨ (i = y ∧ j < x)
   ·rw [if_pos q, if_pos (by omega)]
   ·rw [if_neg q]
    by_cases q2 : i = y
    ·subst q2; rw [if_pos (by omega), hd j (by omega) hj]
    ·rw [if_neg (by omega)]]
  exact nv
 refine bif_dec (fun hi8 => ?_) (fun hi8 => done fun j h1 h2 => by omega)
 have hx' : x < k := by omega
 have e1 : ∀ j, Wr (tpos T) (z + 1) y j = (Wr (tpos T) z y j || (Wr (tpos T) z y z && Wr (tpos T) z z j)) := fun j => rfl
 have rd1 : ∀ {b : Nat} {K : Bool → Prop}, b < k → K (midW (tpos T) z y x y b) → ixS w 1 (b : Int) fun p => Cl.ldB p g K := fun {b K} hb hk => (nv.row hw (tabR_at hy')).rd.ldBl (by omega) (by omega) (by rw [Int.toNat_natCast]; exact hk)
 have st : ∀ (b : Bool), b = Wr (tpos T) (z + 1) y x → ixS w 1 (x : Int) fun p => Cl.st1 p (.bool b) g fun h7 => Z (f72_e8 (k : Int) v (z : Int) (y : Int) w (w64 ((x : Int) + 1))) h7 := fun b hb => by
  refine nv.stM hy' hw (by omega) (by omega) b fun g7 nv7 cg l7 => ?_
  rw [w64_of (by omega) (by omega)]
  refine hZ _ _ ⟨x + 1, by push_cast; rfl, by omega, ?_, xg.chg_ cg fun o ho => ho.1⟩ (by omega)
  rw [Int.toNat_natCast, hb] at nv7
  rw [tabR_congr fun i j _ _ => (midW_step (t := tpos T) (k := z) (i := y) (j := x) i j).symm]
  exact nv7
 refine rd1 hz' ?_
 rw [midW_col]
 refine bif_b (fun hb => ?_) (fun hb => done fun j h1 h2 => by rw [e1, hb]; simp)
 refine rd1 hx' ?_
 rw [midW_at]
 refine bif_b (fun hb2 => st true (by rw [e1, hb2]; rfl)) (fun hb2 => ?_)
 refine nv.rdM (by omega) (by omega) (by omega) (by omega) ?_
 rw [Int.toNat_natCast, Int.toNat_natCast, midW_row]
 exact st _ (by rw [e1, hb, hb2]; simp)
theorem l06Parts_c (r : RdSS h0 u T) (q : Sq N m T) (hN : N ≤ 1000) : callS SP i_f50 [.sl u] h0 fun v h' => NewSS h0.length h' v (partsL N (R_ T N)) ∧ Ext h0 h' := by
 have hul := r.len
 have hT := q.1
 apply f50_call
 unfold f50_main
 refine slotK_in fun g0 x0 l0 => ?_
 refine (l06Reach_c (r.ext x0) q hN).to ?_
 rintro w h1 ⟨nm, x1⟩
 have l1 := x1.len
 refine mkSat_ow (by omega) (by omega) (by unfold lim; omega) fun me g2 ome lme nme bme tme => ?_
 refine newSat_ow (by omega) (by rfl) fun v g6 ov lv nv bv tv => ?_
 rw [bl_false, Int.toNat_natCast, hul, hT] at ome
 have ome6 := ome.but bv (.inl (by rw [nme]; intro e; have := Option.some.inj e; omega))
 have nm6 : NewM g0.length g6 w N (R_ T N) := (nm.but bme (fun o e => by cases e; omega)).but bv (fun o e => by cases e; omega)
 have x6 : Ext h0 g6 := ((x0.trans x1).but_ bme (some_le (by omega))).but_ bv (some_le (by omega))
 have hmet := fun {i} (hi : i < N) => met_lead (R := R_ T N) (n := N) (R_trans T N) hi
 refine f50_rule0 _ _ _ _ _ (fun v i g => ∃ k : Nat, i = k ∧ k ≤ N ∧ NewSS (h0.length + 5) g v (prsK (R_ T N) N k) ∧ v.o = some (h0.length + 5) ∧ Ow g me 1 ((bl N (metN (R_ T N) k)).map .bool) ∧ NewM g0.length g w N (R_ T N) ∧ Ext h0 g ∧ g0.length ≤ g.length) (fun _ i _ => (N - i).toNat) ?_ _ _ ⟨0, rfl, by omega, NewSS.mk0 ov (fun o e => by rw [nv] at e; cases e; omega), nv, by
   rw [show bl N (metN (R_ T N) 0) = bl N (fun _ => false) from bl_congr fun w _ => rfl]; exact ome6, nm6, x6, by omega⟩
 rintro X v _ g ⟨k, rfl, hk, nv, fv, ome, nm, xg, lg⟩ hX
 unfold f50_b0 f50_C0 f50_C1
 refine bif_dec (fun hi => ?_) (fun hi => ⟨_, rfl, by rw [show k = N by omega] at nv; exact nv.le (by omega), xg⟩)
 have hk' : k < N := by omega
 have hsx := prsK_succ (R := R_ T N) (N := N) (i := k)
 have hpsl := prsK_len (R := R_ T N) (N := N) (i := k)
 have hms := fun j => met_succ (R := R_ T N) (i := k) (k := j)
 have hL := hmet hk'
 have skip : leadN (R_ T N) k = false → X (f50_e0 u w me v (w64 ((k : Int) + 1))) g := fun f => by
  rw [w64_of (by omega) (by omega)]
  refine hX _ _ _ ⟨k + 1, by push_cast; rfl, by omega, by rw [hsx, f]; exact nv, fv, ?_, nm, xg, lg⟩ (by omega)
  rw [show bl N (metN (R_ T N) (k + 1)) = bl N (metN (R_ T N) k) from bl_congr fun j _ => by rw [hms, f]; simp]
  exact ome
 refine ome.rd.ldBl (by omega) (by omega) ?_
 rw [Int.toNat_natCast]
 refine bif_b (fun hb => skip (by rw [hL, hb]; rfl)) (fun hb => ?_)
 refine nm.rdM (by omega) (by omega) (by omega) (by omega) ?_
 rw [Int.toNat_natCast]
 refine bif_not (fun hb2 => skip (by rw [hL, hb2]; simp)) (fun hb2 => ?_)
 have hlead : leadN (R_ T N) k = true := by rw [hL, hb, hb2]; rfl
 have hbel := (leadN_iff.1 hlead).2
 refine newS_ow (by rfl) fun z h7 oz lz zo e7 => ?_
 have x7 : Ext g h7 := by rw [e7]; exact Ext.app _ _
 have hp0 : prtK (R_ T N) k k = [] := by
  unfold prtK
  rw [List.filter_eq_nil_iff.2 fun j hj => by rw [hbel j (List.mem_range.1 hj)]; decide]; rfl
 have hmel : me.o = some (h0.length + 4) := nme
 refine f50_rule2 _ _ X _ _ _ _ _ (fun z i g' => ∃ j : Nat, i = j ∧ k ≤ j ∧ j ≤ N ∧ Ow g' z 1 (ic (prtK (R_ T N) k j)) ∧ Fr g.length z ∧ Ow g' me 1 ((bl N fun b => metN (R_ T N) k b || (decide (b < j) && mutB (R_ T N) k b)).map .bool) ∧ Chg (fun i => i = h0.length + 4 ∨ g.length ≤ i) g g') (fun _ i _ => (N - i).toNat) ?_ _ _ ⟨k, rfl, Nat.le_refl _, hk, by rw [hp0]; exact oz, (fun o e => by rw [zo] at e; cases e; exact Nat.le_refl _), by
   rw [show (bl N fun b => metN (R_ T N) k b || (decide (b < k) && mutB (R_ T N) k b)) = bl N (metN (R_ T N) k) from bl_congr fun b _ => by
    by_cases q : b < k
    ·rw [hbel b q]; simp
    ·simp [q]]
   exact ome.ext x7, x7.chg _⟩
 rintro Y z _ g' ⟨j, rfl, hkj, hj, oz, fz, ome', cg⟩ hY
 have hnP : ∀ i, g0.length ≤ i → i < g.length → ¬ (i = h0.length + 4 ∨ g.length ≤ i) := fun i h1 h2 f => by omega
 have hnP5 : ∀ i, h0.length + 5 ≤ i → i < g.length → ¬ (i = h0.length + 4 ∨ g.length ≤ i) := fun i h1 h2 f => by omega
 have nm' := nm.chg cg hnP
 have lg' := cg.1
 unfold f50_b2 f50_C2 f50_C1
 have hpl := prtK_len (R := R_ T N) (i := k) (k := j)
 refine bif_dec (fun hi2 => ?_) (fun hi2 => ?_)
 ·have hj' : j < N := by omega
  have hs := prtK_succ (R := R_ T N) (i := k) (k := j)
  have hm : mutB (R_ T N) k j = (R_ T N k j && R_ T N j k) := rfl
  have skip : mutB (R_ T N) k j = false → Y (f50_e2 u w me v (k : Int) z (w64 ((j : Int) + 1))) g' := fun f => by
   rw [w64_of (by omega) (by omega)]
   refine hY _ _ _ ⟨j + 1, by push_cast; rfl, by omega, by omega, by rw [hs, f]; exact oz, fz, ?_, cg⟩ (by omega)
   rw [show (bl N fun b => metN (R_ T N) k b || (decide (b < j + 1) && mutB (R_ T N) k b)) = (bl N fun b => metN (R_ T N) k b || (decide (b < j) && mutB (R_ T N) k b)) from bl_congr fun b _ => by
    by_cases e : b = j
    ·subst e; rw [f]; simp
    ·rw [show decide (b < j + 1) = decide (b < j) from by apply decide_eq_decide.2; omega]]
   exact ome'
  refine nm'.rdM (by omega) (by omega) (by omega) (by omega) ?_
  rw [Int.toNat_natCast, Int.toNat_natCast]
  refine bif_b (fun ha => ?_) (fun ha => skip (by rw [hm, ha]; rfl))
  refine nm'.rdM (by omega) (by omega) (by omega) (by omega) ?_
  rw [Int.toNat_natCast, Int.toNat_natCast]
  refine bif_b (fun hb => ?_) (fun hb => skip (by rw [hm, hb]; simp))
  have hmt : mutB (R_ T N) k j = true := by rw [hm, ha, hb]; rfl
  refine ome'.stBl (by omega) (by omega) _ fun g5 o5 b5 l5 => ?_
  rw [Int.toNat_natCast] at o5
  rw [hmel] at b5
  have zl : z.o ≠ some (h0.length + 4) := fun e => by have := fz _ e; omega
  have oz5 := oz.but b5 (.inl fun e => zl e.symm)
  refine pushI oz5 (by unfold lim; omega) fun z' g6 oz' bz fz' => ?_
  have hzb : ∀ o, z.o = some o → g.length ≤ o := fun o e => fz o e
  rw [w64_of (by omega) (by omega)]
  refine hY _ _ _ ⟨j + 1, by push_cast; rfl, by omega, by omega, by rw [hs, hmt]; exact oz', fz' _ fz (by omega), ?_, (cg.trans (b5.chg fun i e => .inl (Option.some.inj e).symm)).trans (bz.chg fun i e => .inr (hzb i e))⟩ (by omega)
  ·rw [show (bl N fun b => metN (R_ T N) k b || (decide (b < j + 1) && mutB (R_ T N) k b)) = bl N (fun b => if b = j then true else metN (R_ T N) k b || (decide (b < j) && mutB (R_ T N) k b)) from bl_congr fun b _ => by
    split
    ·next e => subst e; rw [hmt]; simp
    ·next e => rw [show decide (b < j + 1) = decide (b < j) from by apply decide_eq_decide.2; omega]]
   exact o5.but bz (.inl (by rw [hmel]; exact zl))
 have hjN : j = N := by omega
 subst hjN
 have hpart : prtK (R_ T j) k j = partL j (R_ T j) k := rfl
 refine nv.pushC cg hnP5 oz fz (by omega) (by unfold lim; omega) fun v' g6 nv6 b6 k6 => ?_
 rw [fv] at b6
 rw [w64_of (by omega) (by omega)]
 refine hX _ _ _ ⟨k + 1, by push_cast; rfl, by omega, by rw [hsx, hlead, if_pos rfl, ← hpart]; exact nv6, k6 _ fv, ?_, nm'.but b6 (fun o e => by cases e; omega), (xg.chg_ cg fun i f => by omega).but_ b6 (some_le (by omega)), by have := b6.1; omega⟩ (by omega)
 rw [show bl j (metN (R_ T j) (k + 1)) = (bl j fun b => metN (R_ T j) k b || (decide (b < j) && mutB (R_ T j) k b)) from bl_congr fun b hb => by rw [hms, hlead, decide_eq_true hb]]
 exact ome'.but b6 (.inl (by rw [hmel]; intro e; have := Option.some.inj e; omega))
end
end Go.Proofs.Ytcoampecbpiecaa.Cl
set_option linter.unusedVariables false
set_option linter.unusedSimpArgs false
namespace Go.Proofs.Ytcoampecbpiecaa.Cl
open Go
def partsOf (c : Int) (ts : List Tile) (a : Int) : List (List Int) := partsL (wordsS c ts a).length (R_ (tableS c ts a) (wordsS c ts a).length)
theorem partsL_rows {N : Nat} {R : Nat → Nat → Bool} : (partsL N R).length ≤ N ∧ ∀ l ∈ partsL N R, l.length ≤ N := by
 refine ⟨prsK_len (R := R) (N := N) (i := N), fun l hl => ?_⟩
 obtain ⟨i, _, rfl⟩ := List.mem_map.1 hl
 exact prtK_len (R := R) (i := i) (k := N)
noncomputable def F_StrongParts_0 (c : Int) (ts : List Tile) (a : Int) : List (List Int) := sel0 (codeL c ts a = 0) (partsOf c ts a)
theorem StrongParts_small0 {c : Int} {ts : List Tile} {a : Int} (sz : ts.length ≤ 1048576) (ba : i64ok a) : (F_StrongParts_0 c ts a).length < 1000000 ∧ sumLen (F_StrongParts_0 c ts a) < 1000000 := by
 by_cases h : codeL c ts a = 0
 ·rw [F_StrongParts_0, sel0_yes h]
  have hk := (codeL_ok h).2
  have hr := partsL_rows (N := (wordsS c ts a).length) (R := R_ (tableS c ts a) (wordsS c ts a).length)
  change (partsOf c ts a).length ≤ _ ∧ ∀ l ∈ partsOf c ts a, l.length ≤ _ at hr
  have h2 := sumLen_le (n := 40) fun l hl => Nat.le_trans (hr.2 l hl) hk
  omega
 ·rw [F_StrongParts_0, sel0_no h]; constructor <;> decide
section
variable {h0 : H} {c : Int} {s : Sl} {ts : List Tile} {a : Int}
theorem impl_StrongParts_c (r : Rd h0 s 4 (tcs ts)) (sz : ts.length ≤ 1048576) (ba : i64ok a) :
  callV SP i_f19 [.agg (SetC c s), i64 a] h0 fun v h' => ∃ w, v = .tuple [.sl w, i64 (codeL c ts a)] ∧ NewSS h0.length h' w (F_StrongParts_0 c ts a) ∧ Ext h0 h' := by
 apply f19_call
 unfold f19_main
 refine newK_obj fun h1 o1 x1 l1 => ?_
 refine o1.ldA rfl ?_
 refine (lastingOf_c (a := a) (r.ext x1) sz).to ?_
 rintro _ h3 ⟨p, w, t, rfl, hp, x3⟩
 refine ⟨_, rfl, _, rfl, _, rfl, _, rfl, _, rfl, _, rfl, _, rfl, _, rfl, ?_⟩
 have X3 := x1.trans x3
 refine bif_ne (fun hq => ⟨_, rfl, by rw [F_StrongParts_0, sel0_no hq]; exact NewSS.nil _ _, X3⟩) (fun hq => ?_)
 obtain ⟨_, ow, fw, nt⟩ := hp hq
 have ok := codeL_ok hq
 refine (strongParts_c nt.rd (table_sq ok.1) (by omega)).to ?_
 rintro v h4 ⟨nv, x4⟩
 exact ⟨_, by rw [hq], by rw [F_StrongParts_0, sel0_yes hq]; exact nv.le X3.len, X3.trans x4⟩
theorem spec_StrongParts_c (r : Rd h0 s 4 (tcs ts)) (sz : ts.length ≤ 1048576) (ba : i64ok a) :
  callV SP i_f20 [.agg (SetC c s), i64 a] h0 fun v h' => ∃ w, v = .tuple [.sl w, i64 (codeL c ts a)] ∧ NewSS h0.length h' w (F_StrongParts_0 c ts a) ∧ Ext h0 h' := by
 apply f20_call
 unfold f20_main
 refine newK_obj fun h1 o1 x1 l1 => ?_
 refine o1.ldA rfl ?_
 refine (l06Lasting_c (a := a) (r.ext x1) sz).to ?_
 rintro _ h3 ⟨w, t, rfl, hp, x3⟩
 refine ⟨_, rfl, _, rfl, _, rfl, _, rfl, _, rfl, _, rfl, ?_⟩
 have X3 := x1.trans x3
 refine bif_ne (fun hq => ⟨_, rfl, by rw [F_StrongParts_0, sel0_no hq]; exact NewSS.nil _ _, X3⟩) (fun hq => ?_)
 have ok := codeL_ok hq
 refine (l06Parts_c (hp hq).2.rd (table_sq ok.1) (by omega)).to ?_
 rintro v h4 ⟨nv, x4⟩
 exact ⟨_, by rw [hq], by rw [F_StrongParts_0, sel0_yes hq]; exact nv.le X3.len, X3.trans x4⟩
end
end Go.Proofs.Ytcoampecbpiecaa.Cl
set_option linter.unusedVariables false
set_option linter.unusedSimpArgs false
namespace Go.Proofs.Ytcoampecbpiecaa.Cl
def negs : List Int → Nat
 | [] => 0
 | x :: l => (if x < 0 then 1 else 0) + negs l
theorem negs_set {v : Int} (hv : 0 ≤ v) : ∀ (d : List Int) (i : Nat), i < d.length → d.getD i 0 < 0 → negs (d.set i v) + 1 = negs d
 | [], i, h, _ => by simp at h
 | x :: l, 0, _, h => by
  have h' : x < 0 := by simpa using h
  simp only [List.set_cons_zero, negs]
  rw [if_neg (by omega), if_pos h']; omega
 | x :: l, i + 1, hl, h => by
  have ih := negs_set hv l i (by simpa using hl) (by simpa using h)
  simp only [List.set_cons_succ, negs]
  omega
theorem getD_setO (d : List Int) (i j : Nat) (v : Int) (hi : i < d.length) : (d.set i v).getD j 0 = if i = j then v else d.getD j 0 := by
 rw [List.getD_eq_getElem?_getD, List.getElem?_set]
 by_cases e : i = j
 ·subst e; simp [hi]
 ·simp [e, List.getD_eq_getElem?_getD]
section
variable (t : Nat → Nat → Bool)
def inS (a : Nat) (st : List Int × List Int) (b : Nat) : List Int × List Int :=
 if t a b = true ∧ st.1.getD b 0 < 0 then (st.1.set b (st.1.getD a 0 + 1), st.2 ++ [(b : Int)]) else st
def inK (a : Nat) (st : List Int × List Int) (k : Nat) : List Int × List Int := (List.range k).foldl (inS t a) st
def bfs (n : Nat) : Nat → List Int → List Int → List Int
 | 0, d, _ => d
 | _ + 1, d, [] => d
 | f + 1, d, a :: q => bfs n f (inK t a.toNat (d, q) n).1 (inK t a.toNat (d, q) n).2
end
variable {t : Nat → Nat → Bool}
theorem inK_succ {a : Nat} {st : List Int × List Int} {k : Nat} : inK t a st (k + 1) = inS t a (inK t a st k) k := by
 unfold inK; rw [List.range_succ, List.foldl_append]; rfl
structure WS (n : Nat) (st : List Int × List Int) : Prop where
 len : st.1.length = n
 q : ∀ x ∈ st.2, 0 ≤ x ∧ x < n ∧ 0 ≤ st.1.getD x.toNat 0
 lo : ∀ i, i < n → -1 ≤ st.1.getD i 0 ∧ st.1.getD i 0 + negs st.1 ≤ n
theorem inS_ws {n : Nat} {st : List Int × List Int} (w : WS n st) {a b : Nat} (ha : a < n) (h : 0 ≤ st.1.getD a 0) (hb : b < n) :
  WS n (inS t a st b) ∧ (inS t a st b).2.length + negs (inS t a st b).1 = st.2.length + negs st.1 ∧ (inS t a st b).1.getD a 0 = st.1.getD a 0 ∧ negs (inS t a st b).1 ≤ negs st.1 := by
 unfold inS
 split
 ·next hc =>
  have hl : b < st.1.length := by rw [w.len]; exact hb
  have hn := negs_set (v := st.1.getD a 0 + 1) (by omega) st.1 b hl hc.2
  have hab : b ≠ a := fun e => by subst e; omega
  have ga := w.lo a ha
  refine ⟨⟨by simp [w.len], fun x hx => ?_, fun i hi => ?_⟩, by simp only [List.length_append, List.length_singleton]; omega, ?_, by simp only; omega⟩
  ·simp only at hx ⊢
   rw [getD_setO _ _ _ _ hl]
   rcases List.mem_append.1 hx with hx | hx
   ·obtain ⟨x0, x1, x2⟩ := w.q x hx
    refine ⟨x0, x1, ?_⟩
    split
    ·omega
    ·exact x2
   ·rw [List.mem_singleton] at hx
    subst hx
    refine ⟨by omega, by omega, ?_⟩
    rw [Int.toNat_natCast, if_pos rfl]; omega
  ·simp only
   rw [getD_setO _ _ _ _ hl]
   have gi := w.lo i hi
   split <;> omega
  ·simp only
   rw [getD_setO _ _ _ _ hl, if_neg hab]
 ·exact ⟨w, rfl, rfl, Nat.le_refl _⟩
theorem inK_ws {n : Nat} {st : List Int × List Int} (w : WS n st) {a : Nat} (ha : a < n) (h : 0 ≤ st.1.getD a 0) : ∀ k, k ≤ n →
  WS n (inK t a st k) ∧ (inK t a st k).2.length + negs (inK t a st k).1 = st.2.length + negs st.1 ∧ (inK t a st k).1.getD a 0 = st.1.getD a 0 ∧ negs (inK t a st k).1 ≤ negs st.1
 | 0, _ => ⟨w, rfl, rfl, Nat.le_refl _⟩
 | k + 1, hk => by
  obtain ⟨w1, e1, g1, l1⟩ := inK_ws w ha h k (by omega)
  rw [inK_succ]
  obtain ⟨w2, e2, g2, l2⟩ := inS_ws (t := t) w1 ha (by rw [g1]; exact h) (show k < n by omega)
  exact ⟨w2, by omega, by rw [g2, g1], by omega⟩
theorem bfs_nil {n f : Nat} {d : List Int} : bfs t n f d [] = d := by cases f <;> rfl
theorem bfs_ws {n : Nat} : ∀ (f : Nat) (d q : List Int), WS n (d, q) → (bfs t n f d q).length = n ∧ ∀ i, i < n → -1 ≤ (bfs t n f d q).getD i 0 ∧ (bfs t n f d q).getD i 0 ≤ n
 | 0, d, q, w => ⟨w.len, fun i hi => by have := w.lo i hi; simp only [bfs] at *; omega⟩
 | f + 1, d, [], w => ⟨w.len, fun i hi => by have := w.lo i hi; simp only [bfs] at *; omega⟩
 | f + 1, d, a :: q, w => by
  obtain ⟨a0, a1, a2⟩ := w.q a (by simp)
  have w' : WS n (d, q) := ⟨w.len, fun x hx => w.q x (by simp at hx ⊢; exact .inr hx), w.lo⟩
  have := (inK_ws (t := t) w' (a := a.toNat) (by omega) a2 n (Nat.le_refl _)).1
  exact bfs_ws f _ _ this
def gI (x y : Int) : Int := (Nat.gcd x.toNat y.toNat : Nat)
theorem gI_nonneg (x y : Int) : 0 ≤ gI x y := by unfold gI; omega
theorem gI_zero {x : Int} (h : 0 ≤ x) : gI x 0 = x := by unfold gI; simp; omega
theorem gI_rem {x y : Int} (hx : 0 ≤ x) (hy : 0 < y) : gI y (x.tmod y) = gI x y := by
 unfold gI
 obtain ⟨a, rfl⟩ : ∃ a : Nat, x = a := ⟨x.toNat, by omega⟩
 obtain ⟨b, rfl⟩ : ∃ b : Nat, y = b := ⟨y.toNat, by omega⟩
 rw [← Int.ofNat_tmod]
 simp only [Int.toNat_natCast]
 rw [Nat.gcd_comm a b, Nat.gcd_comm b (a % b), Nat.gcd_rec b a]
theorem gI_eq0 {x y : Int} (hx : 0 ≤ x) (hy : 0 ≤ y) (h : gI x y = 0) : x = 0 ∧ y = 0 := by
 unfold gI at h
 have h' : Nat.gcd x.toNat y.toNat = 0 := by omega
 have := Nat.gcd_eq_zero_iff.1 h'
 omega
def mxA (x : Int) : Int := if 0 ≤ x then x else -x
section
variable (t : Nat → Nat → Bool) (D : List Int) (n : Nat)
def gSo (a : Nat) (g : Int) (b : Nat) : Int := if t a b = true then gI g (mxA (D.getD a 0 + 1 - D.getD b 0)) else g
def gK (a : Nat) (g : Int) (k : Nat) : Int := (List.range k).foldl (gSo t D a) g
def gA (k : Nat) : Int := (List.range k).foldl (fun g a => gK t D a g n) 0
end
variable {D : List Int} {n : Nat}
theorem mxA_nonneg (x : Int) : 0 ≤ mxA x := by unfold mxA; split <;> omega
theorem gS_nonneg {a b : Nat} {g : Int} (h : 0 ≤ g) : 0 ≤ gSo t D a g b := by unfold gSo; split; exact gI_nonneg _ _; exact h
theorem gK_succ {a k : Nat} {g : Int} : gK t D a g (k + 1) = gSo t D a (gK t D a g k) k := by unfold gK; rw [List.range_succ, List.foldl_append]; rfl
theorem gA_succ {k : Nat} : gA t D n (k + 1) = gK t D k (gA t D n k) n := by unfold gA; rw [List.range_succ, List.foldl_append]; rfl
theorem gK_nonneg {a : Nat} {g : Int} (h : 0 ≤ g) : ∀ k, 0 ≤ gK t D a g k
 | 0 => h
 | k + 1 => by rw [gK_succ]; exact gS_nonneg (gK_nonneg h k)
theorem gA_nonneg : ∀ k, 0 ≤ gA t D n k
 | 0 => by unfold gA; simp
 | k + 1 => by rw [gA_succ]; exact gK_nonneg (gA_nonneg k) n
theorem gS_eq0 {a b : Nat} {g : Int} (h : 0 ≤ g) (e : gSo t D a g b = 0) : g = 0 ∧ (t a b = true → D.getD b 0 = D.getD a 0 + 1) := by
 unfold gSo at e
 split at e
 ·obtain ⟨e1, e2⟩ := gI_eq0 h (mxA_nonneg _) e
  refine ⟨e1, fun _ => ?_⟩
  unfold mxA at e2
  split at e2 <;> omega
 ·next hc => exact ⟨e, fun h => absurd h hc⟩
theorem gK_eq0 {a : Nat} {g : Int} (h : 0 ≤ g) : ∀ k, gK t D a g k = 0 → g = 0 ∧ ∀ b, b < k → t a b = true → D.getD b 0 = D.getD a 0 + 1
 | 0, e => ⟨e, fun b hb => by omega⟩
 | k + 1, e => by
  rw [gK_succ] at e
  obtain ⟨e1, e2⟩ := gS_eq0 (gK_nonneg h k) e
  obtain ⟨e3, e4⟩ := gK_eq0 h k e1
  refine ⟨e3, fun b hb ht => ?_⟩
  rcases Nat.lt_or_ge b k with hb' | hb'
  ·exact e4 b hb' ht
  ·have : b = k := by omega
   subst this; exact e2 ht
theorem gA_eq0 : ∀ k, gA t D n k = 0 → ∀ a b, a < k → b < n → t a b = true → D.getD b 0 = D.getD a 0 + 1
 | 0, _ => fun a b ha => by omega
 | k + 1, e => fun a b ha hb ht => by
  rw [gA_succ] at e
  obtain ⟨e1, e2⟩ := gK_eq0 (gA_nonneg k) n e
  rcases Nat.lt_or_ge a k with ha' | ha'
  ·exact gA_eq0 k e1 a b ha' hb ht
  ·have : a = k := by omega
   subst this; exact e2 b hb ht
theorem gA_pos (hin : ∀ i j, t i j = true → i < n ∧ j < n) {m i : Nat} (hw : Wr t m i i = true) : gA t D n n ≠ 0 := fun e => by
 have := Wr_grow (t := t) (f := fun i => D.getD i 0) (fun i j h => by
  have := gA_eq0 n e i j (hin i j h).1 (hin i j h).2 h
  show D.getD i 0 < D.getD j 0
  omega) m i i hw
 omega
def dep0 (n : Nat) : List Int := (List.replicate n (-1 : Int)).set 0 0
theorem negs_rep : ∀ n, negs (List.replicate n (-1 : Int)) = n
 | 0 => rfl
 | n + 1 => by rw [List.replicate_succ]; simp only [negs]; rw [negs_rep n, if_pos (by omega)]; omega
theorem dep0_ws {n : Nat} (hn : 0 < n) : WS n (dep0 n, [0]) ∧ ([(0 : Int)]).length + negs (dep0 n) = n := by
 have hr : ∀ i, i < n → (List.replicate n (-1 : Int)).getD i 0 = -1 := fun i hi => by simp [List.getD_eq_getElem?_getD, List.getElem?_replicate, hi]
 have hneg := negs_set (v := 0) (by omega) (List.replicate n (-1 : Int)) 0 (by simpa using hn) (by rw [hr 0 hn]; omega)
 rw [negs_rep] at hneg
 have hg : ∀ i, i < n → (dep0 n).getD i 0 = if 0 = i then 0 else -1 := fun i hi => by
  unfold dep0
  rw [getD_setO _ _ _ _ (by simpa using hn), hr i hi]
 refine ⟨⟨by simp [dep0], fun x hx => ?_, fun i hi => ?_⟩, by unfold dep0; simp; omega⟩
 ·have hx' : x = 0 := by simpa using hx
  subst hx'
  refine ⟨by omega, by omega, ?_⟩
  show 0 ≤ (dep0 n).getD 0 0
  rw [hg 0 hn]; simp
 ·show -1 ≤ (dep0 n).getD i 0 ∧ (dep0 n).getD i 0 + negs (dep0 n) ≤ n
  rw [hg i hi]
  unfold dep0
  split <;> omega
def depL (t : Nat → Nat → Bool) (n : Nat) : List Int := bfs t n n (dep0 n) [0]
theorem depL_ok {n : Nat} (hn : 0 < n) : (depL t n).length = n ∧ ∀ i, i < n → -1 ≤ (depL t n).getD i 0 ∧ (depL t n).getD i 0 ≤ n := bfs_ws n _ _ (dep0_ws hn).1
end Go.Proofs.Ytcoampecbpiecaa.Cl
set_option linter.unusedVariables false
set_option linter.unusedSimpArgs false
namespace Go.Proofs.Ytcoampecbpiecaa.Cl
open Go
theorem mx_of {x y : Int} (x0 : -1 ≤ x) (x1 : x ≤ 1000) (y0 : -1 ≤ y) (y1 : y ≤ 1000) : mxI (w64 ((w64 (x + 1)) - y)) (w64 (0 - (w64 ((w64 (x + 1)) - y)))) = mxA (x + 1 - y) := by
 rw [w64_of (n := x + 1) (by omega) (by omega), w64_of (n := x + 1 - y) (by omega) (by omega), w64_of (n := 0 - (x + 1 - y)) (by omega) (by omega)]
 unfold mxI mxA
 split <;> split <;> omega
theorem divisor_c {h : H} {x y : Int} (x0 : 0 ≤ x) (y0 : 0 ≤ y) : callI SP .i64 i_f73 [.int .i64 x, .int .i64 y] h fun v h' => v = gI x y ∧ h' = h := by
 apply f73_call
 unfold f73_main
 refine f73_rule0 _ _ (fun a b g => 0 ≤ a ∧ 0 ≤ b ∧ gI a b = gI x y ∧ g = h) (fun _ b _ => b.toNat) ?_ _ _ ⟨x0, y0, rfl, rfl⟩
 rintro X a b g ⟨ha, hb, hg, rfl⟩ hX
 unfold f73_b0 f73_C0
 refine bif_ne (fun hne => ⟨hne, hX _ _ _ ⟨hb, ?_, ?_, rfl⟩ ?_⟩) (fun he => ⟨_, rfl, by rw [← hg, he, gI_zero ha], rfl⟩)
 ·exact Int.tmod_nonneg _ ha
 ·rw [gI_rem ha (by omega), hg]
 ·have := Int.tmod_lt_of_pos a (show 0 < b by omega)
  omega
theorem l06Gcd_c {h : H} {x y : Int} (x0 : 0 ≤ x) (y0 : 0 ≤ y) : callI SP .i64 i_f74 [.int .i64 x, .int .i64 y] h fun v h' => v = gI x y ∧ h' = h := by
 apply f74_call
 unfold f74_main
 refine f74_rule0 _ _ (fun a b g => 0 ≤ a ∧ 0 ≤ b ∧ gI a b = gI x y ∧ g = h) (fun _ b _ => b.toNat) ?_ _ _ ⟨x0, y0, rfl, rfl⟩
 rintro X a b g ⟨ha, hb, hg, rfl⟩ hX
 unfold f74_b0 f74_C0
 refine bif_dec (fun hp => ⟨by omega, hX _ _ _ ⟨hb, Int.tmod_nonneg _ ha, ?_, rfl⟩ ?_⟩) (fun he => ⟨_, rfl, by rw [← hg, show b = 0 by omega, gI_zero ha], rfl⟩)
 ·rw [gI_rem ha hp, hg]
 ·have := Int.tmod_lt_of_pos a hp
  omega
theorem tpos_pos {T : List (List Int)} {i j : Nat} (h : (rw_ T i).getD j 0 > 0) : tpos T i j = true := decide_eq_true h
theorem tpos_neg {T : List (List Int)} {i j : Nat} (h : ¬ (rw_ T i).getD j 0 > 0) : ¬ tpos T i j = true := fun e => h (of_decide_eq_true e)
section
variable {h0 : H} {u : Sl} {T : List (List Int)} {n : Nat} {m : Int} {D : List Int}
theorem impl_gcds {h : H} {d : Sl} {K : AVal → H → Prop} (r : RdSS h u T) (q : Sq n m T) (hn : n ≤ 1000) (rd : Rd h d 1 (ic D)) (hD : D.length = n) (hb : ∀ i, i < n → -1 ≤ D.getD i 0 ∧ D.getD i 0 ≤ n) (hk : K (.int .i64 (gA (tpos T) D n n)) h) :
  f51_L4 SP K d 0 u (u.len : Int) 0 h := by
 have hul := r.len
 have hT := q.1
 refine f51_rule4 _ _ _ _ _ (fun v i g => ∃ k : Nat, i = k ∧ k ≤ n ∧ v = gA (tpos T) D n k ∧ g = h) (fun _ i _ => (n - i).toNat) ?_ _ _ ⟨0, rfl, by omega, rfl, rfl⟩
 rintro X v _ g ⟨k, rfl, hkn, rfl, rfl⟩ hX
 unfold f51_b4 f51_C4
 refine bif_dec (fun hi => ?_) (fun hi => by rw [show k = n by omega]; exact hk)
 have hk' : k < n := by omega
 refine r.ldG (by omega) (by omega) fun w rw wl => ?_
 rw [Int.toNat_natCast] at rw wl
 have hrl := (q.2 k hk').1
 refine f51_rule6 _ _ X _ _ _ _ _ _ _ (fun v i g' => ∃ j : Nat, i = j ∧ j ≤ n ∧ v = gK (tpos T) D k (gA (tpos T) D n k) j ∧ g' = g) (fun _ i _ => (n - i).toNat) ?_ _ _ ⟨0, rfl, by omega, rfl, rfl⟩
 rintro Y v _ g' ⟨j, rfl, hj, rfl, rfl⟩ hY
 unfold f51_b6 f51_C6 f51_C5
 refine bif_dec (fun hi2 => ?_) (fun hi2 => ?_)
 ·have hj' : j < n := by omega
  refine rw.ldG (by omega) (by omega) ?_
  refine rd.ldG (by omega) (by omega) ?_
  refine rd.ldG (by omega) (by omega) ?_
  simp only [Int.toNat_natCast]
  have bk := hb k hk'
  have bj := hb j hj'
  have ng := gK_nonneg (t := tpos T) (D := D) (a := k) (gA_nonneg (t := tpos T) (D := D) (n := n) k) j
  refine bif_dec (fun hp => ?_) (fun hp => ?_)
  ·rw [mx_of bk.1 (by omega) bj.1 (by omega)]
   refine (divisor_c ng (mxA_nonneg _)).to ?_
   rintro _ g6 ⟨rfl, rfl⟩
   rw [w64_of (by omega) (by omega)]
   refine hY _ _ _ ⟨j + 1, by push_cast; rfl, by omega, ?_, rfl⟩ (by omega)
   rw [gK_succ]
   unfold gSo
   rw [if_pos (tpos_pos hp)]
  ·rw [w64_of (by omega) (by omega)]
   refine hY _ _ _ ⟨j + 1, by push_cast; rfl, by omega, ?_, rfl⟩ (by omega)
   rw [gK_succ]
   unfold gSo
   rw [if_neg (tpos_neg hp)]
 ·rw [w64_of (by omega) (by omega)]
  refine hX _ _ _ ⟨k + 1, by push_cast; rfl, by omega, ?_, rfl⟩ (by omega)
  rw [gA_succ, show j = n by omega]
theorem spec_gcds {h : H} {d : Sl} {K : AVal → H → Prop} (r : RdSS h u T) (q : Sq n m T) (hn : n ≤ 1000) (rd : Rd h d 1 (ic D)) (hD : D.length = n) (hb : ∀ i, i < n → -1 ≤ D.getD i 0 ∧ D.getD i 0 ≤ n) (hk : K (.tuple [.int .i64 (gA (tpos T) D n n), .bool true]) h) :
  f52_L6 SP K u d 0 0 h := by
 have hul := r.len
 have hT := q.1
 refine f52_rule6 _ _ _ _ (fun v i g => ∃ k : Nat, i = k ∧ k ≤ n ∧ v = gA (tpos T) D n k ∧ g = h) (fun _ i _ => (n - i).toNat) ?_ _ _ ⟨0, rfl, by omega, rfl, rfl⟩
 rintro X v _ g ⟨k, rfl, hkn, rfl, rfl⟩ hX
 unfold f52_b6 f52_C6
 refine bif_dec (fun hi => ?_) (fun hi => by rw [show k = n by omega]; exact hk)
 have hk' : k < n := by omega
 have hrl := (q.2 k hk').1
 refine f52_rule8 _ _ X _ _ _ (fun v i g' => ∃ j : Nat, i = j ∧ j ≤ n ∧ v = gK (tpos T) D k (gA (tpos T) D n k) j ∧ g' = g) (fun _ i _ => (n - i).toNat) ?_ _ _ ⟨0, rfl, by omega, rfl, rfl⟩
 rintro Y v _ g' ⟨j, rfl, hj, rfl, rfl⟩ hY
 unfold f52_b8 f52_C8 f52_C7
 refine bif_dec (fun hi2 => ?_) (fun hi2 => ?_)
 ·have hj' : j < n := by omega
  refine r.ldG (by omega) (by omega) fun w rw wl => ?_
  rw [Int.toNat_natCast] at rw wl
  refine rw.ldG (by omega) (by omega) ?_
  simp only [Int.toNat_natCast]
  have bk := hb k hk'
  have bj := hb j hj'
  have ng := gK_nonneg (t := tpos T) (D := D) (a := k) (gA_nonneg (t := tpos T) (D := D) (n := n) k) j
  refine bif_dec (fun hp => ?_) (fun hp => ?_)
  ·refine rd.ldG (by omega) (by omega) ?_
   refine rd.ldG (by omega) (by omega) ?_
   simp only [Int.toNat_natCast]
   rw [mx_of bk.1 (by omega) bj.1 (by omega)]
   refine (l06Gcd_c ng (mxA_nonneg _)).to ?_
   rintro _ g6 ⟨rfl, rfl⟩
   rw [w64_of (by omega) (by omega)]
   refine hY _ _ _ ⟨j + 1, by push_cast; rfl, by omega, ?_, rfl⟩ (by omega)
   rw [gK_succ]
   unfold gSo
   rw [if_pos (tpos_pos hp)]
  ·rw [w64_of (by omega) (by omega)]
   refine hY _ _ _ ⟨j + 1, by push_cast; rfl, by omega, ?_, rfl⟩ (by omega)
   rw [gK_succ]
   unfold gSo
   rw [if_neg (tpos_neg hp)]
 ·rw [w64_of (by omega) (by omega)]
  refine hX _ _ _ ⟨k + 1, by push_cast; rfl, by omega, ?_, rfl⟩ (by omega)
  rw [gA_succ, show j = n by omega]
theorem getD_mid (p : List Int) (a : Int) (q : List Int) : ((p ++ [a]) ++ q).getD p.length 0 = a := by
 rw [List.getD_eq_getElem?_getD, List.append_assoc, List.getElem?_append_right (Nat.le_refl _)]; simp
theorem pushO3 {h : H} {s : Sl} {l : List Int} {x : Int} (r : Ow h s 1 (ic l)) (hl : (l.length : Int) + 1 ≤ lim) {K : Sl → H → Prop}
  (hk : ∀ s' h', Ow h' s' 1 (ic (l ++ [x])) → But s.o h h' → (∀ o, s.o = some o → s'.o = some o) → K s' h') : newS 1 1 [.int .i64 x] h fun t h1 => app s t 1 h1 K := by
 refine newS_ow (by rfl) fun t h1 ot tl to e1 => ?_
 have e1' : Ext h h1 := by rw [e1]; exact Ext.app _ _
 have hsl := r.rd.ilen
 exact app_ow (by omega) (r.ext e1') ot.rd (by rw [tl, hsl]; exact_mod_cast hl) fun s' h' o' ln b k1 k2 => hk s' h' (by rw [ic_app]; exact o') ((e1'.but _).trans b) k1
theorem impl_bfs {h : H} {d s : Sl} {od os : Nat} {K : AVal → H → Prop} (r : RdSS h0 u T) (q : Sq n m T) (hn : n ≤ 1000) (hn0 : 0 < n) (x : Ext h0 h) (ow : Ow h d 1 (ic (dep0 n))) (ho : d.o = some od) (lo : h0.length ≤ od)
  (qw : Ow h s 1 (ic [0])) (hs : s.o = some os) (ls : h0.length ≤ os) (hne : od ≠ os) (hk : ∀ g, Ext h0 g → K (.int .i64 (gA (tpos T) (depL (tpos T) n) n n)) g) :
  f51_L0 SP K u d s 0 0 h := by
 have hul := r.len
 have hT := q.1
 obtain ⟨W0, M0⟩ := dep0_ws hn0
 have hdl := ow.rd.ilen
 refine f51_rule0 _ _ _ _ _ (fun s i g => ∃ (pre Q D : List Int) (f : Nat), i = pre.length ∧ Ow g d 1 (ic D) ∧ Ow g s 1 (ic (pre ++ Q)) ∧ s.o = some os ∧ Ext h0 g ∧ WS n (D, Q) ∧ Q.length + negs D ≤ f ∧ bfs (tpos T) n f D Q = depL (tpos T) n ∧ pre.length + (Q.length + negs D) = n) (fun _ i _ => (n - i).toNat) ?_ _ _
  ⟨[], [0], dep0 n, n, rfl, ow, qw, hs, x, W0, by omega, rfl, by simp only [List.length_nil]; omega⟩
 rintro X s i g ⟨pre, Q, D, f, rfl, ow, qw, hs, x, W, hf, hB, hM⟩ hX
 have hsl := qw.rd.ilen
 have hDl := W.len
 simp only at hDl
 unfold f51_b0 f51_C0
 refine bif_dec (fun hi => ?_) (fun hi => ?_)
 ·rw [hsl, List.length_append] at hi
  obtain ⟨a, R, rfl⟩ : ∃ a R, Q = a :: R := by
   cases Q with
   | nil => simp at hi
   | cons a R => exact ⟨a, R, rfl⟩
  obtain ⟨f, rfl⟩ : ∃ f', f = f' + 1 := ⟨f - 1, by simp only [List.length_cons] at hf; omega⟩
  obtain ⟨a0, a1, a2⟩ := W.q a (by simp)
  have W' : WS n (D, R) := ⟨W.len, fun x hx => W.q x (by simp at hx ⊢; exact .inr hx), W.lo⟩
  have hap : pre ++ a :: R = (pre ++ [a]) ++ R := by simp
  have IK := inK_ws (t := tpos T) W' (a := a.toNat) (by omega) a2
  refine qw.rd.ldG (by omega) (by rw [List.length_append]; omega) ?_
  rw [Int.toNat_natCast, hap, getD_mid]
  refine r.ixC (by omega) (by omega) fun p w hc rw wl => ⟨w, x.cell hc, ?_⟩
  have hrl := (q.2 a.toNat (by omega)).1
  rw [hap] at qw
  refine f51_rule2 _ _ X _ _ _ _ _ _ (fun s i g' => ∃ k : Nat, i = k ∧ k ≤ n ∧ Ow g' d 1 (ic (inK (tpos T) a.toNat (D, R) k).1) ∧ Ow g' s 1 (ic ((pre ++ [a]) ++ (inK (tpos T) a.toNat (D, R) k).2)) ∧ s.o = some os ∧ Ext h0 g') (fun _ i _ => (n - i).toNat) ?_ _ _
   ⟨0, rfl, by omega, ow, qw, hs, x⟩
  rintro Y s i g' ⟨k, rfl, hkn, ow, qw, hs, x⟩ hY
  obtain ⟨Wk, Mk, gk, lk⟩ := IK k hkn
  have hDk := Wk.len
  have hdl := ow.rd.ilen
  have hql := qw.rd.ilen
  simp only at Mk gk lk
  simp only [List.length_cons] at hM hf
  unfold f51_b2 f51_C2 f51_C1
  refine bif_dec (fun hi2 => ?_) (fun hi2 => ?_)
  ·have hk' : k < n := by omega
   have skip : ¬ (tpos T a.toNat k = true ∧ (inK (tpos T) a.toNat (D, R) k).1.getD k 0 < 0) → Y (f51_e2 u d s 0 (pre.length : Int) w (w.len : Int) (w64 ((k : Int) + 1))) g' := fun f => by
    rw [w64_of (by omega) (by omega)]
    have hsu : inK (tpos T) a.toNat (D, R) (k + 1) = inK (tpos T) a.toNat (D, R) k := by rw [inK_succ]; unfold inS; rw [if_neg f]
    exact hY _ _ _ ⟨k + 1, by push_cast; rfl, by omega, by rw [hsu]; exact ow, by rw [hsu]; exact qw, hs, x⟩ (by omega)
   refine (rw.ext x).ldG (by omega) (by omega) ?_
   rw [Int.toNat_natCast]
   refine bif_dec (fun hp => ?_) (fun hp => skip fun e => tpos_neg hp e.1)
   refine ow.rd.ldG (by omega) (by omega) ?_
   rw [Int.toNat_natCast]
   refine bif_dec (fun hq => ?_) (fun hq => skip fun e => hq e.2)
   refine qw.rd.ldG (by omega) (by rw [List.length_append, List.length_append]; simp only [List.length_singleton]; omega) ?_
   rw [Int.toNat_natCast, getD_mid]
   refine ow.rd.ldG (by omega) (by omega) ?_
   have bk := Wk.lo a.toNat (by omega)
   rw [w64_of (n := _ + 1) (by omega) (by omega)]
   refine ow.stI (by omega) (by omega) _ fun g9 ow9 b9 l9 => ?_
   rw [Int.toNat_natCast] at ow9
   rw [ho] at b9
   have x9 := x.but_ b9 (some_le lo)
   have qw9 := qw.but b9 (.inl (by rw [hs]; intro e; exact hne (by simpa using e)))
   refine pushO3 qw9 (by rw [List.length_append, List.length_append]; unfold lim; simp only [List.length_singleton]; omega) fun s' g5 qw5 b5 k5 => ?_
   rw [hs] at b5
   have hsu : inK (tpos T) a.toNat (D, R) (k + 1) = ((inK (tpos T) a.toNat (D, R) k).1.set k ((inK (tpos T) a.toNat (D, R) k).1.getD a.toNat 0 + 1), (inK (tpos T) a.toNat (D, R) k).2 ++ [(k : Int)]) := by
    rw [inK_succ]
    show inS (tpos T) a.toNat _ k = _
    unfold inS
    rw [if_pos ⟨tpos_pos hp, hq⟩]
   rw [w64_of (by omega) (by omega)]
   have x5 := x9.but_ b5 (some_le ls)
   refine hY _ _ _ ⟨k + 1, by push_cast; rfl, by omega, by rw [hsu]; exact ow9.but b5 (.inl (by rw [ho]; intro e; exact hne (by simpa using e.symm))), by rw [hsu]; rw [List.append_assoc] at qw5; exact qw5, k5 _ hs, x5⟩ (by omega)
  ·rw [w64_of (by omega) (by omega)]
   have hkn' : k = n := by omega
   rw [hkn'] at ow qw Mk Wk
   refine hX _ _ _ ⟨pre ++ [a], (inK (tpos T) a.toNat (D, R) n).2, (inK (tpos T) a.toNat (D, R) n).1, f, by simp, ow, qw, hs, x, Wk, by omega, hB, by rw [List.length_append]; simp only [List.length_singleton]; omega⟩ (by omega)
 ·rw [hsl, List.length_append] at hi
  have hQ : Q = [] := List.length_eq_zero_iff.1 (by omega)
  subst hQ
  rw [bfs_nil] at hB
  subst hB
  have dl := depL_ok (t := tpos T) hn0
  exact impl_gcds (r.ext x) q hn ow.rd dl.1 dl.2 (hk _ x)
end
end Go.Proofs.Ytcoampecbpiecaa.Cl
set_option linter.unusedVariables false
set_option linter.unusedSimpArgs false
namespace Go.Proofs.Ytcoampecbpiecaa.Cl
open Go
structure Qu (h : H) (s : Sl) (o : Nat) (cs : List AVal) : Prop where
 o_ : s.o = some o
 sz : s.sz = 1
 len : cs.length = s.len
 at_ : ∃ all, h[o]? = some (.own all) ∧ all.length = s.n ∧ s.off + s.len = s.n ∧ cs = all.drop s.off
theorem Ow.qu {h : H} {s : Sl} {cs : List AVal} (r : Ow h s 1 cs) {o : Nat} (ho : s.o = some o) : Qu h s o cs := by
 obtain ⟨a, _⟩ | ⟨o', a, b, c, d, e⟩ := r.at_
 ·rw [a] at ho; cases ho
 ·have : o' = o := by rw [a] at ho; exact Option.some.inj ho
  subst this
  have := r.len
  exact ⟨a, b, by omega, cs, e, by omega, by omega, by rw [c]; rfl⟩
theorem Qu.lt {h : H} {s : Sl} {o : Nat} {cs : List AVal} (r : Qu h s o cs) : o < h.length := by
 obtain ⟨all, e, _⟩ := r.at_; exact (List.getElem?_eq_some_iff.1 e).1
theorem Qu.rd {h : H} {s : Sl} {o : Nat} {cs : List AVal} (r : Qu h s o cs) : Rd h s 1 cs := by
 obtain ⟨all, a, b, c, d⟩ := r.at_
 refine ⟨by rw [r.len]; omega, .inr ⟨r.sz, by rw [r.o_]; rfl, ?_⟩⟩
 rw [r.o_, range_of (xs := all) (by unfold cells; simp [a, b]) (by omega), d]
 have : (all.drop s.off).length = s.len * 1 := by rw [List.length_drop]; omega
 rw [← this, List.take_length]
theorem Qu.but {h h' : H} {s : Sl} {o : Nat} {cs : List AVal} (r : Qu h s o cs) {p : Option Nat} (b : But p h h') (hn : p ≠ some o) : Qu h' s o cs := by
 obtain ⟨all, a, x⟩ := r.at_
 exact ⟨r.o_, r.sz, r.len, all, b.get a hn, x⟩
theorem Qu.cut1 {h : H} {s : Sl} {o : Nat} {x : AVal} {cs : List AVal} (r : Qu h s o (x :: cs)) {K : Sl → Prop} (hk : ∀ s', Qu h s' o cs → K s') : cut s 1 1 (s.len : Int) h K := by
 obtain ⟨all, a, b, c, d⟩ := r.at_
 have hl := r.len
 simp only [List.length_cons] at hl
 refine ⟨⟨by omega, by omega⟩, ?_, (fun q => by rw [r.o_] at q; cases q), fun _ => ⟨r.sz, by omega⟩, ?_⟩
 ·unfold okS
  rw [r.o_]
  simp only
  unfold cells
  rw [a]
  simp [b]
 ·refine hk _ ⟨r.o_, rfl, by show cs.length = ((s.len : Int) - 1).toNat; omega, all, a, b, by show s.off + 1 * 1 + ((s.len : Int) - 1).toNat = s.n; omega, ?_⟩
  show cs = all.drop (s.off + 1 * 1)
  have := congrArg (List.drop 1) d
  rw [List.drop_drop] at this
  simpa using this
theorem Qu.push {h : H} {s : Sl} {o : Nat} {l : List Int} {x : Int} (r : Qu h s o (ic l)) (hl : (l.length : Int) + 1 ≤ lim) {K : Sl → H → Prop}
  (hk : ∀ s' h' o', Qu h' s' o' (ic (l ++ [x])) → But (some o) h h' → h.length ≤ o' → K s' h') : newS 1 1 [.int .i64 x] h fun t h1 => app s t 1 h1 K := by
 refine newS_ow (by rfl) fun t h1 ot tl to e1 => ?_
 have e1' : Ext h h1 := by rw [e1]; exact Ext.app _ _
 have r1 := r.but (e1'.but none) (by simp)
 obtain ⟨all, a, b, c, d⟩ := r1.at_
 have hol := r1.lt
 have hlen := r.len
 rw [ic_len] at hlen
 have e1l := e1'.len
 refine ⟨[i64 x], _, _, ot.rd.sread (by omega), fun _ => ?_, by rw [tl, ← hlen]; exact_mod_cast hl, .moves (o := o) (cs := all) (by omega) r1.sz r1.o_ (by omega) (by unfold owned; simp [a, b]), ?_⟩
 ·obtain e | ⟨e, _⟩ := ot.rd.at_
  ·omega
  ·exact e
 ·refine hk _ _ h1.length ⟨rfl, rfl, by rw [ic_len]; simp; omega, all.drop s.off ++ [i64 x], by rw [List.getElem?_append_right (by simp)]; simp, by simp; omega, by simp only; omega, ?_⟩ ⟨by simp; omega, fun i hi hn => ?_⟩ e1l
  ·rw [ic_app, d]; rfl
  ·have hne : o ≠ i := fun e => hn (by rw [e])
   rw [List.getElem?_append_left (by simp; omega), List.getElem?_set_ne hne, e1'.get hi]
def negC : List AVal → Nat
 | [] => 0
 | .int _ x :: l => (if x < 0 then 1 else 0) + negC l
 | _ :: l => negC l
theorem negC_ic : ∀ l : List Int, negC (ic l) = negs l
 | [] => rfl
 | x :: l => by
  rw [ic_cons]
  simp only [i64, negC, negs]
  rw [negC_ic l]
def negH (o : Nat) (h : H) : Nat := match h[o]? with | some (.own cs) => negC cs | _ => 0
theorem negH_of {h : H} {s : Sl} {l : List Int} (r : Ow h s 1 (ic l)) {o : Nat} (ho : s.o = some o) : negH o h = negs l := by
 obtain ⟨a, _⟩ | ⟨o', a, b, c, d, e⟩ := r.at_
 ·rw [a] at ho; cases ho
 ·have : o' = o := by rw [a] at ho; exact Option.some.inj ho
  subst this
  unfold negH
  rw [e]
  exact negC_ic l
def dI (n i : Nat) : List Int := (List.range n).map fun j => if j = 0 then 0 else if j < i then -1 else 0
theorem dI_len (n i) : (dI n i).length = n := by simp [dI]
theorem dI_one (n : Nat) : dI n 1 = List.replicate n 0 := by
 apply List.ext_getElem (by simp [dI])
 intro j h1 h2
 simp [dI]
theorem dI_set {n i : Nat} (h1 : 1 ≤ i) : (dI n i).set i (-1) = dI n (i + 1) := by
 apply List.ext_getElem (by simp [dI])
 intro j h2 h3
 rw [List.getElem_set]
 simp only [dI, List.getElem_map, List.getElem_range]
 split <;> split <;> (try split) <;> (try split) <;> omega
theorem dI_end (n : Nat) : dI n n = dep0 n := by
 unfold dep0
 apply List.ext_getElem (by simp [dI])
 intro j h2 h3
 rw [List.getElem_set]
 have hj : j < n := by simpa [dI] using h2
 simp only [dI, List.getElem_map, List.getElem_range, List.getElem_replicate]
 split <;> (try split) <;> (try split) <;> omega
section
variable {h0 : H} {u : Sl} {T : List (List Int)} {n : Nat} {m : Int}
theorem spec_bfs {h : H} {d s : Sl} {od os : Nat} {K : AVal → H → Prop} (r : RdSS h0 u T) (q : Sq n m T) (hn : n ≤ 1000) (hn0 : 0 < n) (x : Ext h0 h) (ow : Ow h d 1 (ic (dep0 n))) (ho : d.o = some od) (lo : h0.length ≤ od)
  (qw : Qu h s os (ic [0])) (ls : h0.length ≤ os) (hne : od ≠ os) (hk : ∀ g, Ext h0 g → K (.tuple [.int .i64 (gA (tpos T) (depL (tpos T) n) n n), .bool true]) g) :
  f52_L2 SP K u d s h := by
 have hul := r.len
 have hT := q.1
 obtain ⟨W0, M0⟩ := dep0_ws hn0
 refine f52_rule2 _ _ _ _ (fun s g => ∃ (Q D : List Int) (f os : Nat), Ow g d 1 (ic D) ∧ Qu g s os (ic Q) ∧ h0.length ≤ os ∧ od ≠ os ∧ Ext h0 g ∧ WS n (D, Q) ∧ Q.length + negs D ≤ f ∧ bfs (tpos T) n f D Q = depL (tpos T) n ∧ Q.length + negs D ≤ n) (fun s g => s.len + negH od g) ?_ _
  ⟨[0], dep0 n, n, os, ow, qw, ls, hne, x, W0, by omega, rfl, by omega⟩
 rintro X s g ⟨Q, D, f, os, ow, qw, ls, hne, x, W, hf, hB, hM⟩ hX
 have hsl := qw.rd.ilen
 have hDl := W.len
 have hng := negH_of ow ho
 simp only at hDl
 unfold f52_b2 f52_C2
 refine bif_dec (fun hi => ?_) (fun hi => ?_)
 ·obtain ⟨a, R, rfl⟩ : ∃ a R, Q = a :: R := by
   cases Q with
   | nil => simp at hsl; omega
   | cons a R => exact ⟨a, R, rfl⟩
  simp only [List.length_cons] at hM hf hsl
  obtain ⟨f, rfl⟩ : ∃ f', f = f' + 1 := ⟨f - 1, by omega⟩
  obtain ⟨a0, a1, a2⟩ := W.q a (by simp)
  have W' : WS n (D, R) := ⟨W.len, fun x hx => W.q x (by simp at hx ⊢; exact .inr hx), W.lo⟩
  have IK := inK_ws (t := tpos T) W' (a := a.toNat) (by omega) a2
  refine qw.rd.ldG (by omega) (by simp only [List.length_cons]; omega) ?_
  rw [show (a :: R).getD (0 : Int).toNat 0 = a from rfl]
  refine Qu.cut1 (x := i64 a) (cs := ic R) qw fun s2 q2 => ?_
  have hrl := (q.2 a.toNat (by omega)).1
  refine f52_rule4 _ _ X _ _ _ (fun s i g' => ∃ (k os : Nat), i = k ∧ k ≤ n ∧ Ow g' d 1 (ic (inK (tpos T) a.toNat (D, R) k).1) ∧ Qu g' s os (ic (inK (tpos T) a.toNat (D, R) k).2) ∧ h0.length ≤ os ∧ od ≠ os ∧ Ext h0 g') (fun _ i _ => (n - i).toNat) ?_ _ _
   ⟨0, os, rfl, by omega, ow, q2, ls, hne, x⟩
  rintro Y s i g' ⟨k, os, rfl, hkn, ow, qw, ls, hne, x⟩ hY
  obtain ⟨Wk, Mk, gk, lk⟩ := IK k hkn
  have hDk := Wk.len
  have hdl := ow.rd.ilen
  have hql := qw.rd.ilen
  simp only at Mk gk lk
  unfold f52_b4 f52_C4
  refine bif_dec (fun hi2 => ?_) (fun hi2 => ?_)
  ·have hk' : k < n := by omega
   have skip : ¬ (tpos T a.toNat k = true ∧ (inK (tpos T) a.toNat (D, R) k).1.getD k 0 < 0) → Y (f52_e4 u d s a (w64 ((k : Int) + 1))) g' := fun f => by
    rw [w64_of (by omega) (by omega)]
    have hsu : inK (tpos T) a.toNat (D, R) (k + 1) = inK (tpos T) a.toNat (D, R) k := by rw [inK_succ]; unfold inS; rw [if_neg f]
    exact hY _ _ _ ⟨k + 1, os, by push_cast; rfl, by omega, by rw [hsu]; exact ow, by rw [hsu]; exact qw, ls, hne, x⟩ (by omega)
   refine (r.ext x).ldG (by omega) (by omega) fun w rw wl => ?_
   refine rw.ldG (by omega) (by omega) ?_
   rw [Int.toNat_natCast]
   refine bif_dec (fun hp => ?_) (fun hp => skip fun e => tpos_neg hp e.1)
   refine ow.rd.ldG (by omega) (by omega) ?_
   rw [Int.toNat_natCast]
   refine bif_dec (fun hq => ?_) (fun hq => skip fun e => hq e.2)
   refine ow.rd.ldG (by omega) (by omega) ?_
   have bk := Wk.lo a.toNat (by omega)
   rw [w64_of (n := _ + 1) (by omega) (by omega)]
   refine ow.stI (by omega) (by omega) _ fun g9 ow9 b9 l9 => ?_
   rw [Int.toNat_natCast] at ow9
   rw [ho] at b9
   have x9 := x.but_ b9 (some_le lo)
   have qw9 := qw.but b9 (by intro e; exact hne (by simpa using e))
   refine qw9.push (by unfold lim; omega) fun s' g5 o' qw5 b5 k5 => ?_
   have hsu : inK (tpos T) a.toNat (D, R) (k + 1) = ((inK (tpos T) a.toNat (D, R) k).1.set k ((inK (tpos T) a.toNat (D, R) k).1.getD a.toNat 0 + 1), (inK (tpos T) a.toNat (D, R) k).2 ++ [(k : Int)]) := by
    rw [inK_succ]
    show inS (tpos T) a.toNat _ k = _
    unfold inS
    rw [if_pos ⟨tpos_pos hp, hq⟩]
   rw [w64_of (by omega) (by omega)]
   have x5 := x9.but_ b5 (some_le ls)
   have lx := x.len
   have lod := ow.lt ho
   refine hY _ _ _ ⟨k + 1, o', by push_cast; rfl, by omega, by rw [hsu]; exact ow9.but b5 (.inl (by rw [ho]; intro e; exact hne (by simpa using e.symm))), by rw [hsu]; exact qw5, by omega, by omega, x5⟩ (by omega)
  ·have hkn' : k = n := by omega
   rw [hkn'] at ow qw Mk Wk hql
   have hng' := negH_of ow ho
   refine hX _ _ ⟨(inK (tpos T) a.toNat (D, R) n).2, (inK (tpos T) a.toNat (D, R) n).1, f, os, ow, qw, ls, hne, x, Wk, by omega, hB, by omega⟩ (by rw [hng, hng']; omega)
 ·have hQ : Q = [] := List.length_eq_zero_iff.1 (by omega)
  subst hQ
  rw [bfs_nil] at hB
  subst hB
  have dl := depL_ok (t := tpos T) hn0
  exact spec_gcds (r.ext x) q hn ow.rd dl.1 dl.2 (hk _ x)
end
end Go.Proofs.Ytcoampecbpiecaa.Cl
set_option linter.unusedVariables false
set_option linter.unusedSimpArgs false
namespace Go.Proofs.Ytcoampecbpiecaa.Cl
open Go
def perC (T : List (List Int)) (n : Nat) : Prop := (partsL n (R_ T n)).length = 1 ∧ (rw_ (partsL n (R_ T n)) 0).length = n
noncomputable def perL (T : List (List Int)) (n : Nat) : Int := by classical exact if perC T n then gA (tpos T) (depL (tpos T) n) n n else 0
theorem perL_yes {T : List (List Int)} {n : Nat} (h : perC T n) : perL T n = gA (tpos T) (depL (tpos T) n) n n := by unfold perL; exact if_pos h
theorem perL_no {T : List (List Int)} {n : Nat} (h : ¬ perC T n) : perL T n = 0 := by unfold perL; exact if_neg h
theorem perC_pos {T : List (List Int)} {n : Nat} (h : perC T n) : 0 < n := by
 have := (partsL_rows (N := n) (R := R_ T n)).1
 have := h.1
 omega
theorem perL_ne {T : List (List Int)} {n : Nat} {m : Int} (q : Sq n m T) (h : perC T n) : perL T n ≠ 0 := by
 rw [perL_yes h]
 obtain ⟨i, hi⟩ : ∃ i, R_ T n i i = true := by
  have h1 := h.1
  unfold partsL at h1
  rw [List.length_map] at h1
  obtain ⟨i, hi⟩ := List.exists_mem_of_length_pos (l := (List.range n).filter (leadN (R_ T n))) (by omega)
  exact ⟨i, (leadN_iff.1 (List.mem_filter.1 hi).2).1⟩
 refine gA_pos (m := n) (i := i) (fun a b e => ?_) hi
 have e' : G T a b > 0 := of_decide_eq_true e
 have ha : a < n := by
  refine Classical.byContradiction fun c => ?_
  have : rw_ T a = [] := by
   unfold rw_
   rw [List.getD_eq_getElem?_getD, List.getElem?_eq_none (by rw [q.1]; omega)]; rfl
  unfold G at e'
  rw [this] at e'
  simp at e'
 refine ⟨ha, Classical.byContradiction fun c => ?_⟩
 have hl := (q.2 a ha).1
 unfold G at e'
 rw [List.getD_eq_getElem?_getD, List.getElem?_eq_none (by omega)] at e'
 simp at e'
section
variable {h0 : H} {u : Sl} {T : List (List Int)} {N : Nat} {m : Int}
theorem period_c (r : RdSS h0 u T) (q : Sq N m T) (hN : N ≤ 1000) : callI SP .i64 i_f51 [.sl u] h0 fun v h' => v = perL T N ∧ Ext h0 h' := by
 have hul := r.len
 have hT := q.1
 apply f51_call
 unfold f51_main
 refine (strongParts_c r q hN).to ?_
 rintro v h1 ⟨nv, x1⟩
 have hvl := nv.rd.len
 refine bif_ne (fun hne => ⟨_, rfl, (perL_no fun c => hne (by rw [hvl, c.1]; rfl)).symm, x1⟩) (fun he => ?_)
 have hp1 : (partsL N (R_ T N)).length = 1 := by omega
 refine nv.rd.ldG (by omega) (by omega) fun w rw wl => ?_
 rw [show (0 : Int).toNat = 0 from rfl] at rw wl
 refine bif_ne (fun hne => ⟨_, rfl, (perL_no fun c => hne (by rw [wl, c.2, hul, hT])).symm, x1⟩) (fun he2 => ?_)
 have C : perC T N := ⟨hp1, by omega⟩
 have N0 := perC_pos C
 refine newS_ow (by rfl) fun s4 h5 o4 l4 so4 e5 => ?_
 have x5 : Ext h1 h5 := by rw [e5]; exact Ext.app _ _
 rw [hul, hT]
 refine (repeatI_c (v := -1) (by simpa using o4.rd) (by omega) (by omega)).to ?_
 rintro d h6 ⟨od, fd, x6⟩
 rw [Int.toNat_natCast, show List.replicate N (i64 (-1)) = ic (List.replicate N (-1)) by unfold ic; rw [List.map_replicate]] at od
 have hdl := od.rd.ilen
 rw [List.length_replicate] at hdl
 obtain ⟨o, ho⟩ : ∃ o, d.o = some o := by
  obtain ⟨_, b⟩ | ⟨o, a, _⟩ := od.at_
  ·omega
  ·exact ⟨o, a⟩
 have X6 := x1.trans (x5.trans x6)
 have lo := fd o ho
 have lt := od.lt ho
 have l1 := x1.len
 have l5 := x5.len
 have l6 := x6.len
 refine newS_ow (by rfl) fun s8 h9 o8 l8 so8 e9 => ?_
 have x9 : Ext h6 h9 := by rw [e9]; exact Ext.app _ _
 have hne : o ≠ h6.length := by omega
 refine (od.ext x9).stI (by omega) (by omega) _ fun g og bg lg => ?_
 rw [ho] at bg
 have xg := (X6.trans x9).but_ bg (some_le (by omega))
 have og' : Ow g d 1 (ic (dep0 N)) := og
 have o8' : Ow g s8 1 (ic [0]) := o8.but bg (.inl (by rw [so8]; intro e; exact hne (by simpa using e)))
 have := impl_bfs (K := fun v h' => ∃ r, v = .int .i64 r ∧ r = perL T N ∧ Ext h0 h') r q hN N0 xg og' ho (by omega) o8' so8 (by omega) hne (fun g x => ⟨_, rfl, (perL_yes C).symm, x⟩)
 exact this
theorem l06Period_c (r : RdSS h0 u T) (q : Sq N m T) (hN : N ≤ 1000) : callV SP i_f52 [.sl u] h0 fun v h' => v = .tuple [i64 (perL T N), .bool (perL T N != 0)] ∧ Ext h0 h' := by
 have hul := r.len
 have hT := q.1
 apply f52_call
 unfold f52_main
 refine (l06Parts_c r q hN).to ?_
 rintro v h1 ⟨nv, x1⟩
 have hvl := nv.rd.len
 refine bif_ne (fun hne => ⟨by rw [perL_no fun c => hne (by rw [hvl, c.1]; rfl)]; rfl, x1⟩) (fun he => ?_)
 have hp1 : (partsL N (R_ T N)).length = 1 := by omega
 refine nv.rd.ldG (by omega) (by omega) fun w rw wl => ?_
 rw [show (0 : Int).toNat = 0 from rfl] at rw wl
 refine bif_ne (fun hne => ⟨by rw [perL_no fun c => hne (by rw [wl, c.2, hul, hT])]; rfl, x1⟩) (fun he2 => ?_)
 have C : perC T N := ⟨hp1, by omega⟩
 have N0 := perC_pos C
 have np := perL_ne q C
 rw [hul, hT]
 refine mkS_ow (by omega) (by unfold lim; omega) fun d h6 od hdl ho e6 => ?_
 have x6 : Ext h1 h6 := by rw [e6]; exact Ext.app _ _
 have od' : Ow h6 d 1 (ic (dI N 1)) := by
  rw [dI_one]
  have : (List.replicate ((N : Int)).toNat [AVal.int .i64 0]).flatten = ic (List.replicate N 0) := by
   rw [Int.toNat_natCast]; unfold ic; rw [List.map_replicate]
   simp [i64]
  rw [← this]; exact od
 have l1 := x1.len
 have l6 := x6.len
 refine newS_ow (by rfl) fun s8 h9 o8 l8 so8 e9 => ?_
 have x9 : Ext h6 h9 := by rw [e9]; exact Ext.app _ _
 have lt := od'.lt ho
 have hne : h1.length ≠ h6.length := by omega
 have q8 : Qu h9 s8 h6.length (ic [0]) := Ow.qu (cs := ic [0]) o8 so8
 have X9 := x1.trans (x6.trans x9)
 refine f52_rule0 _ _ _ _ _ (fun i g => ∃ k : Nat, i = k ∧ 1 ≤ k ∧ k ≤ N ∧ Ow g d 1 (ic (dI N k)) ∧ Qu g s8 h6.length (ic [0]) ∧ Ext h0 g) (fun i _ => (N - i).toNat) ?_ _ ⟨1, rfl, by omega, by omega, od'.ext x9, q8, X9⟩
 rintro X _ g ⟨k, rfl, hk1, hkN, og, qg, xg⟩ hX
 have hdl := og.rd.ilen
 rw [dI_len] at hdl
 unfold f52_b0 f52_C0
 refine bif_dec (fun hi => ?_) (fun hi => ?_)
 ·refine og.stI (by omega) (by omega) _ fun g2 og2 b2 l2 => ?_
  rw [Int.toNat_natCast, dI_set hk1] at og2
  rw [ho] at b2
  rw [w64_of (by omega) (by omega)]
  exact hX _ _ ⟨k + 1, by push_cast; rfl, by omega, by omega, og2, qg.but b2 (by intro e; exact hne (by simpa using e)), xg.but_ b2 (some_le (by omega))⟩ (by omega)
 ·have hkN' : k = N := by omega
  rw [hkN', dI_end] at og
  refine spec_bfs r q hN N0 xg og ho (by omega) qg (by omega) hne (fun g x => ⟨?_, x⟩)
  rw [perL_yes C] at np ⊢
  rw [show (gA (tpos T) (depL (tpos T) N) N N != 0) = true by simpa using np]
end
noncomputable def perOf (c : Int) (ts : List Tile) (a : Int) : Int := perL (tableS c ts a) (wordsS c ts a).length
noncomputable def F_IsMixing_0 (c : Int) (ts : List Tile) (a : Int) : Bool := (codeL c ts a == 0) && (perOf c ts a == 1)
noncomputable def F_PeriodOfHeight_0 (c : Int) (ts : List Tile) (a : Int) : Int := if codeL c ts a = 0 then perOf c ts a else 0
noncomputable def F_PeriodOfHeight_1 (c : Int) (ts : List Tile) (a : Int) : Int := if codeL c ts a = 0 then (if perOf c ts a = 0 then 5 else 0) else codeL c ts a
section
variable {h0 : H} {c : Int} {s : Sl} {ts : List Tile} {a : Int}
theorem impl_IsMixing_c (r : Rd h0 s 4 (tcs ts)) (sz : ts.length ≤ 1048576) (ba : i64ok a) :
  callV SP i_f23 [.agg (SetC c s), i64 a] h0 fun v h' => v = .tuple [.bool (F_IsMixing_0 c ts a), i64 (codeL c ts a)] ∧ Ext h0 h' := by
 apply f23_call
 unfold f23_main
 refine newK_obj fun h1 o1 x1 l1 => ?_
 refine o1.ldA rfl ?_
 refine (lastingOf_c (a := a) (r.ext x1) sz).to ?_
 rintro _ h3 ⟨p, w, t, rfl, hp, x3⟩
 refine ⟨_, rfl, _, rfl, _, rfl, _, rfl, _, rfl, _, rfl, _, rfl, _, rfl, ?_⟩
 have X3 := x1.trans x3
 refine bif_ne (fun hq => ⟨by unfold F_IsMixing_0; rw [show (codeL c ts a == 0) = false by simpa using hq]; rfl, X3⟩) (fun hq => ?_)
 obtain ⟨_, ow, fw, nt⟩ := hp hq
 have ok := codeL_ok hq
 refine (period_c nt.rd (table_sq ok.1) (by omega)).to ?_
 rintro v h4 ⟨rfl, x4⟩
 exact ⟨by unfold F_IsMixing_0; rw [hq]; rfl, X3.trans x4⟩
theorem spec_IsMixing_c (r : Rd h0 s 4 (tcs ts)) (sz : ts.length ≤ 1048576) (ba : i64ok a) :
  callV SP i_f24 [.agg (SetC c s), i64 a] h0 fun v h' => v = .tuple [.bool (F_IsMixing_0 c ts a), i64 (codeL c ts a)] ∧ Ext h0 h' := by
 apply f24_call
 unfold f24_main
 refine newK_obj fun h1 o1 x1 l1 => ?_
 refine o1.ldA rfl ?_
 refine (l06Lasting_c (a := a) (r.ext x1) sz).to ?_
 rintro _ h3 ⟨w, t, rfl, hp, x3⟩
 refine ⟨_, rfl, _, rfl, _, rfl, _, rfl, _, rfl, _, rfl, ?_⟩
 have X3 := x1.trans x3
 refine bif_ne (fun hq => ⟨by unfold F_IsMixing_0; rw [show (codeL c ts a == 0) = false by simpa using hq]; rfl, X3⟩) (fun hq => ?_)
 have ok := codeL_ok hq
 refine (l06Period_c (hp hq).2.rd (table_sq ok.1) (by omega)).to ?_
 rintro _ h4 ⟨rfl, x4⟩
 refine ⟨_, rfl, _, rfl, _, rfl, _, rfl, ?_⟩
 have X4 := X3.trans x4
 refine bif_b (fun hb => ⟨by unfold F_IsMixing_0; rw [hq]; rfl, X4⟩) (fun hb => ⟨?_, X4⟩)
 have h0 : perL (tableS c ts a) (wordsS c ts a).length = 0 := by simpa using hb
 unfold F_IsMixing_0 perOf
 rw [hq, h0]; rfl
theorem impl_PeriodOfHeight_c (r : Rd h0 s 4 (tcs ts)) (sz : ts.length ≤ 1048576) (ba : i64ok a) :
  callV SP i_f21 [.agg (SetC c s), i64 a] h0 fun v h' => v = .tuple [i64 (F_PeriodOfHeight_0 c ts a), i64 (F_PeriodOfHeight_1 c ts a)] ∧ Ext h0 h' := by
 apply f21_call
 unfold f21_main
 refine newK_obj fun h1 o1 x1 l1 => ?_
 refine o1.ldA rfl ?_
 refine (lastingOf_c (a := a) (r.ext x1) sz).to ?_
 rintro _ h3 ⟨p, w, t, rfl, hp, x3⟩
 refine ⟨_, rfl, _, rfl, _, rfl, _, rfl, _, rfl, _, rfl, _, rfl, _, rfl, ?_⟩
 have X3 := x1.trans x3
 refine bif_ne (fun hq => ⟨by unfold F_PeriodOfHeight_0 F_PeriodOfHeight_1; rw [if_neg hq, if_neg hq], X3⟩) (fun hq => ?_)
 obtain ⟨_, ow, fw, nt⟩ := hp hq
 have ok := codeL_ok hq
 refine (period_c nt.rd (table_sq ok.1) (by omega)).to ?_
 rintro v h4 ⟨rfl, x4⟩
 have X4 := X3.trans x4
 refine bif_eq (fun hz => ⟨?_, X4⟩) (fun hz => ⟨?_, X4⟩)
 ·unfold F_PeriodOfHeight_0 F_PeriodOfHeight_1 perOf
  rw [if_pos hq, if_pos hq, if_pos hz, hz]
 ·unfold F_PeriodOfHeight_0 F_PeriodOfHeight_1 perOf
  rw [if_pos hq, if_pos hq, if_neg hz]
theorem spec_PeriodOfHeight_c (r : Rd h0 s 4 (tcs ts)) (sz : ts.length ≤ 1048576) (ba : i64ok a) :
  callV SP i_f22 [.agg (SetC c s), i64 a] h0 fun v h' => v = .tuple [i64 (F_PeriodOfHeight_0 c ts a), i64 (F_PeriodOfHeight_1 c ts a)] ∧ Ext h0 h' := by
 apply f22_call
 unfold f22_main
 refine newK_obj fun h1 o1 x1 l1 => ?_
 refine o1.ldA rfl ?_
 refine (l06Lasting_c (a := a) (r.ext x1) sz).to ?_
 rintro _ h3 ⟨w, t, rfl, hp, x3⟩
 refine ⟨_, rfl, _, rfl, _, rfl, _, rfl, _, rfl, _, rfl, ?_⟩
 have X3 := x1.trans x3
 refine bif_ne (fun hq => ⟨by unfold F_PeriodOfHeight_0 F_PeriodOfHeight_1; rw [if_neg hq, if_neg hq], X3⟩) (fun hq => ?_)
 have ok := codeL_ok hq
 refine (l06Period_c (hp hq).2.rd (table_sq ok.1) (by omega)).to ?_
 rintro _ h4 ⟨rfl, x4⟩
 refine ⟨_, rfl, _, rfl, _, rfl, _, rfl, ?_⟩
 have X4 := X3.trans x4
 refine bif_not (fun hb => ⟨?_, X4⟩) (fun hb => ⟨?_, X4⟩)
 ·have h0 : perL (tableS c ts a) (wordsS c ts a).length = 0 := by simpa using hb
  unfold F_PeriodOfHeight_0 F_PeriodOfHeight_1 perOf
  rw [if_pos hq, if_pos hq, if_pos h0, h0]
 ·have h0 : perL (tableS c ts a) (wordsS c ts a).length ≠ 0 := by simpa using hb
  unfold F_PeriodOfHeight_0 F_PeriodOfHeight_1 perOf
  rw [if_pos hq, if_pos hq, if_neg h0]
end
end Go.Proofs.Ytcoampecbpiecaa.Cl
set_option linter.unusedVariables false
set_option linter.unusedSimpArgs false
namespace Go.Proofs.Ytcoampecbpiecaa.Cl
open Go
structure RepM (N : Nat) (l : List Int) (v : Nat → Int) : Prop where
 len : l.length = N
 at_ : ∀ j, j < N → Cg (l.getD j 0) (v j)
theorem fM_cg (x : Int) : Cg (fM x) x := Cg.mod x
theorem fold_repM {N : Nat} {now : List Int} {v : Nat → Int} (r : RepM N now v) : ∀ (es : List (Int × Int)) (nx : List Int) (w : Nat → Int), InN N es → RepM N nx w → RepM N (es.foldl (stp fM now) nx) fun j => w j + xcV es v j
 | [], nx, w, _, h => ⟨h.len, fun j hj => (h.at_ j hj).trans ⟨0, by simp [xcV]⟩⟩
 | e :: es, nx, w, hb, h => by
  have hb1 := hb e (by simp)
  have h1 : RepM N (stp fM now nx e) fun j => w j + if e.2.toNat = j then v e.1.toNat else 0 := by
   refine ⟨by rw [stp_len]; exact h.len, fun j hj => ?_⟩
   unfold stp
   rw [getD_setJ _ _ _ _ (by rw [h.len]; exact hb1.2)]
   split
   ·next e1 =>
    refine (fM_cg _).trans ?_
    rw [← e1]
    exact (h.at_ _ hb1.2).add (r.at_ _ hb1.1)
   ·exact (h.at_ j hj).trans ⟨0, by omega⟩
  have h2 := fold_repM r es _ _ (fun x hx => hb x (by simp [hx])) h1
  refine ⟨h2.len, fun j hj => (h2.at_ j hj).trans ⟨0, ?_⟩⟩
  unfold xcV
  rw [List.map_cons, List.sum_cons]
  omega
theorem stepL_repM {N : Nat} {now : List Int} {v : Nat → Int} {es : List (Int × Int)} (r : RepM N now v) (hb : InN N es) : RepM N (stepL fM es N now) (xcV es v) := by
 have h0 : RepM N (List.replicate N 0) fun _ => 0 := ⟨by simp, fun j hj => by rw [List.getD_eq_getElem?_getD, List.getElem?_replicate, if_pos hj]; exact Cg.refl _⟩
 have := fold_repM r es _ _ hb h0
 exact ⟨this.len, fun j hj => (this.at_ j hj).trans ⟨0, by omega⟩⟩
theorem itL_repM {N : Nat} {es : List (Int × Int)} (hb : InN N es) : ∀ (k : Nat) {now : List Int} {v : Nat → Int}, RepM N now v → RepM N (itL fM es N k now) (xcN es k v)
 | 0, now, v, r => r
 | k + 1, now, v, r => itL_repM hb k (stepL_repM r hb)
theorem fold_totM : ∀ (l : List Int) (s t : Int), Cg s t → Cg (l.foldl (fun s x => fM (s + x)) s) (t + l.sum)
 | [], s, t, h => h.trans ⟨0, by simp⟩
 | x :: l, s, t, h => by
  rw [List.foldl_cons, List.sum_cons]
  exact (fold_totM l (fM (s + x)) (t + x) ((fM_cg _).trans (h.add (Cg.refl x)))).trans ⟨0, by omega⟩
theorem sum_cg : ∀ (l m : List Int), l.length = m.length → (∀ i, i < l.length → Cg (l.getD i 0) (m.getD i 0)) → Cg l.sum m.sum
 | [], [], _, _ => Cg.refl _
 | [], _ :: _, h, _ => by simp at h
 | _ :: _, [], h, _ => by simp at h
 | x :: l, y :: m, h, hc => by
  rw [List.sum_cons, List.sum_cons]
  exact (hc 0 (by simp)).add (sum_cg l m (by simpa using h) fun i hi => hc (i + 1) (by simpa using hi))
theorem totL_repM {N : Nat} {l : List Int} {v : Nat → Int} (r : RepM N l v) : Cg (totL fM l) (sumV N v) := by
 have h := fold_totM l 0 0 (Cg.refl 0)
 refine h.trans ?_
 rw [Int.zero_add]
 unfold sumV
 refine sum_cg _ _ (by rw [r.len]; simp) fun i hi => ?_
 rw [r.len] at hi
 rw [getD_map hi]
 exact r.at_ i hi
theorem on_repM (N : Nat) : RepM N (List.replicate N 1) (on N) := ⟨by simp, fun j hj => by
 rw [on_at, if_pos hj, List.getD_eq_getElem?_getD, List.getElem?_replicate, if_pos hj]
 exact Cg.refl _⟩
theorem codeR_ok {c : Int} {ts : List Tile} {n : Int} (h : codeR c ts n = 0) : StripOK c ts n ∧ (keysOf (colsOf c ts n)).length ≤ 40 := by
 by_cases h3 : codeS c ts n = 0
 ·by_cases h4 : 40 < (keysOf (colsOf c ts n)).length
  ·rw [codeR_2 h3 h4] at h; cases h
  ·exact ⟨codeS_ok h3, by omega⟩
 ·rw [codeR_1 h3] at h; exact absurd h h3
theorem cols_inR {c : Int} {ts : List Tile} {a : Int} (k : StripOK c ts a) : InN (nW c a) (colsOf c ts a) := fun e he =>
 edN_in k (e.1.toNat, e.2.toNat) (List.mem_map.2 ⟨e, he, rfl⟩)
theorem cols_nn {c : Int} {ts : List Tile} {a : Int} (k : StripOK c ts a) : ∀ e ∈ colsOf c ts a, (0 ≤ e.1 ∧ e.1 < (nW c a : Int)) ∧ 0 ≤ e.2 ∧ e.2 < (nW c a : Int) := fun e he => by
 have h1 := colP_bound k.set.ts a.toNat (-1) 0 0 1 (by omega) (by omega) e he
 have hp : 0 < c ^ a.toNat := Int.pow_pos (by have := k.set.1.1; omega)
 unfold nW
 omega
theorem rec_tells {c : Int} {ts : List Tile} {n : Int} (h : codeR c ts n = 0) : Bm (F_RecurrenceOf_0 c ts n) ∧ (F_RecurrenceOf_0 c ts n).length ≤ 40 ∧ ∀ k, (F_RecurrenceOf_0 c ts n).length ≤ k → Cg (seqE (colsOf c ts n) (nW c n) k) (sm (fun j => (F_RecurrenceOf_0 c ts n).getD j 0 * seqE (colsOf c ts n) (nW c n) (k - 1 - j)) (F_RecurrenceOf_0 c ts n).length) := by
 obtain ⟨ok, hk40⟩ := codeR_ok h
 have ha := recA_bm c ts n
 have hlen := recA_len c ts n
 have eF : F_RecurrenceOf_0 c ts n = (runI (recA c ts n) (recA c ts n).length).now := by rw [F_RecurrenceOf_0, sel0_yes h]
 have h0 : (∀ i, (recA c ts n).getD i 0 = 0) ∨ (recA c ts n).getD 0 0 ≠ 0 := by
  unfold recA
  rcases Nat.eq_zero_or_pos (colsOf c ts n).length with e | e
  ·left
   intro i
   rw [List.length_eq_zero_iff.1 e]
   exact seqM_zero _ _ _
  ·right
   rw [show 2 * (keysOf (colsOf c ts n)).length + 2 = (2 * (keysOf (colsOf c ts n)).length + 1) + 1 from rfl]
   exact seqM_first (cols_nn ok) e ok.ln
 have eO := shortest_eq (fun i => ha.at i) h0 (n := (recA c ts n).length) (by omega)
 rw [← eF] at eO
 have hs : ∀ i, i < (recA c ts n).length → Cg ((recA c ts n).getD i 0) (seqE (colsOf c ts n) (nW c n) i) := fun i hi => by
  have e1 : (recA c ts n)[i]? = some (totL fM (itL fM (colsOf c ts n) (nW c n) (i + 1) (List.replicate (nW c n) 1))) := seqL_at fM _ _ _ (by rw [hlen] at hi; exact hi)
  rw [List.getD_eq_getElem?_getD, e1]
  exact totL_repM (itL_repM (cols_inR ok) (i + 1) (on_repM _))
 obtain ⟨M, g, hM, hg⟩ := seq_rec (colsOf c ts n) (nW c n) ((keysOf (colsOf c ts n)).map Int.toNat) fun e he => List.mem_map.2 ⟨e.2, ((keys_spec (colsOf c ts n) [] List.nodup_nil).2 e.2).2 (.inr ⟨e, he, .inr rfl⟩), rfl⟩
 rw [List.length_map] at hM
 obtain ⟨h1, h2⟩ := out_rec (fun i => ha.at i) hs hg (by omega)
 rw [eO] at h1 h2
 refine ⟨?_, by omega, h2⟩
 rw [eF]
 exact (si_run ha _).nb
theorem seq_exact {c : Int} {ts : List Tile} {a n : Int} (k : StripOK c ts a) (ht : ∀ y ∈ strS c ts a n, y ≤ topS) {i : Nat} (hi : i < n.toNat) : (strS c ts a n)[i]? = some (seqE (colsOf c ts a) (nW c a) i) := by
 have e : (strS c ts a n)[i]? = some (totL fS (itL fS (colsOf c ts a) (nW c a) (i + 1) (List.replicate (nW c a) 1))) := seqL_at fS _ _ _ hi
 have h1 := ht _ (List.mem_of_getElem? e)
 have h2 := totL_rep (itL_rep (cols_inR k) (i + 1) (on_rep (nW c a)))
 rw [h2] at h1 e
 rw [e]
 exact congrArg some (fS_of (fS_le h1))
theorem seqE_nn (es : List (Int × Int)) (N k : Nat) : 0 ≤ seqE es N k := sum_nn fun j _ => xcN_nn (k + 1) (fun i => by rw [on_at]; split <;> omega) j
theorem parts_apart {N : Nat} {R : Nat → Nat → Bool} (T : ∀ i l j, l < N → R i l = true → R l j = true → R i j = true) : (partsL N R).flatten.Nodup ∧ ∀ x ∈ (partsL N R).flatten, 0 ≤ x ∧ x < N := by
 have hin : ∀ i, ∀ x ∈ partL N R i, ∃ k : Nat, x = k ∧ k < N ∧ mutB R i k = true := fun i x hx => by
  obtain ⟨k, hk, rfl⟩ := List.mem_map.1 hx
  have h2 := List.mem_filter.1 hk
  exact ⟨k, rfl, List.mem_range.1 h2.1, h2.2⟩
 refine ⟨?_, fun x hx => ?_⟩
 ·unfold List.Nodup
  rw [List.pairwise_flatten]
  refine ⟨fun l hl => ?_, ?_⟩
  ·obtain ⟨i, _, rfl⟩ := List.mem_map.1 hl
   unfold partL partN
   exact List.Pairwise.map _ (fun a b h e => h (by omega)) (List.Pairwise.filter _ (List.pairwise_lt_range.imp fun h => Nat.ne_of_lt h))
  ·unfold partsL
   refine List.Pairwise.map _ (R := fun i j => i < j ∧ (i < N ∧ leadN R i = true) ∧ j < N ∧ leadN R j = true) (fun i j h x hx y hy e => ?_) ?_
   ·obtain ⟨h1, ⟨h2, h3⟩, h4, h5⟩ := h
    subst e
    obtain ⟨k, rfl, hk, m1⟩ := hin i x hx
    obtain ⟨k', e2, _, m2⟩ := hin j _ hy
    have : k = k' := by omega
    subst this
    have m3 := mutB_trans T hk m2 (by rw [mutB_symm]; exact m1)
    rw [(leadN_iff.1 h5).2 i h1] at m3
    cases m3
   ·have h1 : ((List.range N).filter (leadN R)).Pairwise (· < ·) := List.Pairwise.filter _ List.pairwise_lt_range
    refine List.Pairwise.imp_of_mem (fun {a b} ha hb hab => ?_) h1
    have h2 := List.mem_filter.1 ha
    have h3 := List.mem_filter.1 hb
    exact ⟨hab, ⟨List.mem_range.1 h2.1, h2.2⟩, List.mem_range.1 h3.1, h3.2⟩
 ·obtain ⟨l, hl, hxl⟩ := List.mem_flatten.1 hx
  obtain ⟨i, _, rfl⟩ := List.mem_map.1 hl
  obtain ⟨k, rfl, hk, _⟩ := hin i x hxl
  omega
end Go.Proofs.Ytcoampecbpiecaa.Cl
set_option linter.unusedVariables false
set_option linter.unusedSimpArgs false
namespace Go.Proofs.Ytcoampecbpiecaa.Cl
open Go
def wl (es : List (Int × Int)) : List Int := es.flatMap fun e => [e.1, e.2]
theorem wl_len : ∀ es, (wl es).length = 2 * es.length
 | [] => rfl
 | e :: es => by
  have := wl_len es
  unfold wl at *
  rw [List.flatMap_cons, List.length_append, this]
  simp; omega
theorem mem_wl {es : List (Int × Int)} {x : Int} : x ∈ wl es ↔ ∃ e ∈ es, x = e.1 ∨ x = e.2 := by
 unfold wl
 simp [List.mem_flatMap]
theorem sorted_keys {es : List (Int × Int)} {l : List Int} (ha : Asc l) (hm : ∀ x, x ∈ l ↔ x ∈ wl es) : l.length = (keysOf es).length := by
 obtain ⟨a, b⟩ := keys_spec es [] List.nodup_nil
 have hb : ∀ x, x ∈ keysOf es ↔ x ∈ l := fun x => by
  rw [hm, mem_wl]
  exact (b x).trans ⟨fun h => h.elim (fun h => by cases h) id, .inr⟩
 have hn : l.Nodup := List.Pairwise.imp (fun h e => by omega) ha
 have h1 := nodup_le l (keysOf es) hn fun x hx => (hb x).2 hx
 have h2 := nodup_le (keysOf es) l a fun x hx => (hb x).1 hx
 omega
section
variable {h0 : H} {c : Int} {s : Sl} {ts : List Tile} {n : Int}
set_option maxHeartbeats 1000000 in
theorem spec_RecurrenceOf_c (r : Rd h0 s 4 (tcs ts)) (sz : ts.length ≤ 1048576) (bn : i64ok n) :
  callV SP i_f27 [.agg (SetC c s), i64 n] h0 fun v h' => ∃ w, v = .tuple [.sl w, i64 (codeR c ts n)] ∧ Ow h' w 1 (ic (F_RecurrenceOf_0 c ts n)) ∧ Fr h0.length w ∧ Ext h0 h' := by
 have fin : ∀ {h' : H} (k : Int), codeR c ts n ≠ 0 → k = codeR c ts n → Ext h0 h' → ∃ w, AVal.tuple [.sl Sl.nil, i64 k] = .tuple [.sl w, i64 (codeR c ts n)] ∧ Ow h' w 1 (ic (F_RecurrenceOf_0 c ts n)) ∧ Fr h0.length w ∧ Ext h0 h' := fun k hq hk x =>
  ⟨_, by rw [hk], by rw [F_RecurrenceOf_0, sel0_no hq]; exact Ow.nil _ _, Fr.nil _, x⟩
 apply f27_call
 unfold f27_main
 refine newK_obj fun h1 o1 x1 l1 => ?_
 refine o1.ldA rfl ?_
 refine (l06Code_c (n := n) (r.ext x1) sz).to ?_
 rintro _ h3 ⟨u, rfl, hu, hu0, x3⟩
 refine ⟨_, rfl, _, rfl, _, rfl, _, rfl, ?_⟩
 have X3 := x1.trans x3
 refine bif_ne (fun h2 => fin _ (by rw [codeR_1 h2]; exact h2) (codeR_1 h2).symm X3) (fun h2 => ?_)
 have ok := codeS_ok h2
 have hs := ok.set
 have T := hs.ts
 obtain ⟨H_, rfl⟩ : ∃ H_ : Nat, n = H_ := ⟨n.toNat, by have := ok.hh; omega⟩
 have hHH := ok.hh
 have hof : colsOf c ts (H_ : Int) = colP c ts H_ (-1) 0 0 := by unfold colsOf; rw [Int.toNat_natCast]
 have hp1 := pow_small4 (n := H_) T.1 hs.1.2 (by omega)
 obtain ⟨N, hN⟩ : ∃ N : Nat, (N : Int) = c ^ H_ := ⟨(c ^ H_).toNat, by omega⟩
 have rdu := hu h2
 rw [Int.toNat_natCast] at rdu
 have hln := ok.ln
 rw [hof, ← lay_len] at hln
 change (layN c ts H_ lay0).length ≤ 5000 at hln
 have hce : colsOf c ts (H_ : Int) = (layN c ts H_ lay0).map pr := by rw [hof]; exact (lay_pr H_).symm
 have hcb : ∀ e ∈ (layN c ts H_ lay0).map pr, (0 ≤ e.1 ∧ e.1 < N) ∧ 0 ≤ e.2 ∧ e.2 < N := fun e he => by
  rw [← hce, hof] at he
  have := colP_bound T H_ (-1) 0 0 1 (by omega) (by omega) e he
  rw [Int.one_mul, ← hN] at this
  exact this
 have hrec : recA c ts (H_ : Int) = seqL fM ((layN c ts H_ lay0).map pr) N (2 * (keysOf ((layN c ts H_ lay0).map pr)).length + 2) (List.replicate N 1) := by
  unfold recA
  rw [hce, Int.toNat_natCast, show (c ^ H_).toNat = N by omega]
 generalize hL : layN c ts H_ lay0 = L at *
 have hul := rdu.len
 rw [col3_len] at hul
 -- a row of the columns
 have row : ∀ {g : H} {i : Nat} {K : Sl → Prop} (hi : i < L.length), Ext h3 g → (∀ v, Rd g v 1 (ic [L[i].1, L[i].2.1, L[i].2.2]) → K v) → ixS u 1 (i : Int) fun p => Cl.ldS p g K := fun {g i K} hi x hk =>
  (rdu.ext x).ldG (by omega) (by rw [col3_len]; omega) fun v rv lv => by
   rw [Int.toNat_natCast, col3_row hi] at rv
   exact hk v rv
 have at0 : ∀ {g : H} {v : Sl} {i : Nat} {hi : i < L.length} {K : Int → Prop}, Rd g v 1 (ic [L[i].1, L[i].2.1, L[i].2.2]) → K L[i].1 → ixS v 1 0 fun p => Cl.ldI .i64 p g K := fun {g v i hi K} rv hk => rv.ldG (by omega) (by simp) hk
 have at1 : ∀ {g : H} {v : Sl} {i : Nat} {hi : i < L.length} {K : Int → Prop}, Rd g v 1 (ic [L[i].1, L[i].2.1, L[i].2.2]) → K L[i].2.1 → ixS v 1 1 fun p => Cl.ldI .i64 p g K := fun {g v i hi K} rv hk => rv.ldG (by omega) (by simp) hk
 have htk : ∀ z (hz : z < L.length), (L.map pr).take (z + 1) = (L.map pr).take z ++ [(L[z].1, L[z].2.1)] := fun z hz => by
  rw [List.take_add_one, List.getElem?_map, List.getElem?_eq_getElem hz]; rfl
 refine (o1.ext x3).ldA rfl ?_
 refine (l06Size_c (s := s) T.1 hs.1.2 (H_ := H_) (by omega)).to ?_
 rintro _ h8 ⟨rfl, x8⟩
 rw [← hN]
 refine newS_ow (by rfl) fun ws h13 ow13 lw13 wo13 e13 => ?_
 have x13 : Ext h8 h13 := by rw [e13]; exact Ext.app _ _
 refine f27_rule0 _ _ _ _ (fun s9 i g => ∃ z : Nat, i = z ∧ z ≤ L.length ∧ Ow g s9 1 (ic (wl ((L.map pr).take z))) ∧ s9.o = some h8.length ∧ Ext h8 g) (fun _ i _ => (L.length - i).toNat) ?_ _ _ ⟨0, rfl, by omega, ow13, wo13, x13⟩
 rintro X s9 _ g ⟨z, rfl, hz, ow9, wo9, xg⟩ hX
 unfold f27_b0
 have x3g := x8.trans xg
 have hwl := ow9.rd.ilen
 rw [wl_len, List.length_take, List.length_map] at hwl
 refine bif_dec (fun hi => ?_) (fun hi => ?_)
 ·have hzl : z < L.length := by omega
  refine row hzl x3g fun v rv => at0 (hi := hzl) rv (row hzl x3g fun v2 rv2 => at1 (hi := hzl) rv2 ?_)
  refine newS_ow (by rfl) fun t h9 ot tl to e9 => ?_
  have x9 : Ext g h9 := by rw [e9]; exact Ext.app _ _
  refine app_ow (by omega) (ow9.ext x9) ot.rd (by rw [tl, hwl]; unfold lim; omega) fun s' g2 o2 l2 b2 k2 _ => ?_
  rw [wo9] at b2
  rw [w64_of (n := (z : Int) + 1) (by omega) (by omega)]
  refine hX _ _ _ ⟨z + 1, by push_cast; rfl, hzl, ?_, k2 _ wo9, (xg.trans x9).but_ b2 (some_le (Nat.le_refl _))⟩ (by omega)
  rw [htk z hzl]
  unfold wl
  rw [List.flatMap_append, ic_app]
  exact o2
 have hzl : z = L.length := by omega
 subst hzl
 rw [List.take_of_length_le (by simp)] at ow9
 unfold f27_C0
 have X8g := X3.trans x3g
 refine (sortedD_c _ _ _ _ (Nat.le_refl _) (by rw [wl_len, List.length_map]; omega) ow9.rd).to ?_
 rintro sv g1 ⟨l', rl, hasc, hmem, hlle, _, y1⟩
 have hll := rl.ilen
 have hsk := sorted_keys hasc hmem
 have hWe : keysOf (colsOf c ts (H_ : Int)) = keysOf (L.map pr) := by rw [hce]
 refine bif_dec (fun hw => ?_) (fun hw => ?_)
 ·have hQ := codeR_2 h2 (by rw [hWe]; omega)
  exact fin 3 (by rw [hQ]; decide) hQ.symm (X8g.trans y1)
 have hQ := codeR_0 h2 (by rw [hWe]; omega)
 generalize hW : (keysOf (L.map pr)).length = W at *
 refine (l02Each_c (N := N) (by omega)).to ?_
 rintro w g2 ⟨ow, fw, y2⟩
 refine newS_ow (by rfl) fun zl g3 oz lz zo e3 => ?_
 have y3 : Ext g2 g3 := by rw [e3]; exact Ext.app _ _
 have lg3 : g3.length = g2.length + 1 := by rw [e3]; simp
 have Y3 := x3g.trans (y1.trans (y2.trans y3))
 have Y2 := x3g.trans (y1.trans y2)
 refine f27_rule2 _ _ _ _ _ (fun w z i g => ∃ (k : Nat) (now out : List Int), i = k ∧ k ≤ 2 * W + 2 ∧ Rd g w 1 (ic now) ∧ now.length = N ∧ Bd 10006 now ∧ Ow g z 1 (ic out) ∧ z.o = some g2.length ∧ w.o ≠ some g2.length ∧ out.length = k ∧ recA c ts (H_ : Int) = out ++ seqL fM (L.map pr) N (2 * W + 2 - k) now ∧ Ext g2 g ∧ g3.length ≤ g.length) (fun _ _ i _ => (2 * W + 2 - i).toNat) ?_ _ _ _
  ⟨0, List.replicate N 1, [], rfl, by omega, ow.rd.ext y3, by simp, bd_one (by decide) N, oz, zo, (fun e => by have := ow.lt e; omega), rfl, by rw [hrec]; simp, y3, Nat.le_refl _⟩
 rintro Y w z _ g4 ⟨k, now, out, rfl, hk, rw4, hnl, hbd, oz4, zo4, hwz, hol, hseq, xg4, gl4⟩ hY
 unfold f27_b2
 have hzl4 := oz4.lt zo4
 rw [hll, w64_of (n := 2 * (l'.length : Int)) (by omega) (by omega), w64_of (n := 2 * (l'.length : Int) + 2) (by omega) (by omega)]
 have hwl4 := rw4.ilen
 refine bif_dec (fun hi4 => ?_) (fun hi4 => ?_)
 rotate_left
 ·have hk2 : k = 2 * W + 2 := by omega
  rw [hk2, Nat.sub_self, seqL, List.append_nil] at hseq
  rw [← hseq] at oz4
  unfold f27_C2
  have hlen := recA_len c ts (H_ : Int)
  rw [hWe, hW] at hlen
  refine (l06Shortest_c (recA_bm c ts (H_ : Int)) (by omega) oz4.rd).to ?_
  rintro v g9 ⟨ov, fv, x9⟩
  have Xall := X3.trans (Y2.trans xg4)
  refine ⟨v, by rw [hQ], ?_, fv.le Xall.len, Xall.trans x9⟩
  rw [F_RecurrenceOf_0, sel0_yes hQ, ← shortest_eq (fun i => (recA_bm c ts (H_ : Int)).at i) ?_ (by omega)]
  ·exact ov
  ·rcases Nat.eq_zero_or_pos (L.map pr).length with e | e
   ·left
    intro i
    rw [hrec, List.length_eq_zero_iff.1 e]
    exact seqM_zero _ _ _
   ·right
    rw [hrec, show 2 * W + 2 = (2 * W + 1) + 1 from rfl]
    exact seqM_first hcb e (by rw [List.length_map]; exact hln)
 have hkl : k < 2 * W + 2 := by omega
 refine mkS_ow (by omega) (by unfold lim; omega) fun v g5 ov lv vo e5 => ?_
 have x5 : Ext g4 g5 := by rw [e5]; exact Ext.app _ _
 rw [show (List.replicate (N : Int).toNat [i64 0]).flatten = ic (List.replicate N 0) from by rw [Int.toNat_natCast]; unfold ic; rw [List.map_replicate]; simp] at ov
 have r5 := rw4.ext x5
 have o5 := oz4.ext x5
 generalize hes : L.map pr = es at *
 have hel : es.length = L.length := by rw [← hes]; simp
 refine f27_rule4 _ _ Y _ _ _ _ _ _ _ _ (fun j g' => ∃ q : Nat, j = q ∧ q ≤ es.length ∧ Ow g' v 1 (ic ((es.take q).foldl (stp fM now) (List.replicate N 0))) ∧ Ext g4 g') (fun j _ => (es.length - j).toNat) ?_ _ ⟨0, rfl, by omega, ov, x5⟩
 rintro Z _ g6 ⟨q, rfl, hq, ov6, x6⟩ hZ
 unfold f27_b4
 have hfold := fold_stp fitM hbd (es.take q) (List.replicate N 0) (bd_zero fitM.b0 N)
 have hvl := ov6.rd.ilen
 rw [hfold.2, List.length_replicate] at hvl
 have x36 := Y2.trans (xg4.trans x6)
 refine bif_dec (fun hi6 => ?_) (fun hi6 => ?_)
 ·have hqe : q < es.length := by omega
  have hqL : q < L.length := by omega
  have hez : es[q] = (L[q].1, L[q].2.1) := by
   simp only [← hes]
   simp [pr]
  have hb' := hcb es[q] (List.getElem_mem hqe)
  rw [hez] at hb'
  simp only at hb'
  refine row hqL x36 fun v1 rv1 => at1 (hi := hqL) rv1 (row hqL x36 fun v2 rv2 => at1 (hi := hqL) rv2 ?_)
  refine ov6.rd.ldG hb'.2.1 (by rw [hfold.2]; simp; omega) ?_
  refine row hqL x36 fun v3 rv3 => at0 (hi := hqL) rv3 ?_
  refine (rw4.ext x6).ldG hb'.1.1 (by omega) ?_
  have q1 := hfold.1 L[q].2.1.toNat
  have q2 := hbd L[q].1.toNat
  rw [w64_of (by omega) (by omega), tmod_nn (by omega)]
  refine ⟨by decide, ?_⟩
  refine ov6.stI hb'.2.1 (by omega) _ fun g7 o7 b7 l7 => ?_
  rw [w64_of (n := (q : Int) + 1) (by omega) (by omega)]
  refine hZ _ _ ⟨q + 1, by push_cast; rfl, by omega, ?_, x6.but_ b7 fun o e => by rw [vo] at e; cases e; exact Nat.le_refl _⟩ (by omega)
  rw [foldl_take _ _ hqe, hez]
  exact o7
 have hqe : q = es.length := by omega
 subst hqe
 rw [List.take_length] at ov6
 have hst := stepL_bd fitM (es := es) (N := N) hbd
 change Ow g6 v 1 (ic (stepL fM es N now)) at ov6
 unfold f27_C4
 refine f27_rule6 _ _ Y _ _ _ _ _ _ (fun a j g' => ∃ z : Nat, j = z ∧ z ≤ (stepL fM es N now).length ∧ a = ((stepL fM es N now).take z).foldl (fun s x => fM (s + x)) 0 ∧ g' = g6) (fun _ j _ => ((stepL fM es N now).length - j).toNat) ?_ _ _ ⟨0, rfl, by omega, rfl, rfl⟩
 rintro V _ _ g' ⟨m, rfl, hm, rfl, eg⟩ hV
 rw [eg]
 unfold f27_b6
 have ht := totL_bd fitM hst.1 m hm
 have hs2 := hst.2
 refine bif_dec (fun hi7 => ?_) (fun hi7 => ?_)
 ·have hml : m < (stepL fM es N now).length := by omega
  have q1 := hst.1 m
  refine ov6.rd.ldG (by omega) (by omega) ?_
  rw [Int.toNat_natCast, w64_of (by omega) (by omega), tmod_nn (by omega), w64_of (n := (m : Int) + 1) (by omega) (by omega)]
  refine ⟨by decide, hV _ _ _ ⟨m + 1, by push_cast; rfl, hml, ?_, rfl⟩ (by omega)⟩
  rw [foldl_take _ _ hml, List.getD_eq_getElem?_getD, List.getElem?_eq_getElem hml]
  rfl
 have hml : m = (stepL fM es N now).length := by omega
 subst hml
 rw [List.take_length]
 unfold f27_C6 f27_C3
 have x46 := x6.len
 refine pushI4 (oz4.ext x6) (by unfold lim; omega) fun z' g8 o8 b8 k8 => ?_
 rw [zo4] at b8
 rw [w64_of (n := (k : Int) + 1) (by omega) (by omega)]
 have hvo : v.o ≠ some g2.length := by rw [vo]; exact sneS (by omega)
 refine hY _ _ _ _ ⟨k + 1, stepL fM es N now, out ++ [totL fM (stepL fM es N now)], by push_cast; rfl, by omega, ov6.rd.but b8 (.inl (Ne.symm hvo)), hst.2, hst.1, o8, k8 _ zo4, hvo, by simp [hol], ?_, (xg4.trans x6).but_ b8 (some_le (Nat.le_refl _)), ?_⟩ (by omega)
 ·rw [hseq, show 2 * W + 2 - k = (2 * W + 2 - (k + 1)) + 1 by omega, seqL]
  simp
 ·have := b8.1; omega
end
end Go.Proofs.Ytcoampecbpiecaa.Cl
