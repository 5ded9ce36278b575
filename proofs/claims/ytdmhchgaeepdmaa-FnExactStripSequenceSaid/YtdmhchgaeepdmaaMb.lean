/- Contracts of the laws' helpers for sets and for slices of slices, and of the functions that tell sets. No claim is stated here. -/
import Derived.Test.YtdmhchgaeepdmaaMa
set_option linter.unusedVariables false
set_option linter.unusedSimpArgs false
namespace Go.Proofs.Ytdmhchgaeepdmaa.Cl
open Go
/-! ### sets -/
abbrev TSet := Int × List Tile
/-- The cells of a set. -/
def SetC (c : Int) (s : Sl) : List AVal := [i64 c, .sl s]
theorem szSet_c (c : Int) (s : Sl) (left : Int) (hl : s.len ≤ 9223372036854775807) (h1 : 0 ≤ left) (h2 : left ≤ 1048576) (h : H) : callI SP .i64 i_laws_szSet [.agg (SetC c s), i64 left] h fun n h' => n = (if left - s.len < 0 then -1 else left - s.len) ∧ Ext h h' := by
  apply laws_szSet_call
  unfold laws_szSet_main
  refine newK_obj fun h1 o1 x1 n1 => ?_
  refine isPt_in (o1.ldS rfl rfl ?_)
  refine (szTileS_c s left hl (by omega) (by omega) h1).to ?_
  rintro _ _ ⟨rfl, rfl⟩
  refine bif_dec (fun hq => ⟨_, rfl, ?_, x1⟩) (fun hq => ⟨_, rfl, rfl, x1⟩)
  split at hq
  · next e => rw [if_pos e]
  · next e => omega
theorem toSet_c {h0 : H} {c : Int} {s : Sl} {ts : List Tile} (r : Rd h0 s 4 (tcs ts)) (hl : ts.length ≤ 1048576) : callA SP i_laws_toSet [.agg (SetC c s)] h0 fun v h' => ∃ s', v = SetC c s' ∧ Ow h' s' 4 (tcs ts) ∧ Fr h0.length s' ∧ Ext h0 h' := by
  apply laws_toSet_call
  unfold laws_toSet_main
  refine newK_obj fun h1 o1 x1 n1 => ?_
  refine newO_obj fun h2 o2 x2 n2 => ?_
  refine newO_obj fun h3 o3 x3 n3 => ?_
  refine isPt_in ?_
  have x13 := x1.trans (x2.trans x3)
  have o1' := o1.ext (x2.trans x3)
  refine o1'.ldI rfl rfl (isPt_in ?_)
  refine o3.st1 rfl (by simp) _ fun h4 o4 b4 n4 => ?_
  refine isPt_in ?_
  have x4 : Ext h1 h4 := (x2.trans x3).but_ b4 (some_le (by omega))
  refine (o1.ext x4).ldS rfl rfl ?_
  refine (toTileS_c (r.ext (x1.trans x4)) hl).to ?_
  rintro s' h5 ⟨os, fs, x5⟩
  refine isPt_in ?_
  refine (o4.ext x5).st1 rfl (by simp) _ fun h6 o6 b6 n6 => ?_
  refine o6.ldA rfl ?_
  have o2' := ((o2.ext x3).but b4 (fun e => by have := Option.some.inj e; omega)).ext x5 |>.but b6 (fun e => by have := Option.some.inj e; omega)
  have hne : ∀ o, s'.o = some o → h4.length ≤ o := fun o e => fs o e
  refine o2'.stA fun h7 o7 b7 n7 => ?_
  refine o7.ldA rfl ⟨_, rfl, s', rfl, ?_, ?_, ?_⟩
  · refine (os.but b6 ?_).but b7 ?_
    · refine .inl fun e => ?_
      have := hne _ e.symm
      omega
    · refine .inl fun e => ?_
      have := hne _ e.symm
      omega
  · exact fs.le (by omega)
  · refine Ext.but_ (Ext.but_ ((x1.trans x4).trans x5) b6 (some_le (by omega))) b7 (some_le (by omega))
theorem eqSet_c {h0 : H} {c c' : Int} {s s' : Sl} {ts ts' : List Tile} (r : Rd h0 s 4 (tcs ts)) (r' : Rd h0 s' 4 (tcs ts')) (hl : ts.length < 4000000000000000000) : callB SP i_laws_eqSet [.agg (SetC c s), .agg (SetC c' s')] h0 fun b h' => b = (c == c' && ts == ts') ∧ Ext h0 h' := by
  apply laws_eqSet_call
  unfold laws_eqSet_main
  refine newK_obj fun h1 o1 x1 n1 => ?_
  refine newK_obj fun h2 o2 x2 n2 => ?_
  refine isPt_in ?_
  have x := x1.trans x2
  refine (o1.ext x2).ldI rfl rfl (isPt_in (o2.ldI rfl rfl ?_))
  refine bif_ne (fun hq => ⟨_, rfl, by simp [hq], x⟩) (fun hq => ?_)
  subst hq
  refine isPt_in ((o1.ext x2).ldS rfl rfl (isPt_in (o2.ldS rfl rfl ?_)))
  refine (eqTileS_c (r.ext x) (r'.ext x) hl).to ?_
  rintro _ h3 ⟨rfl, x3⟩
  refine bif_not (fun hq => ⟨_, rfl, by simp [hq], x.trans x3⟩) (fun hq => ⟨_, rfl, by simp [hq], x.trans x3⟩)
theorem markSet_c {h0 : H} {c : Int} {s : Sl} {l : List Int} (r : Ow h0 s 4 (ic l)) (k0 : Int) (hk0 : 0 ≤ k0) (hk1 : k0 ≤ 1000000000000000000) (hl : s.len < 1000000000000000000) : callI SP .i64 i_laws_markSet [.agg (SetC c s), i64 k0] h0 fun n h' => n = k0 + 4 * s.len ∧ Ow h' s 4 (ic (upto k0 (s.len * 4))) ∧ Chg (fun i => s.o = some i) h0 h' := by
  apply laws_markSet_call
  unfold laws_markSet_main
  refine newK_obj fun h1 o1 x1 n1 => ?_
  refine isPt_in (o1.ldS rfl rfl ?_)
  refine (markTileS_k (r.ext x1) k0 hk0 hk1 hl).to ?_
  rintro _ h2 ⟨rfl, o2, b2, n2⟩
  exact ⟨_, rfl, rfl, o2, (x1.chg _).trans (b2.chg fun i e => e)⟩
theorem tcs_ic' : ∀ ts : List Tile, ∃ l, tcs ts = ic l
  | [] => ⟨[], rfl⟩
  | t :: ts => by
    obtain ⟨l, e⟩ := tcs_ic' ts
    exact ⟨tl t ++ l, by rw [tcs_cons, e, ic_app, tc_tl]⟩
/-! ### slices of integers and of slices -/
/-- All lengths of a slice of slices, and its own. -/
def sumLen (ls : List (List Int)) : Nat := (ls.map List.length).sum
theorem sumLen_mem {ls : List (List Int)} {l : List Int} (h : l ∈ ls) : l.length ≤ sumLen ls := by
  unfold sumLen
  induction ls with
  | nil => simp at h
  | cons a ls ih =>
    simp only [List.map_cons, List.sum_cons]
    rcases List.mem_cons.1 h with rfl | h
    · omega
    · have := ih h; omega
theorem sumLen_take (ls : List (List Int)) (i : Nat) (l : List Int) (h : ls[i]? = some l) : sumLen (ls.take (i + 1)) = sumLen (ls.take i) + l.length := by
  unfold sumLen
  rw [List.take_add_one, h]
  simp
theorem sumLen_take_le (ls : List (List Int)) (i : Nat) : sumLen (ls.take i) ≤ sumLen ls := by
  unfold sumLen
  conv => rhs; rw [← List.take_append_drop i ls]
  rw [List.map_append, List.sum_append]
  omega
theorem eqInt64SS_c {h0 : H} {s s' : Sl} {ls ls' : List (List Int)} (r : RdSS h0 s ls) (r' : RdSS h0 s' ls') (hl : ls.length < 4000000000000000000) (hls : ∀ l ∈ ls, l.length < 4000000000000000000) : callB SP i_laws_eqInt64SS [.sl s, .sl s'] h0 fun b h' => b = (ls == ls') ∧ h' = h0 := by
  have hlen := r.len
  have hlen' := r'.len
  apply laws_eqInt64SS_call
  unfold laws_eqInt64SS_main
  refine bif_ne (fun hq => ?_) (fun hq => ?_)
  · refine ⟨_, rfl, ?_, rfl⟩
    cases hb : ls == ls' with
    | false => rfl
    | true => rw [beq_iff_eq] at hb; subst hb; omega
  refine laws_eqInt64SS_rule0 _ _ _ _ (fun i h => 0 ≤ i ∧ i ≤ ls.length ∧ h = h0 ∧ ∀ j, j < i.toNat → ls[j]? = ls'[j]?) (fun i _ => (ls.length - i).toNat) ?_ _ ⟨by omega, by omega, rfl, fun j hj => by omega⟩
  rintro X i _ ⟨i0, i1, rfl, hn⟩ hX
  unfold laws_eqInt64SS_b0 laws_eqInt64SS_C0
  refine bif_dec (fun hi => ?_) (fun hi => ?_)
  · refine r.ld i0 (by omega) fun v l hv rv lv => r'.ld i0 (by omega) fun v' l' hv' rv' lv' => ?_
    refine (eqInt64S_c rv rv' (hls l (List.mem_of_getElem? hv))).to ?_
    rintro _ _ ⟨rfl, rfl⟩
    refine bif_not (fun hq => ?_) (fun hq => ?_)
    · refine ⟨_, rfl, ?_, rfl⟩
      cases hb : ls == ls' with
      | false => rfl
      | true =>
        rw [beq_iff_eq] at hb; subst hb
        rw [hv] at hv'; cases hv'
        simp at hq
    · rw [w64_of (by omega) (by omega)]
      refine hX _ _ ⟨by omega, by omega, rfl, fun j hj => ?_⟩ (by omega)
      by_cases hji : j = i.toNat
      · subst hji
        rw [hv, hv']
        simp at hq
        rw [hq]
      · exact hn j (by omega)
  · refine ⟨_, rfl, ?_, rfl⟩
    symm
    rw [beq_iff_eq]
    apply List.ext_getElem?
    intro j
    by_cases hj : j < ls.length
    · exact hn j (by omega)
    · rw [List.getElem?_eq_none (by omega), List.getElem?_eq_none (by omega)]
/-- What marks make of the rows. -/
def marks (k : Int) : List (List Int) → List (List Int)
  | [] => []
  | l :: ls => upto k l.length :: marks (k + l.length) ls
theorem marks_len : ∀ (ls : List (List Int)) (k : Int), (marks k ls).length = ls.length
  | [], k => rfl
  | l :: ls, k => by simp [marks, marks_len ls]
theorem marks_at : ∀ (ls : List (List Int)) (k : Int) (i : Nat) (l : List Int), ls[i]? = some l → (marks k ls)[i]? = some (upto (k + sumLen (ls.take i)) l.length)
  | [], k, i, l, h => by simp at h
  | a :: ls, k, 0, l, h => by simp at h; subst h; simp [marks, sumLen]
  | a :: ls, k, i + 1, l, h => by
    simp at h
    simp only [marks, List.getElem?_cons_succ, List.take_succ_cons]
    rw [marks_at ls _ i l h]
    congr 2
    simp [sumLen]; omega
theorem NewSS.top {n : Nat} {hx h0 : H} {s : Sl} {ls : List (List Int)} (r : NewSS n hx s ls) {Q : Nat → Prop} (c : Chg Q hx h0) (hq : ∀ o, n ≤ o → ¬ Q o) (vs : List Sl) (hv : Ow h0 s 1 (vs.map .sl)) : ∀ v ∈ vs, ∀ o, v.o = some o → n ≤ o ∧ o < hx.length := by
  obtain ⟨us, h1, h2, h3, h4, _⟩ := r
  have hu := h2.chg c fun o e => hq o (h3 o e)
  have hq : vs = us := by
    have a := hu.rd.sread (by omega)
    have b := hv.rd.sread (by omega)
    rw [a] at b
    have : us.map AVal.sl = vs.map AVal.sl := Option.some.inj b
    exact (List.map_inj_right (fun a b e => by simpa using e) |>.1 this).symm
  subst hq
  intro v hm o e
  obtain ⟨i, hi⟩ := List.getElem?_of_mem hm
  obtain ⟨l, hl⟩ := mem_idx h1 hi
  obtain ⟨p, q⟩ := h4 i v l hi hl
  exact ⟨q o e, p.lt e⟩
theorem markInt64SS_c {n0 : Nat} {h0 : H} {s : Sl} {ls : List (List Int)} (r : NewSS n0 h0 s ls) {Q : Nat → Prop} (hP0 : ∀ vs : List Sl, Ow h0 s 1 (vs.map .sl) → ∀ v ∈ vs, ∀ o, v.o = some o → Q o) (k0 : Int) (hk0 : 0 ≤ k0) (hk1 : k0 ≤ 1000000000) (hl : ls.length < 1000000000) (hs : sumLen ls < 1000000000) :
    callI SP .i64 i_laws_markInt64SS [.sl s, i64 k0] h0 fun n h' => n = k0 + sumLen ls ∧ NewSS n0 h' s (marks k0 ls) ∧ Chg Q h0 h' ∧ h'.length = h0.length := by
  obtain ⟨vs, e1, e2, e3, e4, e5, e6⟩ := r
  have hlen : s.len = ls.length := by have := e2.len; simp at this; omega
  apply laws_markInt64SS_call
  unfold laws_markInt64SS_main
  refine laws_markInt64SS_rule0 _ _ _ (fun k i h => 0 ≤ i ∧ i ≤ ls.length ∧ k = k0 + sumLen (ls.take i.toNat) ∧ h.length = h0.length ∧ Chg Q h0 h ∧ Ow h s 1 (vs.map .sl) ∧
      (∀ (j : Nat) v l, vs[j]? = some v → ls[j]? = some l → Ow h v 1 (ic (if j < i.toNat then upto (k0 + sumLen (ls.take j)) l.length else l)))) (fun k i _ => (ls.length - i).toNat) ?_ _ _
      ⟨by omega, by omega, by simp [sumLen], rfl, Chg.refl _ _, e2, fun j v l a b => by rw [if_neg (by omega)]; exact (e4 j v l a b).1⟩
  rintro X k i h ⟨i0, i1, rfl, hh, c, os, ov⟩ hX
  unfold laws_markInt64SS_b0 laws_markInt64SS_C0
  refine bif_dec (fun hi => ?_) (fun hi => ?_)
  · refine os.rd.ldS i0 (by omega) fun v hv => ?_
    obtain ⟨l, hl'⟩ := mem_idx e1 hv
    have o1 := ov i.toNat v l hv hl'
    rw [if_neg (by omega)] at o1
    have hvl := o1.rd.ilen
    have hll := sumLen_mem (List.mem_of_getElem? hl')
    have htk := sumLen_take_le ls i.toNat
    refine (markInt64S_c o1 _ (by omega) (by omega) (by omega)).to ?_
    rintro _ h2 ⟨rfl, o2, b2, n2⟩
    rw [w64_of (by omega) (by omega)]
    have hP : ∀ o, v.o = some o → Q o := fun o e => hP0 vs e2 v (List.mem_of_getElem? hv) o e
    refine hX _ _ _ ⟨by omega, by omega, ?_, by omega, c.trans (b2.chg hP), ?_, fun j w l' hw hl2 => ?_⟩ (by omega)
    · rw [show (i + 1).toNat = i.toNat + 1 by omega, sumLen_take _ _ _ hl', hvl]; push_cast; omega
    · refine os.but b2 ?_
      cases hq : v.o with
      | none => exact .inr rfl
      | some o => exact .inl fun e => e6 _ v hv o hq e.symm
    · by_cases hj : j = i.toNat
      · subst hj
        rw [hv] at hw; cases hw
        rw [hl'] at hl2; cases hl2
        rw [if_pos (by omega), ← hvl]; exact o2
      · have := ov j w l' hw hl2
        refine Ow.but (o := v.o) ?_ b2 ?_
        · by_cases hc : j < i.toNat
          · rw [if_pos (by omega)]; rw [if_pos hc] at this; exact this
          · rw [if_neg (by omega)]; rw [if_neg hc] at this; exact this
        · cases hq : v.o with
          | none => exact .inr rfl
          | some o => exact .inl fun e => e5 _ _ v w (fun e => hj e.symm) hv hw o hq e.symm
  · have : i.toNat = ls.length := by omega
    refine ⟨_, rfl, by rw [this, List.take_length], ⟨vs, by rw [marks_len, e1], os, e3, fun j v l a b => ?_, e5, e6⟩, c, hh⟩
    obtain ⟨l', hl'⟩ := mem_idx e1 a
    rw [marks_at ls k0 j l' hl'] at b
    cases b
    have hj := (List.getElem?_eq_some_iff.1 hl').1
    have := ov j v l' a hl'
    rw [if_pos (by omega)] at this
    exact ⟨this, (e4 j v l' a hl').2⟩
theorem heldInt64SS_c {h0 : H} {s : Sl} {ls : List (List Int)} (k0 : Int) (hk0 : 0 ≤ k0) (hk1 : k0 ≤ 1000000000) (r : RdSS h0 s (marks k0 ls)) (hl : ls.length < 1000000000) (hs : sumLen ls < 1000000000) :
    callI SP .i64 i_laws_heldInt64SS [.sl s, i64 k0] h0 fun n h' => n = k0 + sumLen ls ∧ h' = h0 := by
  have hlen := r.len
  rw [marks_len] at hlen
  apply laws_heldInt64SS_call
  unfold laws_heldInt64SS_main
  refine laws_heldInt64SS_rule0 _ _ _ (fun k i h => 0 ≤ i ∧ i ≤ ls.length ∧ k = k0 + sumLen (ls.take i.toNat) ∧ h = h0) (fun k i _ => (ls.length - i).toNat) ?_ _ _ ⟨by omega, by omega, by simp [sumLen], rfl⟩
  rintro X k i _ ⟨i0, i1, rfl, rfl⟩ hX
  unfold laws_heldInt64SS_b0 laws_heldInt64SS_C0
  refine bif_dec (fun hi => ?_) (fun hi => ?_)
  · refine r.ld i0 (by rw [marks_len]; omega) fun v m hv rv lv => ?_
    obtain ⟨l, hl'⟩ : ∃ l, ls[i.toNat]? = some l := ⟨ls[i.toNat]'(by omega), List.getElem?_eq_getElem (by omega)⟩
    rw [marks_at ls k0 _ l hl'] at hv
    cases hv
    rw [upto_len] at lv
    have hll := sumLen_mem (List.mem_of_getElem? hl')
    have htk := sumLen_take_le ls i.toNat
    refine (heldInt64S_c _ (by omega) (by omega) (by rw [lv]; exact rv) (by omega)).to ?_
    rintro _ _ ⟨rfl, rfl⟩
    refine bif_dec (fun hq => by omega) (fun _ => ?_)
    rw [w64_of (by omega) (by omega)]
    refine hX _ _ _ ⟨by omega, by omega, ?_, rfl⟩ (by omega)
    rw [show (i + 1).toNat = i.toNat + 1 by omega, sumLen_take _ _ _ hl', lv]; push_cast; omega
  · have : i.toNat = ls.length := by omega
    exact ⟨_, rfl, by rw [this, List.take_length], rfl⟩
end Go.Proofs.Ytdmhchgaeepdmaa.Cl
