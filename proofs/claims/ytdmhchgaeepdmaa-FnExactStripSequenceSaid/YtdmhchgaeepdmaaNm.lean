/- Contracts of StripSequence. No claim is stated here. -/
import Derived.Test.YtdmhchgaeepdmaaNl
set_option linter.unusedVariables false
set_option linter.unusedSimpArgs false
namespace Go.Proofs.Ytdmhchgaeepdmaa.Cl
open Go
abbrev topS : Int := 1000000000000000
def fS (x : Int) : Int := mnI x 1000000000000001
theorem fitS : Fit fS 1000000000000001 := ⟨by decide, by decide, fun x h => by unfold fS mnI; split <;> omega⟩
def gS (n : Int) (t : List Int × Bool) (y : Int) : (List Int × Bool) × Bool := ((t.1 ++ [y], t.2 && decide (y ≤ topS)), (t.2 && decide (y ≤ topS)) && decide (((t.1.length + 1 : Nat) : Int) < n))
theorem runQ_S {es : List (Int × Int)} {N : Nat} {n : Int} : ∀ (j m : Nat) (now out : List Int), 1 ≤ j → j ≤ m → ((out.length + j : Nat) : Int) = n →
    ((∀ y ∈ seqL fS es N j now, y ≤ topS) → runQ fS es N (gS n) m (out, true) now = (out ++ seqL fS es N j now, true)) ∧ (¬ (∀ y ∈ seqL fS es N j now, y ≤ topS) → (runQ fS es N (gS n) m (out, true) now).2 = false)
  | 0, m, now, out, h, _, _ => by omega
  | j + 1, 0, now, out, _, h, _ => by omega
  | j + 1, m + 1, now, out, h1, h2, hn => by
    rw [runQ, seqL]
    generalize totL fS (stepL fS es N now) = y
    by_cases hy : y ≤ topS
    · have e1 : (gS n (out, true) y).1 = (out ++ [y], true) := by simp [gS, hy]
      cases j with
      | zero =>
        have e2 : (gS n (out, true) y).2 = false := by
          have : ¬ (((out.length + 1 : Nat) : Int) < n) := by omega
          simp only [gS, decide_eq_false this, Bool.and_false]
        rw [if_neg (by rw [e2]; decide), e1]
        exact ⟨fun _ => rfl, fun f => absurd (fun z hz => by simp [seqL] at hz; rw [hz]; exact hy) f⟩
      | succ j =>
        have e2 : (gS n (out, true) y).2 = true := by
          have : ((out.length + 1 : Nat) : Int) < n := by omega
          simp only [gS, decide_eq_true this, decide_eq_true hy]; rfl
        rw [if_pos e2, e1]
        have ih := runQ_S (es := es) (N := N) (n := n) (j + 1) m (stepL fS es N now) (out ++ [y]) (by omega) (by omega) (by simp; omega)
        refine ⟨fun f => ?_, fun f => ih.2 fun g => f fun z hz => ?_⟩
        · rw [ih.1 fun z hz => f z (by simp [hz])]; simp
        · rcases List.mem_cons.1 hz with rfl | hz
          · exact hy
          · exact g z hz
    · have e1 : (gS n (out, true) y).1 = (out ++ [y], false) := by simp [gS, hy]
      have e2 : (gS n (out, true) y).2 = false := by simp [gS, hy]
      rw [if_neg (by rw [e2]; decide), e1]
      exact ⟨fun f => absurd (f y (by simp)) hy, fun _ => rfl⟩
theorem seqL_len {f : Int → Int} {es : List (Int × Int)} {N : Nat} : ∀ (k : Nat) (now : List Int), (seqL f es N k now).length = k
  | 0, _ => rfl
  | k + 1, now => by rw [seqL, List.length_cons, seqL_len k]
/-- The numbers of a strip's sequence. -/
def strS (c : Int) (ts : List Tile) (a n : Int) : List Int := seqL fS (colsOf c ts a) (c ^ a.toNat).toNat n.toNat (List.replicate (c ^ a.toNat).toNat 1)
def SizeS (a n : Int) : Prop := (1 ≤ a ∧ a ≤ 4) ∧ 1 ≤ n ∧ n ≤ 30
open Classical in
noncomputable def codeQ (c : Int) (ts : List Tile) (a n : Int) : Int := if codeOf (setOK c ts) (SizeS a n) ≠ 0 then codeOf (setOK c ts) (SizeS a n) else if codeS c ts a ≠ 0 then codeS c ts a else if ∀ y ∈ strS c ts a n, y ≤ topS then 0 else 3
theorem codeQ_1 {c : Int} {ts : List Tile} {a n : Int} (h : codeOf (setOK c ts) (SizeS a n) ≠ 0) : codeQ c ts a n = codeOf (setOK c ts) (SizeS a n) := by unfold codeQ; rw [if_pos h]
theorem codeQ_2 {c : Int} {ts : List Tile} {a n : Int} (h : codeOf (setOK c ts) (SizeS a n) = 0) (h2 : codeS c ts a ≠ 0) : codeQ c ts a n = codeS c ts a := by unfold codeQ; rw [if_neg (by rw [h]; decide), if_pos h2]
theorem codeQ_3 {c : Int} {ts : List Tile} {a n : Int} (h : codeOf (setOK c ts) (SizeS a n) = 0) (h2 : codeS c ts a = 0) (h3 : ¬ ∀ y ∈ strS c ts a n, y ≤ topS) : codeQ c ts a n = 3 := by unfold codeQ; rw [if_neg (by rw [h]; decide), if_neg (by rw [h2]; decide), if_neg h3]
theorem codeQ_0 {c : Int} {ts : List Tile} {a n : Int} (h : codeOf (setOK c ts) (SizeS a n) = 0) (h2 : codeS c ts a = 0) (h3 : ∀ y ∈ strS c ts a n, y ≤ topS) : codeQ c ts a n = 0 := by unfold codeQ; rw [if_neg (by rw [h]; decide), if_neg (by rw [h2]; decide), if_pos h3]
noncomputable def F_StripSequence_0 (c : Int) (ts : List Tile) (a n : Int) : List Int := sel0 (codeQ c ts a n = 0) (strS c ts a n)
theorem StripSequence_small0 {c : Int} {ts : List Tile} {a n : Int} (sz : ts.length ≤ 1048576) (ba : i64ok a) (bn : i64ok n) : (F_StripSequence_0 c ts a n).length < 1000000 := by
  by_cases h : codeQ c ts a n = 0
  · rw [F_StripSequence_0, sel0_yes h, strS, seqL_len]
    by_cases h1 : codeOf (setOK c ts) (SizeS a n) = 0
    · have := (codeOf_zero h1).2.2
      omega
    · rw [codeQ_1 h1] at h; exact absurd h h1
  · rw [F_StripSequence_0, sel0_no h]; decide
section
variable {h0 : H} {c : Int} {s : Sl} {ts : List Tile} {a n : Int}
theorem impl_StripSequence_c (r : Rd h0 s 4 (tcs ts)) (sz : ts.length ≤ 1048576) (ba : i64ok a) (bn : i64ok n) :
    callV SP i_impl_StripSequence [.agg (SetC c s), i64 a, i64 n] h0 fun v h' => ∃ w, v = .tuple [.sl w, i64 (codeQ c ts a n)] ∧ Ow h' w 1 (ic (F_StripSequence_0 c ts a n)) ∧ Fr h0.length w ∧ Ext h0 h' := by
  have fin : ∀ {h' : H} (k : Int), codeQ c ts a n ≠ 0 → k = codeQ c ts a n → Ext h0 h' → ∃ w, AVal.tuple [.sl Sl.nil, i64 k] = .tuple [.sl w, i64 (codeQ c ts a n)] ∧ Ow h' w 1 (ic (F_StripSequence_0 c ts a n)) ∧ Fr h0.length w ∧ Ext h0 h' := fun k hq hk x =>
    ⟨_, by rw [hk], by rw [F_StripSequence_0, sel0_no hq]; exact Ow.nil _ _, Fr.nil _, x⟩
  apply impl_StripSequence_call
  unfold impl_StripSequence_main
  refine newK_obj fun h1 o1 x1 l1 => ?_
  refine newO_var fun h3 v3 x3 l3 => ?_
  refine newO_var fun h5 v5 x5 l5 => ?_
  have o5 := o1.ext (x3.trans x5)
  have w3 := v3.ext x5
  have X5 := x1.trans (x3.trans x5)
  refine o5.ldA rfl ?_
  refine (setCode_c (r.ext X5) (by omega) _ _ (SizeS a n) fun _ h x => ?_).to ?_
  · apply impl_StripSequence_1_call
    unfold impl_StripSequence_1_main
    refine (w3.ext x).ldI ?_
    refine within_k ?_
    refine bif_dec (fun q1 => ?_) (fun q1 => ⟨_, rfl, ⟨(fun f => by cases f), fun f => absurd f.1 q1⟩, Ext.refl _⟩)
    refine (v5.ext x).ldI ?_
    refine within_k ?_
    exact ⟨_, rfl, ⟨fun f => ⟨q1, of_decide_eq_true f⟩, fun f => decide_eq_true f.2⟩, Ext.refl _⟩
  rintro _ h7 ⟨rfl, x7⟩
  have X7 := X5.trans x7
  refine bif_ne (fun hq => fin _ (by rw [codeQ_1 hq]; exact hq) (codeQ_1 hq).symm X7) (fun hq => ?_)
  have hs := codeOf_zero hq
  have T := hs.1.ts
  refine (o5.ext x7).ldA rfl ?_
  refine (w3.ext x7).ldI ?_
  refine (stripOf_c (n := a) (r.ext X7) sz).to ?_
  rintro _ h11 ⟨p, rfl, hp, x11⟩
  refine ⟨_, rfl, _, rfl, _, rfl, _, rfl, ?_⟩
  have X11 := X7.trans x11
  refine bif_ne (fun h2 => fin _ (by rw [codeQ_2 hq h2]; exact h2) (codeQ_2 hq h2).symm X11) (fun h2 => ?_)
  obtain ⟨os, q, rfl, k⟩ := hp h2
  have ok := codeS_ok h2
  obtain ⟨H_, rfl⟩ : ∃ H_ : Nat, a = H_ := ⟨a.toNat, by have := hs.2.1; omega⟩
  have hof : colsOf c ts (H_ : Int) = colP c ts H_ (-1) 0 0 := by unfold colsOf; rw [Int.toNat_natCast]
  rw [Int.toNat_natCast] at k
  have hpw := ok.pw
  rw [Int.toNat_natCast] at hpw
  have hln := ok.ln
  rw [hof, ← colsI_len T] at hln
  have hHH := hs.2.1
  have hn1 := hs.2.2
  have hp1 := pow_small4 (n := H_) T.1 hs.1.1.2 (by omega)
  obtain ⟨N, hN⟩ : ∃ N : Nat, (N : Int) = c ^ H_ := ⟨(c ^ H_).toNat, by omega⟩
  refine newS_ow (by rfl) fun u h18 ou lu uo e18 => ?_
  have x18 : Ext h11 h18 := by rw [e18]; exact Ext.app _ _
  have l18 : h18.length = h11.length + 1 := by rw [e18]; simp
  refine newO_var fun h20 v20 x20 l20 => ?_
  refine newO_var fun h22 v22 x22 l22 => ?_
  refine (v20.ext x22).st _ fun h23 v23 b23 l23 => ?_
  have w22 := v22.but b23 (fun e => by have := Option.some.inj e; omega)
  refine w22.st _ fun h24 v24 b24 l24 => ?_
  have w23 := v23.but b24 (fun e => by have := Option.some.inj e; omega)
  have x24 : Ext h18 h24 := ((x20.trans x22).but_ b23 (some_le (Nat.le_refl _))).but_ b24 (some_le (by omega))
  have X24 : Ext h11 h24 := x18.trans x24
  have ou24 := ou.ext x24
  have vn : Var h24 h3.length (i64 n) := (v5.ext (x7.trans x11)).ext X24
  have l5' := (x7.trans x11).len
  let I : List Int × Bool → H → Prop := fun t h => ∃ u, Var h h18.length (.sl u) ∧ Ow h u 1 (ic t.1) ∧ u.o = some h11.length ∧ Var h h20.length (.bool t.2)
  have hinit : I ([], true) h24 := ⟨u, w23, ou24, uo, v24⟩
  let R := runQ fS ((colsI c ts H_).map pr) N (gS n) (n.toNat + 1) ([], true) (List.replicate N 1)
  have hrun := runQ_S (es := (colsI c ts H_).map pr) (N := N) (n := n) n.toNat (n.toNat + 1) (List.replicate N 1) [] (by omega) (by omega) (by simp; omega)
  have hstr : strS c ts (H_ : Int) n = seqL fS ((colsI c ts H_).map pr) N n.toNat (List.replicate N 1) := by
    unfold strS
    rw [hof, colsI_pr T, Int.toNat_natCast, show (c ^ H_).toNat = N by omega]
  rw [← hstr, List.nil_append] at hrun
  -- the sequence
  apply impl_strip_sequence_call
  unfold impl_strip_sequence_main
  refine newS_ow (by rfl) fun z g1 oz lz zo e1 => ?_
  have y1 : Ext h24 g1 := by rw [e1]; exact Ext.app _ _
  have k1 := k.ext (X24.trans y1)
  refine ⟨rfl, isPt_in (k1.o.ldI (i := 3) rfl rfl ?_)⟩
  refine (repeatI_c oz.rd (by omega) (by omega)).to ?_
  rintro w g3 ⟨ow, fw, y3⟩
  have hrep : List.replicate (c ^ H_).toNat (i64 1) = ic (List.replicate N 1) := by rw [show (c ^ H_).toNat = N by omega]; simp [ic, List.map_replicate]
  rw [hrep] at ow
  have y1l := y1.len
  have y3l := y3.len
  have Y3 := y1.trans y3
  have till : ∀ t h h', I t h → Till h24.length h h' → I t h' := fun t h h' ⟨u, a1, a2, a3, a4⟩ tl => ⟨u, a1.till tl (by omega), (by
    obtain ⟨p, q⟩ | ⟨o, p, b, cc, d, e⟩ := a2.at_
    · exact ⟨a2.len, .inl ⟨p, q⟩⟩
    · exact ⟨a2.len, .inr ⟨o, p, b, cc, d, tl.get e (by rw [a3] at p; have := Option.some.inj p; omega)⟩⟩), a3, a4.till tl (by omega)⟩
  refine seqLoop (σ := List Int × Bool) (g := gS n) (I := I) (J := fun t => ((t.1.length : Nat) : Int) < n) (n1 := h24.length) (capf := []) (capv := [.ptr (pt h18.length), .ptr (pt h20.length), .ptr (pt h3.length)]) k T hs.1.1.2 (by omega) hN fitS hln ?_ till (by have := X24.len; omega) (fun t y f => ?_) ?_ (fun t => (n - t.1.length).toNat) (fun t y f => ?_) (R := R) ?_ (n.toNat + 1) ([], true) (List.replicate N 1) w g3 (by simp) rfl (bd_one (by decide) N) (by simp) ow (fw.le (by omega)) (by show ((([] : List Int).length : Nat) : Int) < n; simp; omega) (till _ _ _ hinit (Y3.till _)) (X24.trans Y3) (by omega)
  · intro x h K _ _ hk
    refine (show callI SP .i64 i_impl_StripSequence_2 [i64 x] h fun m h' => m = fS x ∧ h' = h from ?_).to (by rintro _ _ ⟨rfl, rfl⟩; exact hk)
    apply impl_StripSequence_2_call
    unfold impl_StripSequence_2_main
    exact ⟨_, rfl, rfl, rfl⟩
  · simp only [gS, Bool.and_eq_true, decide_eq_true_eq] at f ⊢
    simp only [List.length_append, List.length_singleton]
    exact f.2
  · rintro t y h' jt ⟨u, i1, i2, i3, i4⟩ y0 yB x hh
    have jt' : ((t.1.length : Nat) : Int) < n := jt
    have vn' : Var h' h3.length (i64 n) := (v5.ext (x7.trans x11)).ext x
    have hul := i2.rd.ilen
    apply impl_StripSequence_3_call
    unfold impl_StripSequence_3_main
    refine i1.ldS ?_
    refine newS_ow (by rfl) fun z g2 oz lz zo e2 => ?_
    have y2 : Ext h' g2 := by rw [e2]; exact Ext.app _ _
    have y2l := y2.len
    refine ⟨y2.cellE i1.cell, ?_⟩
    have i1l := i1.lt
    have i4l := i4.lt
    refine app_ow (by omega) (i2.ext y2) oz.rd (by rw [lz, hul]; unfold lim; omega) fun u' g4 ou' lu' bu k1 k2 => ?_
    have huo : u'.o = some h11.length := k1 _ i3
    have i4g : Var g2 h20.length (.bool t.2) := i4.ext y2
    have i4' : Var g4 h20.length (.bool t.2) := i4g.but bu (by rw [i3]; intro e; have := Option.some.inj e; omega)
    have i1' : Var g4 h18.length (.sl u) := (i1.ext y2).but bu (by rw [i3]; intro e; have := Option.some.inj e; omega)
    have vn4 : Var g4 h3.length (i64 n) := (vn'.ext y2).but bu (by rw [i3]; intro e; have := Option.some.inj e; omega)
    refine i4'.ldB ⟨by rw [i4g.cell, i4'.cell], by rw [i4.cell, i4'.cell], ?_⟩
    have cg4 : Chg (fun i => h11.length ≤ i ∧ i < h24.length) h' g4 := (y2.chg _).trans (bu.chg fun i e => by rw [i3] at e; have := Option.some.inj e; omega)
    have fin2 : ∀ (b : Bool), b = (t.2 && decide (y ≤ topS)) → Cl.st1 (pt h18.length) (.sl u') g4 fun h6 => Cl.st1 (pt h20.length) (.bool b) h6 fun h7 => Cl.ldB (pt h20.length) h7 fun b8 => bif b8 then (Cl.ldS (pt h18.length) h7 fun s9 => Cl.ldI .i64 (pt h3.length) h7 fun n10 => (fun v h'' => ∃ b, v = AVal.bool b ∧ b = (gS n t y).2 ∧ I (gS n t y).1 h'' ∧ Chg (fun i => h11.length ≤ i ∧ i < h24.length) h' h'') (.bool (decide ((s9.len : Int) < n10))) h7) else (fun v h'' => ∃ b, v = AVal.bool b ∧ b = (gS n t y).2 ∧ I (gS n t y).1 h'' ∧ Chg (fun i => h11.length ≤ i ∧ i < h24.length) h' h'') (.bool false) h7 := fun b hb => by
      refine i1'.st _ fun h6 j6 b6 l6 => ?_
      have i46 := i4'.but b6 (fun e => by have := Option.some.inj e; omega)
      refine i46.st _ fun h7 j7 b7 l7 => ?_
      have j67 := j6.but b7 (fun e => by have := Option.some.inj e; omega)
      have vn7 := (vn4.but b6 (fun e => by have := Option.some.inj e; omega)).but b7 (fun e => by have := Option.some.inj e; omega)
      have ou7 : Ow h7 u' 1 (ic t.1 ++ [AVal.int .i64 y]) := (ou'.but b6 (.inl (by rw [huo]; intro e; have := Option.some.inj e; omega))).but b7 (.inl (by rw [huo]; intro e; have := Option.some.inj e; omega))
      have CG : Chg (fun i => h11.length ≤ i ∧ i < h24.length) h' h7 := (cg4.trans (b6.chg fun i e => by have := Option.some.inj e; omega)).trans (b7.chg fun i e => by have := Option.some.inj e; omega)
      have hI7 : I (gS n t y).1 h7 := ⟨u', j67, by show Ow h7 u' 1 (ic (t.1 ++ [y])); rw [ic_app]; exact ou7, huo, by show Var h7 h20.length (.bool (t.2 && decide (y ≤ topS))); rw [← hb]; exact j7⟩
      refine j7.ldB ?_
      have hg2 : (gS n t y).2 = (b && decide (((t.1.length + 1 : Nat) : Int) < n)) := by rw [hb]; rfl
      cases b with
      | true =>
        refine j67.ldS (vn7.ldI ⟨_, rfl, ?_, hI7, CG⟩)
        rw [hg2, lu', lz, hul]; rfl
      | false => exact ⟨_, rfl, by rw [hg2]; rfl, hI7, CG⟩
    refine bif_b (fun hb => ?_) (fun hb => ?_)
    · exact fin2 _ (by rw [hb]; rfl)
    · exact fin2 false (by rw [hb]; rfl)
  · simp only [gS, Bool.and_eq_true, decide_eq_true_eq] at f ⊢
    simp only [List.length_append, List.length_singleton]
    omega
  · rintro h' ⟨u, i1, i2, i3, i4⟩ x
    refine i4.ldB ?_
    by_cases hall : ∀ y ∈ strS c ts (H_ : Int) n, y ≤ topS
    · have hR := hrun.1 hall
      change R = _ at hR
      rw [hR] at i2 i4 ⊢
      refine bif_not (fun f => by cases f) (fun _ => i1.ldS ⟨_, by rw [codeQ_0 hq h2 hall], ?_, (fun o e => by rw [i3] at e; have := Option.some.inj e; have := X11.len; omega), X11.trans x⟩)
      rw [F_StripSequence_0, sel0_yes (codeQ_0 hq h2 hall)]
      exact i2
    · have hR : R.2 = false := hrun.2 hall
      rw [hR]
      have h3 := codeQ_3 hq h2 hall
      exact fin 3 (by rw [h3]; decide) h3.symm (X11.trans x)
end
end Go.Proofs.Ytdmhchgaeepdmaa.Cl
