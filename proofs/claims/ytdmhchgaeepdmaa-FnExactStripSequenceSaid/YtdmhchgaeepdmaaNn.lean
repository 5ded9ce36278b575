/- Contracts of the reference's StripSequence. No claim is stated here. -/
import Derived.Test.YtdmhchgaeepdmaaNm
set_option linter.unusedVariables false
set_option linter.unusedSimpArgs false
namespace Go.Proofs.Ytdmhchgaeepdmaa.Cl
open Go
theorem pushI3 {h : H} {s : Sl} {l : List Int} {x : Int} (r : Ow h s 1 (ic l)) (hl : (l.length : Int) + 1 ≤ lim) {K : Sl → H → Prop}
    (hk : ∀ s' h', Ow h' s' 1 (ic (l ++ [x])) → But s.o h h' → (∀ o, s.o = some o → s'.o = some o) → K s' h') : newS 1 1 [.int .i64 x] h fun t h1 => app s t 1 h1 K := by
  refine newS_ow (by rfl) fun t h1 ot tl to e1 => ?_
  have e1' : Ext h h1 := by rw [e1]; exact Ext.app _ _
  have hsl := r.rd.ilen
  exact app_ow (by omega) (r.ext e1') ot.rd (by rw [tl, hsl]; exact_mod_cast hl) fun s' h' o' ln b k1 k2 => hk s' h' (by rw [ic_app]; exact o') ((e1'.but _).trans b) k1
section
variable {h0 : H} {u w : Sl} {L : List (Int × Int × Int)} {N : Nat} {now : List Int}
theorem l06Step_c (rd : RdSS h0 u (col3 L)) (rn : Rd h0 w 1 (ic now)) (hN : now.length = N) (hN2 : N ≤ 1000000) (hb : Bd 1000000000000001 now) (hL : L.length ≤ 1000000) (hcb : ∀ e ∈ L.map pr, (0 ≤ e.1 ∧ e.1 < N) ∧ 0 ≤ e.2 ∧ e.2 < N) :
    callS SP i_spec_l06Step [.sl u, .sl w] h0 fun z h' => Ow h' z 1 (ic (stepL fS (L.map pr) N now)) ∧ Fr h0.length z ∧ Ext h0 h' := by
  have hul := rd.len
  rw [col3_len] at hul
  have hwl := rn.ilen
  apply spec_l06Step_call
  unfold spec_l06Step_main
  refine mkS_ow (by omega) (by unfold lim; omega) fun v h2 ov lv vo e2 => ?_
  have x2 : Ext h0 h2 := by rw [e2]; exact Ext.app _ _
  rw [show (List.replicate ((w.len : Int)).toNat [i64 0]).flatten = ic (List.replicate N 0) from by
    rw [show ((w.len : Int)).toNat = N by omega]
    induction N with
    | zero => rfl
    | succ z _ => simp [ic, List.map_replicate]] at ov
  have hvf : Fr h0.length v := fun o e => by rw [vo] at e; cases e; exact Nat.le_refl _
  generalize hes : L.map pr = es at *
  have hel : es.length = L.length := by rw [← hes]; simp
  refine spec_l06Step_rule0 _ _ _ _ _ (fun j g' => ∃ z : Nat, j = z ∧ z ≤ es.length ∧ Ow g' v 1 (ic ((es.take z).foldl (stp fS now) (List.replicate N 0))) ∧ Ext h0 g') (fun j _ => (es.length - j).toNat) ?_ _ ⟨0, rfl, by omega, ov, x2⟩
  rintro Y _ g' ⟨z, rfl, hz, ov, e⟩ hY
  unfold spec_l06Step_b0 spec_l06Step_C0
  have hfold := fold_stp fitS hb (es.take z) (List.replicate N 0) (bd_zero (by decide) N)
  refine bif_dec (fun hi => ?_) (fun hi => ?_)
  rotate_left
  · rw [show z = es.length by omega, List.take_length] at ov
    exact ⟨_, rfl, ov, hvf, e⟩
  have hz' : z < es.length := by omega
  have hzc : z < L.length := by omega
  have hez : es[z] = (L[z].1, L[z].2.1) := by
    have := getD_map_pr hzc
    simp only [← hes]
    exact this
  have hb' := hcb es[z] (List.getElem_mem hz')
  rw [hez] at hb'
  simp only at hb'
  have rd3 : ∀ {q : Nat} {K : Int → Prop}, q < 3 → K ([L[z].1, L[z].2.1, L[z].2.2].getD q 0) → ixS u 1 (z : Int) fun p => Cl.ldS p g' fun v => ixS v 1 (q : Int) fun p => Cl.ldI .i64 p g' K := fun {q K} hq hk => by
    refine (rd.ext e).ldG (by omega) (by rw [col3_len]; omega) fun v rv lv => ?_
    rw [Int.toNat_natCast, col3_row hzc] at rv
    exact rv.ldG (by omega) (by simp; omega) (by rw [Int.toNat_natCast]; exact hk)
  refine rd3 (q := 0) (by omega) ?_
  refine rd3 (q := 1) (by omega) ?_
  show ixS v 1 L[z].2.1 _
  have q1 := hfold.1 L[z].2.1.toNat
  have q2 := hb L[z].1.toNat
  refine ov.rd.ldG hb'.2.1 (by rw [hfold.2]; simp; omega) ?_
  show ixS w 1 L[z].1 _
  refine (rn.ext e).ldG hb'.1.1 (by omega) ?_
  show ixS v 1 L[z].2.1 _
  refine ov.stI hb'.2.1 (by have := ov.rd.ilen; rw [hfold.2] at this; simp at this; omega) _ fun g5 o5 b5 l5 => ?_
  rw [w64_of (n := (z : Int) + 1) (by omega) (by omega)]
  refine hY _ _ ⟨z + 1, by push_cast; rfl, by omega, ?_, e.but_ b5 fun o' e' => hvf o' e'⟩ (by omega)
  rw [foldl_take _ _ hz', hez]
  rw [w64_of (by omega) (by omega)] at o5
  exact o5
theorem l02Total_c (rn : Rd h0 w 1 (ic now)) (hN : now.length ≤ 1000000) (hb : Bd 1000000000000001 now) {K : Int → H → Prop} (hk : K (totL fS now) h0) : callI SP .i64 i_spec_l02Total [.sl w] h0 K := by
  have hwl := rn.ilen
  refine (show callI SP .i64 i_spec_l02Total [.sl w] h0 fun m h' => m = totL fS now ∧ h0 = h' from ?_).to (by rintro _ _ ⟨rfl, rfl⟩; exact hk)
  apply spec_l02Total_call
  unfold spec_l02Total_main
  refine spec_l02Total_rule0 _ _ _ (fun a j g2 => ∃ z : Nat, j = z ∧ z ≤ now.length ∧ a = (now.take z).foldl (fun s x => fS (s + x)) 0 ∧ h0 = g2) (fun _ j _ => (now.length - j).toNat) ?_ _ _ ⟨0, rfl, by omega, rfl, rfl⟩
  rintro Z _ _ _ ⟨z, rfl, hz, rfl, rfl⟩ hZ
  unfold spec_l02Total_b0 spec_l02Total_C0
  have ht := totL_bd fitS hb z hz
  refine bif_dec (fun hi => ?_) (fun hi => ?_)
  · have hz' : z < now.length := by omega
    have q1 := hb z
    refine rn.ldG (by omega) (by omega) ?_
    rw [Int.toNat_natCast, w64_of (n := (z : Int) + 1) (by omega) (by omega), w64_of (by omega) (by omega)]
    refine hZ _ _ _ ⟨z + 1, by push_cast; rfl, by omega, ?_, rfl⟩ (by omega)
    rw [foldl_take _ _ hz', List.getD_eq_getElem?_getD, List.getElem?_eq_getElem hz']
    rfl
  · rw [show z = now.length by omega, List.take_length]
    exact ⟨_, rfl, rfl, rfl⟩
theorem l02Each_c (hN : N ≤ 1000000) : callS SP i_spec_l02Each [i64 N] h0 fun z h' => Ow h' z 1 (ic (List.replicate N 1)) ∧ Fr h0.length z ∧ Ext h0 h' := by
  apply spec_l02Each_call
  unfold spec_l02Each_main
  refine newS_ow (by rfl) fun v h2 ov lv vo e2 => ?_
  have x2 : Ext h0 h2 := by rw [e2]; exact Ext.app _ _
  refine spec_l02Each_rule0 _ _ _ (fun v j g => ∃ z : Nat, j = z ∧ z ≤ N ∧ Ow g v 1 (ic (List.replicate z 1)) ∧ Fr h0.length v ∧ Ext h0 g) (fun _ j _ => (N - j).toNat) ?_ _ _ ⟨0, rfl, by omega, ov, (fun o e => by rw [vo] at e; cases e; exact Nat.le_refl _), x2⟩
  rintro Z v _ g ⟨z, rfl, hz, ov, fv, x⟩ hZ
  unfold spec_l02Each_b0 spec_l02Each_C0
  refine bif_dec (fun hi => ?_) (fun hi => ⟨_, rfl, by rw [show N = z by omega]; exact ov, fv, x⟩)
  refine pushI ov (by simp; unfold lim; omega) fun v' g' ov' bv fv' => ?_
  rw [w64_of (by omega) (by omega)]
  refine hZ _ _ _ ⟨z + 1, by push_cast; rfl, by omega, by rw [List.replicate_succ']; exact ov', fv' _ fv x.len, x.but_ bv (fun o e => fv o e)⟩ (by omega)
end
section
variable {h0 : H} {c : Int} {s : Sl} {ts : List Tile} {a n : Int}
theorem spec_StripSequence_c (r : Rd h0 s 4 (tcs ts)) (sz : ts.length ≤ 1048576) (ba : i64ok a) (bn : i64ok n) :
    callV SP i_spec_StripSequence [.agg (SetC c s), i64 a, i64 n] h0 fun v h' => ∃ w, v = .tuple [.sl w, i64 (codeQ c ts a n)] ∧ Ow h' w 1 (ic (F_StripSequence_0 c ts a n)) ∧ Fr h0.length w ∧ Ext h0 h' := by
  have fin : ∀ {h' : H} (k : Int), codeQ c ts a n ≠ 0 → k = codeQ c ts a n → Ext h0 h' → ∃ w, AVal.tuple [.sl Sl.nil, i64 k] = .tuple [.sl w, i64 (codeQ c ts a n)] ∧ Ow h' w 1 (ic (F_StripSequence_0 c ts a n)) ∧ Fr h0.length w ∧ Ext h0 h' := fun k hq hk x =>
    ⟨_, by rw [hk], by rw [F_StripSequence_0, sel0_no hq]; exact Ow.nil _ _, Fr.nil _, x⟩
  apply spec_StripSequence_call
  unfold spec_StripSequence_main
  refine newK_obj fun h1 o1 x1 l1 => ?_
  refine o1.ldA rfl ?_
  refine (l06Code_c (n := a) (r.ext x1) sz).to ?_
  rintro _ h3 ⟨u, rfl, hu, hu0, x3⟩
  refine ⟨_, rfl, _, rfl, _, rfl, _, rfl, ?_⟩
  have X3 := x1.trans x3
  refine bif_ne (fun hq1 => ?_) (fun hq1 => ?_)
  rotate_left
  · have hs : ¬ setOK c ts := fun hs => by
      by_cases h4 : 1 ≤ a ∧ a ≤ 4
      · have h0 := codeOf_yes hs h4
        by_cases d : c ^ a.toNat > 700 ∨ 5000 < (colsOf c ts a).length
        · rw [codeS_3 h0 d] at hq1; cases hq1
        · rw [codeS_0 h0 d] at hq1; cases hq1
      · rw [codeS_no (by rw [codeOf_range hs h4]; decide), codeOf_range hs h4] at hq1; cases hq1
    have hc : codeOf (setOK c ts) (SizeS a n) = 1 := codeOf_no hs
    have hQ : codeQ c ts a n = 1 := by rw [codeQ_1 (by rw [hc]; decide), hc]
    rw [hq1]
    refine bif_ne (x := 1) (y := 0) (fun _ => ?_) (fun f => absurd f (by decide))
    exact fin 1 (by rw [hQ]; decide) hQ.symm X3
  have hs : setOK c ts := Classical.byContradiction fun hs => hq1 (by rw [codeS_no (by rw [codeOf_no hs]; decide), codeOf_no hs])
  refine l01In_k ?_
  refine bif_not (fun hr => ?_) (fun hr => ?_)
  · have hc : codeOf (setOK c ts) (SizeS a n) = 2 := codeOf_range hs fun f => of_decide_eq_false hr f.2
    have hQ : codeQ c ts a n = 2 := by rw [codeQ_1 (by rw [hc]; decide), hc]
    refine bif_ne (x := 2) (y := 0) (fun _ => ?_) (fun f => absurd f (by decide))
    exact fin 2 (by rw [hQ]; decide) hQ.symm X3
  have hn1 : 1 ≤ n ∧ n ≤ 30 := of_decide_eq_true hr
  refine bif_ne (fun h2 => ?_) (fun h2 => ?_)
  · by_cases h4 : 1 ≤ a ∧ a ≤ 4
    · have hQ := codeQ_2 (n := n) (codeOf_yes hs ⟨h4, hn1⟩) h2
      exact fin _ (by rw [hQ]; exact h2) hQ.symm X3
    · have hc : codeOf (setOK c ts) (SizeS a n) = 2 := codeOf_range hs fun f => h4 f.1
      have hQ : codeQ c ts a n = 2 := by rw [codeQ_1 (by rw [hc]; decide), hc]
      have hS : codeS c ts a = 2 := by rw [codeS_no (by rw [codeOf_range hs h4]; decide), codeOf_range hs h4]
      exact fin _ (by rw [hQ]; decide) (by rw [hQ, hS]) X3
  have ok := codeS_ok h2
  have T := hs.ts
  obtain ⟨H_, rfl⟩ : ∃ H_ : Nat, a = H_ := ⟨a.toNat, by have := ok.hh; omega⟩
  have hHH := ok.hh
  have hq := codeOf_yes hs (⟨hHH, hn1⟩ : SizeS (H_ : Int) n)
  have hof : colsOf c ts (H_ : Int) = colP c ts H_ (-1) 0 0 := by unfold colsOf; rw [Int.toNat_natCast]
  have hp1 := pow_small4 (n := H_) T.1 hs.1.2 (by omega)
  obtain ⟨N, hN⟩ : ∃ N : Nat, (N : Int) = c ^ H_ := ⟨(c ^ H_).toNat, by omega⟩
  have rdu := hu h2
  rw [Int.toNat_natCast] at rdu
  have hln := ok.ln
  rw [hof, ← lay_len] at hln
  change (layN c ts H_ lay0).length ≤ 5000 at hln
  have hstr : strS c ts (H_ : Int) n = seqL fS ((layN c ts H_ lay0).map pr) N n.toNat (List.replicate N 1) := by
    unfold strS
    rw [hof, lay_pr, Int.toNat_natCast, show (c ^ H_).toNat = N by omega]
  have hcb : ∀ e ∈ (layN c ts H_ lay0).map pr, (0 ≤ e.1 ∧ e.1 < N) ∧ 0 ≤ e.2 ∧ e.2 < N := fun e he => by
    rw [lay_pr] at he
    have := colP_bound T H_ (-1) 0 0 1 (by omega) (by omega) e he
    rw [Int.one_mul, ← hN] at this
    exact this
  refine (o1.ext x3).ldA rfl ?_
  refine (l06Size_c (s := s) T.1 hs.1.2 (H_ := H_) (by omega)).to ?_
  rintro _ h8 ⟨rfl, x8⟩
  rw [← hN]
  refine (l02Each_c (N := N) (by omega)).to ?_
  rintro w h14 ⟨ow, fw, x14⟩
  refine newS_ow (by rfl) fun z h17 oz lz zo e17 => ?_
  have x17 : Ext h14 h17 := by rw [e17]; exact Ext.app _ _
  have E17 := (x8.trans x14).trans x17
  have X3l := X3.len
  have E14l := (x8.trans x14).len
  refine spec_StripSequence_rule0 _ _ _ _ (fun w z i g => ∃ (k : Nat) (now out : List Int), i = k ∧ k ≤ n.toNat ∧ Ow g w 1 (ic now) ∧ now.length = N ∧ Bd 1000000000000001 now ∧ Ow g z 1 (ic out) ∧ z.o = some h14.length ∧ (∀ o, w.o = some o → o ≠ h14.length) ∧ out.length = k ∧ (∀ y ∈ out, y ≤ topS) ∧ seqL fS ((layN c ts H_ lay0).map pr) N n.toNat (List.replicate N 1) = out ++ seqL fS ((layN c ts H_ lay0).map pr) N (n.toNat - k) now ∧ Ext h3 g ∧ h17.length ≤ g.length) (fun _ _ i _ => (n - i).toNat) ?_ _ _ _
    ⟨0, List.replicate N 1, [], rfl, by omega, ow.ext x17, by simp, bd_one (by decide) N, oz, zo, (fun o e => by have := ow.lt e; omega), rfl, (fun y hy => by simp at hy), by simp, E17, Nat.le_refl _⟩
  rintro Y w z _ g ⟨k, now, out, rfl, hk, ow, hnl, hbd, oz, zo, hwz, hol, hall, hseq, xg, gl⟩ hY
  unfold spec_StripSequence_b0 spec_StripSequence_C0
  have x17l := x17.len
  have zl := oz.lt zo
  refine bif_dec (fun hi => ?_) (fun hi => ?_)
  rotate_left
  · rw [show n.toNat - k = 0 by omega, seqL, List.append_nil, ← hstr] at hseq
    have hQ := codeQ_0 hq h2 (by rw [hseq]; exact hall)
    refine ⟨z, by rw [hQ], ?_, (fun o e => by rw [zo] at e; have := Option.some.inj e; omega), X3.trans xg⟩
    rw [F_StripSequence_0, sel0_yes hQ, hseq]
    exact oz
  refine (l06Step_c (rdu.ext xg) ow.rd hnl (by omega) hbd (by omega) hcb).to ?_
  rintro v g0 ⟨ov, fv, y0⟩
  have hst := stepL_bd fitS (es := (layN c ts H_ lay0).map pr) (N := N) hbd
  refine l02Total_c ov.rd (by rw [hst.2]; omega) hst.1 ?_
  rw [show n.toNat - k = (n.toNat - (k + 1)) + 1 by omega, seqL] at hseq
  refine bif_dec (fun hg => ?_) (fun hg => ?_)
  · have hQ := codeQ_3 hq h2 (fun f => by
      have := f (totL fS (stepL fS ((layN c ts H_ lay0).map pr) N now)) (by rw [hstr, hseq]; simp)
      unfold topS at this
      omega)
    exact fin 3 (by rw [hQ]; decide) hQ.symm ((X3.trans xg).trans y0)
  · have y0l := y0.len
    refine pushI3 (oz.ext y0) (by unfold lim; omega) fun z' g7 oz' bz fz => ?_
    have bzo : ∀ o, z.o = some o → o = h14.length := fun o e => by rw [zo] at e; exact (Option.some.inj e).symm
    rw [w64_of (by omega) (by omega)]
    have hz'o : z'.o = some h14.length := fz _ zo
    refine hY _ _ _ _ ⟨k + 1, _, out ++ [totL fS (stepL fS ((layN c ts H_ lay0).map pr) N now)], by push_cast; rfl, by omega, ov.but bz (.inl (by rw [zo]; intro e; have := fv _ e.symm; omega)), hst.2, hst.1, oz', hz'o, (fun o e => by have := fv o e; omega), by simp [hol], (fun y hy => ?_), by rw [hseq, List.append_assoc]; rfl, (xg.trans y0).but_ bz (fun o e => by have := bzo o e; omega), by have := bz.1; omega⟩ (by omega)
    rcases List.mem_append.1 hy with hy | hy
    · exact hall y hy
    · simp at hy; rw [hy]; unfold topS; omega
end
end Go.Proofs.Ytdmhchgaeepdmaa.Cl
