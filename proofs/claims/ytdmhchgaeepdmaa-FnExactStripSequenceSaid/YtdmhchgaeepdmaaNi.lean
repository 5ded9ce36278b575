/- Contracts of the program's strips and of CountColumns. No claim is stated here. -/
import Derived.Test.YtdmhchgaeepdmaaNh
set_option linter.unusedVariables false
set_option linter.unusedSimpArgs false
namespace Go.Proofs.Ytdmhchgaeepdmaa.Cl
open Go
def colsI (c : Int) (ts : List Tile) (H_ : Nat) : List (Int × Int × Int) := colI c ts H_ H_ 0 0 0 0
theorem colsI_pr {c : Int} {ts : List Tile} (T : TS c ts) (H_ : Nat) : (colsI c ts H_).map pr = colP c ts H_ (-1) 0 0 := by
  unfold colsI
  rw [colI_pr T H_ H_ 0 0 0 0 (Nat.le_refl _) (fun f => by omega), if_pos rfl]
theorem colsI_len {c : Int} {ts : List Tile} (T : TS c ts) (H_ : Nat) : (colsI c ts H_).length = (colP c ts H_ (-1) 0 0).length := by rw [← colsI_pr T, List.length_map]
open Classical in
noncomputable def codeS (c : Int) (ts : List Tile) (h : Int) : Int := if codeOf (setOK c ts) (1 ≤ h ∧ h ≤ 4) = 0 then (if c ^ h.toNat > 700 ∨ 5000 < (colsOf c ts h).length then 3 else 0) else codeOf (setOK c ts) (1 ≤ h ∧ h ≤ 4)
theorem codeS_no {c : Int} {ts : List Tile} {h : Int} (q : codeOf (setOK c ts) (1 ≤ h ∧ h ≤ 4) ≠ 0) : codeS c ts h = codeOf (setOK c ts) (1 ≤ h ∧ h ≤ 4) := by unfold codeS; rw [if_neg q]
theorem codeS_3 {c : Int} {ts : List Tile} {h : Int} (q : codeOf (setOK c ts) (1 ≤ h ∧ h ≤ 4) = 0) (t : c ^ h.toNat > 700 ∨ 5000 < (colsOf c ts h).length) : codeS c ts h = 3 := by unfold codeS; rw [if_pos q, if_pos t]
theorem codeS_0 {c : Int} {ts : List Tile} {h : Int} (q : codeOf (setOK c ts) (1 ≤ h ∧ h ≤ 4) = 0) (t : ¬ (c ^ h.toNat > 700 ∨ 5000 < (colsOf c ts h).length)) : codeS c ts h = 0 := by unfold codeS; rw [if_pos q, if_neg t]
/-- What holds of a set and a height without an error. -/
structure StripOK (c : Int) (ts : List Tile) (h : Int) : Prop where
  set : setOK c ts
  hh : 1 ≤ h ∧ h ≤ 4
  pw : c ^ h.toNat ≤ 700
  ln : (colsOf c ts h).length ≤ 5000
theorem codeS_ok {c : Int} {ts : List Tile} {h : Int} (q : codeS c ts h = 0) : StripOK c ts h := by
  by_cases a : codeOf (setOK c ts) (1 ≤ h ∧ h ≤ 4) = 0
  · have b := codeOf_zero a
    by_cases d : c ^ h.toNat > 700 ∨ 5000 < (colsOf c ts h).length
    · rw [codeS_3 a d] at q; cases q
    · exact ⟨b.1, b.2, by omega, by omega⟩
  · rw [codeS_no a] at q; exact absurd q a
theorem StripOK.code {c : Int} {ts : List Tile} {h : Int} (k : StripOK c ts h) : codeS c ts h = 0 := codeS_0 (codeOf_yes k.set k.hh) fun f => by
  have := k.pw
  have := k.ln
  omega
/-- A strip in the heap. -/
structure Strip (h : H) (n : Nat) (c : Int) (s : Sl) (ts : List Tile) (H_ : Nat) (os : Nat) (q : Sl) : Prop where
  o : Obj h os (StripC c s H_ (c ^ H_) q)
  cols : Ow h q 3 (c3 (colsI c ts H_))
  fr : Fr n q
  os_ : n ≤ os
  ne : q.o ≠ some os
theorem Strip.ext {h h' : H} {n : Nat} {c : Int} {s : Sl} {ts : List Tile} {H_ os : Nat} {q : Sl} (k : Strip h n c s ts H_ os q) (x : Ext h h') : Strip h' n c s ts H_ os q := ⟨k.o.ext x, k.cols.ext x, k.fr, k.os_, k.ne⟩
theorem Strip.le {h : H} {n m : Nat} {c : Int} {s : Sl} {ts : List Tile} {H_ os : Nat} {q : Sl} (k : Strip h n c s ts H_ os q) (hm : m ≤ n) : Strip h m c s ts H_ os q := ⟨k.o, k.cols, k.fr.le hm, Nat.le_trans hm k.os_, k.ne⟩
theorem Strip.len {h : H} {n : Nat} {c : Int} {s : Sl} {ts : List Tile} {H_ os : Nat} {q : Sl} (k : Strip h n c s ts H_ os q) : q.len = (colsI c ts H_).length := by have := k.cols.len; rw [c3_len] at this; omega
section
variable {h0 : H} {c : Int} {s : Sl} {ts : List Tile} {H_ : Nat}
theorem newStrip_c (r : Rd h0 s 4 (tcs ts)) (T : TS c ts) (hc : c ≤ 6) (hN : ts.length ≤ 16) (hH : 1 ≤ H_ ∧ H_ ≤ 4) :
    callV SP i_impl_newStrip [.agg (SetC c s), i64 H_] h0 fun v h' => ∃ p b, v = .tuple [.ptr p, .bool b] ∧ (b = true ↔ c ^ H_ ≤ 700 ∧ (colsI c ts H_).length ≤ 5000) ∧ (b = true → ∃ os q, p = ⟨some os, 5, 0⟩ ∧ Strip h' h0.length c s ts H_ os q) ∧ Ext h0 h' := by
  apply impl_newStrip_call
  unfold impl_newStrip_main
  refine newK_obj fun h1 o1 x1 l1 => ?_
  refine newO_var fun h3 v3 x3 l3 => ?_
  refine (o1.ext x3).ldA rfl ?_
  refine v3.ldI ⟨rfl, ?_⟩
  refine newK_obj fun h7 o7 x7 l7 => ?_
  refine newO_var fun h9 v9 x9 l9 => ?_
  refine v9.st _ fun h10 v10 b10 l10 => ?_
  have o7' : Obj h7 h3.length (StripC c s H_ 1 Sl.nil) := o7
  clear o7
  have X7 : Ext h0 h7 := (x1.trans x3).trans x7
  have x10 : Ext h7 h10 := x9.but_ b10 (some_le (by omega))
  have X10 := X7.trans x10
  have v3' := v3.ext (x7.trans x10)
  have o1' := o1.ext (x3.trans (x7.trans x10))
  refine v3'.ldI ?_
  refine impl_newStrip_rule0 _ _ _ _ _ _ (fun i h => ∃ k : Nat, i = k ∧ k ≤ H_ ∧ Obj h h3.length (StripC c s H_ (c ^ k) Sl.nil) ∧ Chg (fun i => i = h3.length) h10 h) (fun i _ => (H_ - i).toNat) ?_ _ ⟨0, rfl, by omega, by rw [Int.pow_zero]; exact o7'.ext x10, Chg.refl _ _⟩
  rintro X _ h ⟨k, rfl, hk, o, cg⟩ hX
  unfold impl_newStrip_b0 impl_newStrip_C0
  have hcp := T.1
  have vp := v10.chg cg (by omega)
  have vh := v3'.chg cg (by omega)
  have ot := o1'.chg cg (by omega)
  have xh : Ext h0 h := X10.chg_ cg fun i e => by omega
  have hl := cg.1
  refine bif_dec (fun hi => ?_) (fun hi => ?_)
  · refine vp.ldP ⟨rfl, isPt_in (o.ldI (i := 3) rfl rfl ?_)⟩
    refine isPt_in (ot.ldI rfl rfl ⟨rfl, isPt_in ?_⟩)
    refine o.st1 (n := 5) (i := 3) rfl (by omega) _ fun h' o' b' l' => ?_
    have hp := pow_small4 (n := k) hcp hc (by omega)
    have hp2 := pow_small4 (n := k + 1) hcp hc (by omega)
    rw [w64_of (n := (k : Int) + 1) (by omega) (by omega)]
    refine hX _ _ ⟨k + 1, by push_cast; rfl, by omega, ?_, cg.trans (b'.chg fun i e => (Option.some.inj e).symm)⟩ (by omega)
    have e : w64 (c ^ k * c) = c ^ (k + 1) := by
      have e2 : c ^ k * c = c ^ (k + 1) := (Int.pow_succ c k).symm
      rw [e2]
      exact w64_of (by omega) (by omega)
    rw [e] at o'
    exact o'
  have hkH : k = H_ := by omega
  subst hkH
  refine vp.ldP ⟨rfl, isPt_in (o.ldI (i := 3) rfl rfl ?_)⟩
  refine bif_dec (fun hg => ⟨_, _, rfl, ⟨fun f => by (cases f), fun f => by omega⟩, (fun f => by cases f), xh⟩) (fun hg => ?_)
  refine newO_var fun g3 ve xe le => ?_
  refine ve.st _ fun g4 ve4 be l4 => ?_
  have y4 : Ext h g4 := xe.but_ be (some_le (Nat.le_refl _))
  have vp4 := vp.ext y4
  refine vp4.ldP ?_
  refine ve4.ldV ?_
  refine (vh.ext y4).ldI ?_
  refine via_func ?_
  have y4l := y4.len
  refine (extRec (w := c ^ k) (n1 := g4.length) r T hc hN hH (op := h7.length) (ot := h0.length) (oh := h1.length) (oe := h.length) (os := h3.length) ⟨by omega, by omega, by omega, by omega, by omega⟩ ⟨by omega, by omega, by omega, by omega⟩ (by omega) k 0 0 0 0 [] Sl.nil g4 (Nat.le_refl _) (by rw [Nat.sub_self, Int.pow_zero]; decide) (by rw [Nat.sub_self, Int.pow_zero]; decide) ⟨vp4, ot.ext y4, vh.ext y4, ve4⟩ (o.ext y4) (Ow.nil _ _) (Fr.nil _) (Nat.le_refl _) (by simp) (xh.trans y4)).to ?_
  rintro b h10' ⟨hb, hq, cg'⟩
  rw [List.nil_append] at hb hq
  refine ⟨?_, ?_⟩
  · rw [(vp4.chg cg' (by omega)).cell, vp4.cell]
  · refine ⟨_, _, rfl, ?_, fun hbt => ?_, (xh.trans y4).chg_ cg' fun i e => by omega⟩
    · rw [hb, decide_eq_true_eq]
      exact ⟨fun f => ⟨by omega, f⟩, fun f => f.2⟩
    · obtain ⟨q', oq, wq, fq⟩ := hq hbt
      exact ⟨_, q', rfl, oq, wq, fq.le (by omega), by omega, fun e => by have := fq _ e; omega⟩
theorem stripOf_c (r : Rd h0 s 4 (tcs ts)) (sz : ts.length ≤ 1048576) {n : Int} :
    callV SP i_impl_stripOf [.agg (SetC c s), i64 n] h0 fun v h' => ∃ p, v = .tuple [.ptr p, i64 (codeS c ts n)] ∧ (codeS c ts n = 0 → ∃ os q, p = ⟨some os, 5, 0⟩ ∧ Strip h' h0.length c s ts n.toNat os q) ∧ Ext h0 h' := by
  apply impl_stripOf_call
  unfold impl_stripOf_main
  refine newK_obj fun h1 o1 x1 l1 => ?_
  refine newO_var fun h3 v3 x3 l3 => ?_
  have X3 := x1.trans x3
  have o3 := o1.ext x3
  refine o3.ldA rfl ?_
  refine (setCode_c (r.ext X3) (by omega) _ _ (1 ≤ n ∧ n ≤ 4) fun _ h x => ?_).to ?_
  · apply impl_stripOf_1_call
    unfold impl_stripOf_1_main
    refine (v3.ext x).ldI ?_
    refine within_k ?_
    exact ⟨_, rfl, by simp, Ext.refl _⟩
  rintro _ h5 ⟨rfl, x5⟩
  have X5 := X3.trans x5
  refine bif_ne (fun hq => ⟨_, by rw [codeS_no hq], (fun f => by rw [codeS_no hq] at f; exact absurd f hq), X5⟩) (fun hq => ?_)
  have hs := codeOf_zero hq
  have T := hs.1.ts
  obtain ⟨H_, rfl⟩ : ∃ H_ : Nat, n = H_ := ⟨n.toNat, by omega⟩
  refine (o3.ext x5).ldA rfl ?_
  refine (v3.ext x5).ldI ?_
  refine (newStrip_c (H_ := H_) (r.ext X5) T hs.1.1.2 hs.1.2.1 (by omega)).to ?_
  rintro _ h9 ⟨p, b, rfl, hb, hp, x9⟩
  refine ⟨_, rfl, _, rfl, _, rfl, _, rfl, ?_⟩
  have hlen := colsI_len T H_
  have hof : colsOf c ts (H_ : Int) = colP c ts H_ (-1) 0 0 := by unfold colsOf; rw [Int.toNat_natCast]
  refine bif_not (fun hf => ?_) (fun hf => ?_)
  · have h3 : codeS c ts (H_ : Int) = 3 := codeS_3 hq (by
      rw [Int.toNat_natCast, hof, ← hlen]
      refine Classical.byContradiction fun f => ?_
      have : b = true := hb.2 (by omega)
      rw [hf] at this; cases this)
    exact ⟨_, by rw [h3], (fun f => by rw [h3] at f; cases f), X5.trans x9⟩
  · have hh := hb.1 hf
    have h0' : codeS c ts (H_ : Int) = 0 := codeS_0 hq (by rw [Int.toNat_natCast, hof, ← hlen]; omega)
    refine ⟨_, by rw [h0'], fun _ => ?_, X5.trans x9⟩
    obtain ⟨os, q, e, k⟩ := hp hf
    exact ⟨os, q, e, by rw [Int.toNat_natCast]; exact k.le X5.len⟩
noncomputable def F_CountColumns_0 (c : Int) (ts : List Tile) (n : Int) : Int := open Classical in if codeS c ts n = 0 then ((colsOf c ts n).length : Int) else 0
theorem impl_CountColumns_c (r : Rd h0 s 4 (tcs ts)) (sz : ts.length ≤ 1048576) {n : Int} (bn : i64ok n) :
    callV SP i_impl_CountColumns [.agg (SetC c s), i64 n] h0 fun v h' => v = .tuple [i64 (F_CountColumns_0 c ts n), i64 (codeS c ts n)] ∧ Ext h0 h' := by
  apply impl_CountColumns_call
  unfold impl_CountColumns_main
  refine newK_obj fun h1 o1 x1 l1 => ?_
  refine o1.ldA rfl ?_
  refine (stripOf_c (n := n) (r.ext x1) sz).to ?_
  rintro _ h3 ⟨p, rfl, hp, x3⟩
  refine ⟨_, rfl, _, rfl, _, rfl, _, rfl, ?_⟩
  refine bif_ne (fun hq => ⟨by rw [F_CountColumns_0, if_neg hq], x1.trans x3⟩) (fun hq => ?_)
  obtain ⟨os, q, rfl, k⟩ := hp hq
  have ok := codeS_ok hq
  refine ⟨rfl, isPt_in (k.o.ldS (i := 4) rfl rfl ⟨?_, x1.trans x3⟩)⟩
  rw [k.len, F_CountColumns_0, if_pos hq, hq, colsI_len ok.set.ts]
  rfl
end
end Go.Proofs.Ytdmhchgaeepdmaa.Cl
