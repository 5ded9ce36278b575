/- Contracts of functions, joined. No claim is stated here. -/
import Derived.Test.YtcoampecbpiecaaFb0
/- The program's strips: what the search of columns does. No claim is stated here. -/
set_option linter.unusedVariables false
set_option linter.unusedSimpArgs false
namespace Go.Proofs.Ytcoampecbpiecaa.Cl
open Go
def c3 (l : List (Int × Int × Int)) : List AVal := (l.map fun x => [i64 x.1, i64 x.2.1, i64 x.2.2]).flatten
theorem c3_app (l m) : c3 (l ++ m) = c3 l ++ c3 m := by simp [c3]
theorem c3_len : ∀ l, (c3 l).length = l.length * 3
  | [] => rfl
  | a :: l => by
    have := c3_len l
    unfold c3 at *
    rw [List.map_cons, List.flatten_cons, List.length_append, this, List.length_cons]
    simp; omega
def StripC (c : Int) (s : Sl) (H w : Int) (q : Sl) : List AVal := [i64 c, .sl s, i64 H, i64 w, .sl q]
theorem pow_small4 {c : Int} {n : Nat} (h0 : 1 ≤ c) (h1 : c ≤ 6) (hn : n ≤ 4) : 1 ≤ c ^ n ∧ c ^ n ≤ 1296 := by
  have hc : c = 1 ∨ c = 2 ∨ c = 3 ∨ c = 4 ∨ c = 5 ∨ c = 6 := by omega
  have hm : n = 0 ∨ n = 1 ∨ n = 2 ∨ n = 3 ∨ n = 4 := by omega
  rcases hc with rfl | rfl | rfl | rfl | rfl | rfl <;> rcases hm with rfl | rfl | rfl | rfl | rfl <;> decide
theorem pow_step {c l d : Int} {j : Nat} (hc : 1 ≤ c) (hl : 0 ≤ l ∧ l < c ^ j) (hd : 0 ≤ d ∧ d < c) : 0 ≤ l * c + d ∧ l * c + d < c ^ (j + 1) := by
  have h1 : 0 ≤ l * c := Int.mul_nonneg hl.1 (by omega)
  have h2 : (l + 1) * c ≤ c ^ j * c := Int.mul_le_mul_of_nonneg_right (by omega) (by omega)
  rw [Int.add_mul, Int.one_mul] at h2
  rw [Int.pow_succ]
  omega
structure SEnv (h : H) (op ot oh oe os : Nat) (c : Int) (s : Sl) (H_ : Nat) : Prop where
  vp : Var h op (.ptr ⟨some os, 5, 0⟩)
  vt : Obj h ot (SetC c s)
  vh : Var h oh (i64 H_)
  ve : Var h oe (.func i_impl_newStrip_1 [.ptr (pt op), .ptr ⟨some ot, 2, 0⟩, .ptr (pt oh), .ptr (pt oe)])
theorem SEnv.chg {P : Nat → Prop} {h h' : H} {op ot oh oe os : Nat} {c : Int} {s : Sl} {H_ : Nat} (e : SEnv h op ot oh oe os c s H_) (x : Chg P h h') (hn : ¬ P op ∧ ¬ P ot ∧ ¬ P oh ∧ ¬ P oe) : SEnv h' op ot oh oe os c s H_ :=
  ⟨e.vp.chg x hn.1, e.vt.chg x hn.2.1, e.vh.chg x hn.2.2.1, e.ve.chg x hn.2.2.2⟩
section
variable {hb : H} {c w : Int} {s : Sl} {ts : List Tile} {H_ : Nat} {op ot oh oe os n1 : Nat}
theorem extRec (r : Rd hb s 4 (tcs ts)) (T : TS c ts) (hc : c ≤ 6) (hN : ts.length ≤ 16) (hH : 1 ≤ H_ ∧ H_ ≤ 4) (hn : op < n1 ∧ ot < n1 ∧ oh < n1 ∧ oe < n1 ∧ os < n1) (hd : op ≠ os ∧ ot ≠ os ∧ oh ≠ os ∧ oe ≠ os) (hbs : hb.length ≤ os) :
    ∀ (m : Nat) (top last l rr : Int) (cols : List (Int × Int × Int)) (q : Sl) (h : H), m ≤ H_ → (0 ≤ l ∧ l < c ^ (H_ - m)) → (0 ≤ rr ∧ rr < c ^ (H_ - m)) → SEnv h op ot oh oe os c s H_ → Obj h os (StripC c s H_ w q) → Ow h q 3 (c3 cols) → Fr n1 q → n1 ≤ h.length → cols.length ≤ 5000 → Ext hb h →
    callB SP i_impl_newStrip_1 [i64 top, i64 last, i64 l, i64 rr, i64 m, .ptr (pt op), .ptr ⟨some ot, 2, 0⟩, .ptr (pt oh), .ptr (pt oe)] h fun b h' =>
      b = decide ((cols ++ colI c ts H_ m top last l rr).length ≤ 5000) ∧ (b = true → ∃ q', Obj h' os (StripC c s H_ w q') ∧ Ow h' q' 3 (c3 (cols ++ colI c ts H_ m top last l rr)) ∧ Fr n1 q') ∧ Chg (fun i => i = os ∨ n1 ≤ i) h h'
  | 0, top, last, l, rr, cols, q, h, hm, hl, hr, e, o, oq, fq, hn1, hcl, x => by
    apply impl_newStrip_1_call
    unfold impl_newStrip_1_main
    refine bif_eq (fun _ => ?_) (fun f => absurd rfl f)
    refine e.vp.ldP ?_
    refine e.vp.ldP ⟨rfl, isPt_in (o.ldS rfl rfl ⟨rfl, ?_⟩)⟩
    refine newS_ow (by rfl) fun u h4 ou lu uo e4 => ?_
    have x4 : Ext h h4 := by rw [e4]; exact Ext.app _ _
    have l4 : h4.length = h.length + 1 := by rw [e4]; simp
    have ho := o.lt
    refine ⟨((o.ext x4).cellE (n := 5) (i := 4) rfl).trans (o.cellE (n := 5) (i := 4) rfl).symm, x4.cellE e.vp.cell, x4.cellE e.vp.cell, ?_⟩
    have hql : q.len = cols.length := by have := oq.len; rw [c3_len] at this; omega
    refine app_ow (by omega) (oq.ext x4) ou.rd (by rw [lu, hql]; unfold lim; omega) fun q' h6 oq' lq' b6 k1 k2 => ?_
    have hqn : ∀ i, i < n1 → q.o ≠ some i := fun i hi f => by have := fq i f; omega
    have vp6 : Var h6 op _ := (e.vp.ext x4).but b6 (hqn _ hn.1)
    have o6 : Obj h6 os _ := (o.ext x4).but b6 (hqn _ hn.2.2.2.2)
    have l6 := b6.1
    refine ⟨by rw [vp6.cell, e.vp.cell], rfl, isPt_in ?_⟩
    refine o6.st1 (n := 5) (i := 4) rfl (by omega) _ fun h7 o7 b7 l7 => ?_
    have vp7 : Var h7 op _ := vp6.but b7 (fun f => hd.1 (Option.some.inj f).symm)
    refine vp7.ldP ⟨rfl, isPt_in (o7.ldS rfl rfl ⟨_, rfl, ?_, fun _ => ⟨q', o7, ?_, ?_⟩, ?_⟩)⟩
    · have hcol : colI c ts H_ 0 top last l rr = [(l, rr, top)] := rfl
      rw [hcol, List.length_append, List.length_singleton, lq', lu, hql]
      congr 1
      apply propext
      constructor <;> intro f <;> omega
    · refine Ow.but ?_ b7 (.inl fun f => ?_)
      · rw [show colI c ts H_ 0 top last l rr = [(l, rr, top)] from rfl, c3_app]; exact oq'
      · cases hq : q.o with
        | none => have := k2 hq os f.symm; omega
        | some p => rw [k1 p hq] at f; exact hqn os hn.2.2.2.2 (by rw [hq, f])
    · intro i f
      cases hq : q.o with
      | none => have := k2 hq i f; omega
      | some p => rw [k1 p hq] at f; exact fq i (by rw [hq, f])
    · refine ((x4.chg _).trans (b6.chg fun i f => .inr (fq i f))).trans (b7.chg fun i f => .inl (Option.some.inj f).symm)
  | m + 1, top, last, l, rr, cols, q, h, hm, hl, hr, e, o, oq, fq, hn1, hcl, x => by
    have htl := r.tlen
    have hsn : s.len ≤ 16 := by omega
    have hcp := T.1
    apply impl_newStrip_1_call
    unfold impl_newStrip_1_main
    refine bif_eq (fun f => by omega) (fun _ => ?_)
    refine isPt_in (e.vt.ldS rfl rfl ?_)
    generalize hpc : (fun t : Tile => if m + 1 < H_ ∧ sd t 1 ≠ last then [] else colI c ts H_ m (if m + 1 = H_ then sd t 1 else top) (sd t 3) (l * c + sd t 0) (rr * c + sd t 2)) = pc
    have hall : colI c ts H_ (m + 1) top last l rr = ts.flatMap pc := by rw [← hpc]; rfl
    rw [hall]
    refine impl_newStrip_1_rule0 _ _ _ _ _ _ _ _ _ _ _ (fun i0 j g => ∃ k : Nat, j = k ∧ k ≤ ts.length ∧ (m + 1 ≠ H_ → i0 = top) ∧ (cols ++ (ts.take k).flatMap pc).length ≤ 5000 ∧ (∃ q', Obj g os (StripC c s H_ w q') ∧ Ow g q' 3 (c3 (cols ++ (ts.take k).flatMap pc)) ∧ Fr n1 q') ∧ Chg (fun i => i = os ∨ n1 ≤ i) h g) (fun _ j _ => (ts.length - j).toNat) ?_ _ _ ⟨0, rfl, by omega, fun _ => rfl, by simpa using hcl, ⟨q, o, by simpa using oq, fq⟩, Chg.refl _ _⟩
    rintro X i0 _ g ⟨k, rfl, hk, hi0, hlen, ⟨q', o', oq', fq'⟩, cg⟩ hX
    unfold impl_newStrip_1_b0 impl_newStrip_1_C0
    have hnp : ∀ i, i < n1 → i ≠ os → ¬ (i = os ∨ n1 ≤ i) := fun i h1 h2 f => by omega
    have eg := e.chg cg ⟨hnp _ hn.1 hd.1, hnp _ hn.2.1 hd.2.1, hnp _ hn.2.2.1 hd.2.2.1, hnp _ hn.2.2.2.1 hd.2.2.2⟩
    have xg : Ext hb g := x.chg_ cg fun i f => by omega
    have cgl := cg.1
    refine bif_dec (fun hi => ?_) (fun hi => ?_)
    rotate_left
    · rw [show k = ts.length by omega, List.take_length] at oq' hlen
      exact ⟨_, rfl, (decide_eq_true hlen).symm, fun _ => ⟨q', o', oq', fq'⟩, cg⟩
    have hk' : k < ts.length := by omega
    refine (r.ext xg).ldT (by omega) (by omega) fun t ht => ?_
    rw [Int.toNat_natCast] at ht
    have htm : t ∈ ts := List.mem_of_getElem? ht
    have htk : ts[k] = t := (List.getElem?_eq_some_iff.1 ht).2
    have hflat : (ts.take (k + 1)).flatMap pc = (ts.take k).flatMap pc ++ pc t := by
      rw [List.take_succ_eq_append_getElem hk', List.flatMap_append, htk]; simp
    have hrest : ts.flatMap pc = (ts.take k).flatMap pc ++ (pc t ++ (ts.drop (k + 1)).flatMap pc) := by
      have : ts = ts.take k ++ (t :: ts.drop (k + 1)) := by rw [← htk, ← List.drop_eq_getElem_cons hk', List.take_append_drop]
      conv => lhs; rw [this]
      rw [List.flatMap_append, List.flatMap_cons]
    refine newO_obj fun g3 og3 y3 m3 => ?_
    refine og3.stA fun g4 og4 b4 m4 => ?_
    have y4 : Ext g g4 := y3.but_ b4 (some_le (Nat.le_refl _))
    have y4l := y4.len
    have e4 := eg.chg (y4.chg fun _ => False) ⟨id, id, id, id⟩
    have o4 := o'.ext y4
    have oq4 := oq'.ext y4
    have b0 := T.2 t htm 0 (by omega)
    have b1 := T.2 t htm 1 (by omega)
    have b2 := T.2 t htm 2 (by omega)
    have b3 := T.2 t htm 3 (by omega)
    have hpow := pow_small4 (n := H_ - (m + 1)) hcp hc (by omega)
    have hpow2 := pow_small4 (n := H_ - (m + 1) + 1) hcp hc (by omega)
    have eH : H_ - m = H_ - (m + 1) + 1 := by omega
    have bl' := pow_step hcp hl b0
    have br' := pow_step hcp hr b2
    have bl0 : 0 ≤ l * c := Int.mul_nonneg hl.1 (by omega)
    have br0 : 0 ≤ rr * c := Int.mul_nonneg hr.1 (by omega)
    have ew1 : w64 (w64 (l * c) + sd t 0) = l * c + sd t 0 := by rw [w64_of (n := l * c) (by omega) (by omega), w64_of (by omega) (by omega)]
    have ew2 : w64 (w64 (rr * c) + sd t 2) = rr * c + sd t 2 := by rw [w64_of (n := rr * c) (by omega) (by omega), w64_of (by omega) (by omega)]
    -- one tile more
    have call : ∀ (tp : Int), tp = (if m + 1 = H_ then sd t 1 else top) → ¬ (m + 1 < H_ ∧ sd t 1 ≠ last) → viaF (.func i_impl_newStrip_1 [.ptr (pt op), .ptr ⟨some ot, 2, 0⟩, .ptr (pt oh), .ptr (pt oe)]) [i64 tp, i64 (sd t 3), i64 (w64 (w64 (l * c) + sd t 0)), i64 (w64 (w64 (rr * c) + sd t 2)), i64 (w64 (((m + 1 : Nat) : Int) - 1))] fun g20 ys21 => callB SP g20 ys21 g4 fun b h' =>
        bif !b then (∃ b', AVal.bool false = .bool b' ∧ b' = decide ((cols ++ ts.flatMap pc).length ≤ 5000) ∧ (b' = true → ∃ q', Obj h' os (StripC c s H_ w q') ∧ Ow h' q' 3 (c3 (cols ++ ts.flatMap pc)) ∧ Fr n1 q') ∧ Chg (fun i => i = os ∨ n1 ≤ i) h h')
        else X (impl_newStrip_1_e0 tp last l rr ((m + 1 : Nat) : Int) ⟨some ot, 2, 0⟩ (pt oh) (pt oe) s (s.len : Int) (w64 ((k : Int) + 1))) h' := fun tp htp hno => by
      refine via_func ?_
      have hpt : pc t = colI c ts H_ m tp (sd t 3) (l * c + sd t 0) (rr * c + sd t 2) := by rw [← hpc]; simp only; rw [if_neg hno, htp]
      rw [ew1, ew2, w64_of (by omega) (by omega), show ((m + 1 : Nat) : Int) - 1 = (m : Int) by omega]
      refine (extRec r T hc hN hH hn hd hbs m tp (sd t 3) (l * c + sd t 0) (rr * c + sd t 2) (cols ++ (ts.take k).flatMap pc) q' g4 (by omega) (by rw [eH]; exact bl') (by rw [eH]; exact br') e4 o4 oq4 fq' (by omega) hlen (xg.trans y4)).to ?_
      rintro b g5 ⟨hb5, hq5, cg5⟩
      rw [← hpt] at hb5 hq5
      have CG : Chg (fun i => i = os ∨ n1 ≤ i) h g5 := (cg.trans (y4.chg _)).trans cg5
      refine bif_not (fun hf => ⟨false, rfl, ?_, (fun f => by cases f), CG⟩) (fun hf => ?_)
      · rw [hf] at hb5
        have := of_decide_eq_false hb5.symm
        symm
        refine decide_eq_false fun f => this ?_
        rw [hrest] at f
        simp only [List.length_append] at f ⊢
        omega
      · rw [hf] at hb5
        have hle := of_decide_eq_true hb5.symm
        rw [w64_of (by omega) (by omega)]
        refine hX _ _ _ ⟨k + 1, by push_cast; rfl, by omega, fun f => by rw [htp, if_neg f], ?_, ?_, CG⟩ (by omega)
        · rw [hflat, ← List.append_assoc]; exact hle
        · rw [hflat, ← List.append_assoc]; exact hq5 hf
    have skip : m + 1 < H_ ∧ sd t 1 ≠ last → X (impl_newStrip_1_e0 i0 last l rr ((m + 1 : Nat) : Int) ⟨some ot, 2, 0⟩ (pt oh) (pt oe) s (s.len : Int) (w64 ((k : Int) + 1))) g4 := fun hs => by
      have hpt : pc t = [] := by rw [← hpc]; simp only; rw [if_pos hs]
      rw [w64_of (by omega) (by omega)]
      refine hX _ _ _ ⟨k + 1, by push_cast; rfl, by omega, hi0, ?_, ⟨q', o4, ?_, fq'⟩, cg.trans (y4.chg _)⟩ (by omega)
      · rw [hflat, hpt, List.append_nil]; exact hlen
      · rw [hflat, hpt, List.append_nil]; exact oq4
    refine e4.vh.ldI ?_
    refine bif_dec (fun hmh => ?_) (fun hmh => ?_)
    · refine og4.sdI (by omega) (by omega) ?_
      refine bif_ne (fun hq => skip ⟨by omega, hq⟩) (fun hq => ?_)
      refine e4.vh.ldI ?_
      refine bif_eq (fun f => by omega) (fun hne => ?_)
      refine e4.ve.ldV ?_
      refine og4.sdI (by omega) (by omega) ?_
      refine isPt_in (e4.vt.ldI rfl rfl ?_)
      refine og4.sdI (by omega) (by omega) ?_
      refine isPt_in (e4.vt.ldI rfl rfl ?_)
      refine og4.sdI (by omega) (by omega) ?_
      exact call i0 (by rw [if_neg (by omega)]; exact hi0 (by omega)) (fun f => f.2 hq)
    · refine e4.vh.ldI ?_
      refine bif_eq (fun hee => ?_) (fun f => by omega)
      refine og4.sdI (by omega) (by omega) ?_
      refine e4.ve.ldV ?_
      refine og4.sdI (by omega) (by omega) ?_
      refine isPt_in (e4.vt.ldI rfl rfl ?_)
      refine og4.sdI (by omega) (by omega) ?_
      refine isPt_in (e4.vt.ldI rfl rfl ?_)
      refine og4.sdI (by omega) (by omega) ?_
      exact call (sd t 1) (by rw [if_pos (by omega)]) (fun f => by omega)
end
end Go.Proofs.Ytcoampecbpiecaa.Cl

/- Contracts of the program's strips and of CountColumns. No claim is stated here. -/
set_option linter.unusedVariables false
set_option linter.unusedSimpArgs false
namespace Go.Proofs.Ytcoampecbpiecaa.Cl
open Go
def colsI (c : Int) (ts : List Tile) (H_ : Nat) : List (Int × Int × Int) := colI c ts H_ H_ 0 0 0 0
theorem colsI_pr {c : Int} {ts : List Tile} (T : TS c ts) (H_ : Nat) : (colsI c ts H_).map pr = colP c ts H_ (-1) 0 0 := by
  unfold colsI
  rw [colI_pr T H_ H_ 0 0 0 0 (Nat.le_refl _) (fun f => by omega), if_pos rfl]
theorem colsI_len {c : Int} {ts : List Tile} (T : TS c ts) (H_ : Nat) : (colsI c ts H_).length = (colP c ts H_ (-1) 0 0).length := by rw [← colsI_pr T, List.length_map]
open Classical in
noncomputable def codeS (c : Int) (ts : List Tile) (h : Int) : Int := if codeOf (setOK c ts) (1 ≤ h ∧ h ≤ 4) = 0 then (if c ^ h.toNat > 700 ∨ 5000 < (colsOf c ts h).length then 3 else 0) else codeOf (setOK c ts) (1 ≤ h ∧ h ≤ 4)
theorem codeS_no {c : Int} {ts : List Tile} {h : Int} (q : codeOf (setOK c ts) (1 ≤ h ∧ h ≤ 4) ≠ 0) : codeS c ts h = codeOf (setOK c ts) (1 ≤ h ∧ h ≤ 4) := by unfold codeS; rw [if_neg q]
theorem codeS_3 {c : Int} {ts : List Tile} {h : Int} (q : codeOf (setOK c ts) (1 ≤ h ∧ h ≤ 4) = 0) (t : c ^ h.toNat > 700 ∨ 5000 < (colsOf c ts h).length) : codeS c ts h = 3 := by unfold codeS; rw [if_pos q, if_pos t]
theorem codeS_0 {c : Int} {ts : List Tile} {h : Int} (q : codeOf (setOK c ts) (1 ≤ h ∧ h ≤ 4) = 0) (t : ¬ (c ^ h.toNat > 700 ∨ 5000 < (colsOf c ts h).length)) : codeS c ts h = 0 := by unfold codeS; rw [if_pos q, if_neg t]
/-- What holds of a set and a height without an error. -/
structure StripOK (c : Int) (ts : List Tile) (h : Int) : Prop where
  set : setOK c ts
  hh : 1 ≤ h ∧ h ≤ 4
  pw : c ^ h.toNat ≤ 700
  ln : (colsOf c ts h).length ≤ 5000
theorem codeS_ok {c : Int} {ts : List Tile} {h : Int} (q : codeS c ts h = 0) : StripOK c ts h := by
  by_cases a : codeOf (setOK c ts) (1 ≤ h ∧ h ≤ 4) = 0
  · have b := codeOf_zero a
    by_cases d : c ^ h.toNat > 700 ∨ 5000 < (colsOf c ts h).length
    · rw [codeS_3 a d] at q; cases q
    · exact ⟨b.1, b.2, by omega, by omega⟩
  · rw [codeS_no a] at q; exact absurd q a
theorem StripOK.code {c : Int} {ts : List Tile} {h : Int} (k : StripOK c ts h) : codeS c ts h = 0 := codeS_0 (codeOf_yes k.set k.hh) fun f => by
  have := k.pw
  have := k.ln
  omega
/-- A strip in the heap. -/
structure Strip (h : H) (n : Nat) (c : Int) (s : Sl) (ts : List Tile) (H_ : Nat) (os : Nat) (q : Sl) : Prop where
  o : Obj h os (StripC c s H_ (c ^ H_) q)
  cols : Ow h q 3 (c3 (colsI c ts H_))
  fr : Fr n q
  os_ : n ≤ os
  ne : q.o ≠ some os
theorem Strip.ext {h h' : H} {n : Nat} {c : Int} {s : Sl} {ts : List Tile} {H_ os : Nat} {q : Sl} (k : Strip h n c s ts H_ os q) (x : Ext h h') : Strip h' n c s ts H_ os q := ⟨k.o.ext x, k.cols.ext x, k.fr, k.os_, k.ne⟩
theorem Strip.le {h : H} {n m : Nat} {c : Int} {s : Sl} {ts : List Tile} {H_ os : Nat} {q : Sl} (k : Strip h n c s ts H_ os q) (hm : m ≤ n) : Strip h m c s ts H_ os q := ⟨k.o, k.cols, k.fr.le hm, Nat.le_trans hm k.os_, k.ne⟩
theorem Strip.len {h : H} {n : Nat} {c : Int} {s : Sl} {ts : List Tile} {H_ os : Nat} {q : Sl} (k : Strip h n c s ts H_ os q) : q.len = (colsI c ts H_).length := by have := k.cols.len; rw [c3_len] at this; omega
section
variable {h0 : H} {c : Int} {s : Sl} {ts : List Tile} {H_ : Nat}
theorem newStrip_c (r : Rd h0 s 4 (tcs ts)) (T : TS c ts) (hc : c ≤ 6) (hN : ts.length ≤ 16) (hH : 1 ≤ H_ ∧ H_ ≤ 4) :
    callV SP i_impl_newStrip [.agg (SetC c s), i64 H_] h0 fun v h' => ∃ p b, v = .tuple [.ptr p, .bool b] ∧ (b = true ↔ c ^ H_ ≤ 700 ∧ (colsI c ts H_).length ≤ 5000) ∧ (b = true → ∃ os q, p = ⟨some os, 5, 0⟩ ∧ Strip h' h0.length c s ts H_ os q) ∧ Ext h0 h' := by
  apply impl_newStrip_call
  unfold impl_newStrip_main
  refine newK_obj fun h1 o1 x1 l1 => ?_
  refine newO_var fun h3 v3 x3 l3 => ?_
  refine (o1.ext x3).ldA rfl ?_
  refine v3.ldI ⟨rfl, ?_⟩
  refine newK_obj fun h7 o7 x7 l7 => ?_
  refine newO_var fun h9 v9 x9 l9 => ?_
  refine v9.st _ fun h10 v10 b10 l10 => ?_
  have o7' : Obj h7 h3.length (StripC c s H_ 1 Sl.nil) := o7
  clear o7
  have X7 : Ext h0 h7 := (x1.trans x3).trans x7
  have x10 : Ext h7 h10 := x9.but_ b10 (some_le (by omega))
  have X10 := X7.trans x10
  have v3' := v3.ext (x7.trans x10)
  have o1' := o1.ext (x3.trans (x7.trans x10))
  refine v3'.ldI ?_
  refine impl_newStrip_rule0 _ _ _ _ _ _ (fun i h => ∃ k : Nat, i = k ∧ k ≤ H_ ∧ Obj h h3.length (StripC c s H_ (c ^ k) Sl.nil) ∧ Chg (fun i => i = h3.length) h10 h) (fun i _ => (H_ - i).toNat) ?_ _ ⟨0, rfl, by omega, by rw [Int.pow_zero]; exact o7'.ext x10, Chg.refl _ _⟩
  rintro X _ h ⟨k, rfl, hk, o, cg⟩ hX
  unfold impl_newStrip_b0 impl_newStrip_C0
  have hcp := T.1
  have vp := v10.chg cg (by omega)
  have vh := v3'.chg cg (by omega)
  have ot := o1'.chg cg (by omega)
  have xh : Ext h0 h := X10.chg_ cg fun i e => by omega
  have hl := cg.1
  refine bif_dec (fun hi => ?_) (fun hi => ?_)
  · refine vp.ldP ⟨rfl, isPt_in (o.ldI (i := 3) rfl rfl ?_)⟩
    refine isPt_in (ot.ldI rfl rfl ⟨rfl, isPt_in ?_⟩)
    refine o.st1 (n := 5) (i := 3) rfl (by omega) _ fun h' o' b' l' => ?_
    have hp := pow_small4 (n := k) hcp hc (by omega)
    have hp2 := pow_small4 (n := k + 1) hcp hc (by omega)
    rw [w64_of (n := (k : Int) + 1) (by omega) (by omega)]
    refine hX _ _ ⟨k + 1, by push_cast; rfl, by omega, ?_, cg.trans (b'.chg fun i e => (Option.some.inj e).symm)⟩ (by omega)
    have e : w64 (c ^ k * c) = c ^ (k + 1) := by
      have e2 : c ^ k * c = c ^ (k + 1) := (Int.pow_succ c k).symm
      rw [e2]
      exact w64_of (by omega) (by omega)
    rw [e] at o'
    exact o'
  have hkH : k = H_ := by omega
  subst hkH
  refine vp.ldP ⟨rfl, isPt_in (o.ldI (i := 3) rfl rfl ?_)⟩
  refine bif_dec (fun hg => ⟨_, _, rfl, ⟨fun f => by (cases f), fun f => by omega⟩, (fun f => by cases f), xh⟩) (fun hg => ?_)
  refine newO_var fun g3 ve xe le => ?_
  refine ve.st _ fun g4 ve4 be l4 => ?_
  have y4 : Ext h g4 := xe.but_ be (some_le (Nat.le_refl _))
  have vp4 := vp.ext y4
  refine vp4.ldP ?_
  refine ve4.ldV ?_
  refine (vh.ext y4).ldI ?_
  refine via_func ?_
  have y4l := y4.len
  refine (extRec (w := c ^ k) (n1 := g4.length) r T hc hN hH (op := h7.length) (ot := h0.length) (oh := h1.length) (oe := h.length) (os := h3.length) ⟨by omega, by omega, by omega, by omega, by omega⟩ ⟨by omega, by omega, by omega, by omega⟩ (by omega) k 0 0 0 0 [] Sl.nil g4 (Nat.le_refl _) (by rw [Nat.sub_self, Int.pow_zero]; decide) (by rw [Nat.sub_self, Int.pow_zero]; decide) ⟨vp4, ot.ext y4, vh.ext y4, ve4⟩ (o.ext y4) (Ow.nil _ _) (Fr.nil _) (Nat.le_refl _) (by simp) (xh.trans y4)).to ?_
  rintro b h10' ⟨hb, hq, cg'⟩
  rw [List.nil_append] at hb hq
  refine ⟨?_, ?_⟩
  · rw [(vp4.chg cg' (by omega)).cell, vp4.cell]
  · refine ⟨_, _, rfl, ?_, fun hbt => ?_, (xh.trans y4).chg_ cg' fun i e => by omega⟩
    · rw [hb, decide_eq_true_eq]
      exact ⟨fun f => ⟨by omega, f⟩, fun f => f.2⟩
    · obtain ⟨q', oq, wq, fq⟩ := hq hbt
      exact ⟨_, q', rfl, oq, wq, fq.le (by omega), by omega, fun e => by have := fq _ e; omega⟩
theorem stripOf_c (r : Rd h0 s 4 (tcs ts)) (sz : ts.length ≤ 1048576) {n : Int} :
    callV SP i_impl_stripOf [.agg (SetC c s), i64 n] h0 fun v h' => ∃ p, v = .tuple [.ptr p, i64 (codeS c ts n)] ∧ (codeS c ts n = 0 → ∃ os q, p = ⟨some os, 5, 0⟩ ∧ Strip h' h0.length c s ts n.toNat os q) ∧ Ext h0 h' := by
  apply impl_stripOf_call
  unfold impl_stripOf_main
  refine newK_obj fun h1 o1 x1 l1 => ?_
  refine newO_var fun h3 v3 x3 l3 => ?_
  have X3 := x1.trans x3
  have o3 := o1.ext x3
  refine o3.ldA rfl ?_
  refine (setCode_c (r.ext X3) (by omega) _ _ (1 ≤ n ∧ n ≤ 4) fun _ h x => ?_).to ?_
  · apply impl_stripOf_1_call
    unfold impl_stripOf_1_main
    refine (v3.ext x).ldI ?_
    refine within_k ?_
    exact ⟨_, rfl, by simp, Ext.refl _⟩
  rintro _ h5 ⟨rfl, x5⟩
  have X5 := X3.trans x5
  refine bif_ne (fun hq => ⟨_, by rw [codeS_no hq], (fun f => by rw [codeS_no hq] at f; exact absurd f hq), X5⟩) (fun hq => ?_)
  have hs := codeOf_zero hq
  have T := hs.1.ts
  obtain ⟨H_, rfl⟩ : ∃ H_ : Nat, n = H_ := ⟨n.toNat, by omega⟩
  refine (o3.ext x5).ldA rfl ?_
  refine (v3.ext x5).ldI ?_
  refine (newStrip_c (H_ := H_) (r.ext X5) T hs.1.1.2 hs.1.2.1 (by omega)).to ?_
  rintro _ h9 ⟨p, b, rfl, hb, hp, x9⟩
  refine ⟨_, rfl, _, rfl, _, rfl, _, rfl, ?_⟩
  have hlen := colsI_len T H_
  have hof : colsOf c ts (H_ : Int) = colP c ts H_ (-1) 0 0 := by unfold colsOf; rw [Int.toNat_natCast]
  refine bif_not (fun hf => ?_) (fun hf => ?_)
  · have h3 : codeS c ts (H_ : Int) = 3 := codeS_3 hq (by
      rw [Int.toNat_natCast, hof, ← hlen]
      refine Classical.byContradiction fun f => ?_
      have : b = true := hb.2 (by omega)
      rw [hf] at this; cases this)
    exact ⟨_, by rw [h3], (fun f => by rw [h3] at f; cases f), X5.trans x9⟩
  · have hh := hb.1 hf
    have h0' : codeS c ts (H_ : Int) = 0 := codeS_0 hq (by rw [Int.toNat_natCast, hof, ← hlen]; omega)
    refine ⟨_, by rw [h0'], fun _ => ?_, X5.trans x9⟩
    obtain ⟨os, q, e, k⟩ := hp hf
    exact ⟨os, q, e, by rw [Int.toNat_natCast]; exact k.le X5.len⟩
noncomputable def F_CountColumns_0 (c : Int) (ts : List Tile) (n : Int) : Int := open Classical in if codeS c ts n = 0 then ((colsOf c ts n).length : Int) else 0
theorem impl_CountColumns_c (r : Rd h0 s 4 (tcs ts)) (sz : ts.length ≤ 1048576) {n : Int} (bn : i64ok n) :
    callV SP i_impl_CountColumns [.agg (SetC c s), i64 n] h0 fun v h' => v = .tuple [i64 (F_CountColumns_0 c ts n), i64 (codeS c ts n)] ∧ Ext h0 h' := by
  apply impl_CountColumns_call
  unfold impl_CountColumns_main
  refine newK_obj fun h1 o1 x1 l1 => ?_
  refine o1.ldA rfl ?_
  refine (stripOf_c (n := n) (r.ext x1) sz).to ?_
  rintro _ h3 ⟨p, rfl, hp, x3⟩
  refine ⟨_, rfl, _, rfl, _, rfl, _, rfl, ?_⟩
  refine bif_ne (fun hq => ⟨by rw [F_CountColumns_0, if_neg hq], x1.trans x3⟩) (fun hq => ?_)
  obtain ⟨os, q, rfl, k⟩ := hp hq
  have ok := codeS_ok hq
  refine ⟨rfl, isPt_in (k.o.ldS (i := 4) rfl rfl ⟨?_, x1.trans x3⟩)⟩
  rw [k.len, F_CountColumns_0, if_pos hq, hq, colsI_len ok.set.ts]
  rfl
end
end Go.Proofs.Ytcoampecbpiecaa.Cl

/- Contracts of the reference's columns. No claim is stated here. -/
set_option linter.unusedVariables false
set_option linter.unusedSimpArgs false
namespace Go.Proofs.Ytcoampecbpiecaa.Cl
open Go
def col3 (l : List (Int × Int × Int)) : List (List Int) := l.map fun x => [x.1, x.2.1, x.2.2]
theorem col3_len (l) : (col3 l).length = l.length := by simp [col3]
theorem col3_app (l m) : col3 (l ++ m) = col3 l ++ col3 m := by simp [col3]
theorem col3_row {l : List (Int × Int × Int)} {i : Nat} (h : i < l.length) : rw_ (col3 l) i = [l[i].1, l[i].2.1, l[i].2.2] := by
  unfold rw_ col3
  rw [List.getD_eq_getElem?_getD, List.getElem?_map, List.getElem?_eq_getElem h]; rfl
theorem NewSS.one {n : Nat} {h h' : H} {v u : Sl} {l : List Int} (ov : Ow h v 1 (ic l)) (fv : Fr n v) (x : Ext h h') (ou : Ow h' u 1 [.sl v]) (fu : ∀ o, u.o = some o → h.length ≤ o) (hn : n ≤ h.length) : NewSS n h' u [l] := by
  refine ⟨[v], rfl, ou, (fun o e => Nat.le_trans hn (fu o e)), fun i w l' a b => ?_, fun i j w w' hne a b => ?_, fun i w a o e e2 => ?_⟩
  · have hi : i = 0 := by have := (List.getElem?_eq_some_iff.1 a).1; simpa using this
    subst hi
    simp at a b
    subst a b
    exact ⟨ov.ext x, fv⟩
  · have hi : i = 0 := by have := (List.getElem?_eq_some_iff.1 a).1; simpa using this
    have hj : j = 0 := by have := (List.getElem?_eq_some_iff.1 b).1; simpa using this
    omega
  · have hi : i = 0 := by have := (List.getElem?_eq_some_iff.1 a).1; simpa using this
    subst hi
    simp at a
    subst a
    have := ov.lt e
    have := fu o e2
    omega
theorem fm_piece {α β : Type} (l : List α) (f : α → List β) {i : Nat} (hi : i < l.length) : l.flatMap f = (l.take i).flatMap f ++ (f l[i] ++ (l.drop (i + 1)).flatMap f) := by
  have e : l = l.take i ++ (l[i] :: l.drop (i + 1)) := by rw [← List.drop_eq_getElem_cons hi, List.take_append_drop]
  conv => lhs; rw [e]
  rw [List.flatMap_append, List.flatMap_cons]
theorem fm_take {α β : Type} (l : List α) (f : α → List β) {i : Nat} (hi : i < l.length) : (l.take (i + 1)).flatMap f = (l.take i).flatMap f ++ f l[i] := by
  rw [List.take_succ_eq_append_getElem hi, List.flatMap_append]; simp
abbrev lay0 : List (Int × Int × Int) := [(0, 0, -1)]
theorem lay_bound {c : Int} {ts : List Tile} (T : TS c ts) (k : Nat) : ∀ x ∈ layN c ts k lay0, (0 ≤ x.1 ∧ x.1 < c ^ k) ∧ 0 ≤ x.2.1 ∧ x.2.1 < c ^ k := fun x hx => by
  have : pr x ∈ colP c ts k (-1) 0 0 := by rw [← lay_pr]; exact List.mem_map.2 ⟨x, hx, rfl⟩
  have := colP_bound T k (-1) 0 0 1 (by omega) (by omega) _ this
  rw [Int.one_mul] at this
  exact this
section
variable {h0 : H} {c : Int} {s : Sl} {ts : List Tile} {H_ : Nat}
theorem l06Size_c (hc : 1 ≤ c) (hc6 : c ≤ 6) (hH : H_ ≤ 4) : callI SP .i64 i_spec_l06Size [.agg (SetC c s), i64 H_] h0 fun n h' => n = c ^ H_ ∧ Ext h0 h' := by
  apply spec_l06Size_call
  unfold spec_l06Size_main
  refine newK_obj fun h1 o1 x1 l1 => ?_
  refine spec_l06Size_rule0 _ _ _ _ (fun a i h => ∃ k : Nat, i = k ∧ k ≤ H_ ∧ a = c ^ k ∧ h1 = h) (fun _ i _ => (H_ - i).toNat) ?_ _ _ ⟨0, rfl, by omega, by simp, rfl⟩
  rintro X _ _ _ ⟨k, rfl, hk, rfl, rfl⟩ hX
  unfold spec_l06Size_b0 spec_l06Size_C0
  refine bif_dec (fun hi => ?_) (fun hi => ⟨_, rfl, by rw [show k = H_ by omega], x1⟩)
  refine isPt_in (o1.ldI rfl rfl ?_)
  have hp2 := pow_small4 (n := k + 1) hc hc6 (by omega)
  have e2 : c ^ k * c = c ^ (k + 1) := (Int.pow_succ c k).symm
  rw [w64_of (n := (k : Int) + 1) (by omega) (by omega)]
  refine hX _ _ _ ⟨k + 1, by push_cast; rfl, by omega, by rw [e2]; exact w64_of (by omega) (by omega), rfl⟩ (by omega)
theorem l06Columns_c (r : Rd h0 s 4 (tcs ts)) (T : TS c ts) (hc : c ≤ 6) (hN : ts.length ≤ 16) (hH : 1 ≤ H_ ∧ H_ ≤ 4) :
    callV SP i_spec_l06Columns [.agg (SetC c s), i64 H_] h0 fun v h' => ∃ u b, v = .tuple [.sl u, .bool b] ∧ (b = true ↔ (layN c ts H_ lay0).length ≤ 5000) ∧ (b = true → RdSS h' u (col3 (layN c ts H_ lay0))) ∧ Ext h0 h' := by
  have htl := r.tlen
  apply spec_l06Columns_call
  unfold spec_l06Columns_main
  refine newK_obj fun h1 o1 x1 l1 => ?_
  refine newS_ow (by rfl) fun v h3 ov lv vo e3 => ?_
  have x3 : Ext h1 h3 := by rw [e3]; exact Ext.app _ _
  have l3 : h3.length = h1.length + 1 := by rw [e3]; simp
  refine newS_ow (by rfl) fun u h5 ou lu uo e5 => ?_
  have x5 : Ext h3 h5 := by rw [e5]; exact Ext.app _ _
  have rd0 : RdSS h5 u (col3 lay0) := (NewSS.one (n := 0) (l := [0, 0, -1]) ov (fun o _ => Nat.zero_le _) x5 ou (fun o e => by rw [uo] at e; cases e; exact Nat.le_refl _) (Nat.zero_le _)).rd
  refine spec_l06Columns_rule0 _ _ _ _ (fun u i h => ∃ k : Nat, i = k ∧ k ≤ H_ ∧ RdSS h u (col3 (layN c ts k lay0)) ∧ (k = H_ → (layN c ts k lay0).length ≤ 5000) ∧ Ext h1 h) (fun _ i _ => (H_ - i).toNat) ?_ _ _ ⟨0, rfl, by omega, rd0, (fun _ => by simp [layN]), x3.trans x5⟩
  rintro X u _ h ⟨k, rfl, hk, rd, hkl, x⟩ hX
  unfold spec_l06Columns_b0 spec_l06Columns_C0
  refine bif_dec (fun hi => ?_) (fun hi => ?_)
  rotate_left
  · have : k = H_ := by omega
    subst this
    exact ⟨_, _, rfl, ⟨fun _ => hkl rfl, fun _ => rfl⟩, fun _ => rd, x1.trans x⟩
  have hul := rd.len
  rw [col3_len] at hul
  have hB := lay_bound T k
  have hpk := pow_small4 (n := k) T.1 hc (by omega)
  have hlk : (layN c ts k lay0).length ≤ 4096 := by
    rw [lay_len]
    refine Nat.le_trans (colP_len _ _ _ _) (Nat.le_trans (Nat.pow_le_pow_left hN _) (Nat.le_trans (Nat.pow_le_pow_right (by omega) (show k ≤ 3 by omega)) (by decide)))
  have hlk1 : k + 1 ≠ H_ → (layN c ts (k + 1) lay0).length ≤ 4096 := fun f => by
    rw [lay_len]
    refine Nat.le_trans (colP_len _ _ _ _) (Nat.le_trans (Nat.pow_le_pow_left hN _) (Nat.le_trans (Nat.pow_le_pow_right (by omega) (show k + 1 ≤ 3 by omega)) (by decide)))
  have hsucc : layN c ts (k + 1) lay0 = (layN c ts k lay0).flatMap (layS c ts) := layN_succ k lay0
  generalize hnow : layN c ts k lay0 = now at *
  have fail : 5000 < (layN c ts (k + 1) lay0).length → ∀ {h' : H}, Ext h0 h' → ∃ u b, AVal.tuple [.sl Sl.nil, .bool false] = .tuple [.sl u, .bool b] ∧ (b = true ↔ (layN c ts H_ lay0).length ≤ 5000) ∧ (b = true → RdSS h' u (col3 (layN c ts H_ lay0))) ∧ Ext h0 h' := fun f {h'} e => by
    have hkH : k + 1 = H_ := by
      refine Classical.byContradiction fun g => ?_
      have := hlk1 g
      omega
    refine ⟨_, _, rfl, ⟨(fun f => by cases f), fun g => ?_⟩, (fun f => by cases f), e⟩
    rw [hkH] at f
    omega
  refine newS_ow (by rfl) fun z h6 oz lz zo e6 => ?_
  have x6 : Ext h h6 := by rw [e6]; exact Ext.app _ _
  refine spec_l06Columns_rule2 _ _ X _ _ _ _ (fun z i g => ∃ p : Nat, i = p ∧ p ≤ now.length ∧ NewSS h.length g z (col3 ((now.take p).flatMap (layS c ts))) ∧ ((now.take p).flatMap (layS c ts)).length ≤ 5000 ∧ Ext h g) (fun _ i _ => (now.length - i).toNat) ?_ _ _ ⟨0, rfl, by omega, NewSS.mk0 oz (fun o e => by rw [zo] at e; cases e; exact Nat.le_refl _), by simp, x6⟩
  rintro Y z _ g ⟨p, rfl, hp, nz, hpl, xg⟩ hY
  unfold spec_l06Columns_b2 spec_l06Columns_C2 spec_l06Columns_C1
  refine bif_dec (fun hpi => ?_) (fun hpi => ?_)
  rotate_left
  · rw [show p = now.length by omega, List.take_length] at nz hpl
    rw [← hsucc] at nz hpl
    rw [w64_of (by omega) (by omega)]
    exact hX _ _ _ ⟨k + 1, by push_cast; rfl, by omega, nz.rd, fun _ => hpl, x.trans xg⟩ (by omega)
  have hp' : p < now.length := by omega
  have hx := hB now[p] (List.getElem_mem hp')
  obtain ⟨a, b, d, hxe⟩ : ∃ a b d, now[p] = (a, b, d) := ⟨_, _, _, rfl⟩
  rw [hxe] at hx
  simp only at hx
  have hpiece := fm_piece now (layS c ts) hp'
  have htake := fm_take now (layS c ts) hp'
  rw [hxe] at hpiece htake
  have hlayS : layS c ts (a, b, d) = ts.flatMap fun t => if 0 ≤ d ∧ d ≠ sd t 1 then [] else [(a * c + sd t 0, b * c + sd t 2, sd t 3)] := rfl
  generalize hgs : (fun t : Tile => if 0 ≤ d ∧ d ≠ sd t 1 then [] else [(a * c + sd t 0, b * c + sd t 2, sd t 3)]) = gs at *
  have hgv : ∀ t, gs t = if 0 ≤ d ∧ d ≠ sd t 1 then [] else [(a * c + sd t 0, b * c + sd t 2, sd t 3)] := fun t => by rw [← hgs]
  rw [hlayS] at hpiece htake
  refine spec_l06Columns_rule4 _ _ X Y _ _ _ _ _ (fun z i g' => ∃ j : Nat, i = j ∧ j ≤ ts.length ∧ NewSS h.length g' z (col3 ((now.take p).flatMap (layS c ts) ++ (ts.take j).flatMap gs)) ∧ ((now.take p).flatMap (layS c ts) ++ (ts.take j).flatMap gs).length ≤ 5000 ∧ Ext h g') (fun _ i _ => (ts.length - i).toNat) ?_ _ _ ⟨0, rfl, by omega, by simpa using nz, by simpa using hpl, xg⟩
  rintro Z z _ g' ⟨j, rfl, hj, nz, hpl, xg'⟩ hZ
  unfold spec_l06Columns_b4 spec_l06Columns_C4 spec_l06Columns_C3
  have o := o1.ext (x.trans xg')
  refine isPt_in (o.ldS rfl rfl ?_)
  refine bif_dec (fun hji => ?_) (fun hji => ?_)
  rotate_left
  · rw [show j = ts.length by omega, List.take_length, ← htake] at nz hpl
    rw [w64_of (by omega) (by omega)]
    exact hY _ _ _ ⟨p + 1, by push_cast; rfl, by omega, nz, hpl, xg'⟩ (by omega)
  have hj' : j < ts.length := by omega
  have E : Ext h0 g' := (x1.trans x).trans xg'
  refine isPt_in (o.ldS rfl rfl ?_)
  refine (r.ext E).ldT (by omega) (by omega) fun t ht => ?_
  rw [Int.toNat_natCast] at ht
  have htm : t ∈ ts := List.mem_of_getElem? ht
  have htk : ts[j] = t := (List.getElem?_eq_some_iff.1 ht).2
  have hpiece2 := fm_piece ts gs hj'
  have htake2 := fm_take ts gs hj'
  rw [htk] at hpiece2 htake2
  have b0 := T.2 t htm 0 (by omega)
  have b2 := T.2 t htm 2 (by omega)
  refine newO_obj fun g3 og3 y3 m3 => ?_
  refine og3.stA fun g4 og4 bb4 m4 => ?_
  have y4 : Ext g' g4 := y3.but_ bb4 (some_le (Nat.le_refl _))
  have o4 := o.ext y4
  have rd4 := rd.ext (xg'.trans y4)
  have rd3 : ∀ {q : Nat} {K : Int → Prop}, q < 3 → K ([a, b, d].getD q 0) → ixS u 1 (p : Int) fun p => Cl.ldS p g4 fun v => ixS v 1 (q : Int) fun p => Cl.ldI .i64 p g4 K := fun {q K} hq hk => by
    refine rd4.ldG (by omega) (by rw [col3_len]; omega) fun v rv lv => ?_
    rw [Int.toNat_natCast, col3_row hp', hxe] at rv
    exact rv.ldG (by omega) (by simp; omega) (by rw [Int.toNat_natCast]; exact hk)
  have nz4 := nz.ext y4
  have hzl := nz.rd.len
  rw [col3_len] at hzl
  have skip : 0 ≤ d ∧ d ≠ sd t 1 → Z (spec_l06Columns_e4 (H_ : Int) ⟨some h0.length, 2, 0⟩ u (k : Int) z (p : Int) (w64 ((j : Int) + 1))) g4 := fun hs => by
    have hg : gs t = [] := by rw [hgv, if_pos hs]
    rw [hg, List.append_nil] at htake2
    rw [w64_of (by omega) (by omega)]
    refine hZ _ _ _ ⟨j + 1, by push_cast; rfl, by omega, ?_, ?_, xg'.trans y4⟩ (by omega)
    · rw [htake2]; exact nz4
    · rw [htake2]; exact hpl
  have a0 : 0 ≤ a * c := Int.mul_nonneg hx.1.1 (by have := T.1; omega)
  have a1 : (a + 1) * c ≤ 1296 * 6 := Int.mul_le_mul (by omega) hc (by have := T.1; omega) (by decide)
  have c0 : 0 ≤ b * c := Int.mul_nonneg hx.2.1 (by have := T.1; omega)
  have c1 : (b + 1) * c ≤ 1296 * 6 := Int.mul_le_mul (by omega) hc (by have := T.1; omega) (by decide)
  rw [Int.add_mul, Int.one_mul] at a1 c1
  have hc1 := T.1
  have ew1 : w64 (w64 (a * c) + sd t 0) = a * c + sd t 0 := by rw [w64_of (n := a * c) (by omega) (by omega), w64_of (by omega) (by omega)]
  have ew2 : w64 (w64 (b * c) + sd t 2) = b * c + sd t 2 := by rw [w64_of (n := b * c) (by omega) (by omega), w64_of (by omega) (by omega)]
  have take : ¬ (0 ≤ d ∧ d ≠ sd t 1) → bif ((z.len : Int) == 5000) then (∃ u b, AVal.tuple [.sl Sl.nil, .bool false] = .tuple [.sl u, .bool b] ∧ (b = true ↔ (layN c ts H_ lay0).length ≤ 5000) ∧ (b = true → RdSS g4 u (col3 (layN c ts H_ lay0))) ∧ Ext h0 g4) else
      ixS u 1 (p : Int) fun p17 => Cl.ldS p17 g4 fun s18 => ixS s18 1 0 fun p19 => Cl.ldI .i64 p19 g4 fun n20 => isPt ⟨some h0.length, 2, 0⟩ (Cl.ldI .i64 (Pt.add ⟨some h0.length, 2, 0⟩ 0) g4 fun n21 => ixA ⟨some g'.length, 4, 0⟩ 4 1 0 fun p22 => Cl.ldI .i64 p22 g4 fun n23 =>
      ixS u 1 (p : Int) fun p24 => Cl.ldS p24 g4 fun s25 => ixS s25 1 1 fun p26 => Cl.ldI .i64 p26 g4 fun n27 => isPt ⟨some h0.length, 2, 0⟩ (Cl.ldI .i64 (Pt.add ⟨some h0.length, 2, 0⟩ 0) g4 fun n28 => ixA ⟨some g'.length, 4, 0⟩ 4 1 2 fun p29 => Cl.ldI .i64 p29 g4 fun n30 => ixA ⟨some g'.length, 4, 0⟩ 4 1 3 fun p31 => Cl.ldI .i64 p31 g4 fun n32 =>
      newS 3 1 [i64 (w64 (w64 (n20 * n21) + n23)), i64 (w64 (w64 (n27 * n28) + n30)), i64 n32] g4 fun s33 h34 => newS 1 1 [.sl s33] h34 fun s35 h36 => Cl.app z s35 1 h36 fun s37 h38 => Z (spec_l06Columns_e4 (H_ : Int) ⟨some h0.length, 2, 0⟩ u (k : Int) s37 (p : Int) (w64 ((j : Int) + 1))) h38)) := fun hno => by
    have hg : gs t = [(a * c + sd t 0, b * c + sd t 2, sd t 3)] := by rw [hgv, if_neg hno]
    refine bif_eq (fun hfull => fail ?_ (E.trans y4)) (fun hfull => ?_)
    · rw [hsucc, hpiece, hpiece2, hg]
      rw [hzl] at hfull
      simp only [List.length_append, List.length_cons, List.length_nil] at hfull ⊢
      omega
    refine rd3 (q := 0) (by omega) (isPt_in (o4.ldI rfl rfl ?_))
    refine og4.sdI (by omega) (by omega) ?_
    refine rd3 (q := 1) (by omega) (isPt_in (o4.ldI rfl rfl ?_))
    refine og4.sdI (by omega) (by omega) ?_
    refine og4.sdI (by omega) (by omega) ?_
    show newS 3 1 [i64 (w64 (w64 (a * c) + sd t 0)), i64 (w64 (w64 (b * c) + sd t 2)), i64 (sd t 3)] g4 _
    rw [ew1, ew2]
    refine newS_ow (by rfl) fun v g6 ov lv vo e6 => ?_
    have y6 : Ext g4 g6 := by rw [e6]; exact Ext.app _ _
    have gl := xg.len
    have gl' := xg'.len
    have gl4 := y4.len
    refine (nz4.ext y6).push (l := [a * c + sd t 0, b * c + sd t 2, sd t 3]) ov (m := g4.length) (fun o e => by rw [vo] at e; cases e; exact Nat.le_refl _) (by omega) ⟨g4, nz4, Nat.le_refl _, y6⟩ (by rw [col3_len]; unfold lim; omega) (by have := y6.len; omega) fun z' g8 nz' bz => ?_
    rw [w64_of (by omega) (by omega)]
    refine hZ _ _ _ ⟨j + 1, by push_cast; rfl, by omega, ?_, ?_, (xg'.trans (y4.trans y6)).but_ bz fun o e => nz.fr o e⟩ (by omega)
    · rw [htake2, hg, ← List.append_assoc, col3_app]; exact nz'
    · rw [htake2, hg, ← List.append_assoc, List.length_append, List.length_singleton]; rw [hzl] at hfull; omega
  refine rd3 (q := 2) (by omega) ?_
  refine bif_dec (fun hd0 => ?_) (fun hd0 => ?_)
  · refine rd3 (q := 2) (by omega) ?_
    refine og4.sdI (by omega) (by omega) ?_
    refine bif_ne (fun hq => skip ⟨hd0, hq⟩) (fun hq => take fun f => f.2 hq)
  · exact take fun f => hd0 f.1
end
end Go.Proofs.Ytcoampecbpiecaa.Cl

/- Contracts of the reference's code of columns and of CountColumns. No claim is stated here. -/
set_option linter.unusedVariables false
set_option linter.unusedSimpArgs false
namespace Go.Proofs.Ytcoampecbpiecaa.Cl
open Go
section
variable {h0 : H} {c : Int} {s : Sl} {ts : List Tile} {H_ : Nat}
theorem l06Code_c (r : Rd h0 s 4 (tcs ts)) (sz : ts.length ≤ 1048576) {n : Int} :
    callV SP i_spec_l06Code [.agg (SetC c s), i64 n] h0 fun v h' => ∃ u, v = .tuple [.sl u, i64 (codeS c ts n)] ∧ (codeS c ts n = 0 → RdSS h' u (col3 (layN c ts n.toNat lay0))) ∧ (codeS c ts n ≠ 0 → u = Sl.nil) ∧ Ext h0 h' := by
  apply spec_l06Code_call
  unfold spec_l06Code_main
  refine newK_obj fun h1 o1 x1 l1 => ?_
  refine o1.ldA rfl ?_
  refine (l01Is_c (r.ext x1)).to ?_
  rintro e h3 ⟨he, x3⟩
  have X3 := x1.trans x3
  have fin : ∀ {h' : H}, codeS c ts n ≠ 0 → Ext h0 h' → ∀ k : Int, k = codeS c ts n → ∃ u, AVal.tuple [.sl Sl.nil, i64 k] = .tuple [.sl u, i64 (codeS c ts n)] ∧ (codeS c ts n = 0 → RdSS h' u (col3 (layN c ts n.toNat lay0))) ∧ (codeS c ts n ≠ 0 → u = Sl.nil) ∧ Ext h0 h' := fun hq x k hk => ⟨_, by rw [hk], fun f => absurd f hq, fun _ => rfl, x⟩
  refine bif_not (fun hq => ?_) (fun hq => ?_)
  · have h1 : codeOf (setOK c ts) (1 ≤ n ∧ n ≤ 4) = 1 := codeOf_no fun hs => by rw [he.2 hs] at hq; cases hq
    have h2 : codeS c ts n = 1 := by rw [codeS_no (by rw [h1]; decide), h1]
    exact fin (by rw [h2]; decide) X3 1 h2.symm
  have hs := he.1 hq
  have T := hs.ts
  refine l01In_k ?_
  refine bif_not (fun hr => ?_) (fun hr => ?_)
  · have hr' : ¬ (1 ≤ n ∧ n ≤ 4) := of_decide_eq_false hr
    have h1 : codeOf (setOK c ts) (1 ≤ n ∧ n ≤ 4) = 2 := codeOf_range hs hr'
    have h2 : codeS c ts n = 2 := by rw [codeS_no (by rw [h1]; decide), h1]
    exact fin (by rw [h2]; decide) X3 2 h2.symm
  have hr' : 1 ≤ n ∧ n ≤ 4 := of_decide_eq_true hr
  have h00 : codeOf (setOK c ts) (1 ≤ n ∧ n ≤ 4) = 0 := codeOf_yes hs hr'
  obtain ⟨H_, rfl⟩ : ∃ H_ : Nat, n = H_ := ⟨n.toNat, by omega⟩
  have hof : colsOf c ts (H_ : Int) = colP c ts H_ (-1) 0 0 := by unfold colsOf; rw [Int.toNat_natCast]
  refine (o1.ext x3).ldA rfl ?_
  refine (l06Size_c (s := s) T.1 hs.1.2 (H_ := H_) (by omega)).to ?_
  rintro _ h8 ⟨rfl, x8⟩
  refine bif_dec (fun hg => ?_) (fun hg => ?_)
  · have h2 : codeS c ts (H_ : Int) = 3 := codeS_3 h00 (.inl (by rw [Int.toNat_natCast]; exact hg))
    exact fin (by rw [h2]; decide) (X3.trans x8) 3 h2.symm
  refine (o1.ext (x3.trans x8)).ldA rfl ?_
  refine (l06Columns_c (H_ := H_) (r.ext (X3.trans x8)) T hs.1.2 hs.2.1 (by omega)).to ?_
  rintro _ h11 ⟨u, b, rfl, hb, hu, x11⟩
  refine ⟨_, rfl, _, rfl, _, rfl, _, rfl, ?_⟩
  have hlen : (layN c ts H_ lay0).length = (colsOf c ts (H_ : Int)).length := by rw [hof]; exact lay_len H_
  refine bif_not (fun hf => ?_) (fun hf => ?_)
  · have h2 : codeS c ts (H_ : Int) = 3 := codeS_3 h00 (.inr (by
      rw [← hlen]
      refine Classical.byContradiction fun f => ?_
      have : b = true := hb.2 (by omega)
      rw [hf] at this; cases this))
    exact fin (by rw [h2]; decide) ((X3.trans x8).trans x11) 3 h2.symm
  · have h2 : codeS c ts (H_ : Int) = 0 := codeS_0 h00 (by
      rw [Int.toNat_natCast, ← hlen]
      have := hb.1 hf
      omega)
    exact ⟨u, by rw [h2], fun _ => by rw [Int.toNat_natCast]; exact hu hf, fun f => absurd h2 f, (X3.trans x8).trans x11⟩
theorem spec_CountColumns_c (r : Rd h0 s 4 (tcs ts)) (sz : ts.length ≤ 1048576) {n : Int} (bn : i64ok n) :
    callV SP i_spec_CountColumns [.agg (SetC c s), i64 n] h0 fun v h' => v = .tuple [i64 (F_CountColumns_0 c ts n), i64 (codeS c ts n)] ∧ Ext h0 h' := by
  apply spec_CountColumns_call
  unfold spec_CountColumns_main
  refine newK_obj fun h1 o1 x1 l1 => ?_
  refine o1.ldA rfl ?_
  refine (l06Code_c (n := n) (r.ext x1) sz).to ?_
  rintro _ h3 ⟨u, rfl, hu, _, x3⟩
  refine ⟨_, rfl, _, rfl, _, rfl, _, rfl, ?_⟩
  refine bif_ne (fun hq => ⟨by rw [F_CountColumns_0, if_neg hq], x1.trans x3⟩) (fun hq => ?_)
  refine ⟨?_, x1.trans x3⟩
  rw [(hu hq).len, col3_len, F_CountColumns_0, if_pos hq, hq, lay_len]
  rfl
end
end Go.Proofs.Ytcoampecbpiecaa.Cl

/- Strip sequences: numbers of ways, column by column, on both sides. No claim is stated here. -/
set_option linter.unusedVariables false
set_option linter.unusedSimpArgs false
namespace Go.Proofs.Ytcoampecbpiecaa.Cl
open Go
theorem pushI3 {h : H} {s : Sl} {l : List Int} {x : Int} (r : Ow h s 1 (ic l)) (hl : (l.length : Int) + 1 ≤ lim) {K : Sl → H → Prop}
    (hk : ∀ s' h', Ow h' s' 1 (ic (l ++ [x])) → But s.o h h' → (∀ o, s.o = some o → s'.o = some o) → K s' h') : newS 1 1 [.int .i64 x] h fun t h1 => app s t 1 h1 K := by
  refine newS_ow (by rfl) fun t h1 ot tl to e1 => ?_
  have e1' : Ext h h1 := by rw [e1]; exact Ext.app _ _
  have hsl := r.rd.ilen
  exact app_ow (by omega) (r.ext e1') ot.rd (by rw [tl, hsl]; exact_mod_cast hl) fun s' h' o' ln b k1 k2 => hk s' h' (by rw [ic_app]; exact o') ((e1'.but _).trans b) k1
/-! ### the numbers -/
def stp (f : Int → Int) (now nx : List Int) (e : Int × Int) : List Int := nx.set e.2.toNat (f (nx.getD e.2.toNat 0 + now.getD e.1.toNat 0))
def stepL (f : Int → Int) (es : List (Int × Int)) (N : Nat) (now : List Int) : List Int := es.foldl (stp f now) (List.replicate N 0)
def totL (f : Int → Int) (l : List Int) : Int := l.foldl (fun s x => f (s + x)) 0
def seqL (f : Int → Int) (es : List (Int × Int)) (N : Nat) : Nat → List Int → List Int
  | 0, _ => []
  | k + 1, now => totL f (stepL f es N now) :: seqL f es N k (stepL f es N now)
def runQ {σ : Type} (f : Int → Int) (es : List (Int × Int)) (N : Nat) (g : σ → Int → σ × Bool) : Nat → σ → List Int → σ
  | 0, t, _ => t
  | k + 1, t, now => if (g t (totL f (stepL f es N now))).2 = true then runQ f es N g k (g t (totL f (stepL f es N now))).1 (stepL f es N now) else (g t (totL f (stepL f es N now))).1
def Bd (B : Int) (l : List Int) : Prop := ∀ i, 0 ≤ l.getD i 0 ∧ l.getD i 0 ≤ B
structure Fit (f : Int → Int) (B : Int) : Prop where
  b0 : 0 ≤ B
  b1 : B ≤ 1000000000000001
  f0 : ∀ x, 0 ≤ x → 0 ≤ f x ∧ f x ≤ B
theorem stp_len (f now nx e) : (stp f now nx e).length = nx.length := by simp [stp]
theorem stp_bd {f : Int → Int} {B : Int} (F : Fit f B) {now nx : List Int} {e : Int × Int} (hn : Bd B now) (hx : Bd B nx) : Bd B (stp f now nx e) := fun i => by
  unfold stp
  rw [List.getD_eq_getElem?_getD, List.getElem?_set]
  by_cases h : e.2.toNat = i
  · rw [if_pos h]
    split
    · have h1 := hx e.2.toNat
      have h2 := hn e.1.toNat
      exact F.f0 _ (by omega)
    · exact ⟨Int.le_refl _, F.b0⟩
  · rw [if_neg h, ← List.getD_eq_getElem?_getD]; exact hx i
theorem fold_stp {f : Int → Int} {B : Int} (F : Fit f B) {now : List Int} (hn : Bd B now) : ∀ (es : List (Int × Int)) (nx : List Int), Bd B nx → Bd B (es.foldl (stp f now) nx) ∧ (es.foldl (stp f now) nx).length = nx.length
  | [], nx, h => ⟨h, rfl⟩
  | e :: es, nx, h => by
    have := fold_stp F hn es (stp f now nx e) (stp_bd F hn h)
    exact ⟨this.1, by rw [List.foldl_cons, this.2, stp_len]⟩
theorem bd_zero {B : Int} (h : 0 ≤ B) (N : Nat) : Bd B (List.replicate N 0) := fun i => by
  rw [List.getD_eq_getElem?_getD, List.getElem?_replicate]
  split
  · exact ⟨Int.le_refl _, h⟩
  · exact ⟨Int.le_refl _, h⟩
theorem bd_one {B : Int} (h : 1 ≤ B) (N : Nat) : Bd B (List.replicate N 1) := fun i => by
  rw [List.getD_eq_getElem?_getD, List.getElem?_replicate]
  split
  · exact ⟨by decide, h⟩
  · exact ⟨Int.le_refl _, by show (0 : Int) ≤ B; omega⟩
theorem stepL_bd {f : Int → Int} {B : Int} (F : Fit f B) {es : List (Int × Int)} {N : Nat} {now : List Int} (hn : Bd B now) : Bd B (stepL f es N now) ∧ (stepL f es N now).length = N := by
  have := fold_stp F hn es (List.replicate N 0) (bd_zero F.b0 N)
  exact ⟨this.1, by unfold stepL; rw [this.2]; simp⟩
theorem foldl_take {α β : Type} (g : β → α → β) (x : β) {l : List α} {k : Nat} (h : k < l.length) : (l.take (k + 1)).foldl g x = g ((l.take k).foldl g x) l[k] := by
  rw [List.take_succ_eq_append_getElem h, List.foldl_append]; rfl
theorem totL_bd {f : Int → Int} {B : Int} (F : Fit f B) {l : List Int} (hl : Bd B l) : ∀ k, k ≤ l.length → 0 ≤ (l.take k).foldl (fun s x => f (s + x)) 0 ∧ (l.take k).foldl (fun s x => f (s + x)) 0 ≤ B
  | 0, _ => ⟨Int.le_refl _, F.b0⟩
  | k + 1, h => by
    have ih := totL_bd F hl k (by omega)
    rw [foldl_take _ _ (by omega)]
    have hk := hl k
    rw [List.getD_eq_getElem?_getD, List.getElem?_eq_getElem (by omega)] at hk
    have hk' : 0 ≤ l[k] ∧ l[k] ≤ B := hk
    exact F.f0 _ (by omega)
/-! ### reading columns -/
theorem c3_at : ∀ (l : List (Int × Int × Int)) (i : Nat) (x : Int × Int × Int), l[i]? = some x → ((c3 l).drop (i * 3)).take 3 = [i64 x.1, i64 x.2.1, i64 x.2.2]
  | [], i, x, h => by simp at h
  | a :: l, 0, x, h => by
    simp at h
    subst h
    unfold c3
    simp
  | a :: l, i + 1, x, h => by
    have ih := c3_at l i x (by simpa using h)
    unfold c3 at *
    rw [List.map_cons, List.flatten_cons, show (i + 1) * 3 = 3 + i * 3 by omega, ← List.drop_drop]
    exact ih
theorem Rd.ldC {h : H} {s : Sl} {l : List (Int × Int × Int)} (r : Rd h s 3 (c3 l)) {i : Nat} (h1 : i < l.length) {K : List AVal → Prop} (hk : K [i64 l[i].1, i64 l[i].2.1, i64 l[i].2.2]) : ixS s 3 (i : Int) fun p => Cl.ldA p 3 h K := by
  have hl := r.len
  rw [c3_len] at hl
  refine r.ldA (by omega) (by omega) ?_
  rw [Int.toNat_natCast, c3_at l i l[i] (List.getElem?_eq_getElem h1)]
  exact hk
theorem Obj.ixI {h : H} {o : Nat} {cs : List AVal} (x : Obj h o cs) {n i : Nat} (hn : cs.length = n) (hi : i < n) {K : Pt → Prop} (hk : ∀ p, cell h p = cs[i]? → K p) : ixA ⟨some o, n, 0⟩ n 1 (i : Int) K := by
  refine ⟨⟨by omega, by omega⟩, rfl, hk _ ?_⟩
  rw [Int.toNat_natCast, Nat.mul_one]
  exact x.cellE hn
theorem getD_map_pr {l : List (Int × Int × Int)} {k : Nat} (h : k < l.length) : (l.map pr)[k]'(by simpa using h) = (l[k].1, l[k].2.1) := by simp [pr]
/-! ### the program's sequences -/
section
variable {hb : H} {n N : Nat} {c : Int} {s : Sl} {ts : List Tile} {H_ os : Nat} {q : Sl} {f : Int → Int} {B : Int} {gf gv : Nat} {capf capv : List AVal} {σ : Type} {g : σ → Int → σ × Bool} {I : σ → H → Prop} {J : σ → Prop} {n1 : Nat}
theorem seqLoop (k : Strip hb n c s ts H_ os q) (T : TS c ts) (hc6 : c ≤ 6) (hH : H_ ≤ 4) (hN : (N : Int) = c ^ H_) (F : Fit f B) (hlen : (colsI c ts H_).length ≤ 5000)
    (hf : ∀ (x : Int) (h : H) (K : Int → H → Prop), 0 ≤ x → x ≤ 4000000000000000 → K (f x) h → callI SP .i64 gf ([i64 x] ++ capf) h K)
    (hI : ∀ t h h', I t h → Till n1 h h' → I t h') (hn1 : hb.length ≤ n1)
    (hJ : ∀ t y, (g t y).2 = true → J (g t y).1) (hv : ∀ (t : σ) (y : Int) (h' : H), J t → I t h' → 0 ≤ y → y ≤ B → Ext hb h' → n1 ≤ h'.length → callB SP gv ([i64 y] ++ capv) h' fun b h'' => b = (g t y).2 ∧ I (g t y).1 h'' ∧ Chg (fun i => hb.length ≤ i ∧ i < n1) h' h'')
    (μ : σ → Nat) (hμ : ∀ t y, (g t y).2 = true → μ (g t y).1 < μ t) {R : σ} {K : AVal → H → Prop} (hK : ∀ h', I R h' → Ext hb h' → K (.tuple []) h') :
    ∀ (m : Nat) (t : σ) (now : List Int) (u : Sl) (h : H), μ t < m → runQ f ((colsI c ts H_).map pr) N g m t now = R → Bd B now → now.length = N → Ow h u 1 (ic now) → Fr n1 u → J t → I t h → Ext hb h → n1 ≤ h.length →
      impl_strip_sequence_L0 SP K ⟨some os, 5, 0⟩ (.func gf capf) (.func gv capv) u h
  | 0, t, now, u, h, hm, _, _, _, _, _, _, _, _, _ => by omega
  | m + 1, t, now, u, h, hm, hR, hbd, hnl, ou, fu, jt, i, x, hh => by
    apply impl_strip_sequence_unroll0
    unfold impl_strip_sequence_b0
    have hp := pow_small4 (n := H_) T.1 hc6 hH
    have b1 := F.b1
    have ks := k.ext x
    refine ⟨rfl, isPt_in (ks.o.ldI (i := 3) rfl rfl ?_)⟩
    refine mkS_ow (by omega) (by unfold lim; omega) fun v h2 ov lv vo e2 => ?_
    have x2 : Ext h h2 := by rw [e2]; exact Ext.app _ _
    rw [show (List.replicate (c ^ H_).toNat [i64 0]).flatten = ic (List.replicate N 0) from by
      rw [show (c ^ H_).toNat = N by omega]
      induction N with
      | zero => rfl
      | succ z _ => simp [ic, List.map_replicate]] at ov
    refine ⟨rfl, isPt_in ((ks.ext x2).o.ldS (i := 4) rfl rfl ?_)⟩
    have hql := k.len
    have hcb : ∀ e ∈ (colsI c ts H_).map pr, (0 ≤ e.1 ∧ e.1 < N) ∧ 0 ≤ e.2 ∧ e.2 < N := fun e he => by
      rw [colsI_pr T] at he
      have := colP_bound T H_ (-1) 0 0 1 (by omega) (by omega) e he
      rw [Int.one_mul, ← hN] at this
      exact this
    have l2 := x2.len
    have hvf : Fr h.length v := fun o e => by rw [vo] at e; cases e; exact Nat.le_refl _
    generalize hes : (colsI c ts H_).map pr = es at *
    have hel : es.length = (colsI c ts H_).length := by rw [← hes]; simp
    refine impl_strip_sequence_rule2 _ _ _ _ _ _ _ _ _ _ _ (fun j g' => ∃ z : Nat, j = z ∧ z ≤ es.length ∧ Ow g' v 1 (ic ((es.take z).foldl (stp f now) (List.replicate N 0))) ∧ Ext h g') (fun j _ => (es.length - j).toNat) ?_ _ ⟨0, rfl, by omega, ov, x2⟩
    rintro Y _ g' ⟨z, rfl, hz, ov, e⟩ hY
    unfold impl_strip_sequence_b2 impl_strip_sequence_C2
    have hfold := fold_stp F hbd (es.take z) (List.replicate N 0) (bd_zero F.b0 N)
    refine bif_dec (fun hi => ?_) (fun hi => ?_)
    · have hz' : z < es.length := by omega
      have hzc : z < (colsI c ts H_).length := by omega
      have hez : es[z] = ((colsI c ts H_)[z].1, (colsI c ts H_)[z].2.1) := by
        have := getD_map_pr hzc
        simp only [← hes]
        exact this
      have hb' := hcb es[z] (List.getElem_mem hz')
      rw [hez] at hb'
      simp only at hb'
      refine (ks.ext e).cols.rd.ldC hzc ?_
      generalize (colsI c ts H_)[z] = x3 at *
      refine newO_obj fun g3 og3 y3 m3 => ?_
      refine og3.stA fun g4 og4 b4 m4 => ?_
      have y4 : Ext g' g4 := y3.but_ b4 (some_le (Nat.le_refl _))
      have ov4 := ov.ext y4
      have ou4 := ou.ext (e.trans y4)
      have rdc : ∀ {i : Nat} {K : Pt → Int → Prop} (hi : i < 3), (∀ p, K p ([x3.1, x3.2.1, x3.2.2].getD i 0)) → ixA ⟨some g'.length, 3, 0⟩ 3 1 (i : Int) fun p => Cl.ldI .i64 p g4 (K p) := fun {i K} hi hk => by
        refine og4.ixI rfl hi fun p hp => ⟨_, ?_, hk p⟩
        rw [hp]
        match i, hi with
        | 0, _ => rfl
        | 1, _ => rfl
        | 2, _ => rfl
      refine rdc (i := 1) (by omega) fun p5 => ?_
      refine rdc (i := 1) (by omega) fun p7 => ?_
      show ixS v 1 x3.2.1 _
      refine ov4.rd.ldG hb'.2.1 (by rw [hfold.2]; simp; omega) ?_
      refine rdc (i := 0) (by omega) fun p11 => ?_
      show ixS u 1 x3.1 _
      refine ou4.rd.ldG hb'.1.1 (by omega) ?_
      have q1 := hfold.1 x3.2.1.toNat
      have q2 := hbd x3.1.toNat
      refine via_func ?_
      rw [w64_of (by omega) (by omega)]
      refine hf _ _ _ (by omega) (by omega) ⟨rfl, ?_⟩
      refine ov4.stI hb'.2.1 (by have := ov4.rd.ilen; rw [hfold.2] at this; simp at this; omega) _ fun g5 o5 b5 l5 => ?_
      rw [w64_of (by omega) (by omega)]
      refine hY _ _ ⟨z + 1, by push_cast; rfl, by omega, ?_, (e.trans y4).but_ b5 fun o' e' => hvf o' e'⟩ (by omega)
      rw [foldl_take _ _ hz', hez]
      exact o5
    · rw [show z = es.length by omega, List.take_length] at ov
      have hst := stepL_bd F (es := es) (N := N) hbd
      change Ow g' v 1 (ic (stepL f es N now)) at ov
      have hvl := ov.rd.ilen
      clear hY hfold
      refine impl_strip_sequence_rule4 _ _ _ _ _ _ _ _ _ (fun a j g2 => ∃ z : Nat, j = z ∧ z ≤ (stepL f es N now).length ∧ a = ((stepL f es N now).take z).foldl (fun s x => f (s + x)) 0 ∧ g' = g2) (fun _ j _ => ((stepL f es N now).length - j).toNat) ?_ _ _ ⟨0, rfl, by omega, rfl, rfl⟩
      rintro Z _ _ _ ⟨z, rfl, hz, rfl, rfl⟩ hZ
      unfold impl_strip_sequence_b4 impl_strip_sequence_C4
      have ht := totL_bd F hst.1 z hz
      refine bif_dec (fun hi => ?_) (fun hi => ?_)
      · have hz' : z < (stepL f es N now).length := by omega
        have q1 := hst.1 z
        refine ov.rd.ldG (by omega) (by omega) ?_
        rw [Int.toNat_natCast]
        refine via_func ?_
        rw [w64_of (by omega) (by omega)]
        refine hf _ _ _ (by omega) (by omega) ?_
        rw [w64_of (by omega) (by omega)]
        refine hZ _ _ _ ⟨z + 1, by push_cast; rfl, by omega, ?_, rfl⟩ (by omega)
        rw [foldl_take _ _ hz', List.getD_eq_getElem?_getD, List.getElem?_eq_getElem hz']
        rfl
      · rw [show z = (stepL f es N now).length by omega, List.take_length] at ht ⊢
        change 0 ≤ totL f (stepL f es N now) ∧ totL f (stepL f es N now) ≤ B at ht
        refine via_func ?_
        have i2 : I t g' := hI t h g' i (e.till n1)
        have el := e.len
        refine (hv t (totL f (stepL f es N now)) g' jt i2 ht.1 ht.2 (x.trans e) (by omega)).to ?_
        rintro b g2 ⟨hb2, i3, cg⟩
        have hX : Ext hb g2 := (x.trans e).chg_ cg fun i hi => hi.1
        rw [runQ] at hR
        refine bif_not (fun hf' => ?_) (fun hf' => ?_)
        · rw [hf'] at hb2
          rw [if_neg (by rw [← hb2]; decide)] at hR
          rw [hR] at i3
          exact hK g2 i3 hX
        · rw [hf'] at hb2
          rw [if_pos hb2.symm] at hR
          have := cg.1
          have hm2 := hμ t _ hb2.symm
          exact seqLoop k T hc6 hH hN F hlen hf hI hn1 hJ hv μ hμ hK m _ _ v g2 (by omega) (by rw [hes]; exact hR) hst.1 hst.2 (ov.chg cg fun i ei f => by have := hvf i ei; omega) (fun o e => by have := hvf o e; omega) (hJ t _ hb2.symm) i3 hX (by omega)
end
end Go.Proofs.Ytcoampecbpiecaa.Cl

/- Contracts of StripSequence. No claim is stated here. -/
set_option linter.unusedVariables false
set_option linter.unusedSimpArgs false
namespace Go.Proofs.Ytcoampecbpiecaa.Cl
open Go
abbrev topS : Int := 1000000000000000
def fS (x : Int) : Int := mnI x 1000000000000001
theorem fitS : Fit fS 1000000000000001 := ⟨by decide, by decide, fun x h => by unfold fS mnI; split <;> omega⟩
def gS (n : Int) (t : List Int × Bool) (y : Int) : (List Int × Bool) × Bool := ((t.1 ++ [y], t.2 && decide (y ≤ topS)), (t.2 && decide (y ≤ topS)) && decide (((t.1.length + 1 : Nat) : Int) < n))
theorem runQ_S {es : List (Int × Int)} {N : Nat} {n : Int} : ∀ (j m : Nat) (now out : List Int), 1 ≤ j → j ≤ m → ((out.length + j : Nat) : Int) = n →
    ((∀ y ∈ seqL fS es N j now, y ≤ topS) → runQ fS es N (gS n) m (out, true) now = (out ++ seqL fS es N j now, true)) ∧ (¬ (∀ y ∈ seqL fS es N j now, y ≤ topS) → (runQ fS es N (gS n) m (out, true) now).2 = false)
  | 0, m, now, out, h, _, _ => by omega
  | j + 1, 0, now, out, _, h, _ => by omega
  | j + 1, m + 1, now, out, h1, h2, hn => by
    rw [runQ, seqL]
    generalize totL fS (stepL fS es N now) = y
    by_cases hy : y ≤ topS
    · have e1 : (gS n (out, true) y).1 = (out ++ [y], true) := by simp [gS, hy]
      cases j with
      | zero =>
        have e2 : (gS n (out, true) y).2 = false := by
          have : ¬ (((out.length + 1 : Nat) : Int) < n) := by omega
          simp only [gS, decide_eq_false this, Bool.and_false]
        rw [if_neg (by rw [e2]; decide), e1]
        exact ⟨fun _ => rfl, fun f => absurd (fun z hz => by simp [seqL] at hz; rw [hz]; exact hy) f⟩
      | succ j =>
        have e2 : (gS n (out, true) y).2 = true := by
          have : ((out.length + 1 : Nat) : Int) < n := by omega
          simp only [gS, decide_eq_true this, decide_eq_true hy]; rfl
        rw [if_pos e2, e1]
        have ih := runQ_S (es := es) (N := N) (n := n) (j + 1) m (stepL fS es N now) (out ++ [y]) (by omega) (by omega) (by simp; omega)
        refine ⟨fun f => ?_, fun f => ih.2 fun g => f fun z hz => ?_⟩
        · rw [ih.1 fun z hz => f z (by simp [hz])]; simp
        · rcases List.mem_cons.1 hz with rfl | hz
          · exact hy
          · exact g z hz
    · have e1 : (gS n (out, true) y).1 = (out ++ [y], false) := by simp [gS, hy]
      have e2 : (gS n (out, true) y).2 = false := by simp [gS, hy]
      rw [if_neg (by rw [e2]; decide), e1]
      exact ⟨fun f => absurd (f y (by simp)) hy, fun _ => rfl⟩
theorem seqL_len {f : Int → Int} {es : List (Int × Int)} {N : Nat} : ∀ (k : Nat) (now : List Int), (seqL f es N k now).length = k
  | 0, _ => rfl
  | k + 1, now => by rw [seqL, List.length_cons, seqL_len k]
/-- The numbers of a strip's sequence. -/
def strS (c : Int) (ts : List Tile) (a n : Int) : List Int := seqL fS (colsOf c ts a) (c ^ a.toNat).toNat n.toNat (List.replicate (c ^ a.toNat).toNat 1)
def SizeS (a n : Int) : Prop := (1 ≤ a ∧ a ≤ 4) ∧ 1 ≤ n ∧ n ≤ 30
open Classical in
noncomputable def codeQ (c : Int) (ts : List Tile) (a n : Int) : Int := if codeOf (setOK c ts) (SizeS a n) ≠ 0 then codeOf (setOK c ts) (SizeS a n) else if codeS c ts a ≠ 0 then codeS c ts a else if ∀ y ∈ strS c ts a n, y ≤ topS then 0 else 3
theorem codeQ_1 {c : Int} {ts : List Tile} {a n : Int} (h : codeOf (setOK c ts) (SizeS a n) ≠ 0) : codeQ c ts a n = codeOf (setOK c ts) (SizeS a n) := by unfold codeQ; rw [if_pos h]
theorem codeQ_2 {c : Int} {ts : List Tile} {a n : Int} (h : codeOf (setOK c ts) (SizeS a n) = 0) (h2 : codeS c ts a ≠ 0) : codeQ c ts a n = codeS c ts a := by unfold codeQ; rw [if_neg (by rw [h]; decide), if_pos h2]
theorem codeQ_3 {c : Int} {ts : List Tile} {a n : Int} (h : codeOf (setOK c ts) (SizeS a n) = 0) (h2 : codeS c ts a = 0) (h3 : ¬ ∀ y ∈ strS c ts a n, y ≤ topS) : codeQ c ts a n = 3 := by unfold codeQ; rw [if_neg (by rw [h]; decide), if_neg (by rw [h2]; decide), if_neg h3]
theorem codeQ_0 {c : Int} {ts : List Tile} {a n : Int} (h : codeOf (setOK c ts) (SizeS a n) = 0) (h2 : codeS c ts a = 0) (h3 : ∀ y ∈ strS c ts a n, y ≤ topS) : codeQ c ts a n = 0 := by unfold codeQ; rw [if_neg (by rw [h]; decide), if_neg (by rw [h2]; decide), if_pos h3]
noncomputable def F_StripSequence_0 (c : Int) (ts : List Tile) (a n : Int) : List Int := sel0 (codeQ c ts a n = 0) (strS c ts a n)
theorem StripSequence_small0 {c : Int} {ts : List Tile} {a n : Int} (sz : ts.length ≤ 1048576) (ba : i64ok a) (bn : i64ok n) : (F_StripSequence_0 c ts a n).length < 1000000 := by
  by_cases h : codeQ c ts a n = 0
  · rw [F_StripSequence_0, sel0_yes h, strS, seqL_len]
    by_cases h1 : codeOf (setOK c ts) (SizeS a n) = 0
    · have := (codeOf_zero h1).2.2
      omega
    · rw [codeQ_1 h1] at h; exact absurd h h1
  · rw [F_StripSequence_0, sel0_no h]; decide
section
variable {h0 : H} {c : Int} {s : Sl} {ts : List Tile} {a n : Int}
theorem impl_StripSequence_c (r : Rd h0 s 4 (tcs ts)) (sz : ts.length ≤ 1048576) (ba : i64ok a) (bn : i64ok n) :
    callV SP i_impl_StripSequence [.agg (SetC c s), i64 a, i64 n] h0 fun v h' => ∃ w, v = .tuple [.sl w, i64 (codeQ c ts a n)] ∧ Ow h' w 1 (ic (F_StripSequence_0 c ts a n)) ∧ Fr h0.length w ∧ Ext h0 h' := by
  have fin : ∀ {h' : H} (k : Int), codeQ c ts a n ≠ 0 → k = codeQ c ts a n → Ext h0 h' → ∃ w, AVal.tuple [.sl Sl.nil, i64 k] = .tuple [.sl w, i64 (codeQ c ts a n)] ∧ Ow h' w 1 (ic (F_StripSequence_0 c ts a n)) ∧ Fr h0.length w ∧ Ext h0 h' := fun k hq hk x =>
    ⟨_, by rw [hk], by rw [F_StripSequence_0, sel0_no hq]; exact Ow.nil _ _, Fr.nil _, x⟩
  apply impl_StripSequence_call
  unfold impl_StripSequence_main
  refine newK_obj fun h1 o1 x1 l1 => ?_
  refine newO_var fun h3 v3 x3 l3 => ?_
  refine newO_var fun h5 v5 x5 l5 => ?_
  have o5 := o1.ext (x3.trans x5)
  have w3 := v3.ext x5
  have X5 := x1.trans (x3.trans x5)
  refine o5.ldA rfl ?_
  refine (setCode_c (r.ext X5) (by omega) _ _ (SizeS a n) fun _ h x => ?_).to ?_
  · apply impl_StripSequence_1_call
    unfold impl_StripSequence_1_main
    refine (w3.ext x).ldI ?_
    refine within_k ?_
    refine bif_dec (fun q1 => ?_) (fun q1 => ⟨_, rfl, ⟨(fun f => by cases f), fun f => absurd f.1 q1⟩, Ext.refl _⟩)
    refine (v5.ext x).ldI ?_
    refine within_k ?_
    exact ⟨_, rfl, ⟨fun f => ⟨q1, of_decide_eq_true f⟩, fun f => decide_eq_true f.2⟩, Ext.refl _⟩
  rintro _ h7 ⟨rfl, x7⟩
  have X7 := X5.trans x7
  refine bif_ne (fun hq => fin _ (by rw [codeQ_1 hq]; exact hq) (codeQ_1 hq).symm X7) (fun hq => ?_)
  have hs := codeOf_zero hq
  have T := hs.1.ts
  refine (o5.ext x7).ldA rfl ?_
  refine (w3.ext x7).ldI ?_
  refine (stripOf_c (n := a) (r.ext X7) sz).to ?_
  rintro _ h11 ⟨p, rfl, hp, x11⟩
  refine ⟨_, rfl, _, rfl, _, rfl, _, rfl, ?_⟩
  have X11 := X7.trans x11
  refine bif_ne (fun h2 => fin _ (by rw [codeQ_2 hq h2]; exact h2) (codeQ_2 hq h2).symm X11) (fun h2 => ?_)
  obtain ⟨os, q, rfl, k⟩ := hp h2
  have ok := codeS_ok h2
  obtain ⟨H_, rfl⟩ : ∃ H_ : Nat, a = H_ := ⟨a.toNat, by have := hs.2.1; omega⟩
  have hof : colsOf c ts (H_ : Int) = colP c ts H_ (-1) 0 0 := by unfold colsOf; rw [Int.toNat_natCast]
  rw [Int.toNat_natCast] at k
  have hpw := ok.pw
  rw [Int.toNat_natCast] at hpw
  have hln := ok.ln
  rw [hof, ← colsI_len T] at hln
  have hHH := hs.2.1
  have hn1 := hs.2.2
  have hp1 := pow_small4 (n := H_) T.1 hs.1.1.2 (by omega)
  obtain ⟨N, hN⟩ : ∃ N : Nat, (N : Int) = c ^ H_ := ⟨(c ^ H_).toNat, by omega⟩
  refine newS_ow (by rfl) fun u h18 ou lu uo e18 => ?_
  have x18 : Ext h11 h18 := by rw [e18]; exact Ext.app _ _
  have l18 : h18.length = h11.length + 1 := by rw [e18]; simp
  refine newO_var fun h20 v20 x20 l20 => ?_
  refine newO_var fun h22 v22 x22 l22 => ?_
  refine (v20.ext x22).st _ fun h23 v23 b23 l23 => ?_
  have w22 := v22.but b23 (fun e => by have := Option.some.inj e; omega)
  refine w22.st _ fun h24 v24 b24 l24 => ?_
  have w23 := v23.but b24 (fun e => by have := Option.some.inj e; omega)
  have x24 : Ext h18 h24 := ((x20.trans x22).but_ b23 (some_le (Nat.le_refl _))).but_ b24 (some_le (by omega))
  have X24 : Ext h11 h24 := x18.trans x24
  have ou24 := ou.ext x24
  have vn : Var h24 h3.length (i64 n) := (v5.ext (x7.trans x11)).ext X24
  have l5' := (x7.trans x11).len
  let I : List Int × Bool → H → Prop := fun t h => ∃ u, Var h h18.length (.sl u) ∧ Ow h u 1 (ic t.1) ∧ u.o = some h11.length ∧ Var h h20.length (.bool t.2)
  have hinit : I ([], true) h24 := ⟨u, w23, ou24, uo, v24⟩
  let R := runQ fS ((colsI c ts H_).map pr) N (gS n) (n.toNat + 1) ([], true) (List.replicate N 1)
  have hrun := runQ_S (es := (colsI c ts H_).map pr) (N := N) (n := n) n.toNat (n.toNat + 1) (List.replicate N 1) [] (by omega) (by omega) (by simp; omega)
  have hstr : strS c ts (H_ : Int) n = seqL fS ((colsI c ts H_).map pr) N n.toNat (List.replicate N 1) := by
    unfold strS
    rw [hof, colsI_pr T, Int.toNat_natCast, show (c ^ H_).toNat = N by omega]
  rw [← hstr, List.nil_append] at hrun
  -- the sequence
  apply impl_strip_sequence_call
  unfold impl_strip_sequence_main
  refine newS_ow (by rfl) fun z g1 oz lz zo e1 => ?_
  have y1 : Ext h24 g1 := by rw [e1]; exact Ext.app _ _
  have k1 := k.ext (X24.trans y1)
  refine ⟨rfl, isPt_in (k1.o.ldI (i := 3) rfl rfl ?_)⟩
  refine (repeatI_c oz.rd (by omega) (by omega)).to ?_
  rintro w g3 ⟨ow, fw, y3⟩
  have hrep : List.replicate (c ^ H_).toNat (i64 1) = ic (List.replicate N 1) := by rw [show (c ^ H_).toNat = N by omega]; simp [ic, List.map_replicate]
  rw [hrep] at ow
  have y1l := y1.len
  have y3l := y3.len
  have Y3 := y1.trans y3
  have till : ∀ t h h', I t h → Till h24.length h h' → I t h' := fun t h h' ⟨u, a1, a2, a3, a4⟩ tl => ⟨u, a1.till tl (by omega), (by
    obtain ⟨p, q⟩ | ⟨o, p, b, cc, d, e⟩ := a2.at_
    · exact ⟨a2.len, .inl ⟨p, q⟩⟩
    · exact ⟨a2.len, .inr ⟨o, p, b, cc, d, tl.get e (by rw [a3] at p; have := Option.some.inj p; omega)⟩⟩), a3, a4.till tl (by omega)⟩
  refine seqLoop (σ := List Int × Bool) (g := gS n) (I := I) (J := fun t => ((t.1.length : Nat) : Int) < n) (n1 := h24.length) (capf := []) (capv := [.ptr (pt h18.length), .ptr (pt h20.length), .ptr (pt h3.length)]) k T hs.1.1.2 (by omega) hN fitS hln ?_ till (by have := X24.len; omega) (fun t y f => ?_) ?_ (fun t => (n - t.1.length).toNat) (fun t y f => ?_) (R := R) ?_ (n.toNat + 1) ([], true) (List.replicate N 1) w g3 (by simp) rfl (bd_one (by decide) N) (by simp) ow (fw.le (by omega)) (by show ((([] : List Int).length : Nat) : Int) < n; simp; omega) (till _ _ _ hinit (Y3.till _)) (X24.trans Y3) (by omega)
  · intro x h K _ _ hk
    refine (show callI SP .i64 i_impl_StripSequence_2 [i64 x] h fun m h' => m = fS x ∧ h' = h from ?_).to (by rintro _ _ ⟨rfl, rfl⟩; exact hk)
    apply impl_StripSequence_2_call
    unfold impl_StripSequence_2_main
    exact ⟨_, rfl, rfl, rfl⟩
  · simp only [gS, Bool.and_eq_true, decide_eq_true_eq] at f ⊢
    simp only [List.length_append, List.length_singleton]
    exact f.2
  · rintro t y h' jt ⟨u, i1, i2, i3, i4⟩ y0 yB x hh
    have jt' : ((t.1.length : Nat) : Int) < n := jt
    have vn' : Var h' h3.length (i64 n) := (v5.ext (x7.trans x11)).ext x
    have hul := i2.rd.ilen
    apply impl_StripSequence_3_call
    unfold impl_StripSequence_3_main
    refine i1.ldS ?_
    refine newS_ow (by rfl) fun z g2 oz lz zo e2 => ?_
    have y2 : Ext h' g2 := by rw [e2]; exact Ext.app _ _
    have y2l := y2.len
    refine ⟨y2.cellE i1.cell, ?_⟩
    have i1l := i1.lt
    have i4l := i4.lt
    refine app_ow (by omega) (i2.ext y2) oz.rd (by rw [lz, hul]; unfold lim; omega) fun u' g4 ou' lu' bu k1 k2 => ?_
    have huo : u'.o = some h11.length := k1 _ i3
    have i4g : Var g2 h20.length (.bool t.2) := i4.ext y2
    have i4' : Var g4 h20.length (.bool t.2) := i4g.but bu (by rw [i3]; intro e; have := Option.some.inj e; omega)
    have i1' : Var g4 h18.length (.sl u) := (i1.ext y2).but bu (by rw [i3]; intro e; have := Option.some.inj e; omega)
    have vn4 : Var g4 h3.length (i64 n) := (vn'.ext y2).but bu (by rw [i3]; intro e; have := Option.some.inj e; omega)
    refine i4'.ldB ⟨by rw [i4g.cell, i4'.cell], by rw [i4.cell, i4'.cell], ?_⟩
    have cg4 : Chg (fun i => h11.length ≤ i ∧ i < h24.length) h' g4 := (y2.chg _).trans (bu.chg fun i e => by rw [i3] at e; have := Option.some.inj e; omega)
    have fin2 : ∀ (b : Bool), b = (t.2 && decide (y ≤ topS)) → Cl.st1 (pt h18.length) (.sl u') g4 fun h6 => Cl.st1 (pt h20.length) (.bool b) h6 fun h7 => Cl.ldB (pt h20.length) h7 fun b8 => bif b8 then (Cl.ldS (pt h18.length) h7 fun s9 => Cl.ldI .i64 (pt h3.length) h7 fun n10 => (fun v h'' => ∃ b, v = AVal.bool b ∧ b = (gS n t y).2 ∧ I (gS n t y).1 h'' ∧ Chg (fun i => h11.length ≤ i ∧ i < h24.length) h' h'') (.bool (decide ((s9.len : Int) < n10))) h7) else (fun v h'' => ∃ b, v = AVal.bool b ∧ b = (gS n t y).2 ∧ I (gS n t y).1 h'' ∧ Chg (fun i => h11.length ≤ i ∧ i < h24.length) h' h'') (.bool false) h7 := fun b hb => by
      refine i1'.st _ fun h6 j6 b6 l6 => ?_
      have i46 := i4'.but b6 (fun e => by have := Option.some.inj e; omega)
      refine i46.st _ fun h7 j7 b7 l7 => ?_
      have j67 := j6.but b7 (fun e => by have := Option.some.inj e; omega)
      have vn7 := (vn4.but b6 (fun e => by have := Option.some.inj e; omega)).but b7 (fun e => by have := Option.some.inj e; omega)
      have ou7 : Ow h7 u' 1 (ic t.1 ++ [AVal.int .i64 y]) := (ou'.but b6 (.inl (by rw [huo]; intro e; have := Option.some.inj e; omega))).but b7 (.inl (by rw [huo]; intro e; have := Option.some.inj e; omega))
      have CG : Chg (fun i => h11.length ≤ i ∧ i < h24.length) h' h7 := (cg4.trans (b6.chg fun i e => by have := Option.some.inj e; omega)).trans (b7.chg fun i e => by have := Option.some.inj e; omega)
      have hI7 : I (gS n t y).1 h7 := ⟨u', j67, by show Ow h7 u' 1 (ic (t.1 ++ [y])); rw [ic_app]; exact ou7, huo, by show Var h7 h20.length (.bool (t.2 && decide (y ≤ topS))); rw [← hb]; exact j7⟩
      refine j7.ldB ?_
      have hg2 : (gS n t y).2 = (b && decide (((t.1.length + 1 : Nat) : Int) < n)) := by rw [hb]; rfl
      cases b with
      | true =>
        refine j67.ldS (vn7.ldI ⟨_, rfl, ?_, hI7, CG⟩)
        rw [hg2, lu', lz, hul]; rfl
      | false => exact ⟨_, rfl, by rw [hg2]; rfl, hI7, CG⟩
    refine bif_b (fun hb => ?_) (fun hb => ?_)
    · exact fin2 _ (by rw [hb]; rfl)
    · exact fin2 false (by rw [hb]; rfl)
  · simp only [gS, Bool.and_eq_true, decide_eq_true_eq] at f ⊢
    simp only [List.length_append, List.length_singleton]
    omega
  · rintro h' ⟨u, i1, i2, i3, i4⟩ x
    refine i4.ldB ?_
    by_cases hall : ∀ y ∈ strS c ts (H_ : Int) n, y ≤ topS
    · have hR := hrun.1 hall
      change R = _ at hR
      rw [hR] at i2 i4 ⊢
      refine bif_not (fun f => by cases f) (fun _ => i1.ldS ⟨_, by rw [codeQ_0 hq h2 hall], ?_, (fun o e => by rw [i3] at e; have := Option.some.inj e; have := X11.len; omega), X11.trans x⟩)
      rw [F_StripSequence_0, sel0_yes (codeQ_0 hq h2 hall)]
      exact i2
    · have hR : R.2 = false := hrun.2 hall
      rw [hR]
      have h3 := codeQ_3 hq h2 hall
      exact fin 3 (by rw [h3]; decide) h3.symm (X11.trans x)
end
end Go.Proofs.Ytcoampecbpiecaa.Cl

/- Numbers of ways, exact and limited: plain. No claim is stated here. -/
set_option linter.unusedVariables false
set_option linter.unusedSimpArgs false
namespace Go.Proofs.Ytcoampecbpiecaa.Cl
open Go
theorem fS_of {x : Int} (h : x ≤ topS) : fS x = x := by
  have h' : x ≤ 1000000000000000 := h
  unfold fS mnI; split <;> omega
theorem fS_le {x : Int} (h : fS x ≤ topS) : x ≤ topS := by
  have h' : fS x ≤ 1000000000000000 := h
  show x ≤ 1000000000000000
  unfold fS mnI at h'; split at h' <;> omega
theorem fS_if (x : Int) : fS x = if 1000000000000001 < x then 1000000000000001 else x := rfl
theorem fS_add {a b : Int} (ha : 0 ≤ a) (hb : 0 ≤ b) : fS (fS a + fS b) = fS (a + b) := by
  simp only [fS_if]
  by_cases h1 : 1000000000000001 < a
  · rw [if_pos h1, if_pos (show 1000000000000001 < a + b by omega)]
    by_cases h2 : 1000000000000001 < b
    · rw [if_pos h2]; rfl
    · rw [if_neg h2]
      by_cases h3 : b = 0
      · subst h3; rfl
      · rw [if_pos (by omega)]
  · rw [if_neg h1]
    by_cases h2 : 1000000000000001 < b
    · rw [if_pos h2, if_pos (show 1000000000000001 < a + b by omega)]
      by_cases h3 : a = 0
      · subst h3; rfl
      · rw [if_pos (by omega)]
    · rw [if_neg h2]
theorem sumJ_add {α : Type} (f g : α → Int) : ∀ S : List α, (S.map fun s => f s + g s).sum = (S.map f).sum + (S.map g).sum
  | [] => rfl
  | a :: S => by
    simp only [List.map_cons, List.sum_cons, sumJ_add f g S]
    omega
theorem sumJ_zero {α : Type} : ∀ S : List α, (S.map fun _ => (0 : Int)).sum = 0
  | [] => rfl
  | a :: S => by simp only [List.map_cons, List.sum_cons, sumJ_zero S]; rfl
theorem sumJ_swap {α β : Type} (u : α → β → Int) : ∀ (A : List α) (B : List β), (A.map fun a => (B.map fun b => u a b).sum).sum = (B.map fun b => (A.map fun a => u a b).sum).sum
  | [], B => by simp only [List.map_nil, List.sum_nil]; rw [sumJ_zero]
  | a :: A, B => by simp only [List.map_cons, List.sum_cons, sumJ_swap u A B, sumJ_add]
theorem sum_nn {α : Type} {f : α → Int} : ∀ {S : List α}, (∀ s ∈ S, 0 ≤ f s) → 0 ≤ (S.map f).sum
  | [], _ => Int.le_refl _
  | a :: S, h => by
    have h1 := h a (by simp)
    have h2 := sum_nn (S := S) (f := f) fun s hs => h s (by simp [hs])
    simp only [List.map_cons, List.sum_cons]
    omega
theorem le_sum {α : Type} {f : α → Int} {x : α} : ∀ {S : List α}, (∀ s ∈ S, 0 ≤ f s) → x ∈ S → f x ≤ (S.map f).sum
  | a :: S, h, hx => by
    have h1 := h a (by simp)
    have h2 := sum_nn (S := S) (f := f) fun s hs => h s (by simp [hs])
    simp only [List.map_cons, List.sum_cons]
    rcases List.mem_cons.1 hx with rfl | hx
    · omega
    · have := le_sum (S := S) (f := f) (fun s hs => h s (by simp [hs])) hx
      omega
/-- One exact step, many of them, and a sum. -/
def xcV (es : List (Int × Int)) (v : Nat → Int) (j : Nat) : Int := (es.map fun e => if e.2.toNat = j then v e.1.toNat else 0).sum
def xcN (es : List (Int × Int)) : Nat → (Nat → Int) → Nat → Int
  | 0, v => v
  | k + 1, v => xcN es k (xcV es v)
def sumV (N : Nat) (v : Nat → Int) : Int := ((List.range N).map v).sum
def itL (f : Int → Int) (es : List (Int × Int)) (N : Nat) : Nat → List Int → List Int
  | 0, v => v
  | k + 1, v => itL f es N k (stepL f es N v)
theorem itL_succ (f : Int → Int) (es : List (Int × Int)) (N : Nat) : ∀ (k : Nat) (v : List Int), itL f es N (k + 1) v = stepL f es N (itL f es N k v)
  | 0, v => rfl
  | k + 1, v => by rw [itL, itL_succ f es N k]; rfl
theorem xcV_nn {es : List (Int × Int)} {v : Nat → Int} (h : ∀ j, 0 ≤ v j) (j : Nat) : 0 ≤ xcV es v j := sum_nn fun e _ => by
  split
  · exact h _
  · exact Int.le_refl _
theorem xcN_nn {es : List (Int × Int)} : ∀ (k : Nat) {v : Nat → Int}, (∀ j, 0 ≤ v j) → ∀ j, 0 ≤ xcN es k v j
  | 0, v, h, j => h j
  | k + 1, v, h, j => xcN_nn k (fun j => xcV_nn h j) j
theorem xcV_sum {α : Type} (es : List (Int × Int)) (S : List α) (u : α → Nat → Int) (j : Nat) : xcV es (fun i => (S.map fun s => u s i).sum) j = (S.map fun s => xcV es (u s) j).sum := by
  unfold xcV
  rw [← sumJ_swap]
  congr 1
  refine List.map_congr_left fun e _ => ?_
  split
  · rfl
  · rw [sumJ_zero]
theorem xcN_sum {α : Type} (es : List (Int × Int)) (S : List α) : ∀ (k : Nat) (u : α → Nat → Int) (j : Nat), xcN es k (fun i => (S.map fun s => u s i).sum) j = (S.map fun s => xcN es k (u s) j).sum
  | 0, u, j => rfl
  | k + 1, u, j => by
    show xcN es k (xcV es fun i => (S.map fun s => u s i).sum) j = _
    rw [show (xcV es fun i => (S.map fun s => u s i).sum) = fun i => (S.map fun s => xcV es (u s) i).sum from funext fun i => xcV_sum es S u i]
    exact xcN_sum es S k (fun s => xcV es (u s)) j
/-- A limited list that stands for exact numbers. -/
structure Rep (N : Nat) (l : List Int) (v : Nat → Int) : Prop where
  len : l.length = N
  at_ : ∀ j, j < N → l.getD j 0 = fS (v j)
  nn : ∀ j, 0 ≤ v j
theorem getD_setJ (l : List Int) (i j : Nat) (x : Int) (hi : i < l.length) : (l.set i x).getD j 0 = if i = j then x else l.getD j 0 := by
  rw [List.getD_eq_getElem?_getD, List.getD_eq_getElem?_getD, List.getElem?_set]
  by_cases h : i = j
  · rw [if_pos h, if_pos hi, if_pos h]; rfl
  · rw [if_neg h, if_neg h]
def InN (N : Nat) (es : List (Int × Int)) : Prop := ∀ e ∈ es, e.1.toNat < N ∧ e.2.toNat < N
theorem fold_rep {N : Nat} {now : List Int} {v : Nat → Int} (r : Rep N now v) : ∀ (es : List (Int × Int)) (nx : List Int) (w : Nat → Int), InN N es → Rep N nx w → Rep N (es.foldl (stp fS now) nx) fun j => w j + xcV es v j
  | [], nx, w, _, h => by
    refine ⟨h.len, fun j hj => ?_, fun j => ?_⟩
    · show nx.getD j 0 = fS (w j + 0)
      rw [Int.add_zero]; exact h.at_ j hj
    · show 0 ≤ w j + 0
      rw [Int.add_zero]; exact h.nn j
  | e :: es, nx, w, hb, h => by
    have hb1 := hb e (by simp)
    have h1 : Rep N (stp fS now nx e) fun j => w j + if e.2.toNat = j then v e.1.toNat else 0 := by
      refine ⟨by rw [stp_len]; exact h.len, fun j hj => ?_, fun j => ?_⟩
      · unfold stp
        rw [getD_setJ _ _ _ _ (by rw [h.len]; exact hb1.2)]
        split
        · next e1 => rw [h.at_ _ hb1.2, r.at_ _ hb1.1, fS_add (h.nn _) (r.nn _), e1]
        · rw [h.at_ j hj, Int.add_zero]
      · have := h.nn j
        have := r.nn e.1.toNat
        split <;> omega
    have h2 := fold_rep r es _ _ (fun x hx => hb x (by simp [hx])) h1
    refine ⟨h2.len, fun j hj => ?_, fun j => ?_⟩
    · rw [List.foldl_cons, h2.at_ j hj]
      congr 1
      show (w j + if e.2.toNat = j then v e.1.toNat else 0) + xcV es v j = w j + xcV (e :: es) v j
      unfold xcV
      rw [List.map_cons, List.sum_cons]
      omega
    · have := h.nn j
      have := xcV_nn (es := e :: es) r.nn j
      omega
theorem stepL_rep {N : Nat} {now : List Int} {v : Nat → Int} {es : List (Int × Int)} (r : Rep N now v) (hb : InN N es) : Rep N (stepL fS es N now) (xcV es v) := by
  have h0 : Rep N (List.replicate N 0) fun _ => 0 := ⟨by simp, fun j hj => by rw [List.getD_eq_getElem?_getD, List.getElem?_replicate, if_pos hj]; rfl, fun _ => Int.le_refl _⟩
  have := fold_rep r es _ _ hb h0
  rw [show xcV es v = fun j => 0 + xcV es v j from funext fun j => (Int.zero_add _).symm]
  exact this
theorem itL_rep {N : Nat} {es : List (Int × Int)} (hb : InN N es) : ∀ (k : Nat) {now : List Int} {v : Nat → Int}, Rep N now v → Rep N (itL fS es N k now) (xcN es k v)
  | 0, now, v, r => r
  | k + 1, now, v, r => itL_rep hb k (stepL_rep r hb)
theorem fold_tot : ∀ (m : List Int) (a : Int), 0 ≤ a → (∀ x ∈ m, 0 ≤ x) → (m.map fS).foldl (fun s x => fS (s + x)) (fS a) = fS (a + m.sum)
  | [], a, _, _ => by simp
  | x :: m, a, ha, h => by
    have hx := h x (by simp)
    rw [List.map_cons, List.foldl_cons, fS_add ha hx, fold_tot m (a + x) (by omega) fun y hy => h y (by simp [hy]), List.sum_cons, Int.add_assoc]
theorem totL_rep {N : Nat} {l : List Int} {v : Nat → Int} (r : Rep N l v) : totL fS l = fS (sumV N v) := by
  have e : l = ((List.range N).map v).map fS := by
    apply List.ext_getElem?
    intro j
    rw [List.map_map, List.getElem?_map]
    by_cases hj : j < N
    · have h1 := r.at_ j hj
      rw [List.getD_eq_getElem?_getD, List.getElem?_eq_getElem (by rw [r.len]; exact hj)] at h1
      rw [List.getElem?_eq_getElem (by rw [r.len]; exact hj), List.getElem?_range hj]
      exact congrArg some h1
    · rw [List.getElem?_eq_none (by rw [r.len]; omega), List.getElem?_eq_none (by rw [List.length_range]; omega)]; rfl
  unfold totL
  rw [e]
  have := fold_tot ((List.range N).map v) 0 (Int.le_refl _) fun x hx => by
    obtain ⟨j, _, rfl⟩ := List.mem_map.1 hx
    exact r.nn j
  rw [show fS 0 = 0 from rfl, Int.zero_add] at this
  exact this
theorem seqL_at {es : List (Int × Int)} {N : Nat} (f : Int → Int) : ∀ (k i : Nat) (now : List Int), i < k → (seqL f es N k now)[i]? = some (totL f (itL f es N (i + 1) now))
  | k + 1, 0, now, _ => rfl
  | k + 1, i + 1, now, h => by
    rw [seqL, List.getElem?_cons_succ, seqL_at f k i _ (by omega)]
    rfl
/-- The unit at s, and all ones. -/
def un (s : Nat) (i : Nat) : Int := if i = s then 1 else 0
def unL (N s : Nat) : List Int := (List.replicate N 0).set s 1
def on (N : Nat) (i : Nat) : Int := ((List.range N).map fun s => un s i).sum
theorem un_nn (s i : Nat) : 0 ≤ un s i := by unfold un; split <;> omega
theorem on_at : ∀ (N i : Nat), on N i = if i < N then 1 else 0
  | 0, i => rfl
  | N + 1, i => by
    have h := on_at N i
    unfold on at h ⊢
    rw [List.range_succ, List.map_append, List.sum_append_int, h]
    simp only [List.map_cons, List.map_nil, List.sum_cons, List.sum_nil, un]
    by_cases h1 : i < N
    · rw [if_pos h1, if_neg (by omega), if_pos (by omega)]; rfl
    · by_cases h2 : i = N
      · rw [if_neg h1, if_pos h2, if_pos (by omega)]; rfl
      · rw [if_neg h1, if_neg h2, if_neg (by omega)]; rfl
theorem un_rep {N s : Nat} (hs : s < N) : Rep N (unL N s) (un s) := by
  refine ⟨by simp [unL], fun j hj => ?_, un_nn s⟩
  unfold unL
  rw [getD_setJ _ _ _ _ (by simpa using hs), List.getD_eq_getElem?_getD, List.getElem?_replicate, if_pos hj]
  unfold un
  by_cases h : s = j
  · rw [if_pos h, if_pos h.symm]; rfl
  · rw [if_neg h, if_neg (fun e => h e.symm)]; rfl
theorem on_rep (N : Nat) : Rep N (List.replicate N 1) (on N) := by
  refine ⟨by simp, fun j hj => ?_, fun j => by rw [on_at]; split <;> omega⟩
  rw [on_at, if_pos hj, List.getD_eq_getElem?_getD, List.getElem?_replicate, if_pos hj]
  rfl
/-- All numbers of ways, by the colour they begin with. -/
def waysT (es : List (Int × Int)) (N k : Nat) : Int := ((List.range N).map fun s => (itL fS es N k (unL N s)).sum).sum
theorem sum_of_rep {N : Nat} {l : List Int} {v : Nat → Int} (r : Rep N l v) (hs : ∀ j, j < N → v j ≤ topS) : l.sum = sumV N v := by
  unfold sumV
  congr 1
  apply List.ext_getElem?
  intro j
  rw [List.getElem?_map]
  by_cases hj : j < N
  · have h1 := r.at_ j hj
    rw [List.getD_eq_getElem?_getD, List.getElem?_eq_getElem (by rw [r.len]; exact hj), fS_of (hs j hj)] at h1
    rw [List.getElem?_eq_getElem (by rw [r.len]; exact hj), List.getElem?_range hj]
    exact congrArg some h1
  · rw [List.getElem?_eq_none (by rw [r.len]; omega), List.getElem?_eq_none (by rw [List.length_range]; omega)]; rfl
theorem ways_eq {es : List (Int × Int)} {N k : Nat} (hb : InN N es) (h : totL fS (itL fS es N k (List.replicate N 1)) ≤ topS) : waysT es N k = totL fS (itL fS es N k (List.replicate N 1)) ∧ waysT es N k ≤ topS := by
  have r := itL_rep hb k (on_rep N)
  have e := totL_rep r
  rw [e] at h ⊢
  have hT := fS_le h
  have hsum : sumV N (xcN es k (on N)) = ((List.range N).map fun s => sumV N (xcN es k (un s))).sum := by
    unfold sumV
    rw [← sumJ_swap]
    congr 1
    refine List.map_congr_left fun j _ => ?_
    exact xcN_sum es (List.range N) k un j
  have hle : ∀ s, s < N → ∀ j, j < N → xcN es k (un s) j ≤ topS := fun s hs j hj => by
    have h1 : xcN es k (un s) j ≤ sumV N (xcN es k (un s)) := le_sum (fun x _ => xcN_nn k (un_nn s) x) (List.mem_range.2 hj)
    have h2 : sumV N (xcN es k (un s)) ≤ ((List.range N).map fun s => sumV N (xcN es k (un s))).sum := le_sum (f := fun s => sumV N (xcN es k (un s))) (fun x _ => sum_nn fun y _ => xcN_nn k (un_nn x) y) (List.mem_range.2 hs)
    omega
  have hw : waysT es N k = ((List.range N).map fun s => sumV N (xcN es k (un s))).sum := by
    unfold waysT
    congr 1
    refine List.map_congr_left fun s hs => ?_
    exact sum_of_rep (itL_rep hb k (un_rep (List.mem_range.1 hs))) (hle s (List.mem_range.1 hs))
  rw [hw, ← hsum, fS_of hT]
  exact ⟨rfl, hT⟩
/-- The first number of a sequence is the number of columns. -/
theorem first_eq {es : List (Int × Int)} {N : Nat} (hb : InN N es) (hl : es.length ≤ 5000) : totL fS (itL fS es N 1 (List.replicate N 1)) = es.length := by
  rw [totL_rep (itL_rep hb 1 (on_rep N))]
  have : sumV N (xcN es 1 (on N)) = es.length := by
    show ((List.range N).map fun j => (es.map fun e => if e.2.toNat = j then on N e.1.toNat else 0).sum).sum = _
    rw [sumJ_swap]
    have : (es.map fun e => ((List.range N).map fun j => if e.2.toNat = j then on N e.1.toNat else 0).sum) = es.map fun _ => (1 : Int) := by
      refine List.map_congr_left fun e he => ?_
      have h1 := hb e he
      have h2 : ((List.range N).map fun j => if e.2.toNat = j then on N e.1.toNat else 0) = (List.range N).map fun j => un j e.2.toNat := by
        refine List.map_congr_left fun j _ => ?_
        rw [on_at, if_pos h1.1]
        rfl
      rw [h2]
      show on N e.2.toNat = 1
      rw [on_at, if_pos h1.2]
    rw [this]
    clear this hl hb
    induction es with
    | nil => rfl
    | cons a es ih => rw [List.map_cons, List.sum_cons, ih, List.length_cons]; push_cast; omega
  rw [this, fS_of (by show (es.length : Int) ≤ 1000000000000000; omega)]
end Go.Proofs.Ytcoampecbpiecaa.Cl

/- Contracts of the reference's LastingTiles. No claim is stated here. -/
set_option linter.unusedVariables false
set_option linter.unusedSimpArgs false
namespace Go.Proofs.Ytcoampecbpiecaa.Cl
open Go
def isT : AVal → Bool | .bool b => b | _ => false
/-- How many truths a view's object has. -/
def trues (h : H) (s : Sl) : Nat := match s.o with
  | some o => (match h[o]? with | some (.own cs) => cs.countP isT | _ => 0)
  | none => 0
theorem trues_ow {h : H} {s : Sl} {n : Nat} {A : Nat → Bool} (r : Ow h s 1 ((bl n A).map .bool)) (hs : s.o.isSome = true) : trues h s = cntB n A := by
  obtain ⟨a, b⟩ | ⟨o, a, b, c, d, e⟩ := r.at_
  · rw [a] at hs; cases hs
  · unfold trues
    rw [a]
    simp only [e]
    unfold cntB bl
    rw [List.countP_map, List.countP_map]
    rfl
section
variable (ts : List Tile) (Q : Nat → Bool)
end
section
variable {c : Int} {ts : List Tile}
end
section
variable {h0 : H} {c : Int} {s : Sl} {ts : List Tile}
end
end Go.Proofs.Ytcoampecbpiecaa.Cl

/- The lasting words of a strip and their table: what the program computes. No claim is stated here. -/
set_option linter.unusedVariables false
set_option linter.unusedSimpArgs false
namespace Go.Proofs.Ytcoampecbpiecaa.Cl
open Go
/-! ### plain -/
theorem itB_stay {es : List Edge} {n : Nat} (hn : ∀ e ∈ es, e.2 < n) {k : Nat} (h : ∀ w, w < n → itB es (k + 1) w = itB es k w) : ∀ j w, w < n → itB es (k + j) w = itB es k w
  | 0, w, hw => rfl
  | j + 1, w, hw => by
    have ih := itB_stay hn h j
    rw [show k + (j + 1) = (k + j) + 1 by omega]
    show stepB es (itB es (k + j)) w = _
    rw [stepB_congr hn (B := itB es k) ih w]
    exact h w hw
theorem itB_any {es : List Edge} {n : Nat} (hn : ∀ e ∈ es, e.2 < n) {k : Nat} (h : ∀ w, w < n → itB es (k + 1) w = itB es k w) (w : Nat) (hw : w < n) : itB es k w = itB es n w := by
  rcases Nat.le_total k n with q | q
  · obtain ⟨d, rfl⟩ := Nat.exists_eq_add_of_le q
    exact (itB_stay hn h d w hw).symm
  · obtain ⟨d, rfl⟩ := Nat.exists_eq_add_of_le q
    exact itB_stay hn (itB_end hn) d w hw
def edN (es : List (Int × Int)) : List Edge := es.map fun e => (e.1.toNat, e.2.toNat)
section
variable (p : Nat → Bool)
def wdsN (N : Nat) : List Nat := (List.range N).filter p
def wdsL (N : Nat) : List Int := (wdsN p N).map fun (w : Nat) => (w : Int)
def plN (w : Nat) : Nat := (List.range w).countP p
end
theorem wdsL_len {p : Nat → Bool} {N : Nat} : (wdsL p N).length = plN p N := by unfold wdsL wdsN plN; rw [List.length_map, List.countP_eq_length_filter]
theorem plN_succ {p : Nat → Bool} {w : Nat} : plN p (w + 1) = plN p w + if p w then 1 else 0 := by
  unfold plN
  rw [List.range_succ, List.countP_append]
  simp [List.countP_cons]
theorem plN_mono {p : Nat → Bool} {a b : Nat} (h : a ≤ b) : plN p a ≤ plN p b := by
  obtain ⟨d, rfl⟩ := Nat.exists_eq_add_of_le h
  induction d with
  | zero => exact Nat.le_refl _
  | succ d ih => rw [show a + (d + 1) = (a + d) + 1 by omega, plN_succ]; have := ih (by omega); omega
theorem plN_lt {p : Nat → Bool} {w N : Nat} (hw : w < N) (h : p w = true) : plN p w < plN p N := by
  have a := plN_mono (p := p) (a := w + 1) (b := N) hw
  rw [plN_succ, h] at a
  simp at a; omega
theorem wdsL_succ {p : Nat → Bool} {w : Nat} : wdsL p (w + 1) = if p w then wdsL p w ++ [(w : Int)] else wdsL p w := by
  unfold wdsL wdsN
  rw [List.range_succ, List.filter_append]
  by_cases h : p w = true
  · rw [if_pos h, List.filter_cons_of_pos h, List.map_append]; rfl
  · rw [if_neg h, List.filter_cons_of_neg h]; simp
def incT (T : List (List Int)) (i j : Nat) : List (List Int) := T.set i ((rw_ T i).set j (G T i j + 1))
def tabS (A B : Nat → Bool) (pl : Nat → Nat) (T : List (List Int)) (e : Int × Int) : List (List Int) := if lastE A B (e.1.toNat, e.2.toNat) then incT T (pl e.1.toNat) (pl e.2.toNat) else T
def zerT (n : Nat) : List (List Int) := List.replicate n (List.replicate n 0)
/-- A square table of numbers of at most m. -/
def Sq (n : Nat) (m : Int) (T : List (List Int)) : Prop := T.length = n ∧ ∀ i, i < n → (rw_ T i).length = n ∧ ∀ j, 0 ≤ G T i j ∧ G T i j ≤ m
theorem rw_set {T : List (List Int)} {i k : Nat} {r : List Int} (hi : i < T.length) : rw_ (T.set i r) k = if k = i then r else rw_ T k := by
  unfold rw_
  rw [List.getD_eq_getElem?_getD, List.getElem?_set]
  by_cases h : i = k
  · rw [if_pos h, if_pos h.symm, if_pos (by omega)]; rfl
  · rw [if_neg h, if_neg fun f => h f.symm, ← List.getD_eq_getElem?_getD]
theorem Sq.zero (n : Nat) : Sq n 0 (zerT n) := by
  refine ⟨by simp [zerT], fun i hi => ?_⟩
  have : rw_ (zerT n) i = List.replicate n 0 := by unfold rw_ zerT; rw [List.getD_eq_getElem?_getD, List.getElem?_replicate, if_pos hi]; rfl
  refine ⟨by rw [this]; simp, fun j => ?_⟩
  unfold G
  rw [this, List.getD_eq_getElem?_getD, List.getElem?_replicate]
  split <;> exact ⟨Int.le_refl _, Int.le_refl _⟩
theorem Sq.inc {n : Nat} {m : Int} {T : List (List Int)} (h : Sq n m T) (m0 : 0 ≤ m) {i j : Nat} (hi : i < n) : Sq n (m + 1) (incT T i j) := by
  refine ⟨by unfold incT; rw [List.length_set]; exact h.1, fun k hk => ?_⟩
  have hk' := h.2 k hk
  have hi' := h.2 i hi
  unfold incT G
  rw [rw_set (by rw [h.1]; exact hi)]
  by_cases e : k = i
  · rw [if_pos e]
    refine ⟨by rw [List.length_set]; exact hi'.1, fun l => ?_⟩
    rw [List.getD_eq_getElem?_getD, List.getElem?_set]
    by_cases e2 : j = l
    · rw [if_pos e2]
      split
      · have := hi'.2 j
        unfold G at this
        show 0 ≤ (rw_ T i).getD j 0 + 1 ∧ (rw_ T i).getD j 0 + 1 ≤ m + 1
        omega
      · exact ⟨by show (0 : Int) ≤ 0; omega, by show (0 : Int) ≤ _; omega⟩
    · rw [if_neg e2, ← List.getD_eq_getElem?_getD]
      have := hi'.2 l
      unfold G at this
      omega
  · rw [if_neg e]
    refine ⟨hk'.1, fun l => ?_⟩
    have := hk'.2 l
    unfold G at this
    omega
theorem Sq.fold {A B : Nat → Bool} {pl : Nat → Nat} {n : Nat} : ∀ (es : List (Int × Int)) (m : Int) (T : List (List Int)), (∀ e ∈ es, lastE A B (e.1.toNat, e.2.toNat) = true → pl e.1.toNat < n) → 0 ≤ m → Sq n m T → Sq n (m + es.length) (es.foldl (tabS A B pl) T)
  | [], m, T, _, _, h => by simpa using h
  | e :: es, m, T, hp, m0, h => by
    have h1 : Sq n (m + 1) (tabS A B pl T e) := by
      unfold tabS
      split
      · next q => exact h.inc m0 (hp e (by simp) q)
      · exact ⟨h.1, fun i hi => ⟨(h.2 i hi).1, fun j => by have := (h.2 i hi).2 j; omega⟩⟩
    have := Sq.fold es (m + 1) _ (fun e he => hp e (by simp [he])) (by omega) h1
    rw [List.foldl_cons, List.length_cons]
    rw [show m + ((es.length + 1 : Nat) : Int) = m + 1 + es.length by omega]
    exact this
/-! ### a row of a table that is owned -/
theorem NewSS.row {n : Nat} {h : H} {s : Sl} {ls : List (List Int)} (r : NewSS n h s ls) {i : Int} (h0 : 0 ≤ i) (h1 : i < ls.length) {K : Sl → Prop}
    (hk : ∀ v, Rd h v 1 (ic (rw_ ls i.toNat)) → (∀ (j : Int) (x : Int) (K' : H → Prop), 0 ≤ j → j < (rw_ ls i.toNat).length → (∀ h', NewSS n h' s (ls.set i.toNat ((rw_ ls i.toNat).set j.toNat x)) → Chg (fun o => n ≤ o ∧ o < h.length) h h' → h'.length = h.length → K' h') → ixS v 1 j fun p => Cl.st1 p (.int .i64 x) h K') → K v) : ixS s 1 i fun p => Cl.ldS p h K := by
  have hln := r.rd.len
  obtain ⟨vs, a1, a2, a3, a4, a5, a6⟩ := r
  have hv : vs[i.toNat]? = some vs[i.toNat] := List.getElem?_eq_getElem (by omega)
  have hr := a4 _ _ _ hv (at_rw (rows := ls) (by omega))
  refine a2.rd.ldS h0 (by omega) fun v e => ?_
  have hve : v = vs[i.toNat] := by rw [hv] at e; exact (Option.some.inj e).symm
  subst hve
  refine hk _ hr.1.rd fun j x K' j0 j1 hK => ?_
  refine hr.1.stI j0 (by rw [hr.1.rd.ilen]; exact j1) x fun h' o' b l => ?_
  refine hK h' ⟨vs, by simp [a1], a2.but b ?_, a3, fun k w l' p q => ?_, a5, a6⟩ (b.chg fun o e => ⟨hr.2 o e, hr.1.lt e⟩) l
  · cases hq : vs[i.toNat].o with
    | none => exact .inr rfl
    | some o => exact .inl fun e => a6 _ _ hv o hq e.symm
  · rw [List.getElem?_set] at q
    by_cases e : i.toNat = k
    · subst e
      rw [if_pos rfl, if_pos (by omega)] at q
      rw [hv] at p
      have e1 := Option.some.inj p
      subst e1
      have e2 := Option.some.inj q
      subst e2
      exact ⟨o', hr.2⟩
    · rw [if_neg e] at q
      refine ⟨(a4 k w l' p q).1.but b ?_, (a4 k w l' p q).2⟩
      cases hq : vs[i.toNat].o with
      | none => exact .inr rfl
      | some o => exact .inl fun e2 => a5 _ _ _ _ e hv p o hq e2.symm
section
variable {hb : H} {n N : Nat} {c : Int} {s : Sl} {ts : List Tile} {H_ os : Nat} {q : Sl}
theorem equalB_c {h : H} {u v : Sl} {A B : Nat → Bool} (ru : Rd h u 1 ((bl N A).map .bool)) (rv : Rd h v 1 ((bl N B).map .bool)) (hN : N ≤ 1000000) {K : Bool → H → Prop} (hk : ∀ b, (b = true ↔ ∀ w, w < N → A w = B w) → K b h) : callB SP i_slices_Equal_s_bool_bool_ [.sl u, .sl v] h K := by
  have hu : u.len = N := by have := ru.len; rw [List.length_map, bl_len] at this; omega
  have hv : v.len = N := by have := rv.len; rw [List.length_map, bl_len] at this; omega
  refine (show callB SP i_slices_Equal_s_bool_bool_ [.sl u, .sl v] h fun b h' => (b = true ↔ ∀ w, w < N → A w = B w) ∧ h = h' from ?_).to (by rintro b _ ⟨hb, rfl⟩; exact hk b hb)
  apply slices_Equal_s_bool_bool__call
  unfold slices_Equal_s_bool_bool__main
  refine bif_ne (fun f => by omega) (fun _ => ?_)
  refine slices_Equal_s_bool_bool__rule0 _ _ _ _ _ (fun j g => ∃ z : Nat, j = z ∧ z ≤ N ∧ (∀ w, w < z → A w = B w) ∧ h = g) (fun j _ => (N - j).toNat) ?_ _ ⟨0, rfl, by omega, fun w hw => by omega, rfl⟩
  rintro X _ _ ⟨z, rfl, hz, heq, rfl⟩ hX
  unfold slices_Equal_s_bool_bool__b0 slices_Equal_s_bool_bool__C0
  refine bif_dec (fun hi => ?_) (fun hi => ⟨_, rfl, ⟨fun _ w hw => heq w (by omega), fun _ => rfl⟩, rfl⟩)
  refine ru.ldBl (by omega) (by omega) ?_
  refine rv.ldBl (by omega) (by omega) ?_
  rw [Int.toNat_natCast]
  cases hab : (A z != B z) with
  | true => exact ⟨_, rfl, ⟨fun f => by (cases f), fun f => by rw [f z (by omega)] at hab; simp at hab⟩, rfl⟩
  | false =>
    rw [w64_of (by omega) (by omega)]
    refine hX _ _ ⟨z + 1, by push_cast; rfl, by omega, fun w hw => ?_, rfl⟩ (by omega)
    by_cases e : w = z
    · subst e; simpa using hab
    · exact heq w (by omega)
end
end Go.Proofs.Ytcoampecbpiecaa.Cl

/- The program's lasting words and table of a strip. No claim is stated here. -/
set_option linter.unusedVariables false
set_option linter.unusedSimpArgs false
namespace Go.Proofs.Ytcoampecbpiecaa.Cl
open Go
/-- A side of a column: 0 its west word, 1 its east word. -/
def cs3 (x : Int × Int × Int) (i : Nat) : Int := [x.1, x.2.1, x.2.2].getD i 0
def edC (C : List (Int × Int × Int)) (f g : Nat) : List Edge := C.map fun x => ((cs3 x f).toNat, (cs3 x g).toNat)
theorem edC_01 (C : List (Int × Int × Int)) : edC C 0 1 = edN (C.map pr) := by unfold edC edN; rw [List.map_map]; rfl
theorem edC_10 (C : List (Int × Int × Int)) : edC C 1 0 = flipE (edN (C.map pr)) := by unfold edC edN flipE; rw [List.map_map, List.map_map]; rfl
section
variable {hb : H} {n N : Nat} {c : Int} {s : Sl} {ts : List Tile} {H_ os : Nat} {q : Sl}
theorem cols_in (T : TS c ts) (hN : (N : Int) = c ^ H_) : ∀ x ∈ colsI c ts H_, (0 ≤ x.1 ∧ x.1 < N) ∧ 0 ≤ x.2.1 ∧ x.2.1 < N := fun x hx => by
  have hm : pr x ∈ colP c ts H_ (-1) 0 0 := by rw [← colsI_pr T]; exact List.mem_map.2 ⟨x, hx, rfl⟩
  have := colP_bound T H_ (-1) 0 0 1 (by omega) (by omega) _ hm
  rw [Int.one_mul, ← hN] at this
  exact this
theorem edC_in (T : TS c ts) (hN : (N : Int) = c ^ H_) {f g : Nat} (hf : f < 2) (hg : g < 2) : ∀ e ∈ edC (colsI c ts H_) f g, e.1 < N ∧ e.2 < N := fun e he => by
  obtain ⟨x, hx, rfl⟩ := List.mem_map.1 he
  have := cols_in T hN x hx
  have key : ∀ i, i < 2 → 0 ≤ cs3 x i ∧ cs3 x i < N := fun i hi => by
    match i, hi with
    | 0, _ => exact this.1
    | 1, _ => exact this.2
  have a := key f hf
  have b := key g hg
  exact ⟨by simp only []; omega, by simp only []; omega⟩
theorem endlessS_c {h0 : H} (k : Strip h0 n c s ts H_ os q) (T : TS c ts) (hc6 : c ≤ 6) (hH : H_ ≤ 4) (hN : (N : Int) = c ^ H_) (hlen : (colsI c ts H_).length ≤ 5000) {f g : Nat} (hf : f < 2) (hg : g < 2) :
    callS SP i_impl_strip_endless [.ptr ⟨some os, 5, 0⟩, i64 (f : Int), i64 (g : Int)] h0 fun u h' => Ow h' u 1 ((bl N (itB (edC (colsI c ts H_) f g) N)).map .bool) ∧ Fr h0.length u ∧ Ext h0 h' := by
  have hp := pow_small4 (n := H_) T.1 hc6 hH
  apply impl_strip_endless_call
  unfold impl_strip_endless_main
  refine newS_ow (by rfl) fun z h1 oz lz zo e1 => ?_
  have x1 : Ext h0 h1 := by rw [e1]; exact Ext.app _ _
  refine ⟨rfl, isPt_in ((k.ext x1).o.ldI (i := 3) rfl rfl ?_)⟩
  refine (repeatB_c oz.rd (by omega) (by omega)).to ?_
  rintro u h3 ⟨ou, fu, x3⟩
  rw [show (c ^ H_).toNat = N by omega, bl_rep] at ou
  have hE := edC_in T hN (f := f) (g := g) hf hg
  generalize hes : edC (colsI c ts H_) f g = es at *
  have hel : es.length = (colsI c ts H_).length := by rw [← hes]; simp [edC]
  have X3 := x1.trans x3
  refine impl_strip_endless_rule0 _ _ _ _ _ (fun u h => ∃ j, Ow h u 1 ((bl N (itB es j)).map .bool) ∧ Fr h0.length u ∧ Ext h0 h) (fun u h => trues h u) ?_ _ ⟨0, ou, fu.le x1.len, X3⟩
  rintro X u h ⟨j, ou, fu, x⟩ hX
  have hus : ∀ {v : Sl} {g : H} {A : Nat → Bool}, Ow g v 1 ((bl N A).map .bool) → v.o.isSome = true := fun {v g A} r => by
    obtain ⟨p, q⟩ | ⟨o, p, _⟩ := r.at_
    · have := r.blen; omega
    · rw [p]; rfl
  unfold impl_strip_endless_b0
  have ks := k.ext x
  refine ⟨rfl, isPt_in (ks.o.ldI (i := 3) rfl rfl ?_)⟩
  refine mkS_ow (by omega) (by unfold lim; omega) fun v h2 ov lv vo e2 => ?_
  have x2 : Ext h h2 := by rw [e2]; exact Ext.app _ _
  rw [bl_false, show (c ^ H_).toNat = N by omega] at ov
  refine ⟨rfl, isPt_in ((ks.ext x2).o.ldS (i := 4) rfl rfl ?_)⟩
  have hql := k.len
  have hvf : Fr h.length v := fun o e => by rw [vo] at e; cases e; exact Nat.le_refl _
  refine impl_strip_endless_rule2 _ _ X _ _ _ _ _ _ _ (fun i g' => ∃ z : Nat, i = z ∧ z ≤ es.length ∧ Ow g' v 1 ((bl N (stepB (es.take z) (itB es j))).map .bool) ∧ Ext h g') (fun i _ => (es.length - i).toNat) ?_ _ ⟨0, rfl, by omega, by rw [List.take_zero]; exact ov, x2⟩
  rintro Y _ g' ⟨z, rfl, hz, ov, e⟩ hY
  unfold impl_strip_endless_b2 impl_strip_endless_C2
  refine bif_dec (fun hi => ?_) (fun hi => ?_)
  · have hz' : z < es.length := by omega
    have hzc : z < (colsI c ts H_).length := by omega
    have hez : es[z] = ((cs3 (colsI c ts H_)[z] f).toNat, (cs3 (colsI c ts H_)[z] g).toNat) := by
      simp only [← hes, edC, List.getElem_map]
    have hcin := cols_in T hN _ (List.getElem_mem hzc)
    refine (ks.ext e).cols.rd.ldC hzc ?_
    generalize (colsI c ts H_)[z] = x3 at *
    have key : ∀ i, i < 2 → 0 ≤ cs3 x3 i ∧ cs3 x3 i < N := fun i hi => by
      match i, hi with
      | 0, _ => exact hcin.1
      | 1, _ => exact hcin.2
    have bf := key f hf
    have bg := key g hg
    refine newO_obj fun g3 og3 y3 m3 => ?_
    refine og3.stA fun g4 og4 b4 m4 => ?_
    have y4 : Ext g' g4 := y3.but_ b4 (some_le (Nat.le_refl _))
    have ov4 := ov.ext y4
    have ou4 := ou.ext (e.trans y4)
    have rdc : ∀ {i : Nat} {K : Pt → Int → Prop} (hi : i < 3), (∀ p, K p (cs3 x3 i)) → ixA ⟨some g'.length, 3, 0⟩ 3 1 (i : Int) fun p => Cl.ldI .i64 p g4 (K p) := fun {i K} hi hk => by
      refine og4.ixI rfl hi fun p hp => ⟨_, ?_, hk p⟩
      rw [hp]
      match i, hi with
      | 0, _ => rfl
      | 1, _ => rfl
      | 2, _ => rfl
    have hst := fun w => stepB_take (A := itB es j) hz' w
    rw [hez] at hst
    simp only at hst
    have next : ∀ (b : Bool), b = stepB (es.take (z + 1)) (itB es j) (cs3 x3 f).toNat → ixS v 1 (cs3 x3 f) fun p => Cl.st1 p (.bool b) g4 fun h12 => Y (impl_strip_endless_e2 ⟨some os, 5, 0⟩ (f : Int) (g : Int) u v q (q.len : Int) (w64 ((z : Int) + 1))) h12 := fun b hb => by
      refine ov4.stBl bf.1 (by omega) b fun g5 o5 b5 l5 => ?_
      rw [w64_of (by omega) (by omega)]
      refine hY _ _ ⟨z + 1, by push_cast; rfl, by omega, ?_, (e.trans y4).but_ b5 (fun o e => hvf o e)⟩ (by omega)
      rw [show bl N (stepB (es.take (z + 1)) (itB es j)) = bl N (fun w => if w = (cs3 x3 f).toNat then b else stepB (es.take z) (itB es j) w) from bl_congr fun w _ => ?_]
      · exact o5
      · split
        · next e => rw [hb, e]
        · next e => rw [hst w, show ((cs3 x3 f).toNat == w) = false by simp; exact fun f => e f.symm]; simp
    refine rdc (i := f) (by omega) fun p5 => ?_
    refine rdc (i := f) (by omega) fun p7 => ?_
    refine ov4.rd.ldBl bf.1 (by omega) ?_
    refine bif_b (fun hb => ?_) (fun hb => ?_)
    · refine next _ ?_
      rw [hst, hb]; rfl
    · refine rdc (i := g) (by omega) fun p13 => ?_
      refine ou4.rd.ldBl bg.1 (by omega) ?_
      refine next _ ?_
      rw [hst, hb]
      simp
  · rw [show z = es.length by omega, List.take_length] at ov
    have hd := fun w => itB_dec es j w
    change Ow g' v 1 ((bl N (itB es (j + 1))).map .bool) at ov
    have oug := ou.ext e
    refine equalB_c ov.rd oug.rd (by omega) fun b hb => ?_
    refine bif_b (fun ht => ?_) (fun hf' => ?_)
    · refine ⟨_, rfl, ?_, fu, x.trans e⟩
      rw [show bl N (itB es N) = bl N (itB es j) from bl_congr fun w hw => (itB_any (fun e he => (hE e he).2) (hb.1 ht) w hw).symm]
      exact oug
    · refine hX _ _ ⟨j + 1, ov, hvf.le x.len, x.trans e⟩ ?_
      rw [trues_ow ov (hus ov), trues_ow ou (hus ou)]
      refine cntB_lt (fun w _ => itB_dec es j w) ?_
      refine Classical.byContradiction fun hno => ?_
      have : b = true := hb.2 fun w hw => Classical.byContradiction fun hne => hno ⟨w, hw, fun e => hne e.symm⟩
      rw [hf'] at this; cases this
end
/-! ### words and table, as numbers -/
section
variable (c : Int) (ts : List Tile) (a : Int)
def nW : Nat := (c ^ a.toNat).toNat
def eA : Nat → Bool := itB (flipE (edN (colsOf c ts a))) (nW c a)
def eB : Nat → Bool := itB (edN (colsOf c ts a)) (nW c a)
def pW (w : Nat) : Bool := eA c ts a w && eB c ts a w
def wordsS : List Int := wdsL (pW c ts a) (nW c a)
def tableS : List (List Int) := (colsOf c ts a).foldl (tabS (eA c ts a) (eB c ts a) (plN (pW c ts a))) (zerT (plN (pW c ts a) (nW c a)))
end
theorem edN_in {c : Int} {ts : List Tile} {a : Int} (k : StripOK c ts a) : ∀ e ∈ edN (colsOf c ts a), e.1 < nW c a ∧ e.2 < nW c a := fun e he => by
  have T := k.set.ts
  have hp := pow_small4 (n := a.toNat) T.1 k.set.1.2 (by have := k.hh; omega)
  obtain ⟨x, hx, rfl⟩ := List.mem_map.1 he
  have := colP_bound T a.toNat (-1) 0 0 1 (by omega) (by omega) x hx
  rw [Int.one_mul] at this
  unfold nW
  exact ⟨by simp only []; omega, by simp only []; omega⟩
theorem lst_cols {c : Int} {ts : List Tile} {a : Int} (k : StripOK c ts a) : Lst (nW c a) (edN (colsOf c ts a)) (eA c ts a) (eB c ts a) := by
  have h := edN_in k
  refine ⟨h, endless_it (fun w hw => itB_end (fun e he => ?_) w hw), endless_it (fun w hw => itB_end (fun e he => (h e he).2) w hw)⟩
  obtain ⟨x, hx, rfl⟩ := List.mem_map.1 he
  exact (h x hx).1
/-- Both words of a lasting column are lasting. -/
theorem last_words {c : Int} {ts : List Tile} {a : Int} (k : StripOK c ts a) {e : Int × Int} (he : e ∈ colsOf c ts a) (h : lastE (eA c ts a) (eB c ts a) (e.1.toNat, e.2.toNat) = true) : (e.1.toNat < nW c a ∧ pW c ts a e.1.toNat = true) ∧ e.2.toNat < nW c a ∧ pW c ts a e.2.toNat = true := by
  have L := lst_cols k
  have hm : (e.1.toNat, e.2.toNat) ∈ edN (colsOf c ts a) := List.mem_map.2 ⟨e, he, rfl⟩
  have hi := L.hn _ hm
  exact ⟨⟨hi.1, (L.word hi.1).2 ⟨_, hm, h, .inl rfl⟩⟩, hi.2, (L.word hi.2).2 ⟨_, hm, h, .inr rfl⟩⟩
end Go.Proofs.Ytcoampecbpiecaa.Cl

/- Contracts of the program's lasting words and ColumnTable. No claim is stated here. -/
set_option linter.unusedVariables false
set_option linter.unusedSimpArgs false
namespace Go.Proofs.Ytcoampecbpiecaa.Cl
open Go
theorem tab1_setW {n : Nat} {f g : Nat → Int} {i : Nat} {x : Int} (h : ∀ j, j < n → g j = if j = i then x else f j) : (tab1 n f).set i x = tab1 n g := by
  apply List.ext_getElem (by simp [tab1])
  intro j h1 h2
  rw [List.getElem_set]
  simp only [tab1, List.getElem_map, List.getElem_range]
  have hj : j < n := by simpa [tab1] using h2
  rw [h j hj]
  by_cases e : i = j
  · rw [if_pos e, if_pos e.symm]
  · rw [if_neg e, if_neg fun f => e f.symm]
theorem zeros_ic (n : Nat) : (List.replicate n [i64 0]).flatten = ic (List.replicate n 0) := by
  induction n with
  | zero => rfl
  | succ z _ => simp [ic, List.map_replicate]
theorem rep_tab (n : Nat) : List.replicate n 0 = tab1 n fun _ => 0 := by
  unfold tab1
  apply List.ext_getElem (by simp)
  intro i h1 h2
  simp
section
variable {h0 : H} {n : Nat} {c : Int} {s : Sl} {ts : List Tile} {H_ os : Nat} {q : Sl}
theorem lasting_c (k : Strip h0 n c s ts H_ os q) (ok : StripOK c ts (H_ : Int)) :
    callV SP i_impl_strip_lasting [.ptr ⟨some os, 5, 0⟩] h0 fun v h' => ∃ w t, v = .tuple [.sl w, .sl t] ∧ Ow h' w 1 (ic (wordsS c ts H_)) ∧ Fr h0.length w ∧ NewSS h0.length h' t (tableS c ts H_) ∧ Ext h0 h' := by
  have T := ok.set.ts
  have hc6 := ok.set.1.2
  have hHH := ok.hh
  have hp := pow_small4 (n := H_) T.1 hc6 (by omega)
  have hof : colsOf c ts (H_ : Int) = (colsI c ts H_).map pr := by rw [colsI_pr T]; unfold colsOf; rw [Int.toNat_natCast]
  have hlen : (colsI c ts H_).length ≤ 5000 := by have := ok.ln; rw [hof] at this; simpa using this
  obtain ⟨N, hN⟩ : ∃ N : Nat, (N : Int) = c ^ H_ := ⟨(c ^ H_).toNat, by omega⟩
  have hnW : nW c (H_ : Int) = N := by unfold nW; rw [Int.toNat_natCast]; omega
  have hpw := ok.pw
  rw [Int.toNat_natCast] at hpw
  apply impl_strip_lasting_call
  unfold impl_strip_lasting_main
  refine (endlessS_c k T hc6 (by omega) hN hlen (f := 1) (g := 0) (by omega) (by omega)).to ?_
  rintro ua g0 ⟨oa, fa, x0⟩
  refine (endlessS_c (k.ext x0) T hc6 (by omega) hN hlen (f := 0) (g := 1) (by omega) (by omega)).to ?_
  rintro ub g2 ⟨ob, fb, x2⟩
  rw [edC_10, ← hof] at oa
  rw [edC_01, ← hof] at ob
  have hA : itB (flipE (edN (colsOf c ts (H_ : Int)))) N = eA c ts H_ := by unfold eA; rw [hnW]
  have hB : itB (edN (colsOf c ts (H_ : Int))) N = eB c ts H_ := by unfold eB; rw [hnW]
  rw [hA] at oa
  rw [hB] at ob
  have X2 := x0.trans x2
  have lX2 := X2.len
  refine slotK_in fun g4 x4 l4 => ?_
  have k4 := k.ext (X2.trans x4)
  refine ⟨rfl, isPt_in (k4.o.ldI (i := 3) rfl rfl ?_)⟩
  refine newSat_ow (by omega) (by rfl) fun w g7 ow lw wo b7 l7 => ?_
  have x7 : Ext g2 g7 := x4.but_ b7 (some_le (by omega))
  have k7 := k.ext (X2.trans x7)
  refine ⟨(k7.o.cellE (n := 5) (i := 3) rfl).trans (k4.o.cellE (n := 5) (i := 3) rfl).symm, ?_⟩
  refine mkSat_ow (by omega) (by omega) (by unfold lim; omega) fun pl g9 op lp po b9 l9 => ?_
  have x9 : Ext g2 g9 := x7.but_ b9 (some_le (by omega))
  have k9 := k.ext (X2.trans x9)
  refine ⟨rfl, isPt_in (k9.o.ldI (i := 3) rfl rfl ?_)⟩
  rw [show (c ^ H_).toNat = N by omega, zeros_ic, rep_tab] at op
  have ow9 : Ow g9 w 1 (ic []) := ow.but b9 (.inl (by rw [wo]; intro e; have := Option.some.inj e; omega))
  have hpln : plN (pW c ts H_) N ≤ N := by unfold plN; have := List.countP_le_length (p := pW c ts H_) (l := List.range N); rwa [List.length_range] at this
  have hA9 := (oa.ext x2).ext x9
  have hB9 := ob.ext x9
  refine impl_strip_lasting_rule0 _ _ _ _ _ _ _ (fun w i g => ∃ z : Nat, i = z ∧ z ≤ N ∧ Ow g w 1 (ic (wdsL (pW c ts H_) z)) ∧ w.o = some g2.length ∧ Ow g pl 1 (ic (tab1 N fun j => if j < z ∧ pW c ts H_ j = true then (plN (pW c ts H_) j : Int) else 0)) ∧ Ext g2 g ∧ g9.length ≤ g.length) (fun _ i _ => (N - i).toNat) ?_ _ _ (⟨0, rfl, by omega, ow9, wo, by
      rw [show (tab1 N fun j => if j < 0 ∧ pW c ts H_ j = true then (plN (pW c ts H_) j : Int) else 0) = tab1 N fun _ => 0 from by
        unfold tab1
        exact List.map_congr_left fun j _ => if_neg fun f => by omega]
      exact op, x9, Nat.le_refl _⟩)
  rintro X w _ g ⟨z, rfl, hz, ow, wo, op, xg, lg⟩ hX
  unfold impl_strip_lasting_b0 impl_strip_lasting_C0
  have oag := (oa.ext x2).ext xg
  have obg := ob.ext xg
  have hwl := wdsL_len (p := pW c ts H_) (N := z)
  have hwlen := ow.rd.ilen
  have hmono := plN_mono (p := pW c ts H_) hz
  refine bif_dec (fun hi => ?_) (fun hi => ?_)
  · have hz' : z < N := by omega
    have hsucc := wdsL_succ (p := pW c ts H_) (w := z)
    have hpz : pW c ts H_ z = (eA c ts H_ z && eB c ts H_ z) := rfl
    have skip : pW c ts H_ z = false → X (impl_strip_lasting_e0 ⟨some os, 5, 0⟩ ua ub w pl (c ^ H_) (w64 ((z : Int) + 1))) g := fun hf => by
      rw [w64_of (by omega) (by omega)]
      refine hX _ _ _ ⟨z + 1, by push_cast; rfl, by omega, by rw [hsucc, hf]; exact ow, wo, ?_, xg, lg⟩ (by omega)
      rw [show (tab1 N fun j => if j < z + 1 ∧ pW c ts H_ j = true then (plN (pW c ts H_) j : Int) else 0) = tab1 N fun j => if j < z ∧ pW c ts H_ j = true then (plN (pW c ts H_) j : Int) else 0 from by
        unfold tab1
        refine List.map_congr_left fun j _ => ?_
        by_cases e : j = z
        · subst e; rw [if_neg (by rw [hf]; simp), if_neg (by rw [hf]; simp)]
        · by_cases e2 : j < z ∧ pW c ts H_ j = true
          · rw [if_pos e2, if_pos ⟨by omega, e2.2⟩]
          · rw [if_neg e2, if_neg fun f => e2 ⟨by omega, f.2⟩]]
      exact op
    refine oag.rd.ldBl (by omega) (by omega) ?_
    rw [Int.toNat_natCast]
    refine bif_b (fun ha => ?_) (fun ha => skip (by rw [hpz, ha]; rfl))
    refine obg.rd.ldBl (by omega) (by omega) ?_
    rw [Int.toNat_natCast]
    refine bif_b (fun hb => ?_) (fun hb => skip (by rw [hpz, hb]; simp))
    have hpt : pW c ts H_ z = true := by rw [hpz, ha, hb]; rfl
    refine op.stI (by omega) (by have := op.rd.ilen; rw [tab1_len] at this; omega) _ fun g5 op5 b5 l5 => ?_
    rw [Int.toNat_natCast] at op5
    rw [tab1_setW (g := fun j => if j < z + 1 ∧ pW c ts H_ j = true then (plN (pW c ts H_) j : Int) else 0) (fun j _ => by
      by_cases e : j = z
      · subst e; rw [if_pos rfl, if_pos ⟨by omega, hpt⟩, hwlen, hwl]
      · rw [if_neg e]
        by_cases e2 : j < z ∧ pW c ts H_ j = true
        · rw [if_pos e2, if_pos ⟨by omega, e2.2⟩]
        · rw [if_neg e2, if_neg fun f => e2 ⟨by omega, f.2⟩])] at op5
    have ow5 := ow.but b5 (.inl (by rw [po, wo]; intro e; have := Option.some.inj e; omega))
    refine pushI3 ow5 (by unfold lim; omega) fun w' g6 ow6 b6 k6 => ?_
    rw [w64_of (by omega) (by omega)]
    refine hX _ _ _ ⟨z + 1, by push_cast; rfl, by omega, by rw [hsucc, hpt]; exact ow6, k6 _ wo, op5.but b6 (.inl (by rw [po, wo]; intro e; have := Option.some.inj e; omega)), (xg.but_ b5 (by rw [po]; exact some_le (by omega))).but_ b6 (by rw [wo]; exact some_le (Nat.le_refl _)), by have := b6.1; omega⟩ (by omega)
  have hzN : z = N := by omega
  subst hzN
  clear hX
  have hwS : wordsS c ts (H_ : Int) = wdsL (pW c ts H_) z := by unfold wordsS; rw [hnW]
  have op' : Ow g pl 1 (ic (tab1 z fun j => if pW c ts H_ j = true then (plN (pW c ts H_) j : Int) else 0)) := by
    rw [show (tab1 z fun j => if pW c ts H_ j = true then (plN (pW c ts H_) j : Int) else 0) = tab1 z fun j => if j < z ∧ pW c ts H_ j = true then (plN (pW c ts H_) j : Int) else 0 from by
      unfold tab1
      refine List.map_congr_left fun j hj => ?_
      have := List.mem_range.1 hj
      by_cases e2 : pW c ts H_ j = true
      · rw [if_pos e2, if_pos ⟨this, e2⟩]
      · rw [if_neg e2, if_neg fun f => e2 f.2]]
    exact op
  clear op
  generalize hM : plN (pW c ts H_) z = M at *
  refine newS_ow (by rfl) fun t h1 ot lt to e1 => ?_
  have y1 : Ext g h1 := by rw [e1]; exact Ext.app _ _
  refine impl_strip_lasting_rule2 _ _ _ _ _ _ _ _ (fun t i h => ∃ y : Nat, i = y ∧ y ≤ M ∧ NewSS g.length h t (List.replicate y (List.replicate M 0)) ∧ Ext g h) (fun _ i _ => (M - i).toNat) ?_ _ _ ⟨0, rfl, by omega, NewSS.mk0 ot (fun o e => by rw [to] at e; cases e; exact Nat.le_refl _), y1⟩
  rintro Y t _ h ⟨y, rfl, hy, nt, xh⟩ hY
  unfold impl_strip_lasting_b2 impl_strip_lasting_C2
  refine bif_dec (fun hi2 => ?_) (fun hi2 => ?_)
  · refine mkS_ow (by omega) (by unfold lim; omega) fun r h2 or lr ro e2 => ?_
    have y2 : Ext h h2 := by rw [e2]; exact Ext.app _ _
    rw [show ((w.len : Int)).toNat = M by omega, zeros_ic] at or
    have := xh.len
    refine (nt.ext y2).push or (m := h.length) (fun o e => by rw [ro] at e; cases e; exact Nat.le_refl _) this ⟨h, nt, Nat.le_refl _, y2⟩ (by simp; unfold lim; omega) (by have := y2.len; omega) fun t' h3 nt' b3 => ?_
    rw [w64_of (by omega) (by omega)]
    refine hY _ _ _ ⟨y + 1, by push_cast; rfl, by omega, by rw [List.replicate_succ']; exact nt', (xh.trans y2).but_ b3 fun o e => nt.fr o e⟩ (by omega)
  have hyM : y = M := by omega
  subst hyM
  clear hY
  have kh := k.ext ((X2.trans xg).trans xh)
  refine ⟨rfl, isPt_in (kh.o.ldS (i := 4) rfl rfl ?_)⟩
  have hql := k.len
  have hlw : ∀ e ∈ colsOf c ts (H_ : Int), lastE (eA c ts H_) (eB c ts H_) (e.1.toNat, e.2.toNat) = true → plN (pW c ts H_) e.1.toNat < y ∧ plN (pW c ts H_) e.2.toNat < y := fun e he hl => by
    have := last_words ok he hl
    rw [hnW] at this
    rw [← hM]
    exact ⟨plN_lt this.1.1 this.1.2, plN_lt this.2.1 this.2.2⟩
  have hel : (colsOf c ts (H_ : Int)).length = (colsI c ts H_).length := by rw [hof]; simp
  refine impl_strip_lasting_rule4 _ _ _ _ _ _ _ _ _ (fun i h' => ∃ z2 : Nat, i = z2 ∧ z2 ≤ (colsOf c ts (H_ : Int)).length ∧ NewSS g.length h' t (((colsOf c ts (H_ : Int)).take z2).foldl (tabS (eA c ts H_) (eB c ts H_) (plN (pW c ts H_))) (zerT y)) ∧ Ext g h') (fun i _ => ((colsOf c ts (H_ : Int)).length - i).toNat) ?_ _ ⟨0, rfl, by omega, nt, xh⟩
  rintro Z _ h' ⟨z2, rfl, hz2, nt, xh'⟩ hZ
  unfold impl_strip_lasting_b4 impl_strip_lasting_C4
  refine bif_dec (fun hi4 => ?_) (fun hi4 => ?_)
  rotate_left
  · rw [show z2 = (colsOf c ts (H_ : Int)).length by omega, List.take_length] at nt
    refine ⟨w, t, rfl, by rw [hwS]; exact ow.ext xh', (fun o e => by rw [wo] at e; have := Option.some.inj e; omega), ?_, (X2.trans xg).trans xh'⟩
    have : tableS c ts (H_ : Int) = (colsOf c ts (H_ : Int)).foldl (tabS (eA c ts H_) (eB c ts H_) (plN (pW c ts H_))) (zerT y) := by unfold tableS; rw [hnW, hM]
    rw [this]
    exact nt.le (by have := xg.len; omega)
  have hzc : z2 < (colsI c ts H_).length := by omega
  have hzo : z2 < (colsOf c ts (H_ : Int)).length := by omega
  have hez : (colsOf c ts (H_ : Int))[z2] = ((colsI c ts H_)[z2].1, (colsI c ts H_)[z2].2.1) := by
    have := getD_map_pr hzc
    simp only [hof]
    exact this
  have hcin := cols_in T hN _ (List.getElem_mem hzc)
  have hSq := Sq.fold (A := eA c ts H_) (B := eB c ts H_) (pl := plN (pW c ts H_)) (n := y) ((colsOf c ts (H_ : Int)).take z2) 0 (zerT y) (fun e he hl => (hlw e (List.mem_of_mem_take he) hl).1) (Int.le_refl _) (Sq.zero y)
  have hft := foldl_take (tabS (eA c ts H_) (eB c ts H_) (plN (pW c ts H_))) (zerT y) hzo
  have hlwz := hlw _ (List.getElem_mem hzo)
  have htl : (((colsOf c ts (H_ : Int)).take z2).length : Int) ≤ 5000 := by rw [List.length_take]; omega
  generalize ((colsOf c ts (H_ : Int)).take z2).foldl (tabS (eA c ts H_) (eB c ts H_) (plN (pW c ts H_))) (zerT y) = TT at *
  rw [hez] at hft hlwz
  refine (k.ext ((X2.trans xg).trans xh')).cols.rd.ldC hzc ?_
  generalize (colsI c ts H_)[z2] = x3 at *
  simp only at hlwz
  refine newO_obj fun g3 og3 y3 m3 => ?_
  refine og3.stA fun h4 og4 b4 m4 => ?_
  have y4 : Ext h' h4 := y3.but_ b4 (some_le (Nat.le_refl _))
  have rdc : ∀ {i : Nat} {K : Pt → Int → Prop} (hi : i < 3), (∀ p, K p (cs3 x3 i)) → ixA ⟨some h'.length, 3, 0⟩ 3 1 (i : Int) fun p => Cl.ldI .i64 p h4 (K p) := fun {i K} hi hk => by
    refine og4.ixI rfl hi fun p hp => ⟨_, ?_, hk p⟩
    rw [hp]
    match i, hi with
    | 0, _ => rfl
    | 1, _ => rfl
    | 2, _ => rfl
  have oa4 := (oag.ext xh').ext y4
  have ob4 := (obg.ext xh').ext y4
  have op4 := (op'.ext xh').ext y4
  have nt4 := nt.ext y4
  have hlE : lastE (eA c ts H_) (eB c ts H_) (x3.1.toNat, x3.2.1.toNat) = (eA c ts H_ x3.1.toNat && eB c ts H_ x3.2.1.toNat) := rfl
  have skip : lastE (eA c ts H_) (eB c ts H_) (x3.1.toNat, x3.2.1.toNat) = false → Z (impl_strip_lasting_e4 ua ub w pl t q (q.len : Int) (w64 ((z2 : Int) + 1))) h4 := fun hf => by
    rw [w64_of (by omega) (by omega)]
    refine hZ _ _ ⟨z2 + 1, by push_cast; rfl, by omega, ?_, xh'.trans y4⟩ (by omega)
    rw [hft]
    unfold tabS
    simp only
    rw [hf]
    exact nt4
  refine rdc (i := 0) (by omega) fun p5 => ?_
  show ixS ua 1 x3.1 _
  refine oa4.rd.ldBl hcin.1.1 hcin.1.2 ?_
  refine bif_b (fun ha => ?_) (fun ha => skip (by rw [hlE, ha]; rfl))
  refine rdc (i := 1) (by omega) fun p9 => ?_
  show ixS ub 1 x3.2.1 _
  refine ob4.rd.ldBl hcin.2.1 hcin.2.2 ?_
  refine bif_b (fun hb => ?_) (fun hb => skip (by rw [hlE, hb]; simp))
  have hl : lastE (eA c ts H_) (eB c ts H_) (x3.1.toNat, x3.2.1.toNat) = true := by rw [hlE, ha, hb]; rfl
  have hlw2 := hlwz hl
  have hlm := last_words (e := (x3.1, x3.2.1)) ok (by rw [← hez]; exact List.getElem_mem hzo) hl
  simp only at hlm
  have rdp : ∀ {x : Int} {K : Int → Prop}, 0 ≤ x → x < z → pW c ts H_ x.toNat = true → K (plN (pW c ts H_) x.toNat : Int) → ixS pl 1 x fun p => Cl.ldI .i64 p h4 K := fun {x K} h0 h1 hp hk => by
    refine op4.rd.ldG h0 (by rw [tab1_len]; exact h1) ?_
    rw [tab1_at (by omega), if_pos hp]
    exact hk
  refine rdc (i := 0) (by omega) fun p13 => ?_
  show ixS pl 1 x3.1 _
  refine rdp hcin.1.1 hcin.1.2 hlm.1.2 ?_
  refine nt4.row (by omega) (by rw [hSq.1]; omega) fun v rv stv => ?_
  rw [Int.toNat_natCast] at rv stv
  refine rdc (i := 1) (by omega) fun p19 => ?_
  show ixS pl 1 x3.2.1 _
  refine rdp hcin.2.1 hcin.2.2 hlm.2.2 ?_
  have hrow := hSq.2 _ hlw2.1
  have hcell := hrow.2 (plN (pW c ts H_) x3.2.1.toNat)
  refine rv.ldG (by omega) (by rw [hrow.1]; omega) ?_
  rw [Int.toNat_natCast]
  refine stv _ _ _ (by omega) (by rw [hrow.1]; omega) fun h5 nt5 cg5 l5 => ?_
  rw [Int.toNat_natCast] at nt5
  have hG : (rw_ TT (plN (pW c ts H_) x3.1.toNat)).getD (plN (pW c ts H_) x3.2.1.toNat) 0 = G TT (plN (pW c ts H_) x3.1.toNat) (plN (pW c ts H_) x3.2.1.toNat) := rfl
  rw [hG] at nt5
  rw [w64_of (n := (z2 : Int) + 1) (by omega) (by omega)]
  refine hZ _ _ ⟨z2 + 1, by push_cast; rfl, by omega, ?_, (xh'.trans y4).chg_ cg5 fun o ho => ho.1⟩ (by omega)
  rw [hft]
  unfold tabS
  simp only
  rw [if_pos hl]
  unfold incT
  rw [w64_of (by omega) (by omega)] at nt5
  exact nt5
end
end Go.Proofs.Ytcoampecbpiecaa.Cl

/- Contracts of the program's ColumnTable and ColumnWords. No claim is stated here. -/
set_option linter.unusedVariables false
set_option linter.unusedSimpArgs false
namespace Go.Proofs.Ytcoampecbpiecaa.Cl
open Go
open Classical in
noncomputable def codeL (c : Int) (ts : List Tile) (a : Int) : Int := if codeS c ts a ≠ 0 then codeS c ts a else if 40 < (wordsS c ts a).length then 3 else 0
theorem codeL_1 {c : Int} {ts : List Tile} {a : Int} (h : codeS c ts a ≠ 0) : codeL c ts a = codeS c ts a := by unfold codeL; rw [if_pos h]
theorem codeL_3 {c : Int} {ts : List Tile} {a : Int} (h : codeS c ts a = 0) (h2 : 40 < (wordsS c ts a).length) : codeL c ts a = 3 := by unfold codeL; rw [if_neg (by rw [h]; decide), if_pos h2]
theorem codeL_0 {c : Int} {ts : List Tile} {a : Int} (h : codeS c ts a = 0) (h2 : ¬ 40 < (wordsS c ts a).length) : codeL c ts a = 0 := by unfold codeL; rw [if_neg (by rw [h]; decide), if_neg h2]
theorem codeL_ok {c : Int} {ts : List Tile} {a : Int} (h : codeL c ts a = 0) : StripOK c ts a ∧ (wordsS c ts a).length ≤ 40 := by
  by_cases h1 : codeS c ts a = 0
  · refine ⟨codeS_ok h1, Classical.byContradiction fun f => ?_⟩
    rw [codeL_3 h1 (by omega)] at h; cases h
  · rw [codeL_1 h1] at h; exact absurd h h1
theorem table_sq {c : Int} {ts : List Tile} {a : Int} (k : StripOK c ts a) : Sq (wordsS c ts a).length 5000 (tableS c ts a) := by
  have hw : (wordsS c ts a).length = plN (pW c ts a) (nW c a) := wdsL_len
  have hSq := Sq.fold (A := eA c ts a) (B := eB c ts a) (pl := plN (pW c ts a)) (n := plN (pW c ts a) (nW c a)) (colsOf c ts a) 0 (zerT (plN (pW c ts a) (nW c a))) (fun e he hl => (by
    have := last_words k he hl
    exact plN_lt this.1.1 this.1.2)) (Int.le_refl _) (Sq.zero _)
  have hl := k.ln
  rw [hw]
  exact ⟨hSq.1, fun i hi => ⟨(hSq.2 i hi).1, fun j => by have := (hSq.2 i hi).2 j; unfold tableS; omega⟩⟩
noncomputable def F_ColumnTable_0 (c : Int) (ts : List Tile) (a : Int) : List (List Int) := sel0 (codeL c ts a = 0) (tableS c ts a)
theorem Sq.small {n : Nat} {m : Int} {T : List (List Int)} (h : Sq n m T) (hn : n ≤ 900) : T.length < 1000000 ∧ sumLen T < 1000000 := by
  have hl := h.1
  refine ⟨by omega, ?_⟩
  have : sumLen T ≤ T.length * n := sumLen_le fun l hl' => by
    obtain ⟨i, hi, rfl⟩ := List.getElem_of_mem hl'
    have := (h.2 i (by omega)).1
    rw [rw_at (List.getElem?_eq_getElem hi)] at this
    omega
  have h2 : T.length * n ≤ 900 * 900 := Nat.mul_le_mul (by omega) hn
  omega
theorem ColumnTable_small0 {c : Int} {ts : List Tile} {a : Int} (sz : ts.length ≤ 1048576) (ba : i64ok a) : (F_ColumnTable_0 c ts a).length < 1000000 ∧ sumLen (F_ColumnTable_0 c ts a) < 1000000 := by
  by_cases h : codeL c ts a = 0
  · rw [F_ColumnTable_0, sel0_yes h]
    have := codeL_ok h
    exact (table_sq this.1).small (by omega)
  · rw [F_ColumnTable_0, sel0_no h]; constructor <;> decide
/-- The digits of a number, so many. -/
def dgs (c : Int) : Nat → Int → List Int
  | 0, _ => []
  | k + 1, w => dgs c k (Int.tdiv w c) ++ [Int.tmod w c]
theorem dgs_len (c : Int) : ∀ k w, (dgs c k w).length = k
  | 0, _ => rfl
  | k + 1, w => by rw [dgs, List.length_append, dgs_len]; rfl
noncomputable def F_ColumnWords_0 (c : Int) (ts : List Tile) (a : Int) : List (List Int) := sel0 (codeL c ts a = 0) ((wordsS c ts a).map (dgs c a.toNat))
theorem ColumnWords_small0 {c : Int} {ts : List Tile} {a : Int} (sz : ts.length ≤ 1048576) (ba : i64ok a) : (F_ColumnWords_0 c ts a).length < 1000000 ∧ sumLen (F_ColumnWords_0 c ts a) < 1000000 := by
  by_cases h : codeL c ts a = 0
  · rw [F_ColumnWords_0, sel0_yes h]
    have := codeL_ok h
    have h4 := this.1.hh
    refine ⟨by rw [List.length_map]; omega, ?_⟩
    have h2 : sumLen ((wordsS c ts a).map (dgs c a.toNat)) ≤ ((wordsS c ts a).map (dgs c a.toNat)).length * 4 := sumLen_le fun l hl => by
      obtain ⟨w, _, rfl⟩ := List.mem_map.1 hl
      rw [dgs_len]; omega
    rw [List.length_map] at h2
    omega
  · rw [F_ColumnWords_0, sel0_no h]; constructor <;> decide
theorem wordsS_in {c : Int} {ts : List Tile} {a : Int} : ∀ w ∈ wordsS c ts a, 0 ≤ w ∧ w < nW c a := fun w hw => by
  obtain ⟨x, hx, rfl⟩ := List.mem_map.1 hw
  have := List.mem_range.1 (List.mem_filter.1 hx).1
  omega
theorem rep_set (i : Nat) (suf : List Int) (x : Int) : (List.replicate (i + 1) 0 ++ suf).set i x = List.replicate i 0 ++ x :: suf := by
  rw [List.replicate_succ', List.append_assoc, List.set_append_right _ _ (by simp)]
  simp
section
variable {h0 : H} {c : Int} {s : Sl} {ts : List Tile} {a : Int}
theorem lastingOf_c (r : Rd h0 s 4 (tcs ts)) (sz : ts.length ≤ 1048576) :
    callV SP i_impl_lastingOf [.agg (SetC c s), i64 a] h0 fun v h' => ∃ p w t, v = .tuple [.ptr p, .sl w, .sl t, i64 (codeL c ts a)] ∧ (codeL c ts a = 0 → (∃ os q, p = ⟨some os, 5, 0⟩ ∧ Strip h' h0.length c s ts a.toNat os q) ∧ Ow h' w 1 (ic (wordsS c ts a)) ∧ Fr h0.length w ∧ NewSS h0.length h' t (tableS c ts a)) ∧ Ext h0 h' := by
  apply impl_lastingOf_call
  unfold impl_lastingOf_main
  refine newK_obj fun h1 o1 x1 l1 => ?_
  refine o1.ldA rfl ?_
  refine (stripOf_c (n := a) (r.ext x1) sz).to ?_
  rintro _ h3 ⟨p, rfl, hp, x3⟩
  refine ⟨_, rfl, _, rfl, _, rfl, _, rfl, ?_⟩
  have X3 := x1.trans x3
  refine bif_ne (fun hq => ⟨_, _, _, by rw [codeL_1 hq], (fun f => by rw [codeL_1 hq] at f; exact absurd f hq), X3⟩) (fun hq => ?_)
  obtain ⟨os, q, rfl, k⟩ := hp hq
  have ok := codeS_ok hq
  have hpos : (a.toNat : Int) = a := by have := ok.hh; omega
  have hL := lasting_c k (by rw [hpos]; exact ok)
  rw [hpos] at hL
  refine hL.to ?_
  rintro _ h9 ⟨w, t, rfl, ow, fw, nt, x9⟩
  refine ⟨_, rfl, _, rfl, _, rfl, _, rfl, ?_⟩
  have hwl := ow.rd.ilen
  have l3 := X3.len
  refine bif_dec (fun hg => ?_) (fun hg => ?_)
  · have h3 := codeL_3 hq (show 40 < (wordsS c ts a).length by omega)
    exact ⟨_, _, _, by rw [h3], (fun f => by rw [h3] at f; cases f), X3.trans x9⟩
  · have h3 := codeL_0 hq (show ¬ 40 < (wordsS c ts a).length by omega)
    exact ⟨_, _, _, by rw [h3], fun _ => ⟨⟨os, q, rfl, (k.ext x9).le x1.len⟩, ow, fw.le l3, nt.le l3⟩, X3.trans x9⟩
theorem impl_ColumnTable_c (r : Rd h0 s 4 (tcs ts)) (sz : ts.length ≤ 1048576) (ba : i64ok a) :
    callV SP i_impl_ColumnTable [.agg (SetC c s), i64 a] h0 fun v h' => ∃ w, v = .tuple [.sl w, i64 (codeL c ts a)] ∧ NewSS h0.length h' w (F_ColumnTable_0 c ts a) ∧ Ext h0 h' := by
  apply impl_ColumnTable_call
  unfold impl_ColumnTable_main
  refine newK_obj fun h1 o1 x1 l1 => ?_
  refine o1.ldA rfl ?_
  refine (lastingOf_c (a := a) (r.ext x1) sz).to ?_
  rintro _ h3 ⟨p, w, t, rfl, hp, x3⟩
  refine ⟨_, rfl, _, rfl, _, rfl, _, rfl, _, rfl, _, rfl, _, rfl, _, rfl, ?_⟩
  have X3 := x1.trans x3
  refine bif_ne (fun hq => ⟨_, rfl, by rw [F_ColumnTable_0, sel0_no hq]; exact NewSS.nil _ _, X3⟩) (fun hq => ?_)
  obtain ⟨_, ow, fw, nt⟩ := hp hq
  exact ⟨_, by rw [hq], by rw [F_ColumnTable_0, sel0_yes hq]; exact nt.le x1.len, X3⟩
theorem impl_ColumnWords_c (r : Rd h0 s 4 (tcs ts)) (sz : ts.length ≤ 1048576) (ba : i64ok a) :
    callV SP i_impl_ColumnWords [.agg (SetC c s), i64 a] h0 fun v h' => ∃ w, v = .tuple [.sl w, i64 (codeL c ts a)] ∧ NewSS h0.length h' w (F_ColumnWords_0 c ts a) ∧ Ext h0 h' := by
  apply impl_ColumnWords_call
  unfold impl_ColumnWords_main
  refine newK_obj fun h1 o1 x1 l1 => ?_
  refine o1.ldA rfl ?_
  refine (lastingOf_c (a := a) (r.ext x1) sz).to ?_
  rintro _ h3 ⟨p, w, t, rfl, hp, x3⟩
  refine ⟨_, rfl, _, rfl, _, rfl, _, rfl, _, rfl, _, rfl, _, rfl, _, rfl, ?_⟩
  have X3 := x1.trans x3
  refine bif_ne (fun hq => ⟨_, rfl, by rw [F_ColumnWords_0, sel0_no hq]; exact NewSS.nil _ _, X3⟩) (fun hq => ?_)
  obtain ⟨⟨os, q, rfl, k⟩, ow, fw, nt⟩ := hp hq
  have ok := codeL_ok hq
  have hh := ok.1.hh
  obtain ⟨H_, rfl⟩ : ∃ H_ : Nat, a = H_ := ⟨a.toNat, by omega⟩
  have hc1 := ok.1.set.1
  have hin := wordsS_in (c := c) (ts := ts) (a := (H_ : Int))
  have hpw := ok.1.pw
  have hnw : nW c (H_ : Int) ≤ 700 := by unfold nW; omega
  rw [Int.toNat_natCast] at k
  have hwl := ow.rd.ilen
  refine newS_ow (by rfl) fun u h14 ou lu uo e14 => ?_
  have x14 : Ext h3 h14 := by rw [e14]; exact Ext.app _ _
  refine impl_ColumnWords_rule0 _ _ _ _ _ _ (fun u i g => ∃ z : Nat, i = z ∧ z ≤ (wordsS c ts H_).length ∧ NewSS h3.length g u (((wordsS c ts H_).take z).map (dgs c H_)) ∧ Ext h3 g) (fun _ i _ => ((wordsS c ts H_).length - i).toNat) ?_ _ _ ⟨0, rfl, by omega, NewSS.mk0 ou (fun o e => by rw [uo] at e; cases e; exact Nat.le_refl _), x14⟩
  rintro X u _ g ⟨z, rfl, hz, nu, xg⟩ hX
  unfold impl_ColumnWords_b0 impl_ColumnWords_C0
  refine bif_dec (fun hi => ?_) (fun hi => ?_)
  rotate_left
  · rw [show z = (wordsS c ts H_).length by omega, List.take_length] at nu
    exact ⟨u, by rw [hq], by rw [F_ColumnWords_0, sel0_yes hq, Int.toNat_natCast]; exact nu.le X3.len, X3.trans xg⟩
  have hz' : z < (wordsS c ts H_).length := by omega
  have hwz := hin _ (List.getElem_mem hz')
  refine (ow.ext xg).rd.ldG (by omega) (by omega) ?_
  rw [Int.toNat_natCast, show (wordsS c ts H_).getD z 0 = (wordsS c ts H_)[z] from by rw [List.getD_eq_getElem?_getD, List.getElem?_eq_getElem hz']; rfl]
  refine mkS_ow (by omega) (by unfold lim; omega) fun v h5 ov lv vo e5 => ?_
  have x5 : Ext g h5 := by rw [e5]; exact Ext.app _ _
  rw [zeros_ic, Int.toNat_natCast] at ov
  rw [w64_of (by omega) (by omega)]
  have hmap : ((wordsS c ts H_).take (z + 1)).map (dgs c H_) = ((wordsS c ts H_).take z).map (dgs c H_) ++ [dgs c H_ (wordsS c ts H_)[z]] := by rw [List.take_succ_eq_append_getElem hz', List.map_append]; rfl
  have hvf : Fr g.length v := fun o e => by rw [vo] at e; cases e; exact Nat.le_refl _
  refine impl_ColumnWords_rule2 _ _ X _ _ _ _ _ _ _ (fun y i g' => ∃ (j : Nat) (suf : List Int), i = (j : Int) - 1 ∧ j ≤ H_ ∧ (0 ≤ y ∧ y ≤ 700) ∧ dgs c H_ (wordsS c ts H_)[z] = dgs c j y ++ suf ∧ Ow g' v 1 (ic (List.replicate j 0 ++ suf)) ∧ Ext g g') (fun _ i _ => (i + 1).toNat) ?_ _ _ ⟨H_, [], rfl, Nat.le_refl _, by omega, by simp, by simpa using ov, x5⟩
  rintro Y y _ g' ⟨j, suf, rfl, hj, hy, hd, ov, e⟩ hY
  unfold impl_ColumnWords_b2 impl_ColumnWords_C2 impl_ColumnWords_C1
  have hol := ov.rd.ilen
  refine bif_dec (fun hi2 => ?_) (fun hi2 => ?_)
  · obtain ⟨j, rfl⟩ : ∃ j', j = j' + 1 := ⟨j - 1, by omega⟩
    rw [show ((j + 1 : Nat) : Int) - 1 = (j : Int) by omega]
    have kg := k.ext (xg.trans e)
    rw [dgs] at hd
    have hdiv : 0 ≤ Int.tdiv y c ∧ Int.tdiv y c ≤ 700 := by
      refine ⟨Int.tdiv_nonneg hy.1 (by omega), ?_⟩
      have := Int.tdiv_le_self c hy.1
      omega
    refine ⟨rfl, isPt_in (isPt_in (kg.o.ldI (i := 0) rfl rfl ⟨by omega, ?_⟩))⟩
    refine ov.stI (by omega) (by rw [hol]; simp; omega) _ fun g5 o5 b5 l5 => ?_
    have x5' : Ext g g5 := e.but_ b5 fun o e => hvf o e
    have kg5 := k.ext (xg.trans x5')
    refine ⟨rfl, isPt_in (isPt_in (kg5.o.ldI (i := 0) rfl rfl ⟨by omega, ?_⟩))⟩
    rw [w64_of (by omega) (by omega), w64_of (by omega) (by omega)]
    rw [Int.toNat_natCast, rep_set] at o5
    refine hY _ _ _ ⟨j, Int.tmod y c :: suf, rfl, by omega, hdiv, by rw [hd, List.append_assoc]; rfl, o5, x5'⟩ (by omega)
  · have hj0 : j = 0 := by omega
    subst hj0
    rw [dgs, List.nil_append] at hd
    have := xg.len
    refine (nu.ext e).push (m := g.length) (l := suf) (by simpa using ov) hvf this ⟨g, nu, Nat.le_refl _, e⟩ (by rw [List.length_map, List.length_take]; unfold lim; omega) (by have := e.len; omega) fun u' g6 nu' b6 => ?_
    rw [w64_of (by omega) (by omega)]
    refine hX _ _ _ ⟨z + 1, by push_cast; rfl, by omega, by rw [hmap, hd]; exact nu', (xg.trans e).but_ b6 fun o e => nu.fr o e⟩ (by omega)
end
end Go.Proofs.Ytcoampecbpiecaa.Cl

/- The reference's sorting, searching and keeping of columns. No claim is stated here. -/
set_option linter.unusedVariables false
set_option linter.unusedSimpArgs false
namespace Go.Proofs.Ytcoampecbpiecaa.Cl
open Go
/-! ### plain -/
theorem wdsL_asc (p : Nat → Bool) (N : Nat) : Asc (wdsL p N) := by
  unfold wdsL wdsN
  refine List.Pairwise.map _ (fun a b h => by omega) (List.Pairwise.filter _ List.pairwise_lt_range)
theorem wdsL_at {p : Nat → Bool} {w : Nat} (h : p w = true) : ∀ N, w < N → (wdsL p N)[plN p w]? = some (w : Int)
  | 0, hw => by omega
  | N + 1, hw => by
    rw [wdsL_succ]
    by_cases e : w = N
    · subst e
      rw [if_pos h, List.getElem?_append_right (by rw [wdsL_len]; exact Nat.le_refl _), wdsL_len, Nat.sub_self]; rfl
    · have ih := wdsL_at h N (by omega)
      split
      · rw [List.getElem?_append_left (by rw [wdsL_len]; exact plN_lt (by omega) h)]; exact ih
      · exact ih
/-! ### views -/
end Go.Proofs.Ytcoampecbpiecaa.Cl

/- The reference's keeping of lasting columns. No claim is stated here. -/
set_option linter.unusedVariables false
set_option linter.unusedSimpArgs false
namespace Go.Proofs.Ytcoampecbpiecaa.Cl
open Go
/-! ### slices whose rows lie in older memory -/
def ShS (hW h : H) (s : Sl) (ls : List (List Int)) : Prop :=
  ∃ us : List Sl, us.length = ls.length ∧ (∀ (k : Nat) u w, us[k]? = some u → ls[k]? = some w → Rd hW u 1 (ic w)) ∧ Ow h s 1 (us.map .sl)
theorem ShS.rd {hW h s ls} (r : ShS hW h s ls) (x : Ext hW h) : RdSS h s ls := by
  obtain ⟨us, a, b, c⟩ := r
  exact ⟨us, a, c.rd, fun k u w p q => (b k u w p q).ext x⟩
theorem ShS.len {hW h s ls} (r : ShS hW h s ls) : s.len = ls.length := by
  obtain ⟨us, a, b, c⟩ := r
  have := c.len; simp at this; omega
theorem ShS.push {hW h : H} {s : Sl} {ls : List (List Int)} (r : ShS hW h s ls) {v : Sl} {l : List Int} (rv : Rd hW v 1 (ic l)) (hl : (ls.length : Int) + 1 ≤ lim) {K : Sl → H → Prop}
    (hk : ∀ s' h', ShS hW h' s' (ls ++ [l]) → But s.o h h' → (∀ o, s.o = some o → s'.o = some o) → K s' h') : newS 1 1 [.sl v] h fun t h1 => Cl.app s t 1 h1 K := by
  have hs := r.len
  obtain ⟨us, a, b, c⟩ := r
  refine newS_ow (by rfl) fun t h1 ot tl to e1 => ?_
  have x1 : Ext h h1 := by rw [e1]; exact Ext.app _ _
  refine app_ow (by omega) (c.ext x1) ot.rd (by rw [tl, hs]; exact_mod_cast hl) fun s' h' o' ln bt k1 k2 => ?_
  refine hk s' h' ⟨us ++ [v], by simp [a], fun k u w p q => ?_, by simpa using o'⟩ ((x1.but _).trans bt) k1
  rw [List.getElem?_append] at p q
  split at p
  · next hi => rw [if_pos (by omega)] at q; exact b k u w p q
  · next hi =>
    rw [if_neg (by omega)] at q
    have hk0 : k = us.length := by
      have := (List.getElem?_eq_some_iff.1 p).1
      simp at this; omega
    subst hk0
    simp [a] at p q
    subst p q
    exact rv
/-! ### plain -/
abbrev Col := Int × Int × Int
def edX (x : Col) : Edge := (x.1.toNat, x.2.1.toNat)
def keepX (L : List Col) (x : Col) : Bool := (L.any fun y => y.2.1.toNat == x.1.toNat) && L.any fun y => y.1.toNat == x.2.1.toNat
theorem edX_mem {L : List Col} {x : Col} (h : x ∈ L) : edX x ∈ edN (L.map pr) := List.mem_map.2 ⟨pr x, List.mem_map.2 ⟨x, h, rfl⟩, rfl⟩
theorem edX_of {L : List Col} {e : Edge} (h : e ∈ edN (L.map pr)) : ∃ x ∈ L, edX x = e := by
  obtain ⟨y, hy, rfl⟩ := List.mem_map.1 h
  obtain ⟨x, hx, rfl⟩ := List.mem_map.1 hy
  exact ⟨x, hx, rfl⟩
section
variable {n : Nat} {L : List Col} {A B : Nat → Bool}
theorem keep_last (M : Lst n (edN (L.map pr)) A B) {Q : Col → Bool} (hQ : ∀ x ∈ L, lastE A B (edX x) = true → Q x = true) {x : Col} (hx : x ∈ L) (h : lastE A B (edX x) = true) : keepX (L.filter Q) x = true := by
  unfold keepX
  rw [Bool.and_eq_true, List.any_eq_true, List.any_eq_true]
  constructor
  · obtain ⟨e, he, h1, h2⟩ := M.pred (edX_mem hx) h
    obtain ⟨y, hy, rfl⟩ := edX_of he
    refine ⟨y, List.mem_filter.2 ⟨hy, hQ y hy h1⟩, ?_⟩
    have : y.2.1.toNat = x.1.toNat := h2
    simp [this]
  · obtain ⟨e, he, h1, h2⟩ := M.succ (edX_mem hx) h
    obtain ⟨y, hy, rfl⟩ := edX_of he
    refine ⟨y, List.mem_filter.2 ⟨hy, hQ y hy h1⟩, ?_⟩
    have : y.1.toNat = x.2.1.toNat := h2
    simp [this]
theorem keep_top (M : Lst n (edN (L.map pr)) A B) {Q : Col → Bool} (hQ : ∀ x ∈ L, Q x = true → keepX (L.filter Q) x = true) {x : Col} (hx : x ∈ L) (h : Q x = true) : lastE A B (edX x) = true := by
  have QE : ∀ e, ((L.filter Q).any fun y => edX y == e) = true ↔ ∃ y ∈ L, Q y = true ∧ edX y = e := fun e => by
    rw [List.any_eq_true]
    constructor
    · rintro ⟨y, hy, h⟩
      have := List.mem_filter.1 hy
      exact ⟨y, this.1, this.2, by simpa using h⟩
    · rintro ⟨y, hy, h1, h2⟩
      exact ⟨y, List.mem_filter.2 ⟨hy, h1⟩, by simp [h2]⟩
  refine M.top (Q := fun e => (L.filter Q).any fun y => edX y == e) (fun e he h => ?_) (fun e he h => ?_) (edX_mem hx) ((QE _).2 ⟨x, hx, h, rfl⟩)
  · obtain ⟨y, hy, hq, rfl⟩ := (QE e).1 h
    have hk := hQ y hy hq
    unfold keepX at hk
    rw [Bool.and_eq_true, List.any_eq_true] at hk
    obtain ⟨z, hz, h2⟩ := hk.1
    have := List.mem_filter.1 hz
    exact ⟨edX z, edX_mem this.1, (QE _).2 ⟨z, this.1, this.2, rfl⟩, (beq_iff_eq.1 h2)⟩
  · obtain ⟨y, hy, hq, rfl⟩ := (QE e).1 h
    have hk := hQ y hy hq
    unfold keepX at hk
    rw [Bool.and_eq_true, List.any_eq_true, List.any_eq_true] at hk
    obtain ⟨z, hz, h2⟩ := hk.2
    have := List.mem_filter.1 hz
    exact ⟨edX z, edX_mem this.1, (QE _).2 ⟨z, this.1, this.2, rfl⟩, (beq_iff_eq.1 h2)⟩
end
theorem filter_all {α : Type} {p : α → Bool} : ∀ (l : List α), (l.filter p).length = l.length → ∀ x ∈ l, p x = true
  | [], _, x, h => by cases h
  | a :: l, hl, x, h => by
    by_cases ha : p a = true
    · rw [List.filter_cons_of_pos ha] at hl
      rcases List.mem_cons.1 h with rfl | h
      · exact ha
      · exact filter_all l (by simpa using hl) x h
    · rw [List.filter_cons_of_neg ha] at hl
      have := List.length_filter_le p l
      simp at hl
      omega
theorem any_take_succ {α : Type} {l : List α} {p : α → Bool} {k : Nat} (h : k < l.length) : (l.take (k + 1)).any p = ((l.take k).any p || p l[k]) := by
  rw [List.take_succ_eq_append_getElem h, List.any_append]; simp
section
variable {h0 : H} {u : Sl} {N : Nat} {L : List Col} {A B : Nat → Bool}
theorem l06Keep_c (rd : RdSS h0 u (col3 L)) (hL : L.length ≤ 5000) (hN : N ≤ 1000000) (hin : ∀ x ∈ L, (0 ≤ x.1 ∧ x.1 < N) ∧ 0 ≤ x.2.1 ∧ x.2.1 < N) (M : Lst N (edN (L.map pr)) A B) :
    callS SP i_spec_l06Keep [.sl u, i64 N] h0 fun v h' => RdSS h' v (col3 (L.filter fun x => lastE A B (edX x))) ∧ Ext h0 h' := by
  apply spec_l06Keep_call
  unfold spec_l06Keep_main
  refine spec_l06Keep_rule0 _ _ _ (fun u h => ∃ Q : Col → Bool, RdSS h u (col3 (L.filter Q)) ∧ (∀ x ∈ L, lastE A B (edX x) = true → Q x = true) ∧ Ext h0 h) (fun u _ => u.len) ?_ _ ⟨fun _ => true, by rw [List.filter_eq_self.2 fun _ _ => rfl]; exact rd, fun _ _ _ => rfl, Ext.refl _⟩
  rintro X u h ⟨Q, rd, hQ, x⟩ hX
  unfold spec_l06Keep_b0
  have hul := rd.len
  rw [col3_len] at hul
  have hfl := List.length_filter_le Q L
  have hin' : ∀ x ∈ L.filter Q, (0 ≤ x.1 ∧ x.1 < N) ∧ 0 ≤ x.2.1 ∧ x.2.1 < N := fun x hx => hin x (List.mem_filter.1 hx).1
  have hkeep := fun {y} (hy : y ∈ L) => keep_last M hQ hy
  have htop := fun (hh : ∀ x ∈ L, Q x = true → keepX (L.filter Q) x = true) {y} (hy : y ∈ L) => keep_top M hh hy
  have hfil : (L.filter Q).filter (keepX (L.filter Q)) = L.filter fun x => Q x && keepX (L.filter Q) x := by
    rw [List.filter_filter]
    exact List.filter_congr fun y _ => Bool.and_comm _ _
  generalize hcur : L.filter Q = cur at *
  have rdx : ∀ {g : H} (e : Ext h g) {k : Nat} (hk : k < cur.length) {q : Nat} (hq : q < 3) {K : Int → Prop}, K (cs3 cur[k] q) → ixS u 1 (k : Int) fun p => Cl.ldS p g fun v => ixS v 1 (q : Int) fun p => Cl.ldI .i64 p g K := fun {g} e {k} hk {q} hq {K} hkk => by
    refine (rd.ext e).ldG (by omega) (by rw [col3_len]; omega) fun v rv lv => ?_
    rw [Int.toNat_natCast, col3_row hk] at rv
    exact rv.ldG (by omega) (by simp; omega) (by rw [Int.toNat_natCast]; exact hkk)
  refine slotK_in fun g0 x0 l0 => ?_
  refine mkSat_ow (by omega) (by omega) (by unfold lim; omega) fun we g2 owe lwe nwe bwe twe => ?_
  refine mkSat_ow (by omega) (by omega) (by unfold lim; omega) fun ea g4 oea lea nea bea tea => ?_
  refine newSat_ow (by omega) (by rfl) fun z g6 oz lz nz bz tz => ?_
  rw [bl_false, Int.toNat_natCast] at owe oea
  have x6 : Ext h g6 := ((x0.but_ bwe (some_le (by omega))).but_ bea (some_le (by omega))).but_ bz (some_le (by omega))
  have owe6 := (owe.but bea (.inl (by rw [nwe]; intro e; have := Option.some.inj e; omega))).but bz (.inl (by rw [nwe]; intro e; have := Option.some.inj e; omega))
  have oea6 := oea.but bz (.inl (by rw [nea]; intro e; have := Option.some.inj e; omega))
  have l6 : g6.length = h.length + 8 := by omega
  refine spec_l06Keep_rule2 _ _ X _ _ _ _ _ (fun i g => ∃ k : Nat, i = k ∧ k ≤ cur.length ∧ Ow g we 1 ((bl N fun w => (cur.take k).any fun y => y.1.toNat == w).map .bool) ∧ Ow g ea 1 ((bl N fun w => (cur.take k).any fun y => y.2.1.toNat == w).map .bool) ∧ Ow g z 1 [] ∧ Ext h g ∧ h.length + 8 ≤ g.length) (fun i _ => (cur.length - i).toNat) ?_ _ ⟨0, rfl, by omega, by simpa using owe6, by simpa using oea6, oz, x6, by omega⟩
  rintro Y _ g ⟨k, rfl, hk, owe, oea, oz, xg, lg⟩ hY
  unfold spec_l06Keep_b2 spec_l06Keep_C2
  refine bif_dec (fun hi => ?_) (fun hi => ?_)
  · have hk' : k < cur.length := by omega
    have hx := hin' _ (List.getElem_mem hk')
    have ht1 := fun w => any_take_succ (p := fun y : Col => y.1.toNat == w) hk'
    have ht2 := fun w => any_take_succ (p := fun y : Col => y.2.1.toNat == w) hk'
    refine rdx xg hk' (q := 0) (by omega) ?_
    show ixS we 1 cur[k].1 _
    refine owe.stBl hx.1.1 hx.1.2 _ fun g1 o1 b1 l1 => ?_
    rw [nwe] at b1
    have xg1 := xg.but_ b1 (some_le (by omega))
    refine rdx xg1 hk' (q := 1) (by omega) ?_
    show ixS ea 1 cur[k].2.1 _
    have oea1 := oea.but b1 (.inl (by rw [nea]; intro e; have := Option.some.inj e; omega))
    refine oea1.stBl hx.2.1 hx.2.2 _ fun g2 o2 b2 l2 => ?_
    rw [nea] at b2
    rw [w64_of (by omega) (by omega)]
    refine hY _ _ ⟨k + 1, by push_cast; rfl, by omega, ?_, ?_, (oz.but b1 (.inl (by rw [nz]; intro e; have := Option.some.inj e; omega))).but b2 (.inl (by rw [nz]; intro e; have := Option.some.inj e; omega)), xg1.but_ b2 (some_le (by omega)), by omega⟩ (by omega)
    · rw [show (bl N fun w => (cur.take (k + 1)).any fun y => y.1.toNat == w) = bl N (fun w => if w = cur[k].1.toNat then true else (cur.take k).any fun y => y.1.toNat == w) from bl_congr fun w _ => ?_]
      · exact o1.but b2 (.inl (by rw [nwe]; intro e; have := Option.some.inj e; omega))
      · rw [ht1 w]
        split
        · next e => simp [e]
        · next e => rw [show (cur[k].1.toNat == w) = false by simp; exact fun f => e f.symm]; simp
    · rw [show (bl N fun w => (cur.take (k + 1)).any fun y => y.2.1.toNat == w) = bl N (fun w => if w = cur[k].2.1.toNat then true else (cur.take k).any fun y => y.2.1.toNat == w) from bl_congr fun w _ => ?_]
      · exact o2
      · rw [ht2 w]
        split
        · next e => simp [e]
        · next e => rw [show (cur[k].2.1.toNat == w) = false by simp; exact fun f => e f.symm]; simp
  rw [show k = cur.length by omega, List.take_length] at owe oea
  clear hY
  refine spec_l06Keep_rule4 _ _ X _ _ _ _ (fun z i g' => ∃ k : Nat, i = k ∧ k ≤ cur.length ∧ ShS h g' z (col3 ((cur.take k).filter (keepX cur))) ∧ z.o = some (h.length + 4) ∧ Ow g' we 1 ((bl N fun w => cur.any fun y => y.1.toNat == w).map .bool) ∧ Ow g' ea 1 ((bl N fun w => cur.any fun y => y.2.1.toNat == w).map .bool) ∧ Ext h g' ∧ h.length + 8 ≤ g'.length) (fun _ i _ => (cur.length - i).toNat) ?_ _ _ ⟨0, rfl, by omega, ⟨[], rfl, fun k u w p => by simp at p, oz⟩, nz, owe, oea, xg, lg⟩
  rintro Y z _ g' ⟨k, rfl, hk, sz, nz, owe, oea, xg', lg'⟩ hY
  unfold spec_l06Keep_b4 spec_l06Keep_C4
  have hzl := sz.len
  rw [col3_len] at hzl
  refine bif_dec (fun hi => ?_) (fun hi => ?_)
  · have hk' : k < cur.length := by omega
    have hx := hin' _ (List.getElem_mem hk')
    have hkx : keepX cur cur[k] = ((cur.any fun y => y.2.1.toNat == cur[k].1.toNat) && cur.any fun y => y.1.toNat == cur[k].2.1.toNat) := rfl
    have hts : (cur.take (k + 1)).filter (keepX cur) = if keepX cur cur[k] then (cur.take k).filter (keepX cur) ++ [cur[k]] else (cur.take k).filter (keepX cur) := by
      rw [List.take_succ_eq_append_getElem hk', List.filter_append]
      by_cases q : keepX cur cur[k] = true
      · rw [if_pos q, List.filter_cons_of_pos q]; rfl
      · rw [if_neg q, List.filter_cons_of_neg q]; simp
    have hlt : ((cur.take k).filter (keepX cur)).length ≤ 5000 := by
      have := List.length_filter_le (keepX cur) (cur.take k)
      rw [List.length_take] at this
      omega
    have skip : keepX cur cur[k] = false → Y (spec_l06Keep_e4 u (N : Int) we ea z (w64 ((k : Int) + 1))) g' := fun q => by
      rw [w64_of (by omega) (by omega)]
      refine hY _ _ _ ⟨k + 1, by push_cast; rfl, by omega, ?_, nz, owe, oea, xg', lg'⟩ (by omega)
      rw [hts, q]; exact sz
    refine rdx xg' hk' (q := 0) (by omega) ?_
    show ixS ea 1 cur[k].1 _
    refine oea.rd.ldBl hx.1.1 hx.1.2 ?_
    refine bif_b (fun ha => ?_) (fun ha => skip (by rw [hkx, ha]; rfl))
    refine rdx xg' hk' (q := 1) (by omega) ?_
    show ixS we 1 cur[k].2.1 _
    refine owe.rd.ldBl hx.2.1 hx.2.2 ?_
    refine bif_b (fun hb => ?_) (fun hb => skip (by rw [hkx, hb]; simp))
    have hkt : keepX cur cur[k] = true := by rw [hkx, ha, hb]; rfl
    refine rd.ixC (by omega) (by rw [col3_len]; omega) fun p v cp rv lv => ⟨v, xg'.cell cp, ?_⟩
    rw [Int.toNat_natCast, col3_row hk'] at rv
    refine sz.push rv (by rw [col3_len]; unfold lim; omega) fun z' g7 sz' bz kz => ?_
    rw [nz] at bz
    rw [w64_of (by omega) (by omega)]
    refine hY _ _ _ ⟨k + 1, by push_cast; rfl, by omega, ?_, kz _ nz, owe.but bz (.inl (by rw [nwe]; intro e; have := Option.some.inj e; omega)), oea.but bz (.inl (by rw [nea]; intro e; have := Option.some.inj e; omega)), xg'.but_ bz (some_le (by omega)), by have := bz.1; omega⟩ (by omega)
    rw [hts, hkt, if_pos rfl, col3_app]; exact sz'
  rw [show k = cur.length by omega, List.take_length] at sz hzl
  have rdz := sz.rd xg'
  refine bif_eq (fun hq => ⟨_, rfl, ?_, x.trans xg'⟩) (fun hq => ?_)
  · have hall := filter_all cur (p := keepX cur) (by omega)
    rw [List.filter_eq_self.2 hall] at rdz
    have e : (L.filter fun x => lastE A B (edX x)) = cur := by
      rw [← hcur]
      refine List.filter_congr fun y hy => ?_
      have a := hQ y hy
      have b : Q y = true → lastE A B (edX y) = true := fun hq => htop (fun x hx hxq => hall x (by rw [← hcur]; exact List.mem_filter.2 ⟨hx, hxq⟩)) hy hq
      revert a b
      cases lastE A B (edX y) <;> cases Q y <;> simp
    rw [e]; exact rdz
  · have hlen := List.length_filter_le (keepX cur) cur
    rw [hfil] at rdz
    refine hX _ _ ⟨_, rdz, fun y hy hl => ?_, x.trans xg'⟩ (by omega)
    rw [hQ y hy hl, hkeep hy hl]; rfl
end
end Go.Proofs.Ytcoampecbpiecaa.Cl

/- Contracts of the reference's lasting words, ColumnTable and ColumnWords. No claim is stated here. -/
set_option linter.unusedVariables false
set_option linter.unusedSimpArgs false
namespace Go.Proofs.Ytcoampecbpiecaa.Cl
open Go
def stX (pl : Nat → Nat) (T : List (List Int)) (x : Col) : List (List Int) := incT T (pl x.1.toNat) (pl x.2.1.toNat)
theorem Sq.foldX {pl : Nat → Nat} {n : Nat} : ∀ (l : List Col) (m : Int) (T : List (List Int)), (∀ x ∈ l, pl x.1.toNat < n) → 0 ≤ m → Sq n m T → Sq n (m + l.length) (l.foldl (stX pl) T)
  | [], m, T, _, _, h => by simpa using h
  | x :: l, m, T, hp, m0, h => by
    have := Sq.foldX l (m + 1) _ (fun e he => hp e (by simp [he])) (by omega) (h.inc (j := pl x.2.1.toNat) m0 (hp x (by simp)))
    rw [List.foldl_cons, List.length_cons, show m + ((l.length + 1 : Nat) : Int) = m + 1 + l.length by omega]
    exact this
theorem foldl_keep {α β : Type} {p : α → Bool} {f : β → α → β} : ∀ (l : List α) (x : β), (l.filter p).foldl f x = l.foldl (fun a y => if p y then f a y else a) x
  | [], _ => rfl
  | a :: l, x => by
    by_cases h : p a = true
    · rw [List.filter_cons_of_pos h, List.foldl_cons, List.foldl_cons, if_pos h]; exact foldl_keep l _
    · rw [List.filter_cons_of_neg h, List.foldl_cons, if_neg h]; exact foldl_keep l _
def lastC (c : Int) (ts : List Tile) (H_ : Nat) : List Col := (layN c ts H_ lay0).filter fun x => lastE (eA c ts H_) (eB c ts H_) (edX x)
def wordsC (l : List Col) : List Int := l.flatMap fun x => [x.1, x.2.1]
section
variable {c : Int} {ts : List Tile} {H_ : Nat}
theorem cols_lay : colsOf c ts (H_ : Int) = (layN c ts H_ lay0).map pr := by rw [lay_pr]; unfold colsOf; rw [Int.toNat_natCast]
theorem lay_in (ok : StripOK c ts (H_ : Int)) : ∀ x ∈ layN c ts H_ lay0, (0 ≤ x.1 ∧ x.1 < nW c (H_ : Int)) ∧ 0 ≤ x.2.1 ∧ x.2.1 < nW c (H_ : Int) := fun x hx => by
  have hb := lay_bound ok.set.ts H_ x hx
  have hp := pow_small4 (n := H_) ok.set.ts.1 ok.set.1.2 (by have := ok.hh; omega)
  unfold nW
  rw [Int.toNat_natCast]
  omega
theorem lastC_words (ok : StripOK c ts (H_ : Int)) {x : Col} (hx : x ∈ lastC c ts H_) : (x.1.toNat < nW c (H_ : Int) ∧ pW c ts H_ x.1.toNat = true) ∧ x.2.1.toNat < nW c (H_ : Int) ∧ pW c ts H_ x.2.1.toNat = true := by
  have h := List.mem_filter.1 hx
  exact last_words (e := pr x) ok (by rw [cols_lay]; exact List.mem_map.2 ⟨x, h.1, rfl⟩) h.2
theorem wordsC_mem (ok : StripOK c ts (H_ : Int)) (w : Int) : w ∈ wordsC (lastC c ts H_) ↔ w ∈ wordsS c ts H_ := by
  have L := lst_cols ok
  have key : w ∈ wordsS c ts H_ ↔ ∃ n : Nat, n < nW c (H_ : Int) ∧ pW c ts H_ n = true ∧ (n : Int) = w := by
    unfold wordsS wdsL wdsN
    rw [List.mem_map]
    constructor
    · rintro ⟨n, hn, e⟩
      have := List.mem_filter.1 hn
      exact ⟨n, List.mem_range.1 this.1, this.2, e⟩
    · rintro ⟨n, h1, h2, e⟩
      exact ⟨n, List.mem_filter.2 ⟨List.mem_range.2 h1, h2⟩, e⟩
  rw [key]
  unfold wordsC
  rw [List.mem_flatMap]
  constructor
  · rintro ⟨x, hx, hw⟩
    have hl := lastC_words ok hx
    have hi := lay_in ok x (List.mem_filter.1 hx).1
    rcases List.mem_cons.1 hw with e | hw
    · exact ⟨x.1.toNat, hl.1.1, hl.1.2, by omega⟩
    · rw [List.mem_singleton] at hw
      exact ⟨x.2.1.toNat, hl.2.1, hl.2.2, by omega⟩
  · rintro ⟨n, h1, h2, rfl⟩
    obtain ⟨e, he, h3, h4⟩ := (L.word h1).1 h2
    rw [cols_lay] at he
    obtain ⟨x, hx, rfl⟩ := edX_of he
    refine ⟨x, List.mem_filter.2 ⟨hx, h3⟩, ?_⟩
    have hi := lay_in ok x hx
    rcases h4 with h4 | h4
    · have h4' : x.1.toNat = n := h4
      exact List.mem_cons.2 (.inl (by omega))
    · have h4' : x.2.1.toNat = n := h4
      exact List.mem_cons.2 (.inr (List.mem_singleton.2 (by omega)))
theorem table_last : tableS c ts (H_ : Int) = (lastC c ts H_).foldl (stX (plN (pW c ts H_))) (zerT (plN (pW c ts H_) (nW c (H_ : Int)))) := by
  unfold tableS lastC
  rw [foldl_keep, cols_lay, List.foldl_map]
  rfl
end
section
variable {h0 : H} {c : Int} {s : Sl} {ts : List Tile} {a : Int}
theorem l06Lasting_c (r : Rd h0 s 4 (tcs ts)) (sz : ts.length ≤ 1048576) :
    callV SP i_spec_l06Lasting [.agg (SetC c s), i64 a] h0 fun v h' => ∃ w t, v = .tuple [.sl w, .sl t, i64 (codeL c ts a)] ∧ (codeL c ts a = 0 → Rd h' w 1 (ic (wordsS c ts a)) ∧ NewSS h0.length h' t (tableS c ts a)) ∧ Ext h0 h' := by
  apply spec_l06Lasting_call
  unfold spec_l06Lasting_main
  refine newK_obj fun h1 o1 x1 l1 => ?_
  refine o1.ldA rfl ?_
  refine (l06Code_c (n := a) (r.ext x1) sz).to ?_
  rintro _ h3 ⟨u, rfl, hu, _, x3⟩
  refine ⟨_, rfl, _, rfl, _, rfl, _, rfl, ?_⟩
  have X3 := x1.trans x3
  refine bif_ne (fun hq => ⟨_, _, by rw [codeL_1 hq], (fun f => by rw [codeL_1 hq] at f; exact absurd f hq), X3⟩) (fun hq => ?_)
  have ok := codeS_ok hq
  have hh := ok.hh
  obtain ⟨H_, rfl⟩ : ∃ H_ : Nat, a = H_ := ⟨a.toNat, by omega⟩
  have T := ok.set.ts
  have hp := pow_small4 (n := H_) T.1 ok.set.1.2 (by omega)
  have hpw := ok.pw
  rw [Int.toNat_natCast] at hpw
  have hnW : ((nW c (H_ : Int) : Nat) : Int) = c ^ H_ := by unfold nW; rw [Int.toNat_natCast]; omega
  have rdu := hu hq
  rw [Int.toNat_natCast] at rdu
  have hln := ok.ln
  rw [cols_lay, List.length_map] at hln
  refine (o1.ext x3).ldA rfl ?_
  refine (l06Size_c (s := s) T.1 ok.set.1.2 (H_ := H_) (by omega)).to ?_
  rintro _ h10 ⟨rfl, x10⟩
  rw [← hnW]
  have M := lst_cols ok
  rw [cols_lay] at M
  refine (l06Keep_c (rdu.ext x10) hln (by omega) (lay_in ok) M).to ?_
  rintro v h12 ⟨rv, x12⟩
  change RdSS h12 v (col3 (lastC c ts H_)) at rv
  have hll : (lastC c ts H_).length ≤ 5000 := Nat.le_trans (List.length_filter_le _ _) hln
  have hvl := rv.len
  rw [col3_len] at hvl
  have X12 := (X3.trans x10).trans x12
  refine newS_ow (by rfl) fun z h15 oz lz zo e15 => ?_
  have x15 : Ext h12 h15 := by rw [e15]; exact Ext.app _ _
  have rdx : ∀ {g : H} (e : Ext h12 g) {k : Nat} (hk : k < (lastC c ts H_).length) {q : Nat} (hq : q < 3) {K : Int → Prop}, K (cs3 (lastC c ts H_)[k] q) → ixS v 1 (k : Int) fun p => Cl.ldS p g fun v => ixS v 1 (q : Int) fun p => Cl.ldI .i64 p g K := fun {g} e {k} hk {q} hq {K} hkk => by
    refine (rv.ext e).ldG (by omega) (by rw [col3_len]; omega) fun v rv lv => ?_
    rw [Int.toNat_natCast, col3_row hk] at rv
    exact rv.ldG (by omega) (by simp; omega) (by rw [Int.toNat_natCast]; exact hkk)
  refine spec_l06Lasting_rule0 _ _ _ (fun z i g => ∃ k : Nat, i = k ∧ k ≤ (lastC c ts H_).length ∧ Ow g z 1 (ic (wordsC ((lastC c ts H_).take k))) ∧ Fr h12.length z ∧ Ext h12 g) (fun _ i _ => ((lastC c ts H_).length - i).toNat) ?_ _ _ ⟨0, rfl, by omega, oz, (fun o e => by rw [zo] at e; cases e; exact Nat.le_refl _), x15⟩
  rintro X z _ g ⟨k, rfl, hk, oz, fz, xg⟩ hX
  unfold spec_l06Lasting_b0 spec_l06Lasting_C0
  have hwlen : ∀ l : List Col, (wordsC l).length = 2 * l.length := fun l => by
    induction l with
    | nil => rfl
    | cons x l ih => unfold wordsC at *; rw [List.flatMap_cons, List.length_append, ih]; simp; omega
  have hzl := oz.rd.ilen
  rw [hwlen, List.length_take] at hzl
  refine bif_dec (fun hi => ?_) (fun hi => ?_)
  · have hk' : k < (lastC c ts H_).length := by omega
    refine rdx xg hk' (q := 0) (by omega) ?_
    refine rdx xg hk' (q := 1) (by omega) ?_
    refine newS_ow (by rfl) fun y g9 oy ly yo e9 => ?_
    have x9 : Ext g g9 := by rw [e9]; exact Ext.app _ _
    refine app_ow (by omega) (oz.ext x9) oy.rd (by rw [ly, hzl]; unfold lim; omega) fun z' g11 oz' lz' bz k1 k2 => ?_
    rw [w64_of (by omega) (by omega)]
    have hfz : Fr h12.length z' := fun o e => by
      cases hq : z.o with
      | none => have := k2 hq o e; have := (xg.trans x9).len; omega
      | some p => rw [k1 p hq] at e; cases e; exact fz _ hq
    refine hX _ _ _ ⟨k + 1, by push_cast; rfl, by omega, ?_, hfz, (xg.trans x9).but_ bz fun o e => fz o e⟩ (by omega)
    have : wordsC ((lastC c ts H_).take (k + 1)) = wordsC ((lastC c ts H_).take k) ++ [(lastC c ts H_)[k].1, (lastC c ts H_)[k].2.1] := fm_take _ _ hk'
    rw [this, ic_app]
    exact oz'
  rw [show k = (lastC c ts H_).length by omega, List.take_length] at oz
  refine (sortedD_c _ _ z g (Nat.le_refl _) (by rw [hwlen]; omega) oz.rd).to ?_
  rintro w h0' ⟨l', rw', aw, mw, lw, _, x0⟩
  have hw : l' = wordsS c ts H_ := asc_ext aw (wdsL_asc _ _) fun x => by rw [mw, wordsC_mem ok]
  subst hw
  have hwl := rw'.ilen
  have Xg0 := (X12.trans xg).trans x0
  refine bif_dec (fun hg => ?_) (fun hg => ?_)
  · have h3 := codeL_3 hq (show 40 < (wordsS c ts H_).length by omega)
    exact ⟨_, _, by rw [h3], (fun f => by rw [h3] at f; cases f), Xg0⟩
  have h3 := codeL_0 hq (show ¬ 40 < (wordsS c ts H_).length by omega)
  have hM : (wordsS c ts H_).length = plN (pW c ts H_) (nW c (H_ : Int)) := wdsL_len
  refine newS_ow (by rfl) fun t g3 ot lt to e3 => ?_
  have y3 : Ext h0' g3 := by rw [e3]; exact Ext.app _ _
  clear hX
  refine spec_l06Lasting_rule2 _ _ _ _ (fun t i h => ∃ y : Nat, i = y ∧ y ≤ (wordsS c ts H_).length ∧ NewSS h0'.length h t (List.replicate y (List.replicate (wordsS c ts H_).length 0)) ∧ Ext h0' h) (fun _ i _ => ((wordsS c ts H_).length - i).toNat) ?_ _ _ ⟨0, rfl, by omega, NewSS.mk0 ot (fun o e => by rw [to] at e; cases e; exact Nat.le_refl _), y3⟩
  rintro Y t _ h ⟨y, rfl, hy, nt, xh⟩ hY
  unfold spec_l06Lasting_b2 spec_l06Lasting_C2
  refine bif_dec (fun hi2 => ?_) (fun hi2 => ?_)
  · refine mkS_ow (by omega) (by unfold lim; omega) fun r h2 or lr ro e2 => ?_
    have y2 : Ext h h2 := by rw [e2]; exact Ext.app _ _
    rw [show ((w.len : Int)).toNat = (wordsS c ts H_).length by omega, zeros_ic] at or
    have := xh.len
    refine (nt.ext y2).push or (m := h.length) (fun o e => by rw [ro] at e; cases e; exact Nat.le_refl _) this ⟨h, nt, Nat.le_refl _, y2⟩ (by simp; unfold lim; omega) (by have := y2.len; omega) fun t' h3 nt' b3 => ?_
    rw [w64_of (by omega) (by omega)]
    refine hY _ _ _ ⟨y + 1, by push_cast; rfl, by omega, by rw [List.replicate_succ']; exact nt', (xh.trans y2).but_ b3 fun o e => nt.fr o e⟩ (by omega)
  have hyM : y = (wordsS c ts H_).length := by omega
  subst hyM
  clear hY
  refine spec_l06Lasting_rule4 _ _ _ _ _ (fun i h' => ∃ z2 : Nat, i = z2 ∧ z2 ≤ (lastC c ts H_).length ∧ NewSS h0'.length h' t (((lastC c ts H_).take z2).foldl (stX (plN (pW c ts H_))) (zerT (wordsS c ts H_).length)) ∧ Ext h0' h') (fun i _ => ((lastC c ts H_).length - i).toNat) ?_ _ ⟨0, rfl, by omega, nt, xh⟩
  rintro Z _ h' ⟨z2, rfl, hz2, nt, xh'⟩ hZ
  unfold spec_l06Lasting_b4 spec_l06Lasting_C4
  refine bif_dec (fun hi4 => ?_) (fun hi4 => ?_)
  rotate_left
  · rw [show z2 = (lastC c ts H_).length by omega, List.take_length] at nt
    refine ⟨w, t, by rw [h3], fun _ => ⟨rw'.ext xh', ?_⟩, Xg0.trans xh'⟩
    rw [table_last, ← hM]
    exact nt.le Xg0.len
  have hz' : z2 < (lastC c ts H_).length := by omega
  have hlw : ∀ x ∈ lastC c ts H_, plN (pW c ts H_) x.1.toNat < (wordsS c ts H_).length ∧ plN (pW c ts H_) x.2.1.toNat < (wordsS c ts H_).length := fun x hx => by
    have := lastC_words ok hx
    rw [hM]
    exact ⟨plN_lt this.1.1 this.1.2, plN_lt this.2.1 this.2.2⟩
  have hSq := Sq.foldX (pl := plN (pW c ts H_)) (n := (wordsS c ts H_).length) ((lastC c ts H_).take z2) 0 (zerT (wordsS c ts H_).length) (fun x hx => (hlw x (List.mem_of_mem_take hx)).1) (Int.le_refl _) (Sq.zero _)
  have hft := foldl_take (stX (plN (pW c ts H_))) (zerT (wordsS c ts H_).length) hz'
  have hlwz := hlw _ (List.getElem_mem hz')
  have hwz := lastC_words ok (List.getElem_mem hz')
  have hiz := lay_in ok _ (List.mem_filter.1 (List.getElem_mem hz')).1
  have htl : (((lastC c ts H_).take z2).length : Int) ≤ 5000 := by rw [List.length_take]; omega
  generalize ((lastC c ts H_).take z2).foldl (stX (plN (pW c ts H_))) (zerT (wordsS c ts H_).length) = TT at *
  have X12' := (xg.trans x0).trans xh'
  have find : ∀ {x : Int} {K : Int → H → Prop}, 0 ≤ x → x.toNat < nW c (H_ : Int) → pW c ts H_ x.toNat = true → K (plN (pW c ts H_) x.toNat : Int) h' → callI SP .i64 i_spec_l04Find [.sl w, i64 x] h' K := fun {x K} hx0 hx1 hx2 hk => by
    have hat := wdsL_at hx2 _ hx1
    rw [Int.toNat_of_nonneg hx0] at hat
    refine l04Find_c (rw'.ext xh') aw (by omega) fun i hi => ?_
    rcases hi with ⟨j, rfl, hj⟩ | ⟨hno, _⟩
    · rw [asc_inj aw hj hat]; exact hk
    · exact absurd (List.mem_of_getElem? hat) hno
  refine rdx X12' hz' (q := 0) (by omega) ?_
  show callI SP .i64 i_spec_l04Find [.sl w, i64 (lastC c ts H_)[z2].1] h' _
  refine find hiz.1.1 hwz.1.1 hwz.1.2 ?_
  refine nt.row (by omega) (by rw [hSq.1]; omega) fun v rv stv => ?_
  rw [Int.toNat_natCast] at rv stv
  refine rdx X12' hz' (q := 1) (by omega) ?_
  show callI SP .i64 i_spec_l04Find [.sl w, i64 (lastC c ts H_)[z2].2.1] h' _
  refine find hiz.2.1 hwz.2.1 hwz.2.2 ?_
  have hrow := hSq.2 _ hlwz.1
  have hcell := hrow.2 (plN (pW c ts H_) (lastC c ts H_)[z2].2.1.toNat)
  refine rv.ldG (by omega) (by rw [hrow.1]; omega) ?_
  rw [Int.toNat_natCast]
  refine stv _ _ _ (by omega) (by rw [hrow.1]; omega) fun h5 nt5 cg5 l5 => ?_
  rw [Int.toNat_natCast] at nt5
  have hG : (rw_ TT (plN (pW c ts H_) (lastC c ts H_)[z2].1.toNat)).getD (plN (pW c ts H_) (lastC c ts H_)[z2].2.1.toNat) 0 = G TT (plN (pW c ts H_) (lastC c ts H_)[z2].1.toNat) (plN (pW c ts H_) (lastC c ts H_)[z2].2.1.toNat) := rfl
  rw [hG] at nt5
  rw [w64_of (n := (z2 : Int) + 1) (by omega) (by omega)]
  refine hZ _ _ ⟨z2 + 1, by push_cast; rfl, by omega, ?_, xh'.chg_ cg5 fun o ho => ho.1⟩ (by omega)
  rw [hft]
  unfold stX incT
  rw [w64_of (by omega) (by omega)] at nt5
  exact nt5
theorem spec_ColumnTable_c (r : Rd h0 s 4 (tcs ts)) (sz : ts.length ≤ 1048576) (ba : i64ok a) :
    callV SP i_spec_ColumnTable [.agg (SetC c s), i64 a] h0 fun v h' => ∃ w, v = .tuple [.sl w, i64 (codeL c ts a)] ∧ NewSS h0.length h' w (F_ColumnTable_0 c ts a) ∧ Ext h0 h' := by
  apply spec_ColumnTable_call
  unfold spec_ColumnTable_main
  refine newK_obj fun h1 o1 x1 l1 => ?_
  refine o1.ldA rfl ?_
  refine (l06Lasting_c (a := a) (r.ext x1) sz).to ?_
  rintro _ h3 ⟨w, t, rfl, hp, x3⟩
  refine ⟨_, rfl, _, rfl, _, rfl, _, rfl, _, rfl, _, rfl, ?_⟩
  have X3 := x1.trans x3
  refine bif_ne (fun hq => ⟨_, rfl, by rw [F_ColumnTable_0, sel0_no hq]; exact NewSS.nil _ _, X3⟩) (fun hq => ?_)
  exact ⟨_, by rw [hq], by rw [F_ColumnTable_0, sel0_yes hq]; exact (hp hq).2.le x1.len, X3⟩
theorem l06Word_c {y : Int} {H_ : Nat} (hc : 1 ≤ c) (hH : H_ ≤ 4) (hy : 0 ≤ y ∧ y ≤ 700) : callS SP i_spec_l06Word [i64 y, i64 c, i64 H_] h0 fun v h' => Ow h' v 1 (ic (dgs c H_ y)) ∧ Fr h0.length v ∧ Ext h0 h' := by
  apply spec_l06Word_call
  unfold spec_l06Word_main
  refine mkS_ow (by omega) (by unfold lim; omega) fun v h5 ov lv vo e5 => ?_
  have x5 : Ext h0 h5 := by rw [e5]; exact Ext.app _ _
  rw [zeros_ic, Int.toNat_natCast] at ov
  rw [w64_of (by omega) (by omega)]
  have hvf : Fr h0.length v := fun o e => by rw [vo] at e; cases e; exact Nat.le_refl _
  generalize hD : dgs c H_ y = D
  refine spec_l06Word_rule0 _ _ _ _ (fun y i g' => ∃ (j : Nat) (suf : List Int), i = (j : Int) - 1 ∧ j ≤ H_ ∧ (0 ≤ y ∧ y ≤ 700) ∧ D = dgs c j y ++ suf ∧ Ow g' v 1 (ic (List.replicate j 0 ++ suf)) ∧ Ext h0 g') (fun _ i _ => (i + 1).toNat) ?_ _ _ ⟨H_, [], rfl, Nat.le_refl _, hy, by rw [← hD]; simp, by simpa using ov, x5⟩
  rintro Y y _ g' ⟨j, suf, rfl, hj, hy, hd, ov, e⟩ hY
  unfold spec_l06Word_b0 spec_l06Word_C0
  have hol := ov.rd.ilen
  refine bif_dec (fun hi2 => ?_) (fun hi2 => ?_)
  · obtain ⟨j, rfl⟩ : ∃ j', j = j' + 1 := ⟨j - 1, by omega⟩
    rw [show ((j + 1 : Nat) : Int) - 1 = (j : Int) by omega]
    rw [dgs] at hd
    have hdiv : 0 ≤ Int.tdiv y c ∧ Int.tdiv y c ≤ 700 := by
      refine ⟨Int.tdiv_nonneg hy.1 (by omega), ?_⟩
      have := Int.tdiv_le_self c hy.1
      omega
    refine ⟨by omega, ?_⟩
    refine ov.stI (by omega) (by rw [hol]; simp; omega) _ fun g5 o5 b5 l5 => ?_
    have x5' : Ext h0 g5 := e.but_ b5 fun o e => hvf o e
    refine ⟨by omega, ?_⟩
    rw [w64_of (by omega) (by omega), w64_of (by omega) (by omega)]
    rw [Int.toNat_natCast, rep_set] at o5
    refine hY _ _ _ ⟨j, Int.tmod y c :: suf, rfl, by omega, hdiv, by rw [hd, List.append_assoc]; rfl, o5, x5'⟩ (by omega)
  · have hj0 : j = 0 := by omega
    subst hj0
    rw [dgs, List.nil_append] at hd
    refine ⟨_, rfl, ?_, hvf, e⟩
    rw [hd]; simpa using ov
theorem spec_ColumnWords_c (r : Rd h0 s 4 (tcs ts)) (sz : ts.length ≤ 1048576) (ba : i64ok a) :
    callV SP i_spec_ColumnWords [.agg (SetC c s), i64 a] h0 fun v h' => ∃ w, v = .tuple [.sl w, i64 (codeL c ts a)] ∧ NewSS h0.length h' w (F_ColumnWords_0 c ts a) ∧ Ext h0 h' := by
  apply spec_ColumnWords_call
  unfold spec_ColumnWords_main
  refine newK_obj fun h1 o1 x1 l1 => ?_
  refine o1.ldA rfl ?_
  refine (l06Lasting_c (a := a) (r.ext x1) sz).to ?_
  rintro _ h3 ⟨w, t, rfl, hp, x3⟩
  refine ⟨_, rfl, _, rfl, _, rfl, _, rfl, _, rfl, _, rfl, ?_⟩
  have X3 := x1.trans x3
  refine bif_ne (fun hq => ⟨_, rfl, by rw [F_ColumnWords_0, sel0_no hq]; exact NewSS.nil _ _, X3⟩) (fun hq => ?_)
  obtain ⟨ow, _⟩ := hp hq
  have ok := codeL_ok hq
  have hh := ok.1.hh
  obtain ⟨H_, rfl⟩ : ∃ H_ : Nat, a = H_ := ⟨a.toNat, by omega⟩
  have hc1 := ok.1.set.1
  have hin := wordsS_in (c := c) (ts := ts) (a := (H_ : Int))
  have hpw := ok.1.pw
  have hnw : nW c (H_ : Int) ≤ 700 := by unfold nW; omega
  have hwl := ow.ilen
  refine newS_ow (by rfl) fun u h14 ou lu uo e14 => ?_
  have x14 : Ext h3 h14 := by rw [e14]; exact Ext.app _ _
  refine spec_ColumnWords_rule0 _ _ _ _ _ (fun u i g => ∃ z : Nat, i = z ∧ z ≤ (wordsS c ts H_).length ∧ NewSS h3.length g u (((wordsS c ts H_).take z).map (dgs c H_)) ∧ Ext h3 g) (fun _ i _ => ((wordsS c ts H_).length - i).toNat) ?_ _ _ ⟨0, rfl, by omega, NewSS.mk0 ou (fun o e => by rw [uo] at e; cases e; exact Nat.le_refl _), x14⟩
  rintro X u _ g ⟨z, rfl, hz, nu, xg⟩ hX
  unfold spec_ColumnWords_b0 spec_ColumnWords_C0
  refine bif_dec (fun hi => ?_) (fun hi => ?_)
  rotate_left
  · rw [show z = (wordsS c ts H_).length by omega, List.take_length] at nu
    exact ⟨u, by rw [hq], by rw [F_ColumnWords_0, sel0_yes hq, Int.toNat_natCast]; exact nu.le X3.len, X3.trans xg⟩
  have hz' : z < (wordsS c ts H_).length := by omega
  have hwz := hin _ (List.getElem_mem hz')
  refine (ow.ext xg).ldG (by omega) (by omega) ?_
  rw [Int.toNat_natCast, show (wordsS c ts H_).getD z 0 = (wordsS c ts H_)[z] from by rw [List.getD_eq_getElem?_getD, List.getElem?_eq_getElem hz']; rfl]
  refine isPt_in ((o1.ext (x3.trans xg)).ldI rfl rfl ?_)
  refine (l06Word_c hc1.1 (by omega) (by omega)).to ?_
  rintro v g3 ⟨ov, fv, y3⟩
  have hmap : ((wordsS c ts H_).take (z + 1)).map (dgs c H_) = ((wordsS c ts H_).take z).map (dgs c H_) ++ [dgs c H_ (wordsS c ts H_)[z]] := by rw [List.take_succ_eq_append_getElem hz', List.map_append]; rfl
  refine (nu.ext y3).push (m := g.length) ov fv xg.len ⟨g, nu, Nat.le_refl _, y3⟩ (by rw [List.length_map, List.length_take]; unfold lim; omega) (by have := y3.len; have := xg.len; omega) fun u' g6 nu' b6 => ?_
  rw [w64_of (by omega) (by omega)]
  refine hX _ _ _ ⟨z + 1, by push_cast; rfl, by omega, by rw [hmap]; exact nu', (xg.trans y3).but_ b6 fun o e => nu.fr o e⟩ (by omega)
end
end Go.Proofs.Ytcoampecbpiecaa.Cl

/- Strong parts: the plain law. No claim is stated here. -/
set_option linter.unusedVariables false
set_option linter.unusedSimpArgs false
namespace Go.Proofs.Ytcoampecbpiecaa.Cl
section
variable (n : Nat) (R : Nat → Nat → Bool)
end
variable {n : Nat} {R : Nat → Nat → Bool}
end Go.Proofs.Ytcoampecbpiecaa.Cl

/- Square tables of truth values in the heap. No claim is stated here. -/
set_option linter.unusedVariables false
set_option linter.unusedSimpArgs false
namespace Go.Proofs.Ytcoampecbpiecaa.Cl
open Go
/-- A new slice of new rows, which are told. -/
structure NewV (n : Nat) (h : H) (s : Sl) (vs : List Sl) (ls : List (List AVal)) : Prop where
  len : vs.length = ls.length
  own : Ow h s 1 (vs.map .sl)
  fr : Fr n s
  rows : ∀ (i : Nat) v l, vs[i]? = some v → ls[i]? = some l → Ow h v 1 l ∧ Fr n v
  dis : ∀ (i j : Nat) v w, i ≠ j → vs[i]? = some v → vs[j]? = some w → ∀ o, v.o = some o → w.o ≠ some o
  sep : ∀ (i : Nat) v, vs[i]? = some v → ∀ o, v.o = some o → s.o ≠ some o
section
variable {n : Nat} {h h' : H} {s : Sl} {vs : List Sl} {ls : List (List AVal)}
theorem NewV.mk0 (o : Ow h s 1 []) (f : Fr n s) : NewV n h s [] [] := ⟨rfl, o, f, fun i v l a => by simp at a, fun i j v w _ a => by simp at a, fun i v a => by simp at a⟩
theorem NewV.ext (r : NewV n h s vs ls) (x : Ext h h') : NewV n h' s vs ls := ⟨r.len, r.own.ext x, r.fr, fun i v l a b => ⟨(r.rows i v l a b).1.ext x, (r.rows i v l a b).2⟩, r.dis, r.sep⟩
theorem NewV.le {m : Nat} (r : NewV n h s vs ls) (hm : m ≤ n) : NewV m h s vs ls := ⟨r.len, r.own, r.fr.le hm, fun i v l a b => ⟨(r.rows i v l a b).1, (r.rows i v l a b).2.le hm⟩, r.dis, r.sep⟩
theorem NewV.slen (r : NewV n h s vs ls) : s.len = ls.length := by have := r.own.len; have := r.len; simp at *; omega
theorem NewV.row (r : NewV n h s vs ls) {i : Nat} {v : Sl} (hv : vs[i]? = some v) {l : List AVal} (hl : ls[i]? = some l) : Ow h v 1 l := (r.rows i v l hv hl).1
end
/-! ### tables of truth values -/
def tabR (N : Nat) (R : Nat → Nat → Bool) : List (List AVal) := (List.range N).map fun i => (bl N (R i)).map AVal.bool
theorem tabR_len (N R) : (tabR N R).length = N := by simp [tabR]
def NewM (n : Nat) (h : H) (s : Sl) (N : Nat) (R : Nat → Nat → Bool) : Prop := ∃ vs, NewV n h s vs (tabR N R)
section
variable {n N : Nat} {h h' : H} {s : Sl} {R : Nat → Nat → Bool} {vs : List Sl}
theorem NewM.ext (r : NewM n h s N R) (x : Ext h h') : NewM n h' s N R := by obtain ⟨vs, r⟩ := r; exact ⟨vs, r.ext x⟩
theorem NewM.len (r : NewM n h s N R) : s.len = N := by obtain ⟨vs, r⟩ := r; rw [r.slen, tabR_len]
end
/-! ### the program's reach -/
section
variable {h0 : H} {u : Sl} {T : List (List Int)} {N : Nat} {m : Int}
end
end Go.Proofs.Ytcoampecbpiecaa.Cl

/- Contracts of StrongParts. No claim is stated here. -/
set_option linter.unusedVariables false
set_option linter.unusedSimpArgs false
namespace Go.Proofs.Ytcoampecbpiecaa.Cl
open Go
theorem NewSS.pushO {n : Nat} {h h' : H} {s : Sl} {ls : List (List Int)} (r0 : NewSS n h s ls) (x : Ext h h') {v : Sl} {l : List Int} (ov : Ow h' v 1 (ic l)) (fv : Fr h.length v) (hn : n ≤ h.length) (hl : (ls.length : Int) + 1 ≤ lim) {K : Sl → H → Prop}
    (hk : ∀ s' g, NewSS n g s' (ls ++ [l]) → But s.o h' g → (∀ o, s.o = some o → s'.o = some o) → K s' g) : newS 1 1 [.sl v] h' fun t h1 => Cl.app s t 1 h1 K := by
  refine newS_ow (by rfl) fun t h1 ot tl to e1 => ?_
  have e1' : Ext h' h1 := by rw [e1]; exact Ext.app _ _
  refine ((r0.ext x).ext e1').app_new (ov.ext e1') fv hn ⟨h, r0, Nat.le_refl _, x.trans e1'⟩ ot.rd hl (Nat.le_trans hn (Nat.le_trans x.len e1'.len)) fun s' g n' b k1 _ => hk s' g n' ((e1'.but _).trans b) k1
theorem NewV.but {n : Nat} {h h' : H} {s : Sl} {vs : List Sl} {ls : List (List AVal)} (r : NewV n h s vs ls) {p : Option Nat} (b : But p h h') (hp : ∀ o, p = some o → o < n) : NewV n h' s vs ls := by
  have key : ∀ {w : Sl}, Fr n w → p ≠ w.o ∨ p = none := fun {w} f => by
    cases hq : p with
    | none => exact .inr rfl
    | some o => exact .inl fun e => by have := hp o hq; have := f o e.symm; omega
  exact ⟨r.len, r.own.but b (key r.fr), r.fr, fun i v l a c => ⟨(r.rows i v l a c).1.but b (key (r.rows i v l a c).2), (r.rows i v l a c).2⟩, r.dis, r.sep⟩
theorem NewM.but {n N : Nat} {h h' : H} {s : Sl} {R : Nat → Nat → Bool} (r : NewM n h s N R) {p : Option Nat} (b : But p h h') (hp : ∀ o, p = some o → o < n) : NewM n h' s N R := by obtain ⟨vs, r⟩ := r; exact ⟨vs, r.but b hp⟩
section
variable {h0 : H} {u : Sl} {T : List (List Int)} {N : Nat} {m : Int}
end
end Go.Proofs.Ytcoampecbpiecaa.Cl

/- Ways through tiles and the number of rows: the program's walk. No claim is stated here. -/
set_option linter.unusedVariables false
set_option linter.unusedSimpArgs false
namespace Go.Proofs.Ytcoampecbpiecaa.Cl
open Go
def edR (ts : List Tile) : List (Int × Int) := ts.map fun t => (sd t 0, sd t 2)
theorem edR_in {c : Int} {ts : List Tile} (hs : setOK c ts) : InN c.toNat (edR ts) := fun e he => by
  obtain ⟨t, ht, rfl⟩ := List.mem_map.1 he
  have h0 := hs.ts.2 t ht 0 (by omega)
  have h2 := hs.ts.2 t ht 2 (by omega)
  dsimp only
  omega
theorem mnI_fS (x : Int) : mnI 1000000000000001 x = fS x := by
  unfold fS mnI
  by_cases h : x < 1000000000000001
  · rw [if_pos h, if_neg (by omega)]
  · by_cases h2 : 1000000000000001 < x
    · rw [if_neg h, if_pos h2]
    · rw [if_neg h, if_neg h2]; omega
theorem itL_bd {es : List (Int × Int)} {N : Nat} : ∀ (k : Nat) {v : List Int}, Bd 1000000000000001 v → v.length = N → Bd 1000000000000001 (itL fS es N k v) ∧ (itL fS es N k v).length = N
  | 0, v, h, hl => ⟨h, hl⟩
  | k + 1, v, h, hl => itL_bd k (stepL_bd fitS h).1 (stepL_bd fitS h).2
theorem unL_bd {N s : Nat} (hs : s < N) : Bd 1000000000000001 (unL N s) := fun i => by
  unfold unL
  rw [getD_setJ _ _ _ _ (by simpa using hs)]
  split
  · omega
  · exact bd_zero (by omega) N i
section
variable {h0 : H} {c : Int} {s : Sl} {ts : List Tile}
theorem ways_c (r : Rd h0 s 4 (tcs ts)) (hs : setOK c ts) {n : Int} (hn : 0 ≤ n ∧ n ≤ 1000) :
    callS SP i_impl_Set_ways [.agg (SetC c s), i64 n] h0 fun w h' => NewSS h0.length h' w ((List.range c.toNat).map fun k => itL fS (edR ts) c.toNat n.toNat (unL c.toNat k)) ∧ Ext h0 h' := by
  have hc := hs.1
  have hsl := r.tlen
  have h16 := hs.2.1
  have hin := edR_in hs
  apply impl_Set_ways_call
  unfold impl_Set_ways_main
  refine newK_obj fun h1 o1 x1 n1 => ?_
  refine newS_ow (by rfl) fun w h2 ow lw wo e2 => ?_
  have x2 : Ext h1 h2 := by rw [e2]; exact Ext.app _ _
  refine isPt_in ((o1.ext x2).ldI rfl rfl ?_)
  refine impl_Set_ways_rule0 _ _ _ _ _ (fun w i g => ∃ k : Nat, i = k ∧ k ≤ c.toNat ∧ NewSS h1.length g w ((List.range k).map fun k => itL fS (edR ts) c.toNat n.toNat (unL c.toNat k)) ∧ Ext h1 g) (fun _ i _ => (c - i).toNat) ?_ _ _
    ⟨0, rfl, by omega, NewSS.mk0 ow (fun o e => by rw [wo] at e; cases e; exact Nat.le_refl _), x2⟩
  rintro X w _ g ⟨k, rfl, hk, nw, xg⟩ hX
  have og := o1.ext xg
  have rg := r.ext (x1.trans xg)
  unfold impl_Set_ways_b0
  refine bif_dec (fun hi => ?_) (fun hi => ?_)
  · refine isPt_in (og.ldI rfl rfl ?_)
    refine mkS_ow (by omega) (by unfold lim; omega) fun v g1 ov lv vo e1 => ?_
    have y1 : Ext g g1 := by rw [e1]; exact Ext.app _ _
    have hz : (List.replicate c.toNat [AVal.int .i64 0]).flatten = ic (List.replicate c.toNat 0) := by
      unfold ic
      rw [List.map_replicate]; simp
    rw [hz] at ov
    refine ov.stI (by omega) (by rw [lv]; omega) _ fun g2 ov2 b2 m2 => ?_
    rw [vo] at b2
    have y2 : Ext g g2 := y1.but_ b2 (some_le (Nat.le_refl _))
    rw [Int.toNat_natCast] at ov2
    have fv : Fr g.length v := fun i e => by rw [vo] at e; cases e; exact Nat.le_refl _
    refine impl_Set_ways_rule2 _ _ X _ _ _ _ _ _ (fun v i g' => ∃ m : Nat, i = m ∧ (m : Int) ≤ n ∧ Ow g' v 1 (ic (itL fS (edR ts) c.toNat m (unL c.toNat k))) ∧ Fr g.length v ∧ Ext g g') (fun _ i _ => (n - i).toNat) ?_ _ _
      ⟨0, rfl, hn.1, ov2, fv, y2⟩
    rintro X2 v _ g3 ⟨m, rfl, hm, ov3, fv3, y3⟩ hX2
    have hb3 := itL_bd (es := edR ts) (N := c.toNat) m (unL_bd (show k < c.toNat by omega)) (by simp [unL])
    have hvl := ov3.rd.ilen
    unfold impl_Set_ways_b2
    refine bif_dec (fun hi2 => ?_) (fun hi2 => ?_)
    · refine isPt_in ((og.ext y3).ldI rfl rfl ?_)
      refine mkS_ow (by omega) (by unfold lim; omega) fun u g4 ou lu uo e4 => ?_
      have y4 : Ext g3 g4 := by rw [e4]; exact Ext.app _ _
      rw [hz] at ou
      have hul : u.len = c.toNat := lu
      refine isPt_in ((og.ext (y3.trans y4)).ldS (m := s) rfl rfl ?_)
      refine impl_Set_ways_rule4 _ _ X X2 _ _ _ _ _ _ _ _ _ _ _ (fun i g' => ∃ z : Nat, i = z ∧ z ≤ ts.length ∧ Ow g' u 1 (ic (((edR ts).take z).foldl (stp fS (itL fS (edR ts) c.toNat m (unL c.toNat k))) (List.replicate c.toNat 0))) ∧ Ext g3 g') (fun i _ => ((ts.length : Int) - i).toNat) ?_ _
        ⟨0, rfl, by omega, ou, y4⟩
      rintro X4 _ g5 ⟨z, rfl, hz1, ou5, y5⟩ hX4
      unfold impl_Set_ways_b4
      have hbn := fold_stp fitS hb3.1 ((edR ts).take z) _ (bd_zero (by omega) c.toNat)
      refine bif_dec (fun hi4 => ?_) (fun hi4 => ?_)
      · have hzl : z < ts.length := by omega
        refine (rg.ext (y3.trans y5)).tileG (by omega) (by omega) ?_
        rw [tat_nat hzl]
        have t0 := hs.ts.2 ts[z] (List.getElem_mem hzl) 0 (by omega)
        have t2 := hs.ts.2 ts[z] (List.getElem_mem hzl) 2 (by omega)
        refine newO_obj fun g6 q6 y6 m6 => ?_
        refine q6.stA fun g7 q7 b7 m7 => ?_
        have y7 : Ext g5 g7 := y6.but_ b7 (some_le (Nat.le_refl _))
        have ou7 := ou5.ext y7
        have ov7 := ov3.ext (y5.trans y7)
        refine ix4 q7 2 (by omega) fun p5 _ => ?_
        refine ix4 q7 2 (by omega) fun p6 _ => ?_
        refine ou7.rd.ldI t2.1 (by rw [hbn.2, List.length_replicate]; omega) fun x hx => ?_
        refine ix4 q7 0 (by omega) fun p7 _ => ?_
        refine ov7.rd.ldI t0.1 (by rw [hb3.2]; omega) fun y hy => ?_
        refine ou7.stI t2.1 (by rw [hul]; omega) _ fun g8 ou8 b8 m8 => ?_
        rw [w64_of (n := (z : Int) + 1) (by omega) (by omega)]
        refine hX4 _ _ ⟨z + 1, by push_cast; rfl, by omega, ?_, (y5.trans y7).but_ b8 (by rw [uo]; exact some_le (Nat.le_refl _))⟩ (by omega)
        rw [List.take_succ_eq_append_getElem (show z < (edR ts).length by simpa [edR] using hzl), List.foldl_append, List.foldl_cons, List.foldl_nil]
        have hxb := hbn.1 (sd ts[z] 2).toNat
        have hyb := hb3.1 (sd ts[z] 0).toNat
        have ex : (((edR ts).take z).foldl (stp fS (itL fS (edR ts) c.toNat m (unL c.toNat k))) (List.replicate c.toNat 0)).getD (sd ts[z] 2).toNat 0 = x := by rw [List.getD_eq_getElem?_getD, hx]; rfl
        have ey : (itL fS (edR ts) c.toNat m (unL c.toNat k)).getD (sd ts[z] 0).toNat 0 = y := by rw [List.getD_eq_getElem?_getD, hy]; rfl
        have eg : (edR ts)[z]'(by simpa [edR] using hzl) = (sd ts[z] 0, sd ts[z] 2) := by simp [edR]
        rw [eg]
        rw [show ∀ (nw nx : List Int) (a b : Int), stp fS nw nx (a, b) = nx.set b.toNat (fS (nx.getD b.toNat 0 + nw.getD a.toNat 0)) from fun _ _ _ _ => rfl]
        rw [ex] at hxb ⊢
        rw [ey] at hyb ⊢
        rw [← mnI_fS, ← w64_of (n := x + y) (by omega) (by omega)]
        exact ou8
      · unfold impl_Set_ways_C4 impl_Set_ways_C3
        have hzU : z = ts.length := by omega
        rw [w64_of (n := (m : Int) + 1) (by omega) (by omega)]
        rw [List.take_of_length_le (by simp [edR]; omega)] at ou5
        refine hX2 _ _ _ ⟨m + 1, by push_cast; rfl, by omega, by rw [itL_succ]; exact ou5, fun i e => by rw [uo] at e; cases e; exact y3.len, y3.trans y5⟩ (by omega)
    · unfold impl_Set_ways_C2 impl_Set_ways_C1
      have hmU : m = n.toNat := by omega
      have hlg := xg.len
      refine nw.pushO y3 ov3 fv3 hlg (by rw [List.length_map, List.length_range]; unfold lim; omega) fun w' g' nw' b' _ => ?_
      rw [w64_of (n := (k : Int) + 1) (by omega) (by omega)]
      refine hX _ _ _ ⟨k + 1, by push_cast; rfl, by omega, ?_, (xg.trans y3).but_ b' fun i e => nw.fr i e⟩ (by omega)
      rw [List.range_succ, List.map_append, ← hmU]
      subst hmU
      exact nw'
  · unfold impl_Set_ways_C0
    have hkU : k = c.toNat := by omega
    subst hkU
    exact ⟨w, rfl, nw.le (by omega), x1.trans xg⟩
theorem take_sum {l : List Int} {z : Nat} (h : z < l.length) : (l.take (z + 1)).sum = (l.take z).sum + l[z] := by
  rw [List.take_succ_eq_append_getElem h, List.sum_append_int]; simp
theorem take_sum_bd {l : List Int} {B : Int} (hB : ∀ x ∈ l, 0 ≤ x ∧ x ≤ B) : ∀ z, z ≤ l.length → 0 ≤ (l.take z).sum ∧ (l.take z).sum ≤ z * B
  | 0, _ => by simp
  | z + 1, h => by
    have ih := take_sum_bd hB z (by omega)
    have hx := hB l[z] (List.getElem_mem _)
    rw [take_sum (by omega)]
    have : ((z + 1 : Nat) : Int) * B = (z : Int) * B + B := by push_cast; rw [Int.add_mul, Int.one_mul]
    omega
theorem counted_c {h : H} (x : Int) {K : AVal → H → Prop} (hk : K (.tuple [i64 (if x > topS then 0 else x), i64 (if x > topS then 3 else 0)]) h) : callV SP i_impl_counted [i64 x] h K := by
  apply impl_counted_call
  unfold impl_counted_main
  refine bif_dec (fun hx => ?_) (fun hx => ?_)
  · rw [if_pos hx, if_pos hx] at hk; exact hk
  · rw [if_neg hx, if_neg hx] at hk; exact hk
theorem impl_CountRows_k (r : Rd h0 s 4 (tcs ts)) (hs : setOK c ts) {n : Int} (hn : 1 ≤ n ∧ n ≤ 40) :
    callV SP i_impl_CountRows [.agg (SetC c s), i64 n] h0 fun v h' => v = .tuple [i64 (if waysT (edR ts) c.toNat n.toNat > topS then 0 else waysT (edR ts) c.toNat n.toNat), i64 (if waysT (edR ts) c.toNat n.toNat > topS then 3 else 0)] ∧ Ext h0 h' := by
  have hc := hs.1
  have h16 := hs.2.1
  apply impl_CountRows_call
  unfold impl_CountRows_main
  refine newK_obj fun h1 o1 x1 n1 => ?_
  refine newO_var fun h2 v2 x2 n2 => ?_
  have o2 := o1.ext x2
  refine o2.ldA rfl ?_
  refine (setCode_c (r.ext (x1.trans x2)) (by omega) _ _ (1 ≤ n ∧ n ≤ 40) fun _ h x => ?_).to ?_
  · apply impl_CountRows_1_call
    unfold impl_CountRows_1_main
    refine (v2.ext x).ldI ?_
    refine (within_c n 1 40 h).to ?_
    rintro _ _ ⟨rfl, rfl⟩
    exact ⟨_, rfl, by simp, Ext.refl _⟩
  rintro k h3 ⟨rfl, x3⟩
  refine bif_ne (fun hq => absurd (codeOf_yes hs hn) hq) (fun hq => ?_)
  refine (o2.ext x3).ldA rfl ?_
  refine (v2.ext x3).ldI ?_
  refine (ways_c (r.ext ((x1.trans x2).trans x3)) hs (by omega)).to ?_
  rintro w h4 ⟨nw, x4⟩
  have X4 := ((x1.trans x2).trans x3).trans x4
  have rw4 := nw.rd
  have hwl := rw4.len
  generalize hR : (List.range c.toNat).map (fun k => itL fS (edR ts) c.toNat n.toNat (unL c.toNat k)) = R at *
  have hRl : R.length = c.toNat := by rw [← hR]; simp
  have hRb : ∀ l ∈ R, l.length = c.toNat ∧ ∀ x ∈ l, 0 ≤ x ∧ x ≤ 1000000000000001 := fun l hl => by
    rw [← hR] at hl
    obtain ⟨k, hk, rfl⟩ := List.mem_map.1 hl
    have := itL_bd (es := edR ts) (N := c.toNat) n.toNat (unL_bd (List.mem_range.1 hk)) (by simp [unL])
    refine ⟨this.2, fun x hx => ?_⟩
    obtain ⟨i, hi, rfl⟩ := List.getElem_of_mem hx
    have h := this.1 i
    rw [List.getD_eq_getElem?_getD, List.getElem?_eq_getElem hi] at h
    exact h
  have hW : waysT (edR ts) c.toNat n.toNat = (R.map List.sum).sum := by rw [← hR, List.map_map]; rfl
  have hSb : ∀ x ∈ R.map List.sum, 0 ≤ x ∧ x ≤ 6000000000000006 := fun x hx => by
    obtain ⟨l, hl, rfl⟩ := List.mem_map.1 hx
    have h1 := hRb l hl
    have h2 := take_sum_bd h1.2 l.length (Nat.le_refl _)
    rw [List.take_length] at h2
    have : (l.length : Int) * 1000000000000001 ≤ 6 * 1000000000000001 := Int.mul_le_mul_of_nonneg_right (by omega) (by omega)
    omega
  refine impl_CountRows_rule0 _ _ _ _ (fun t i g => ∃ k : Nat, i = k ∧ k ≤ R.length ∧ t = ((R.map List.sum).take k).sum ∧ h4 = g) (fun _ i _ => ((R.length : Int) - i).toNat) ?_ _ _ ⟨0, rfl, by omega, by simp, rfl⟩
  rintro X t _ _ ⟨k, rfl, hk, rfl, rfl⟩ hX
  have hkb := take_sum_bd hSb k (by rw [List.length_map]; exact hk)
  have hk6 : (k : Int) * 6000000000000006 ≤ 6 * 6000000000000006 := Int.mul_le_mul_of_nonneg_right (by omega) (by omega)
  unfold impl_CountRows_b0
  refine bif_dec (fun hi => ?_) (fun hi => ?_)
  · have hkl : k < R.length := by omega
    refine rw4.ld (by omega) (by omega) fun v l hv rv lv => ?_
    rw [Int.toNat_natCast, List.getElem?_eq_getElem hkl] at hv
    have hlR := Option.some.inj hv
    have hlb := hRb l (by rw [← hlR]; exact List.getElem_mem _)
    refine impl_CountRows_rule2 _ _ X _ _ _ _ _ (fun t i g => ∃ z : Nat, i = z ∧ z ≤ l.length ∧ t = ((R.map List.sum).take k).sum + (l.take z).sum ∧ h4 = g) (fun _ i _ => ((l.length : Int) - i).toNat) ?_ _ _ ⟨0, rfl, by omega, by simp, rfl⟩
    rintro X2 t _ _ ⟨z, rfl, hz, rfl, rfl⟩ hX2
    have hzb := take_sum_bd hlb.2 z hz
    have hz6 : (z : Int) * 1000000000000001 ≤ 6 * 1000000000000001 := Int.mul_le_mul_of_nonneg_right (by omega) (by omega)
    unfold impl_CountRows_b2
    refine bif_dec (fun hi2 => ?_) (fun hi2 => ?_)
    · refine rv.ldI (by omega) (by omega) fun x hx => ?_
      have hzl : z < l.length := by omega
      rw [Int.toNat_natCast, List.getElem?_eq_getElem hzl] at hx
      have hxe := Option.some.inj hx
      have hxb := hlb.2 x (by rw [← hxe]; exact List.getElem_mem _)
      rw [w64_of (n := (z : Int) + 1) (by omega) (by omega), w64_of (by omega) (by omega)]
      exact hX2 _ _ _ ⟨z + 1, by push_cast; rfl, by omega, by rw [take_sum hzl, hxe]; omega, rfl⟩ (by omega)
    · unfold impl_CountRows_C2 impl_CountRows_C1
      have hzU : z = l.length := by omega
      rw [w64_of (n := (k : Int) + 1) (by omega) (by omega)]
      refine hX _ _ _ ⟨k + 1, by push_cast; rfl, by omega, ?_, rfl⟩ (by omega)
      rw [take_sum (by rw [List.length_map]; exact hkl), hzU, List.take_length, List.getElem_map, hlR]
  · unfold impl_CountRows_C0
    have hkU : k = (R.map List.sum).length := by rw [List.length_map]; omega
    rw [hkU, List.take_length]
    refine counted_c _ ⟨_, rfl, _, rfl, _, rfl, _, rfl, ?_, X4⟩
    rw [hW]
end
end Go.Proofs.Ytcoampecbpiecaa.Cl

/- Contracts of the reference's StripSequence. No claim is stated here. -/
set_option linter.unusedVariables false
set_option linter.unusedSimpArgs false
namespace Go.Proofs.Ytcoampecbpiecaa.Cl
open Go
section
variable {h0 : H} {u w : Sl} {L : List (Int × Int × Int)} {N : Nat} {now : List Int}
theorem l06Step_c (rd : RdSS h0 u (col3 L)) (rn : Rd h0 w 1 (ic now)) (hN : now.length = N) (hN2 : N ≤ 1000000) (hb : Bd 1000000000000001 now) (hL : L.length ≤ 1000000) (hcb : ∀ e ∈ L.map pr, (0 ≤ e.1 ∧ e.1 < N) ∧ 0 ≤ e.2 ∧ e.2 < N) :
    callS SP i_spec_l06Step [.sl u, .sl w] h0 fun z h' => Ow h' z 1 (ic (stepL fS (L.map pr) N now)) ∧ Fr h0.length z ∧ Ext h0 h' := by
  have hul := rd.len
  rw [col3_len] at hul
  have hwl := rn.ilen
  apply spec_l06Step_call
  unfold spec_l06Step_main
  refine mkS_ow (by omega) (by unfold lim; omega) fun v h2 ov lv vo e2 => ?_
  have x2 : Ext h0 h2 := by rw [e2]; exact Ext.app _ _
  rw [show (List.replicate ((w.len : Int)).toNat [i64 0]).flatten = ic (List.replicate N 0) from by
    rw [show ((w.len : Int)).toNat = N by omega]
    induction N with
    | zero => rfl
    | succ z _ => simp [ic, List.map_replicate]] at ov
  have hvf : Fr h0.length v := fun o e => by rw [vo] at e; cases e; exact Nat.le_refl _
  generalize hes : L.map pr = es at *
  have hel : es.length = L.length := by rw [← hes]; simp
  refine spec_l06Step_rule0 _ _ _ _ _ (fun j g' => ∃ z : Nat, j = z ∧ z ≤ es.length ∧ Ow g' v 1 (ic ((es.take z).foldl (stp fS now) (List.replicate N 0))) ∧ Ext h0 g') (fun j _ => (es.length - j).toNat) ?_ _ ⟨0, rfl, by omega, ov, x2⟩
  rintro Y _ g' ⟨z, rfl, hz, ov, e⟩ hY
  unfold spec_l06Step_b0 spec_l06Step_C0
  have hfold := fold_stp fitS hb (es.take z) (List.replicate N 0) (bd_zero (by decide) N)
  refine bif_dec (fun hi => ?_) (fun hi => ?_)
  rotate_left
  · rw [show z = es.length by omega, List.take_length] at ov
    exact ⟨_, rfl, ov, hvf, e⟩
  have hz' : z < es.length := by omega
  have hzc : z < L.length := by omega
  have hez : es[z] = (L[z].1, L[z].2.1) := by
    have := getD_map_pr hzc
    simp only [← hes]
    exact this
  have hb' := hcb es[z] (List.getElem_mem hz')
  rw [hez] at hb'
  simp only at hb'
  have rd3 : ∀ {q : Nat} {K : Int → Prop}, q < 3 → K ([L[z].1, L[z].2.1, L[z].2.2].getD q 0) → ixS u 1 (z : Int) fun p => Cl.ldS p g' fun v => ixS v 1 (q : Int) fun p => Cl.ldI .i64 p g' K := fun {q K} hq hk => by
    refine (rd.ext e).ldG (by omega) (by rw [col3_len]; omega) fun v rv lv => ?_
    rw [Int.toNat_natCast, col3_row hzc] at rv
    exact rv.ldG (by omega) (by simp; omega) (by rw [Int.toNat_natCast]; exact hk)
  refine rd3 (q := 0) (by omega) ?_
  refine rd3 (q := 1) (by omega) ?_
  show ixS v 1 L[z].2.1 _
  have q1 := hfold.1 L[z].2.1.toNat
  have q2 := hb L[z].1.toNat
  refine ov.rd.ldG hb'.2.1 (by rw [hfold.2]; simp; omega) ?_
  show ixS w 1 L[z].1 _
  refine (rn.ext e).ldG hb'.1.1 (by omega) ?_
  show ixS v 1 L[z].2.1 _
  refine ov.stI hb'.2.1 (by have := ov.rd.ilen; rw [hfold.2] at this; simp at this; omega) _ fun g5 o5 b5 l5 => ?_
  rw [w64_of (n := (z : Int) + 1) (by omega) (by omega)]
  refine hY _ _ ⟨z + 1, by push_cast; rfl, by omega, ?_, e.but_ b5 fun o' e' => hvf o' e'⟩ (by omega)
  rw [foldl_take _ _ hz', hez]
  rw [w64_of (by omega) (by omega)] at o5
  exact o5
theorem l02Total_c (rn : Rd h0 w 1 (ic now)) (hN : now.length ≤ 1000000) (hb : Bd 1000000000000001 now) {K : Int → H → Prop} (hk : K (totL fS now) h0) : callI SP .i64 i_spec_l02Total [.sl w] h0 K := by
  have hwl := rn.ilen
  refine (show callI SP .i64 i_spec_l02Total [.sl w] h0 fun m h' => m = totL fS now ∧ h0 = h' from ?_).to (by rintro _ _ ⟨rfl, rfl⟩; exact hk)
  apply spec_l02Total_call
  unfold spec_l02Total_main
  refine spec_l02Total_rule0 _ _ _ (fun a j g2 => ∃ z : Nat, j = z ∧ z ≤ now.length ∧ a = (now.take z).foldl (fun s x => fS (s + x)) 0 ∧ h0 = g2) (fun _ j _ => (now.length - j).toNat) ?_ _ _ ⟨0, rfl, by omega, rfl, rfl⟩
  rintro Z _ _ _ ⟨z, rfl, hz, rfl, rfl⟩ hZ
  unfold spec_l02Total_b0 spec_l02Total_C0
  have ht := totL_bd fitS hb z hz
  refine bif_dec (fun hi => ?_) (fun hi => ?_)
  · have hz' : z < now.length := by omega
    have q1 := hb z
    refine rn.ldG (by omega) (by omega) ?_
    rw [Int.toNat_natCast, w64_of (n := (z : Int) + 1) (by omega) (by omega), w64_of (by omega) (by omega)]
    refine hZ _ _ _ ⟨z + 1, by push_cast; rfl, by omega, ?_, rfl⟩ (by omega)
    rw [foldl_take _ _ hz', List.getD_eq_getElem?_getD, List.getElem?_eq_getElem hz']
    rfl
  · rw [show z = now.length by omega, List.take_length]
    exact ⟨_, rfl, rfl, rfl⟩
theorem l02Each_c (hN : N ≤ 1000000) : callS SP i_spec_l02Each [i64 N] h0 fun z h' => Ow h' z 1 (ic (List.replicate N 1)) ∧ Fr h0.length z ∧ Ext h0 h' := by
  apply spec_l02Each_call
  unfold spec_l02Each_main
  refine newS_ow (by rfl) fun v h2 ov lv vo e2 => ?_
  have x2 : Ext h0 h2 := by rw [e2]; exact Ext.app _ _
  refine spec_l02Each_rule0 _ _ _ (fun v j g => ∃ z : Nat, j = z ∧ z ≤ N ∧ Ow g v 1 (ic (List.replicate z 1)) ∧ Fr h0.length v ∧ Ext h0 g) (fun _ j _ => (N - j).toNat) ?_ _ _ ⟨0, rfl, by omega, ov, (fun o e => by rw [vo] at e; cases e; exact Nat.le_refl _), x2⟩
  rintro Z v _ g ⟨z, rfl, hz, ov, fv, x⟩ hZ
  unfold spec_l02Each_b0 spec_l02Each_C0
  refine bif_dec (fun hi => ?_) (fun hi => ⟨_, rfl, by rw [show N = z by omega]; exact ov, fv, x⟩)
  refine pushI ov (by simp; unfold lim; omega) fun v' g' ov' bv fv' => ?_
  rw [w64_of (by omega) (by omega)]
  refine hZ _ _ _ ⟨z + 1, by push_cast; rfl, by omega, by rw [List.replicate_succ']; exact ov', fv' _ fv x.len, x.but_ bv (fun o e => fv o e)⟩ (by omega)
end
section
variable {h0 : H} {c : Int} {s : Sl} {ts : List Tile} {a n : Int}
theorem spec_StripSequence_c (r : Rd h0 s 4 (tcs ts)) (sz : ts.length ≤ 1048576) (ba : i64ok a) (bn : i64ok n) :
    callV SP i_spec_StripSequence [.agg (SetC c s), i64 a, i64 n] h0 fun v h' => ∃ w, v = .tuple [.sl w, i64 (codeQ c ts a n)] ∧ Ow h' w 1 (ic (F_StripSequence_0 c ts a n)) ∧ Fr h0.length w ∧ Ext h0 h' := by
  have fin : ∀ {h' : H} (k : Int), codeQ c ts a n ≠ 0 → k = codeQ c ts a n → Ext h0 h' → ∃ w, AVal.tuple [.sl Sl.nil, i64 k] = .tuple [.sl w, i64 (codeQ c ts a n)] ∧ Ow h' w 1 (ic (F_StripSequence_0 c ts a n)) ∧ Fr h0.length w ∧ Ext h0 h' := fun k hq hk x =>
    ⟨_, by rw [hk], by rw [F_StripSequence_0, sel0_no hq]; exact Ow.nil _ _, Fr.nil _, x⟩
  apply spec_StripSequence_call
  unfold spec_StripSequence_main
  refine newK_obj fun h1 o1 x1 l1 => ?_
  refine o1.ldA rfl ?_
  refine (l06Code_c (n := a) (r.ext x1) sz).to ?_
  rintro _ h3 ⟨u, rfl, hu, hu0, x3⟩
  refine ⟨_, rfl, _, rfl, _, rfl, _, rfl, ?_⟩
  have X3 := x1.trans x3
  refine bif_ne (fun hq1 => ?_) (fun hq1 => ?_)
  rotate_left
  · have hs : ¬ setOK c ts := fun hs => by
      by_cases h4 : 1 ≤ a ∧ a ≤ 4
      · have h0 := codeOf_yes hs h4
        by_cases d : c ^ a.toNat > 700 ∨ 5000 < (colsOf c ts a).length
        · rw [codeS_3 h0 d] at hq1; cases hq1
        · rw [codeS_0 h0 d] at hq1; cases hq1
      · rw [codeS_no (by rw [codeOf_range hs h4]; decide), codeOf_range hs h4] at hq1; cases hq1
    have hc : codeOf (setOK c ts) (SizeS a n) = 1 := codeOf_no hs
    have hQ : codeQ c ts a n = 1 := by rw [codeQ_1 (by rw [hc]; decide), hc]
    rw [hq1]
    refine bif_ne (x := 1) (y := 0) (fun _ => ?_) (fun f => absurd f (by decide))
    exact fin 1 (by rw [hQ]; decide) hQ.symm X3
  have hs : setOK c ts := Classical.byContradiction fun hs => hq1 (by rw [codeS_no (by rw [codeOf_no hs]; decide), codeOf_no hs])
  refine l01In_k ?_
  refine bif_not (fun hr => ?_) (fun hr => ?_)
  · have hc : codeOf (setOK c ts) (SizeS a n) = 2 := codeOf_range hs fun f => of_decide_eq_false hr f.2
    have hQ : codeQ c ts a n = 2 := by rw [codeQ_1 (by rw [hc]; decide), hc]
    refine bif_ne (x := 2) (y := 0) (fun _ => ?_) (fun f => absurd f (by decide))
    exact fin 2 (by rw [hQ]; decide) hQ.symm X3
  have hn1 : 1 ≤ n ∧ n ≤ 30 := of_decide_eq_true hr
  refine bif_ne (fun h2 => ?_) (fun h2 => ?_)
  · by_cases h4 : 1 ≤ a ∧ a ≤ 4
    · have hQ := codeQ_2 (n := n) (codeOf_yes hs ⟨h4, hn1⟩) h2
      exact fin _ (by rw [hQ]; exact h2) hQ.symm X3
    · have hc : codeOf (setOK c ts) (SizeS a n) = 2 := codeOf_range hs fun f => h4 f.1
      have hQ : codeQ c ts a n = 2 := by rw [codeQ_1 (by rw [hc]; decide), hc]
      have hS : codeS c ts a = 2 := by rw [codeS_no (by rw [codeOf_range hs h4]; decide), codeOf_range hs h4]
      exact fin _ (by rw [hQ]; decide) (by rw [hQ, hS]) X3
  have ok := codeS_ok h2
  have T := hs.ts
  obtain ⟨H_, rfl⟩ : ∃ H_ : Nat, a = H_ := ⟨a.toNat, by have := ok.hh; omega⟩
  have hHH := ok.hh
  have hq := codeOf_yes hs (⟨hHH, hn1⟩ : SizeS (H_ : Int) n)
  have hof : colsOf c ts (H_ : Int) = colP c ts H_ (-1) 0 0 := by unfold colsOf; rw [Int.toNat_natCast]
  have hp1 := pow_small4 (n := H_) T.1 hs.1.2 (by omega)
  obtain ⟨N, hN⟩ : ∃ N : Nat, (N : Int) = c ^ H_ := ⟨(c ^ H_).toNat, by omega⟩
  have rdu := hu h2
  rw [Int.toNat_natCast] at rdu
  have hln := ok.ln
  rw [hof, ← lay_len] at hln
  change (layN c ts H_ lay0).length ≤ 5000 at hln
  have hstr : strS c ts (H_ : Int) n = seqL fS ((layN c ts H_ lay0).map pr) N n.toNat (List.replicate N 1) := by
    unfold strS
    rw [hof, lay_pr, Int.toNat_natCast, show (c ^ H_).toNat = N by omega]
  have hcb : ∀ e ∈ (layN c ts H_ lay0).map pr, (0 ≤ e.1 ∧ e.1 < N) ∧ 0 ≤ e.2 ∧ e.2 < N := fun e he => by
    rw [lay_pr] at he
    have := colP_bound T H_ (-1) 0 0 1 (by omega) (by omega) e he
    rw [Int.one_mul, ← hN] at this
    exact this
  refine (o1.ext x3).ldA rfl ?_
  refine (l06Size_c (s := s) T.1 hs.1.2 (H_ := H_) (by omega)).to ?_
  rintro _ h8 ⟨rfl, x8⟩
  rw [← hN]
  refine (l02Each_c (N := N) (by omega)).to ?_
  rintro w h14 ⟨ow, fw, x14⟩
  refine newS_ow (by rfl) fun z h17 oz lz zo e17 => ?_
  have x17 : Ext h14 h17 := by rw [e17]; exact Ext.app _ _
  have E17 := (x8.trans x14).trans x17
  have X3l := X3.len
  have E14l := (x8.trans x14).len
  refine spec_StripSequence_rule0 _ _ _ _ (fun w z i g => ∃ (k : Nat) (now out : List Int), i = k ∧ k ≤ n.toNat ∧ Ow g w 1 (ic now) ∧ now.length = N ∧ Bd 1000000000000001 now ∧ Ow g z 1 (ic out) ∧ z.o = some h14.length ∧ (∀ o, w.o = some o → o ≠ h14.length) ∧ out.length = k ∧ (∀ y ∈ out, y ≤ topS) ∧ seqL fS ((layN c ts H_ lay0).map pr) N n.toNat (List.replicate N 1) = out ++ seqL fS ((layN c ts H_ lay0).map pr) N (n.toNat - k) now ∧ Ext h3 g ∧ h17.length ≤ g.length) (fun _ _ i _ => (n - i).toNat) ?_ _ _ _
    ⟨0, List.replicate N 1, [], rfl, by omega, ow.ext x17, by simp, bd_one (by decide) N, oz, zo, (fun o e => by have := ow.lt e; omega), rfl, (fun y hy => by simp at hy), by simp, E17, Nat.le_refl _⟩
  rintro Y w z _ g ⟨k, now, out, rfl, hk, ow, hnl, hbd, oz, zo, hwz, hol, hall, hseq, xg, gl⟩ hY
  unfold spec_StripSequence_b0 spec_StripSequence_C0
  have x17l := x17.len
  have zl := oz.lt zo
  refine bif_dec (fun hi => ?_) (fun hi => ?_)
  rotate_left
  · rw [show n.toNat - k = 0 by omega, seqL, List.append_nil, ← hstr] at hseq
    have hQ := codeQ_0 hq h2 (by rw [hseq]; exact hall)
    refine ⟨z, by rw [hQ], ?_, (fun o e => by rw [zo] at e; have := Option.some.inj e; omega), X3.trans xg⟩
    rw [F_StripSequence_0, sel0_yes hQ, hseq]
    exact oz
  refine (l06Step_c (rdu.ext xg) ow.rd hnl (by omega) hbd (by omega) hcb).to ?_
  rintro v g0 ⟨ov, fv, y0⟩
  have hst := stepL_bd fitS (es := (layN c ts H_ lay0).map pr) (N := N) hbd
  refine l02Total_c ov.rd (by rw [hst.2]; omega) hst.1 ?_
  rw [show n.toNat - k = (n.toNat - (k + 1)) + 1 by omega, seqL] at hseq
  refine bif_dec (fun hg => ?_) (fun hg => ?_)
  · have hQ := codeQ_3 hq h2 (fun f => by
      have := f (totL fS (stepL fS ((layN c ts H_ lay0).map pr) N now)) (by rw [hstr, hseq]; simp)
      unfold topS at this
      omega)
    exact fin 3 (by rw [hQ]; decide) hQ.symm ((X3.trans xg).trans y0)
  · have y0l := y0.len
    refine pushI3 (oz.ext y0) (by unfold lim; omega) fun z' g7 oz' bz fz => ?_
    have bzo : ∀ o, z.o = some o → o = h14.length := fun o e => by rw [zo] at e; exact (Option.some.inj e).symm
    rw [w64_of (by omega) (by omega)]
    have hz'o : z'.o = some h14.length := fz _ zo
    refine hY _ _ _ _ ⟨k + 1, _, out ++ [totL fS (stepL fS ((layN c ts H_ lay0).map pr) N now)], by push_cast; rfl, by omega, ov.but bz (.inl (by rw [zo]; intro e; have := fv _ e.symm; omega)), hst.2, hst.1, oz', hz'o, (fun o e => by have := fv o e; omega), by simp [hol], (fun y hy => ?_), by rw [hseq, List.append_assoc]; rfl, (xg.trans y0).but_ bz (fun o e => by have := bzo o e; omega), by have := bz.1; omega⟩ (by omega)
    rcases List.mem_append.1 hy with hy | hy
    · exact hall y hy
    · simp at hy; rw [hy]; unfold topS; omega
end
end Go.Proofs.Ytcoampecbpiecaa.Cl
