/- Contracts of functions, joined. No claim is stated here. -/
import Derived.Test.YtnamnpbkiibadaaFb0
import Derived.Test.YtnamnpbkiibadaaFa2
/- The program's strips: what the search of columns does. No claim is stated here. -/
set_option linter.unusedVariables false
set_option linter.unusedSimpArgs false
namespace Go.Proofs.Ytnamnpbkiibadaa.Cl
open Go
def c3 (l : List (Int × Int × Int)) : List AVal := (l.map fun x => [i64 x.1, i64 x.2.1, i64 x.2.2]).flatten
theorem c3_app (l m) : c3 (l ++ m) = c3 l ++ c3 m := by simp [c3]
theorem c3_len : ∀ l, (c3 l).length = l.length * 3
  | [] => rfl
  | a :: l => by
    have := c3_len l
    unfold c3 at *
    rw [List.map_cons, List.flatten_cons, List.length_append, this, List.length_cons]
    simp; omega
def StripC (c : Int) (s : Sl) (H w : Int) (q : Sl) : List AVal := [i64 c, .sl s, i64 H, i64 w, .sl q]
theorem pow_small4 {c : Int} {n : Nat} (h0 : 1 ≤ c) (h1 : c ≤ 6) (hn : n ≤ 4) : 1 ≤ c ^ n ∧ c ^ n ≤ 1296 := by
  have hc : c = 1 ∨ c = 2 ∨ c = 3 ∨ c = 4 ∨ c = 5 ∨ c = 6 := by omega
  have hm : n = 0 ∨ n = 1 ∨ n = 2 ∨ n = 3 ∨ n = 4 := by omega
  rcases hc with rfl | rfl | rfl | rfl | rfl | rfl <;> rcases hm with rfl | rfl | rfl | rfl | rfl <;> decide
theorem pow_step {c l d : Int} {j : Nat} (hc : 1 ≤ c) (hl : 0 ≤ l ∧ l < c ^ j) (hd : 0 ≤ d ∧ d < c) : 0 ≤ l * c + d ∧ l * c + d < c ^ (j + 1) := by
  have h1 : 0 ≤ l * c := Int.mul_nonneg hl.1 (by omega)
  have h2 : (l + 1) * c ≤ c ^ j * c := Int.mul_le_mul_of_nonneg_right (by omega) (by omega)
  rw [Int.add_mul, Int.one_mul] at h2
  rw [Int.pow_succ]
  omega
structure SEnv (h : H) (op ot oh oe os : Nat) (c : Int) (s : Sl) (H_ : Nat) : Prop where
  vp : Var h op (.ptr ⟨some os, 5, 0⟩)
  vt : Obj h ot (SetC c s)
  vh : Var h oh (i64 H_)
  ve : Var h oe (.func i_impl_newStrip_1 [.ptr (pt op), .ptr ⟨some ot, 2, 0⟩, .ptr (pt oh), .ptr (pt oe)])
theorem SEnv.chg {P : Nat → Prop} {h h' : H} {op ot oh oe os : Nat} {c : Int} {s : Sl} {H_ : Nat} (e : SEnv h op ot oh oe os c s H_) (x : Chg P h h') (hn : ¬ P op ∧ ¬ P ot ∧ ¬ P oh ∧ ¬ P oe) : SEnv h' op ot oh oe os c s H_ :=
  ⟨e.vp.chg x hn.1, e.vt.chg x hn.2.1, e.vh.chg x hn.2.2.1, e.ve.chg x hn.2.2.2⟩
section
variable {hb : H} {c w : Int} {s : Sl} {ts : List Tile} {H_ : Nat} {op ot oh oe os n1 : Nat}
theorem extRec (r : Rd hb s 4 (tcs ts)) (T : TS c ts) (hc : c ≤ 6) (hN : ts.length ≤ 16) (hH : 1 ≤ H_ ∧ H_ ≤ 4) (hn : op < n1 ∧ ot < n1 ∧ oh < n1 ∧ oe < n1 ∧ os < n1) (hd : op ≠ os ∧ ot ≠ os ∧ oh ≠ os ∧ oe ≠ os) (hbs : hb.length ≤ os) :
    ∀ (m : Nat) (top last l rr : Int) (cols : List (Int × Int × Int)) (q : Sl) (h : H), m ≤ H_ → (0 ≤ l ∧ l < c ^ (H_ - m)) → (0 ≤ rr ∧ rr < c ^ (H_ - m)) → SEnv h op ot oh oe os c s H_ → Obj h os (StripC c s H_ w q) → Ow h q 3 (c3 cols) → Fr n1 q → n1 ≤ h.length → cols.length ≤ 5000 → Ext hb h →
    callB SP i_impl_newStrip_1 [i64 top, i64 last, i64 l, i64 rr, i64 m, .ptr (pt op), .ptr ⟨some ot, 2, 0⟩, .ptr (pt oh), .ptr (pt oe)] h fun b h' =>
      b = decide ((cols ++ colI c ts H_ m top last l rr).length ≤ 5000) ∧ (b = true → ∃ q', Obj h' os (StripC c s H_ w q') ∧ Ow h' q' 3 (c3 (cols ++ colI c ts H_ m top last l rr)) ∧ Fr n1 q') ∧ Chg (fun i => i = os ∨ n1 ≤ i) h h'
  | 0, top, last, l, rr, cols, q, h, hm, hl, hr, e, o, oq, fq, hn1, hcl, x => by
    apply impl_newStrip_1_call
    unfold impl_newStrip_1_main
    refine bif_eq (fun _ => ?_) (fun f => absurd rfl f)
    refine e.vp.ldP ?_
    refine e.vp.ldP ⟨rfl, isPt_in (o.ldS rfl rfl ⟨rfl, ?_⟩)⟩
    refine newS_ow (by rfl) fun u h4 ou lu uo e4 => ?_
    have x4 : Ext h h4 := by rw [e4]; exact Ext.app _ _
    have l4 : h4.length = h.length + 1 := by rw [e4]; simp
    have ho := o.lt
    refine ⟨((o.ext x4).cellE (n := 5) (i := 4) rfl).trans (o.cellE (n := 5) (i := 4) rfl).symm, x4.cellE e.vp.cell, x4.cellE e.vp.cell, ?_⟩
    have hql : q.len = cols.length := by have := oq.len; rw [c3_len] at this; omega
    refine app_ow (by omega) (oq.ext x4) ou.rd (by rw [lu, hql]; unfold lim; omega) fun q' h6 oq' lq' b6 k1 k2 => ?_
    have hqn : ∀ i, i < n1 → q.o ≠ some i := fun i hi f => by have := fq i f; omega
    have vp6 : Var h6 op _ := (e.vp.ext x4).but b6 (hqn _ hn.1)
    have o6 : Obj h6 os _ := (o.ext x4).but b6 (hqn _ hn.2.2.2.2)
    have l6 := b6.1
    refine ⟨by rw [vp6.cell, e.vp.cell], rfl, isPt_in ?_⟩
    refine o6.st1 (n := 5) (i := 4) rfl (by omega) _ fun h7 o7 b7 l7 => ?_
    have vp7 : Var h7 op _ := vp6.but b7 (fun f => hd.1 (Option.some.inj f).symm)
    refine vp7.ldP ⟨rfl, isPt_in (o7.ldS rfl rfl ⟨_, rfl, ?_, fun _ => ⟨q', o7, ?_, ?_⟩, ?_⟩)⟩
    · have hcol : colI c ts H_ 0 top last l rr = [(l, rr, top)] := rfl
      rw [hcol, List.length_append, List.length_singleton, lq', lu, hql]
      congr 1
      apply propext
      constructor <;> intro f <;> omega
    · refine Ow.but ?_ b7 (.inl fun f => ?_)
      · rw [show colI c ts H_ 0 top last l rr = [(l, rr, top)] from rfl, c3_app]; exact oq'
      · cases hq : q.o with
        | none => have := k2 hq os f.symm; omega
        | some p => rw [k1 p hq] at f; exact hqn os hn.2.2.2.2 (by rw [hq, f])
    · intro i f
      cases hq : q.o with
      | none => have := k2 hq i f; omega
      | some p => rw [k1 p hq] at f; exact fq i (by rw [hq, f])
    · refine ((x4.chg _).trans (b6.chg fun i f => .inr (fq i f))).trans (b7.chg fun i f => .inl (Option.some.inj f).symm)
  | m + 1, top, last, l, rr, cols, q, h, hm, hl, hr, e, o, oq, fq, hn1, hcl, x => by
    have htl := r.tlen
    have hsn : s.len ≤ 16 := by omega
    have hcp := T.1
    apply impl_newStrip_1_call
    unfold impl_newStrip_1_main
    refine bif_eq (fun f => by omega) (fun _ => ?_)
    refine isPt_in (e.vt.ldS rfl rfl ?_)
    generalize hpc : (fun t : Tile => if m + 1 < H_ ∧ sd t 1 ≠ last then [] else colI c ts H_ m (if m + 1 = H_ then sd t 1 else top) (sd t 3) (l * c + sd t 0) (rr * c + sd t 2)) = pc
    have hall : colI c ts H_ (m + 1) top last l rr = ts.flatMap pc := by rw [← hpc]; rfl
    rw [hall]
    refine impl_newStrip_1_rule0 _ _ _ _ _ _ _ _ _ _ _ (fun i0 j g => ∃ k : Nat, j = k ∧ k ≤ ts.length ∧ (m + 1 ≠ H_ → i0 = top) ∧ (cols ++ (ts.take k).flatMap pc).length ≤ 5000 ∧ (∃ q', Obj g os (StripC c s H_ w q') ∧ Ow g q' 3 (c3 (cols ++ (ts.take k).flatMap pc)) ∧ Fr n1 q') ∧ Chg (fun i => i = os ∨ n1 ≤ i) h g) (fun _ j _ => (ts.length - j).toNat) ?_ _ _ ⟨0, rfl, by omega, fun _ => rfl, by simpa using hcl, ⟨q, o, by simpa using oq, fq⟩, Chg.refl _ _⟩
    rintro X i0 _ g ⟨k, rfl, hk, hi0, hlen, ⟨q', o', oq', fq'⟩, cg⟩ hX
    unfold impl_newStrip_1_b0 impl_newStrip_1_C0
    have hnp : ∀ i, i < n1 → i ≠ os → ¬ (i = os ∨ n1 ≤ i) := fun i h1 h2 f => by omega
    have eg := e.chg cg ⟨hnp _ hn.1 hd.1, hnp _ hn.2.1 hd.2.1, hnp _ hn.2.2.1 hd.2.2.1, hnp _ hn.2.2.2.1 hd.2.2.2⟩
    have xg : Ext hb g := x.chg_ cg fun i f => by omega
    have cgl := cg.1
    refine bif_dec (fun hi => ?_) (fun hi => ?_)
    rotate_left
    · rw [show k = ts.length by omega, List.take_length] at oq' hlen
      exact ⟨_, rfl, (decide_eq_true hlen).symm, fun _ => ⟨q', o', oq', fq'⟩, cg⟩
    have hk' : k < ts.length := by omega
    refine (r.ext xg).ldT (by omega) (by omega) fun t ht => ?_
    rw [Int.toNat_natCast] at ht
    have htm : t ∈ ts := List.mem_of_getElem? ht
    have htk : ts[k] = t := (List.getElem?_eq_some_iff.1 ht).2
    have hflat : (ts.take (k + 1)).flatMap pc = (ts.take k).flatMap pc ++ pc t := by
      rw [List.take_succ_eq_append_getElem hk', List.flatMap_append, htk]; simp
    have hrest : ts.flatMap pc = (ts.take k).flatMap pc ++ (pc t ++ (ts.drop (k + 1)).flatMap pc) := by
      have : ts = ts.take k ++ (t :: ts.drop (k + 1)) := by rw [← htk, ← List.drop_eq_getElem_cons hk', List.take_append_drop]
      conv => lhs; rw [this]
      rw [List.flatMap_append, List.flatMap_cons]
    refine newO_obj fun g3 og3 y3 m3 => ?_
    refine og3.stA fun g4 og4 b4 m4 => ?_
    have y4 : Ext g g4 := y3.but_ b4 (some_le (Nat.le_refl _))
    have y4l := y4.len
    have e4 := eg.chg (y4.chg fun _ => False) ⟨id, id, id, id⟩
    have o4 := o'.ext y4
    have oq4 := oq'.ext y4
    have b0 := T.2 t htm 0 (by omega)
    have b1 := T.2 t htm 1 (by omega)
    have b2 := T.2 t htm 2 (by omega)
    have b3 := T.2 t htm 3 (by omega)
    have hpow := pow_small4 (n := H_ - (m + 1)) hcp hc (by omega)
    have hpow2 := pow_small4 (n := H_ - (m + 1) + 1) hcp hc (by omega)
    have eH : H_ - m = H_ - (m + 1) + 1 := by omega
    have bl' := pow_step hcp hl b0
    have br' := pow_step hcp hr b2
    have bl0 : 0 ≤ l * c := Int.mul_nonneg hl.1 (by omega)
    have br0 : 0 ≤ rr * c := Int.mul_nonneg hr.1 (by omega)
    have ew1 : w64 (w64 (l * c) + sd t 0) = l * c + sd t 0 := by rw [w64_of (n := l * c) (by omega) (by omega), w64_of (by omega) (by omega)]
    have ew2 : w64 (w64 (rr * c) + sd t 2) = rr * c + sd t 2 := by rw [w64_of (n := rr * c) (by omega) (by omega), w64_of (by omega) (by omega)]
    -- one tile more
    have call : ∀ (tp : Int), tp = (if m + 1 = H_ then sd t 1 else top) → ¬ (m + 1 < H_ ∧ sd t 1 ≠ last) → viaF (.func i_impl_newStrip_1 [.ptr (pt op), .ptr ⟨some ot, 2, 0⟩, .ptr (pt oh), .ptr (pt oe)]) [i64 tp, i64 (sd t 3), i64 (w64 (w64 (l * c) + sd t 0)), i64 (w64 (w64 (rr * c) + sd t 2)), i64 (w64 (((m + 1 : Nat) : Int) - 1))] fun g20 ys21 => callB SP g20 ys21 g4 fun b h' =>
        bif !b then (∃ b', AVal.bool false = .bool b' ∧ b' = decide ((cols ++ ts.flatMap pc).length ≤ 5000) ∧ (b' = true → ∃ q', Obj h' os (StripC c s H_ w q') ∧ Ow h' q' 3 (c3 (cols ++ ts.flatMap pc)) ∧ Fr n1 q') ∧ Chg (fun i => i = os ∨ n1 ≤ i) h h')
        else X (impl_newStrip_1_e0 tp last l rr ((m + 1 : Nat) : Int) ⟨some ot, 2, 0⟩ (pt oh) (pt oe) s (s.len : Int) (w64 ((k : Int) + 1))) h' := fun tp htp hno => by
      refine via_func ?_
      have hpt : pc t = colI c ts H_ m tp (sd t 3) (l * c + sd t 0) (rr * c + sd t 2) := by rw [← hpc]; simp only; rw [if_neg hno, htp]
      rw [ew1, ew2, w64_of (by omega) (by omega), show ((m + 1 : Nat) : Int) - 1 = (m : Int) by omega]
      refine (extRec r T hc hN hH hn hd hbs m tp (sd t 3) (l * c + sd t 0) (rr * c + sd t 2) (cols ++ (ts.take k).flatMap pc) q' g4 (by omega) (by rw [eH]; exact bl') (by rw [eH]; exact br') e4 o4 oq4 fq' (by omega) hlen (xg.trans y4)).to ?_
      rintro b g5 ⟨hb5, hq5, cg5⟩
      rw [← hpt] at hb5 hq5
      have CG : Chg (fun i => i = os ∨ n1 ≤ i) h g5 := (cg.trans (y4.chg _)).trans cg5
      refine bif_not (fun hf => ⟨false, rfl, ?_, (fun f => by cases f), CG⟩) (fun hf => ?_)
      · rw [hf] at hb5
        have := of_decide_eq_false hb5.symm
        symm
        refine decide_eq_false fun f => this ?_
        rw [hrest] at f
        simp only [List.length_append] at f ⊢
        omega
      · rw [hf] at hb5
        have hle := of_decide_eq_true hb5.symm
        rw [w64_of (by omega) (by omega)]
        refine hX _ _ _ ⟨k + 1, by push_cast; rfl, by omega, fun f => by rw [htp, if_neg f], ?_, ?_, CG⟩ (by omega)
        · rw [hflat, ← List.append_assoc]; exact hle
        · rw [hflat, ← List.append_assoc]; exact hq5 hf
    have skip : m + 1 < H_ ∧ sd t 1 ≠ last → X (impl_newStrip_1_e0 i0 last l rr ((m + 1 : Nat) : Int) ⟨some ot, 2, 0⟩ (pt oh) (pt oe) s (s.len : Int) (w64 ((k : Int) + 1))) g4 := fun hs => by
      have hpt : pc t = [] := by rw [← hpc]; simp only; rw [if_pos hs]
      rw [w64_of (by omega) (by omega)]
      refine hX _ _ _ ⟨k + 1, by push_cast; rfl, by omega, hi0, ?_, ⟨q', o4, ?_, fq'⟩, cg.trans (y4.chg _)⟩ (by omega)
      · rw [hflat, hpt, List.append_nil]; exact hlen
      · rw [hflat, hpt, List.append_nil]; exact oq4
    refine e4.vh.ldI ?_
    refine bif_dec (fun hmh => ?_) (fun hmh => ?_)
    · refine og4.sdI (by omega) (by omega) ?_
      refine bif_ne (fun hq => skip ⟨by omega, hq⟩) (fun hq => ?_)
      refine e4.vh.ldI ?_
      refine bif_eq (fun f => by omega) (fun hne => ?_)
      refine e4.ve.ldV ?_
      refine og4.sdI (by omega) (by omega) ?_
      refine isPt_in (e4.vt.ldI rfl rfl ?_)
      refine og4.sdI (by omega) (by omega) ?_
      refine isPt_in (e4.vt.ldI rfl rfl ?_)
      refine og4.sdI (by omega) (by omega) ?_
      exact call i0 (by rw [if_neg (by omega)]; exact hi0 (by omega)) (fun f => f.2 hq)
    · refine e4.vh.ldI ?_
      refine bif_eq (fun hee => ?_) (fun f => by omega)
      refine og4.sdI (by omega) (by omega) ?_
      refine e4.ve.ldV ?_
      refine og4.sdI (by omega) (by omega) ?_
      refine isPt_in (e4.vt.ldI rfl rfl ?_)
      refine og4.sdI (by omega) (by omega) ?_
      refine isPt_in (e4.vt.ldI rfl rfl ?_)
      refine og4.sdI (by omega) (by omega) ?_
      exact call (sd t 1) (by rw [if_pos (by omega)]) (fun f => by omega)
end
end Go.Proofs.Ytnamnpbkiibadaa.Cl

/- Contracts of the program's strips and of CountColumns. No claim is stated here. -/
set_option linter.unusedVariables false
set_option linter.unusedSimpArgs false
namespace Go.Proofs.Ytnamnpbkiibadaa.Cl
open Go
def colsI (c : Int) (ts : List Tile) (H_ : Nat) : List (Int × Int × Int) := colI c ts H_ H_ 0 0 0 0
theorem colsI_pr {c : Int} {ts : List Tile} (T : TS c ts) (H_ : Nat) : (colsI c ts H_).map pr = colP c ts H_ (-1) 0 0 := by
  unfold colsI
  rw [colI_pr T H_ H_ 0 0 0 0 (Nat.le_refl _) (fun f => by omega), if_pos rfl]
theorem colsI_len {c : Int} {ts : List Tile} (T : TS c ts) (H_ : Nat) : (colsI c ts H_).length = (colP c ts H_ (-1) 0 0).length := by rw [← colsI_pr T, List.length_map]
open Classical in
noncomputable def codeS (c : Int) (ts : List Tile) (h : Int) : Int := if codeOf (setOK c ts) (1 ≤ h ∧ h ≤ 4) = 0 then (if c ^ h.toNat > 700 ∨ 5000 < (colsOf c ts h).length then 3 else 0) else codeOf (setOK c ts) (1 ≤ h ∧ h ≤ 4)
theorem codeS_no {c : Int} {ts : List Tile} {h : Int} (q : codeOf (setOK c ts) (1 ≤ h ∧ h ≤ 4) ≠ 0) : codeS c ts h = codeOf (setOK c ts) (1 ≤ h ∧ h ≤ 4) := by unfold codeS; rw [if_neg q]
theorem codeS_3 {c : Int} {ts : List Tile} {h : Int} (q : codeOf (setOK c ts) (1 ≤ h ∧ h ≤ 4) = 0) (t : c ^ h.toNat > 700 ∨ 5000 < (colsOf c ts h).length) : codeS c ts h = 3 := by unfold codeS; rw [if_pos q, if_pos t]
theorem codeS_0 {c : Int} {ts : List Tile} {h : Int} (q : codeOf (setOK c ts) (1 ≤ h ∧ h ≤ 4) = 0) (t : ¬ (c ^ h.toNat > 700 ∨ 5000 < (colsOf c ts h).length)) : codeS c ts h = 0 := by unfold codeS; rw [if_pos q, if_neg t]
/-- What holds of a set and a height without an error. -/
structure StripOK (c : Int) (ts : List Tile) (h : Int) : Prop where
  set : setOK c ts
  hh : 1 ≤ h ∧ h ≤ 4
  pw : c ^ h.toNat ≤ 700
  ln : (colsOf c ts h).length ≤ 5000
theorem codeS_ok {c : Int} {ts : List Tile} {h : Int} (q : codeS c ts h = 0) : StripOK c ts h := by
  by_cases a : codeOf (setOK c ts) (1 ≤ h ∧ h ≤ 4) = 0
  · have b := codeOf_zero a
    by_cases d : c ^ h.toNat > 700 ∨ 5000 < (colsOf c ts h).length
    · rw [codeS_3 a d] at q; cases q
    · exact ⟨b.1, b.2, by omega, by omega⟩
  · rw [codeS_no a] at q; exact absurd q a
theorem StripOK.code {c : Int} {ts : List Tile} {h : Int} (k : StripOK c ts h) : codeS c ts h = 0 := codeS_0 (codeOf_yes k.set k.hh) fun f => by
  have := k.pw
  have := k.ln
  omega
/-- A strip in the heap. -/
structure Strip (h : H) (n : Nat) (c : Int) (s : Sl) (ts : List Tile) (H_ : Nat) (os : Nat) (q : Sl) : Prop where
  o : Obj h os (StripC c s H_ (c ^ H_) q)
  cols : Ow h q 3 (c3 (colsI c ts H_))
  fr : Fr n q
  os_ : n ≤ os
  ne : q.o ≠ some os
theorem Strip.ext {h h' : H} {n : Nat} {c : Int} {s : Sl} {ts : List Tile} {H_ os : Nat} {q : Sl} (k : Strip h n c s ts H_ os q) (x : Ext h h') : Strip h' n c s ts H_ os q := ⟨k.o.ext x, k.cols.ext x, k.fr, k.os_, k.ne⟩
theorem Strip.le {h : H} {n m : Nat} {c : Int} {s : Sl} {ts : List Tile} {H_ os : Nat} {q : Sl} (k : Strip h n c s ts H_ os q) (hm : m ≤ n) : Strip h m c s ts H_ os q := ⟨k.o, k.cols, k.fr.le hm, Nat.le_trans hm k.os_, k.ne⟩
theorem Strip.len {h : H} {n : Nat} {c : Int} {s : Sl} {ts : List Tile} {H_ os : Nat} {q : Sl} (k : Strip h n c s ts H_ os q) : q.len = (colsI c ts H_).length := by have := k.cols.len; rw [c3_len] at this; omega
section
variable {h0 : H} {c : Int} {s : Sl} {ts : List Tile} {H_ : Nat}
theorem newStrip_c (r : Rd h0 s 4 (tcs ts)) (T : TS c ts) (hc : c ≤ 6) (hN : ts.length ≤ 16) (hH : 1 ≤ H_ ∧ H_ ≤ 4) :
    callV SP i_impl_newStrip [.agg (SetC c s), i64 H_] h0 fun v h' => ∃ p b, v = .tuple [.ptr p, .bool b] ∧ (b = true ↔ c ^ H_ ≤ 700 ∧ (colsI c ts H_).length ≤ 5000) ∧ (b = true → ∃ os q, p = ⟨some os, 5, 0⟩ ∧ Strip h' h0.length c s ts H_ os q) ∧ Ext h0 h' := by
  apply impl_newStrip_call
  unfold impl_newStrip_main
  refine newK_obj fun h1 o1 x1 l1 => ?_
  refine newO_var fun h3 v3 x3 l3 => ?_
  refine (o1.ext x3).ldA rfl ?_
  refine v3.ldI ⟨rfl, ?_⟩
  refine newK_obj fun h7 o7 x7 l7 => ?_
  refine newO_var fun h9 v9 x9 l9 => ?_
  refine v9.st _ fun h10 v10 b10 l10 => ?_
  have o7' : Obj h7 h3.length (StripC c s H_ 1 Sl.nil) := o7
  clear o7
  have X7 : Ext h0 h7 := (x1.trans x3).trans x7
  have x10 : Ext h7 h10 := x9.but_ b10 (some_le (by omega))
  have X10 := X7.trans x10
  have v3' := v3.ext (x7.trans x10)
  have o1' := o1.ext (x3.trans (x7.trans x10))
  refine v3'.ldI ?_
  refine impl_newStrip_rule0 _ _ _ _ _ _ (fun i h => ∃ k : Nat, i = k ∧ k ≤ H_ ∧ Obj h h3.length (StripC c s H_ (c ^ k) Sl.nil) ∧ Chg (fun i => i = h3.length) h10 h) (fun i _ => (H_ - i).toNat) ?_ _ ⟨0, rfl, by omega, by rw [Int.pow_zero]; exact o7'.ext x10, Chg.refl _ _⟩
  rintro X _ h ⟨k, rfl, hk, o, cg⟩ hX
  unfold impl_newStrip_b0 impl_newStrip_C0
  have hcp := T.1
  have vp := v10.chg cg (by omega)
  have vh := v3'.chg cg (by omega)
  have ot := o1'.chg cg (by omega)
  have xh : Ext h0 h := X10.chg_ cg fun i e => by omega
  have hl := cg.1
  refine bif_dec (fun hi => ?_) (fun hi => ?_)
  · refine vp.ldP ⟨rfl, isPt_in (o.ldI (i := 3) rfl rfl ?_)⟩
    refine isPt_in (ot.ldI rfl rfl ⟨rfl, isPt_in ?_⟩)
    refine o.st1 (n := 5) (i := 3) rfl (by omega) _ fun h' o' b' l' => ?_
    have hp := pow_small4 (n := k) hcp hc (by omega)
    have hp2 := pow_small4 (n := k + 1) hcp hc (by omega)
    rw [w64_of (n := (k : Int) + 1) (by omega) (by omega)]
    refine hX _ _ ⟨k + 1, by push_cast; rfl, by omega, ?_, cg.trans (b'.chg fun i e => (Option.some.inj e).symm)⟩ (by omega)
    have e : w64 (c ^ k * c) = c ^ (k + 1) := by
      have e2 : c ^ k * c = c ^ (k + 1) := (Int.pow_succ c k).symm
      rw [e2]
      exact w64_of (by omega) (by omega)
    rw [e] at o'
    exact o'
  have hkH : k = H_ := by omega
  subst hkH
  refine vp.ldP ⟨rfl, isPt_in (o.ldI (i := 3) rfl rfl ?_)⟩
  refine bif_dec (fun hg => ⟨_, _, rfl, ⟨fun f => by (cases f), fun f => by omega⟩, (fun f => by cases f), xh⟩) (fun hg => ?_)
  refine newO_var fun g3 ve xe le => ?_
  refine ve.st _ fun g4 ve4 be l4 => ?_
  have y4 : Ext h g4 := xe.but_ be (some_le (Nat.le_refl _))
  have vp4 := vp.ext y4
  refine vp4.ldP ?_
  refine ve4.ldV ?_
  refine (vh.ext y4).ldI ?_
  refine via_func ?_
  have y4l := y4.len
  refine (extRec (w := c ^ k) (n1 := g4.length) r T hc hN hH (op := h7.length) (ot := h0.length) (oh := h1.length) (oe := h.length) (os := h3.length) ⟨by omega, by omega, by omega, by omega, by omega⟩ ⟨by omega, by omega, by omega, by omega⟩ (by omega) k 0 0 0 0 [] Sl.nil g4 (Nat.le_refl _) (by rw [Nat.sub_self, Int.pow_zero]; decide) (by rw [Nat.sub_self, Int.pow_zero]; decide) ⟨vp4, ot.ext y4, vh.ext y4, ve4⟩ (o.ext y4) (Ow.nil _ _) (Fr.nil _) (Nat.le_refl _) (by simp) (xh.trans y4)).to ?_
  rintro b h10' ⟨hb, hq, cg'⟩
  rw [List.nil_append] at hb hq
  refine ⟨?_, ?_⟩
  · rw [(vp4.chg cg' (by omega)).cell, vp4.cell]
  · refine ⟨_, _, rfl, ?_, fun hbt => ?_, (xh.trans y4).chg_ cg' fun i e => by omega⟩
    · rw [hb, decide_eq_true_eq]
      exact ⟨fun f => ⟨by omega, f⟩, fun f => f.2⟩
    · obtain ⟨q', oq, wq, fq⟩ := hq hbt
      exact ⟨_, q', rfl, oq, wq, fq.le (by omega), by omega, fun e => by have := fq _ e; omega⟩
theorem stripOf_c (r : Rd h0 s 4 (tcs ts)) (sz : ts.length ≤ 1048576) {n : Int} :
    callV SP i_impl_stripOf [.agg (SetC c s), i64 n] h0 fun v h' => ∃ p, v = .tuple [.ptr p, i64 (codeS c ts n)] ∧ (codeS c ts n = 0 → ∃ os q, p = ⟨some os, 5, 0⟩ ∧ Strip h' h0.length c s ts n.toNat os q) ∧ Ext h0 h' := by
  apply impl_stripOf_call
  unfold impl_stripOf_main
  refine newK_obj fun h1 o1 x1 l1 => ?_
  refine newO_var fun h3 v3 x3 l3 => ?_
  have X3 := x1.trans x3
  have o3 := o1.ext x3
  refine o3.ldA rfl ?_
  refine (setCode_c (r.ext X3) (by omega) _ _ (1 ≤ n ∧ n ≤ 4) fun _ h x => ?_).to ?_
  · apply impl_stripOf_1_call
    unfold impl_stripOf_1_main
    refine (v3.ext x).ldI ?_
    refine within_k ?_
    exact ⟨_, rfl, by simp, Ext.refl _⟩
  rintro _ h5 ⟨rfl, x5⟩
  have X5 := X3.trans x5
  refine bif_ne (fun hq => ⟨_, by rw [codeS_no hq], (fun f => by rw [codeS_no hq] at f; exact absurd f hq), X5⟩) (fun hq => ?_)
  have hs := codeOf_zero hq
  have T := hs.1.ts
  obtain ⟨H_, rfl⟩ : ∃ H_ : Nat, n = H_ := ⟨n.toNat, by omega⟩
  refine (o3.ext x5).ldA rfl ?_
  refine (v3.ext x5).ldI ?_
  refine (newStrip_c (H_ := H_) (r.ext X5) T hs.1.1.2 hs.1.2.1 (by omega)).to ?_
  rintro _ h9 ⟨p, b, rfl, hb, hp, x9⟩
  refine ⟨_, rfl, _, rfl, _, rfl, _, rfl, ?_⟩
  have hlen := colsI_len T H_
  have hof : colsOf c ts (H_ : Int) = colP c ts H_ (-1) 0 0 := by unfold colsOf; rw [Int.toNat_natCast]
  refine bif_not (fun hf => ?_) (fun hf => ?_)
  · have h3 : codeS c ts (H_ : Int) = 3 := codeS_3 hq (by
      rw [Int.toNat_natCast, hof, ← hlen]
      refine Classical.byContradiction fun f => ?_
      have : b = true := hb.2 (by omega)
      rw [hf] at this; cases this)
    exact ⟨_, by rw [h3], (fun f => by rw [h3] at f; cases f), X5.trans x9⟩
  · have hh := hb.1 hf
    have h0' : codeS c ts (H_ : Int) = 0 := codeS_0 hq (by rw [Int.toNat_natCast, hof, ← hlen]; omega)
    refine ⟨_, by rw [h0'], fun _ => ?_, X5.trans x9⟩
    obtain ⟨os, q, e, k⟩ := hp hf
    exact ⟨os, q, e, by rw [Int.toNat_natCast]; exact k.le X5.len⟩
noncomputable def F_CountColumns_0 (c : Int) (ts : List Tile) (n : Int) : Int := open Classical in if codeS c ts n = 0 then ((colsOf c ts n).length : Int) else 0
end
end Go.Proofs.Ytnamnpbkiibadaa.Cl

/- Contracts of the reference's columns. No claim is stated here. -/
set_option linter.unusedVariables false
set_option linter.unusedSimpArgs false
namespace Go.Proofs.Ytnamnpbkiibadaa.Cl
open Go
def col3 (l : List (Int × Int × Int)) : List (List Int) := l.map fun x => [x.1, x.2.1, x.2.2]
theorem col3_len (l) : (col3 l).length = l.length := by simp [col3]
theorem col3_app (l m) : col3 (l ++ m) = col3 l ++ col3 m := by simp [col3]
theorem col3_row {l : List (Int × Int × Int)} {i : Nat} (h : i < l.length) : rw_ (col3 l) i = [l[i].1, l[i].2.1, l[i].2.2] := by
  unfold rw_ col3
  rw [List.getD_eq_getElem?_getD, List.getElem?_map, List.getElem?_eq_getElem h]; rfl
theorem NewSS.one {n : Nat} {h h' : H} {v u : Sl} {l : List Int} (ov : Ow h v 1 (ic l)) (fv : Fr n v) (x : Ext h h') (ou : Ow h' u 1 [.sl v]) (fu : ∀ o, u.o = some o → h.length ≤ o) (hn : n ≤ h.length) : NewSS n h' u [l] := by
  refine ⟨[v], rfl, ou, (fun o e => Nat.le_trans hn (fu o e)), fun i w l' a b => ?_, fun i j w w' hne a b => ?_, fun i w a o e e2 => ?_⟩
  · have hi : i = 0 := by have := (List.getElem?_eq_some_iff.1 a).1; simpa using this
    subst hi
    simp at a b
    subst a b
    exact ⟨ov.ext x, fv⟩
  · have hi : i = 0 := by have := (List.getElem?_eq_some_iff.1 a).1; simpa using this
    have hj : j = 0 := by have := (List.getElem?_eq_some_iff.1 b).1; simpa using this
    omega
  · have hi : i = 0 := by have := (List.getElem?_eq_some_iff.1 a).1; simpa using this
    subst hi
    simp at a
    subst a
    have := ov.lt e
    have := fu o e2
    omega
theorem fm_piece {α β : Type} (l : List α) (f : α → List β) {i : Nat} (hi : i < l.length) : l.flatMap f = (l.take i).flatMap f ++ (f l[i] ++ (l.drop (i + 1)).flatMap f) := by
  have e : l = l.take i ++ (l[i] :: l.drop (i + 1)) := by rw [← List.drop_eq_getElem_cons hi, List.take_append_drop]
  conv => lhs; rw [e]
  rw [List.flatMap_append, List.flatMap_cons]
theorem fm_take {α β : Type} (l : List α) (f : α → List β) {i : Nat} (hi : i < l.length) : (l.take (i + 1)).flatMap f = (l.take i).flatMap f ++ f l[i] := by
  rw [List.take_succ_eq_append_getElem hi, List.flatMap_append]; simp
abbrev lay0 : List (Int × Int × Int) := [(0, 0, -1)]
theorem lay_bound {c : Int} {ts : List Tile} (T : TS c ts) (k : Nat) : ∀ x ∈ layN c ts k lay0, (0 ≤ x.1 ∧ x.1 < c ^ k) ∧ 0 ≤ x.2.1 ∧ x.2.1 < c ^ k := fun x hx => by
  have : pr x ∈ colP c ts k (-1) 0 0 := by rw [← lay_pr]; exact List.mem_map.2 ⟨x, hx, rfl⟩
  have := colP_bound T k (-1) 0 0 1 (by omega) (by omega) _ this
  rw [Int.one_mul] at this
  exact this
section
variable {h0 : H} {c : Int} {s : Sl} {ts : List Tile} {H_ : Nat}
theorem l06Size_c (hc : 1 ≤ c) (hc6 : c ≤ 6) (hH : H_ ≤ 4) : callI SP .i64 i_spec_l06Size [.agg (SetC c s), i64 H_] h0 fun n h' => n = c ^ H_ ∧ Ext h0 h' := by
  apply spec_l06Size_call
  unfold spec_l06Size_main
  refine newK_obj fun h1 o1 x1 l1 => ?_
  refine spec_l06Size_rule0 _ _ _ _ (fun a i h => ∃ k : Nat, i = k ∧ k ≤ H_ ∧ a = c ^ k ∧ h1 = h) (fun _ i _ => (H_ - i).toNat) ?_ _ _ ⟨0, rfl, by omega, by simp, rfl⟩
  rintro X _ _ _ ⟨k, rfl, hk, rfl, rfl⟩ hX
  unfold spec_l06Size_b0 spec_l06Size_C0
  refine bif_dec (fun hi => ?_) (fun hi => ⟨_, rfl, by rw [show k = H_ by omega], x1⟩)
  refine isPt_in (o1.ldI rfl rfl ?_)
  have hp2 := pow_small4 (n := k + 1) hc hc6 (by omega)
  have e2 : c ^ k * c = c ^ (k + 1) := (Int.pow_succ c k).symm
  rw [w64_of (n := (k : Int) + 1) (by omega) (by omega)]
  refine hX _ _ _ ⟨k + 1, by push_cast; rfl, by omega, by rw [e2]; exact w64_of (by omega) (by omega), rfl⟩ (by omega)
theorem l06Columns_c (r : Rd h0 s 4 (tcs ts)) (T : TS c ts) (hc : c ≤ 6) (hN : ts.length ≤ 16) (hH : 1 ≤ H_ ∧ H_ ≤ 4) :
    callV SP i_spec_l06Columns [.agg (SetC c s), i64 H_] h0 fun v h' => ∃ u b, v = .tuple [.sl u, .bool b] ∧ (b = true ↔ (layN c ts H_ lay0).length ≤ 5000) ∧ (b = true → RdSS h' u (col3 (layN c ts H_ lay0))) ∧ Ext h0 h' := by
  have htl := r.tlen
  apply spec_l06Columns_call
  unfold spec_l06Columns_main
  refine newK_obj fun h1 o1 x1 l1 => ?_
  refine newS_ow (by rfl) fun v h3 ov lv vo e3 => ?_
  have x3 : Ext h1 h3 := by rw [e3]; exact Ext.app _ _
  have l3 : h3.length = h1.length + 1 := by rw [e3]; simp
  refine newS_ow (by rfl) fun u h5 ou lu uo e5 => ?_
  have x5 : Ext h3 h5 := by rw [e5]; exact Ext.app _ _
  have rd0 : RdSS h5 u (col3 lay0) := (NewSS.one (n := 0) (l := [0, 0, -1]) ov (fun o _ => Nat.zero_le _) x5 ou (fun o e => by rw [uo] at e; cases e; exact Nat.le_refl _) (Nat.zero_le _)).rd
  refine spec_l06Columns_rule0 _ _ _ _ (fun u i h => ∃ k : Nat, i = k ∧ k ≤ H_ ∧ RdSS h u (col3 (layN c ts k lay0)) ∧ (k = H_ → (layN c ts k lay0).length ≤ 5000) ∧ Ext h1 h) (fun _ i _ => (H_ - i).toNat) ?_ _ _ ⟨0, rfl, by omega, rd0, (fun _ => by simp [layN]), x3.trans x5⟩
  rintro X u _ h ⟨k, rfl, hk, rd, hkl, x⟩ hX
  unfold spec_l06Columns_b0 spec_l06Columns_C0
  refine bif_dec (fun hi => ?_) (fun hi => ?_)
  rotate_left
  · have : k = H_ := by omega
    subst this
    exact ⟨_, _, rfl, ⟨fun _ => hkl rfl, fun _ => rfl⟩, fun _ => rd, x1.trans x⟩
  have hul := rd.len
  rw [col3_len] at hul
  have hB := lay_bound T k
  have hpk := pow_small4 (n := k) T.1 hc (by omega)
  have hlk : (layN c ts k lay0).length ≤ 4096 := by
    rw [lay_len]
    refine Nat.le_trans (colP_len _ _ _ _) (Nat.le_trans (Nat.pow_le_pow_left hN _) (Nat.le_trans (Nat.pow_le_pow_right (by omega) (show k ≤ 3 by omega)) (by decide)))
  have hlk1 : k + 1 ≠ H_ → (layN c ts (k + 1) lay0).length ≤ 4096 := fun f => by
    rw [lay_len]
    refine Nat.le_trans (colP_len _ _ _ _) (Nat.le_trans (Nat.pow_le_pow_left hN _) (Nat.le_trans (Nat.pow_le_pow_right (by omega) (show k + 1 ≤ 3 by omega)) (by decide)))
  have hsucc : layN c ts (k + 1) lay0 = (layN c ts k lay0).flatMap (layS c ts) := layN_succ k lay0
  generalize hnow : layN c ts k lay0 = now at *
  have fail : 5000 < (layN c ts (k + 1) lay0).length → ∀ {h' : H}, Ext h0 h' → ∃ u b, AVal.tuple [.sl Sl.nil, .bool false] = .tuple [.sl u, .bool b] ∧ (b = true ↔ (layN c ts H_ lay0).length ≤ 5000) ∧ (b = true → RdSS h' u (col3 (layN c ts H_ lay0))) ∧ Ext h0 h' := fun f {h'} e => by
    have hkH : k + 1 = H_ := by
      refine Classical.byContradiction fun g => ?_
      have := hlk1 g
      omega
    refine ⟨_, _, rfl, ⟨(fun f => by cases f), fun g => ?_⟩, (fun f => by cases f), e⟩
    rw [hkH] at f
    omega
  refine newS_ow (by rfl) fun z h6 oz lz zo e6 => ?_
  have x6 : Ext h h6 := by rw [e6]; exact Ext.app _ _
  refine spec_l06Columns_rule2 _ _ X _ _ _ _ (fun z i g => ∃ p : Nat, i = p ∧ p ≤ now.length ∧ NewSS h.length g z (col3 ((now.take p).flatMap (layS c ts))) ∧ ((now.take p).flatMap (layS c ts)).length ≤ 5000 ∧ Ext h g) (fun _ i _ => (now.length - i).toNat) ?_ _ _ ⟨0, rfl, by omega, NewSS.mk0 oz (fun o e => by rw [zo] at e; cases e; exact Nat.le_refl _), by simp, x6⟩
  rintro Y z _ g ⟨p, rfl, hp, nz, hpl, xg⟩ hY
  unfold spec_l06Columns_b2 spec_l06Columns_C2 spec_l06Columns_C1
  refine bif_dec (fun hpi => ?_) (fun hpi => ?_)
  rotate_left
  · rw [show p = now.length by omega, List.take_length] at nz hpl
    rw [← hsucc] at nz hpl
    rw [w64_of (by omega) (by omega)]
    exact hX _ _ _ ⟨k + 1, by push_cast; rfl, by omega, nz.rd, fun _ => hpl, x.trans xg⟩ (by omega)
  have hp' : p < now.length := by omega
  have hx := hB now[p] (List.getElem_mem hp')
  obtain ⟨a, b, d, hxe⟩ : ∃ a b d, now[p] = (a, b, d) := ⟨_, _, _, rfl⟩
  rw [hxe] at hx
  simp only at hx
  have hpiece := fm_piece now (layS c ts) hp'
  have htake := fm_take now (layS c ts) hp'
  rw [hxe] at hpiece htake
  have hlayS : layS c ts (a, b, d) = ts.flatMap fun t => if 0 ≤ d ∧ d ≠ sd t 1 then [] else [(a * c + sd t 0, b * c + sd t 2, sd t 3)] := rfl
  generalize hgs : (fun t : Tile => if 0 ≤ d ∧ d ≠ sd t 1 then [] else [(a * c + sd t 0, b * c + sd t 2, sd t 3)]) = gs at *
  have hgv : ∀ t, gs t = if 0 ≤ d ∧ d ≠ sd t 1 then [] else [(a * c + sd t 0, b * c + sd t 2, sd t 3)] := fun t => by rw [← hgs]
  rw [hlayS] at hpiece htake
  refine spec_l06Columns_rule4 _ _ X Y _ _ _ _ _ (fun z i g' => ∃ j : Nat, i = j ∧ j ≤ ts.length ∧ NewSS h.length g' z (col3 ((now.take p).flatMap (layS c ts) ++ (ts.take j).flatMap gs)) ∧ ((now.take p).flatMap (layS c ts) ++ (ts.take j).flatMap gs).length ≤ 5000 ∧ Ext h g') (fun _ i _ => (ts.length - i).toNat) ?_ _ _ ⟨0, rfl, by omega, by simpa using nz, by simpa using hpl, xg⟩
  rintro Z z _ g' ⟨j, rfl, hj, nz, hpl, xg'⟩ hZ
  unfold spec_l06Columns_b4 spec_l06Columns_C4 spec_l06Columns_C3
  have o := o1.ext (x.trans xg')
  refine isPt_in (o.ldS rfl rfl ?_)
  refine bif_dec (fun hji => ?_) (fun hji => ?_)
  rotate_left
  · rw [show j = ts.length by omega, List.take_length, ← htake] at nz hpl
    rw [w64_of (by omega) (by omega)]
    exact hY _ _ _ ⟨p + 1, by push_cast; rfl, by omega, nz, hpl, xg'⟩ (by omega)
  have hj' : j < ts.length := by omega
  have E : Ext h0 g' := (x1.trans x).trans xg'
  refine isPt_in (o.ldS rfl rfl ?_)
  refine (r.ext E).ldT (by omega) (by omega) fun t ht => ?_
  rw [Int.toNat_natCast] at ht
  have htm : t ∈ ts := List.mem_of_getElem? ht
  have htk : ts[j] = t := (List.getElem?_eq_some_iff.1 ht).2
  have hpiece2 := fm_piece ts gs hj'
  have htake2 := fm_take ts gs hj'
  rw [htk] at hpiece2 htake2
  have b0 := T.2 t htm 0 (by omega)
  have b2 := T.2 t htm 2 (by omega)
  refine newO_obj fun g3 og3 y3 m3 => ?_
  refine og3.stA fun g4 og4 bb4 m4 => ?_
  have y4 : Ext g' g4 := y3.but_ bb4 (some_le (Nat.le_refl _))
  have o4 := o.ext y4
  have rd4 := rd.ext (xg'.trans y4)
  have rd3 : ∀ {q : Nat} {K : Int → Prop}, q < 3 → K ([a, b, d].getD q 0) → ixS u 1 (p : Int) fun p => Cl.ldS p g4 fun v => ixS v 1 (q : Int) fun p => Cl.ldI .i64 p g4 K := fun {q K} hq hk => by
    refine rd4.ldG (by omega) (by rw [col3_len]; omega) fun v rv lv => ?_
    rw [Int.toNat_natCast, col3_row hp', hxe] at rv
    exact rv.ldG (by omega) (by simp; omega) (by rw [Int.toNat_natCast]; exact hk)
  have nz4 := nz.ext y4
  have hzl := nz.rd.len
  rw [col3_len] at hzl
  have skip : 0 ≤ d ∧ d ≠ sd t 1 → Z (spec_l06Columns_e4 (H_ : Int) ⟨some h0.length, 2, 0⟩ u (k : Int) z (p : Int) (w64 ((j : Int) + 1))) g4 := fun hs => by
    have hg : gs t = [] := by rw [hgv, if_pos hs]
    rw [hg, List.append_nil] at htake2
    rw [w64_of (by omega) (by omega)]
    refine hZ _ _ _ ⟨j + 1, by push_cast; rfl, by omega, ?_, ?_, xg'.trans y4⟩ (by omega)
    · rw [htake2]; exact nz4
    · rw [htake2]; exact hpl
  have a0 : 0 ≤ a * c := Int.mul_nonneg hx.1.1 (by have := T.1; omega)
  have a1 : (a + 1) * c ≤ 1296 * 6 := Int.mul_le_mul (by omega) hc (by have := T.1; omega) (by decide)
  have c0 : 0 ≤ b * c := Int.mul_nonneg hx.2.1 (by have := T.1; omega)
  have c1 : (b + 1) * c ≤ 1296 * 6 := Int.mul_le_mul (by omega) hc (by have := T.1; omega) (by decide)
  rw [Int.add_mul, Int.one_mul] at a1 c1
  have hc1 := T.1
  have ew1 : w64 (w64 (a * c) + sd t 0) = a * c + sd t 0 := by rw [w64_of (n := a * c) (by omega) (by omega), w64_of (by omega) (by omega)]
  have ew2 : w64 (w64 (b * c) + sd t 2) = b * c + sd t 2 := by rw [w64_of (n := b * c) (by omega) (by omega), w64_of (by omega) (by omega)]
  have take : ¬ (0 ≤ d ∧ d ≠ sd t 1) → bif ((z.len : Int) == 5000) then (∃ u b, AVal.tuple [.sl Sl.nil, .bool false] = .tuple [.sl u, .bool b] ∧ (b = true ↔ (layN c ts H_ lay0).length ≤ 5000) ∧ (b = true → RdSS g4 u (col3 (layN c ts H_ lay0))) ∧ Ext h0 g4) else
      ixS u 1 (p : Int) fun p17 => Cl.ldS p17 g4 fun s18 => ixS s18 1 0 fun p19 => Cl.ldI .i64 p19 g4 fun n20 => isPt ⟨some h0.length, 2, 0⟩ (Cl.ldI .i64 (Pt.add ⟨some h0.length, 2, 0⟩ 0) g4 fun n21 => ixA ⟨some g'.length, 4, 0⟩ 4 1 0 fun p22 => Cl.ldI .i64 p22 g4 fun n23 =>
      ixS u 1 (p : Int) fun p24 => Cl.ldS p24 g4 fun s25 => ixS s25 1 1 fun p26 => Cl.ldI .i64 p26 g4 fun n27 => isPt ⟨some h0.length, 2, 0⟩ (Cl.ldI .i64 (Pt.add ⟨some h0.length, 2, 0⟩ 0) g4 fun n28 => ixA ⟨some g'.length, 4, 0⟩ 4 1 2 fun p29 => Cl.ldI .i64 p29 g4 fun n30 => ixA ⟨some g'.length, 4, 0⟩ 4 1 3 fun p31 => Cl.ldI .i64 p31 g4 fun n32 =>
      newS 3 1 [i64 (w64 (w64 (n20 * n21) + n23)), i64 (w64 (w64 (n27 * n28) + n30)), i64 n32] g4 fun s33 h34 => newS 1 1 [.sl s33] h34 fun s35 h36 => Cl.app z s35 1 h36 fun s37 h38 => Z (spec_l06Columns_e4 (H_ : Int) ⟨some h0.length, 2, 0⟩ u (k : Int) s37 (p : Int) (w64 ((j : Int) + 1))) h38)) := fun hno => by
    have hg : gs t = [(a * c + sd t 0, b * c + sd t 2, sd t 3)] := by rw [hgv, if_neg hno]
    refine bif_eq (fun hfull => fail ?_ (E.trans y4)) (fun hfull => ?_)
    · rw [hsucc, hpiece, hpiece2, hg]
      rw [hzl] at hfull
      simp only [List.length_append, List.length_cons, List.length_nil] at hfull ⊢
      omega
    refine rd3 (q := 0) (by omega) (isPt_in (o4.ldI rfl rfl ?_))
    refine og4.sdI (by omega) (by omega) ?_
    refine rd3 (q := 1) (by omega) (isPt_in (o4.ldI rfl rfl ?_))
    refine og4.sdI (by omega) (by omega) ?_
    refine og4.sdI (by omega) (by omega) ?_
    show newS 3 1 [i64 (w64 (w64 (a * c) + sd t 0)), i64 (w64 (w64 (b * c) + sd t 2)), i64 (sd t 3)] g4 _
    rw [ew1, ew2]
    refine newS_ow (by rfl) fun v g6 ov lv vo e6 => ?_
    have y6 : Ext g4 g6 := by rw [e6]; exact Ext.app _ _
    have gl := xg.len
    have gl' := xg'.len
    have gl4 := y4.len
    refine (nz4.ext y6).push (l := [a * c + sd t 0, b * c + sd t 2, sd t 3]) ov (m := g4.length) (fun o e => by rw [vo] at e; cases e; exact Nat.le_refl _) (by omega) ⟨g4, nz4, Nat.le_refl _, y6⟩ (by rw [col3_len]; unfold lim; omega) (by have := y6.len; omega) fun z' g8 nz' bz => ?_
    rw [w64_of (by omega) (by omega)]
    refine hZ _ _ _ ⟨j + 1, by push_cast; rfl, by omega, ?_, ?_, (xg'.trans (y4.trans y6)).but_ bz fun o e => nz.fr o e⟩ (by omega)
    · rw [htake2, hg, ← List.append_assoc, col3_app]; exact nz'
    · rw [htake2, hg, ← List.append_assoc, List.length_append, List.length_singleton]; rw [hzl] at hfull; omega
  refine rd3 (q := 2) (by omega) ?_
  refine bif_dec (fun hd0 => ?_) (fun hd0 => ?_)
  · refine rd3 (q := 2) (by omega) ?_
    refine og4.sdI (by omega) (by omega) ?_
    refine bif_ne (fun hq => skip ⟨hd0, hq⟩) (fun hq => take fun f => f.2 hq)
  · exact take fun f => hd0 f.1
end
end Go.Proofs.Ytnamnpbkiibadaa.Cl

/- Contracts of the reference's code of columns and of CountColumns. No claim is stated here. -/
set_option linter.unusedVariables false
set_option linter.unusedSimpArgs false
namespace Go.Proofs.Ytnamnpbkiibadaa.Cl
open Go
section
variable {h0 : H} {c : Int} {s : Sl} {ts : List Tile} {H_ : Nat}
theorem l06Code_c (r : Rd h0 s 4 (tcs ts)) (sz : ts.length ≤ 1048576) {n : Int} :
    callV SP i_spec_l06Code [.agg (SetC c s), i64 n] h0 fun v h' => ∃ u, v = .tuple [.sl u, i64 (codeS c ts n)] ∧ (codeS c ts n = 0 → RdSS h' u (col3 (layN c ts n.toNat lay0))) ∧ (codeS c ts n ≠ 0 → u = Sl.nil) ∧ Ext h0 h' := by
  apply spec_l06Code_call
  unfold spec_l06Code_main
  refine newK_obj fun h1 o1 x1 l1 => ?_
  refine o1.ldA rfl ?_
  refine (l01Is_c (r.ext x1)).to ?_
  rintro e h3 ⟨he, x3⟩
  have X3 := x1.trans x3
  have fin : ∀ {h' : H}, codeS c ts n ≠ 0 → Ext h0 h' → ∀ k : Int, k = codeS c ts n → ∃ u, AVal.tuple [.sl Sl.nil, i64 k] = .tuple [.sl u, i64 (codeS c ts n)] ∧ (codeS c ts n = 0 → RdSS h' u (col3 (layN c ts n.toNat lay0))) ∧ (codeS c ts n ≠ 0 → u = Sl.nil) ∧ Ext h0 h' := fun hq x k hk => ⟨_, by rw [hk], fun f => absurd f hq, fun _ => rfl, x⟩
  refine bif_not (fun hq => ?_) (fun hq => ?_)
  · have h1 : codeOf (setOK c ts) (1 ≤ n ∧ n ≤ 4) = 1 := codeOf_no fun hs => by rw [he.2 hs] at hq; cases hq
    have h2 : codeS c ts n = 1 := by rw [codeS_no (by rw [h1]; decide), h1]
    exact fin (by rw [h2]; decide) X3 1 h2.symm
  have hs := he.1 hq
  have T := hs.ts
  refine l01In_k ?_
  refine bif_not (fun hr => ?_) (fun hr => ?_)
  · have hr' : ¬ (1 ≤ n ∧ n ≤ 4) := of_decide_eq_false hr
    have h1 : codeOf (setOK c ts) (1 ≤ n ∧ n ≤ 4) = 2 := codeOf_range hs hr'
    have h2 : codeS c ts n = 2 := by rw [codeS_no (by rw [h1]; decide), h1]
    exact fin (by rw [h2]; decide) X3 2 h2.symm
  have hr' : 1 ≤ n ∧ n ≤ 4 := of_decide_eq_true hr
  have h00 : codeOf (setOK c ts) (1 ≤ n ∧ n ≤ 4) = 0 := codeOf_yes hs hr'
  obtain ⟨H_, rfl⟩ : ∃ H_ : Nat, n = H_ := ⟨n.toNat, by omega⟩
  have hof : colsOf c ts (H_ : Int) = colP c ts H_ (-1) 0 0 := by unfold colsOf; rw [Int.toNat_natCast]
  refine (o1.ext x3).ldA rfl ?_
  refine (l06Size_c (s := s) T.1 hs.1.2 (H_ := H_) (by omega)).to ?_
  rintro _ h8 ⟨rfl, x8⟩
  refine bif_dec (fun hg => ?_) (fun hg => ?_)
  · have h2 : codeS c ts (H_ : Int) = 3 := codeS_3 h00 (.inl (by rw [Int.toNat_natCast]; exact hg))
    exact fin (by rw [h2]; decide) (X3.trans x8) 3 h2.symm
  refine (o1.ext (x3.trans x8)).ldA rfl ?_
  refine (l06Columns_c (H_ := H_) (r.ext (X3.trans x8)) T hs.1.2 hs.2.1 (by omega)).to ?_
  rintro _ h11 ⟨u, b, rfl, hb, hu, x11⟩
  refine ⟨_, rfl, _, rfl, _, rfl, _, rfl, ?_⟩
  have hlen : (layN c ts H_ lay0).length = (colsOf c ts (H_ : Int)).length := by rw [hof]; exact lay_len H_
  refine bif_not (fun hf => ?_) (fun hf => ?_)
  · have h2 : codeS c ts (H_ : Int) = 3 := codeS_3 h00 (.inr (by
      rw [← hlen]
      refine Classical.byContradiction fun f => ?_
      have : b = true := hb.2 (by omega)
      rw [hf] at this; cases this))
    exact fin (by rw [h2]; decide) ((X3.trans x8).trans x11) 3 h2.symm
  · have h2 : codeS c ts (H_ : Int) = 0 := codeS_0 h00 (by
      rw [Int.toNat_natCast, ← hlen]
      have := hb.1 hf
      omega)
    exact ⟨u, by rw [h2], fun _ => by rw [Int.toNat_natCast]; exact hu hf, fun f => absurd h2 f, (X3.trans x8).trans x11⟩
end
end Go.Proofs.Ytnamnpbkiibadaa.Cl

/- Strip sequences: numbers of ways, column by column, on both sides. No claim is stated here. -/
set_option linter.unusedVariables false
set_option linter.unusedSimpArgs false
namespace Go.Proofs.Ytnamnpbkiibadaa.Cl
open Go
/-! ### the numbers -/
def stp (f : Int → Int) (now nx : List Int) (e : Int × Int) : List Int := nx.set e.2.toNat (f (nx.getD e.2.toNat 0 + now.getD e.1.toNat 0))
def stepL (f : Int → Int) (es : List (Int × Int)) (N : Nat) (now : List Int) : List Int := es.foldl (stp f now) (List.replicate N 0)
def totL (f : Int → Int) (l : List Int) : Int := l.foldl (fun s x => f (s + x)) 0
def seqL (f : Int → Int) (es : List (Int × Int)) (N : Nat) : Nat → List Int → List Int
  | 0, _ => []
  | k + 1, now => totL f (stepL f es N now) :: seqL f es N k (stepL f es N now)
def runQ {σ : Type} (f : Int → Int) (es : List (Int × Int)) (N : Nat) (g : σ → Int → σ × Bool) : Nat → σ → List Int → σ
  | 0, t, _ => t
  | k + 1, t, now => if (g t (totL f (stepL f es N now))).2 = true then runQ f es N g k (g t (totL f (stepL f es N now))).1 (stepL f es N now) else (g t (totL f (stepL f es N now))).1
def Bd (B : Int) (l : List Int) : Prop := ∀ i, 0 ≤ l.getD i 0 ∧ l.getD i 0 ≤ B
structure Fit (f : Int → Int) (B : Int) : Prop where
  b0 : 0 ≤ B
  b1 : B ≤ 1000000000000001
  f0 : ∀ x, 0 ≤ x → 0 ≤ f x ∧ f x ≤ B
theorem stp_len (f now nx e) : (stp f now nx e).length = nx.length := by simp [stp]
theorem stp_bd {f : Int → Int} {B : Int} (F : Fit f B) {now nx : List Int} {e : Int × Int} (hn : Bd B now) (hx : Bd B nx) : Bd B (stp f now nx e) := fun i => by
  unfold stp
  rw [List.getD_eq_getElem?_getD, List.getElem?_set]
  by_cases h : e.2.toNat = i
  · rw [if_pos h]
    split
    · have h1 := hx e.2.toNat
      have h2 := hn e.1.toNat
      exact F.f0 _ (by omega)
    · exact ⟨Int.le_refl _, F.b0⟩
  · rw [if_neg h, ← List.getD_eq_getElem?_getD]; exact hx i
theorem fold_stp {f : Int → Int} {B : Int} (F : Fit f B) {now : List Int} (hn : Bd B now) : ∀ (es : List (Int × Int)) (nx : List Int), Bd B nx → Bd B (es.foldl (stp f now) nx) ∧ (es.foldl (stp f now) nx).length = nx.length
  | [], nx, h => ⟨h, rfl⟩
  | e :: es, nx, h => by
    have := fold_stp F hn es (stp f now nx e) (stp_bd F hn h)
    exact ⟨this.1, by rw [List.foldl_cons, this.2, stp_len]⟩
theorem bd_zero {B : Int} (h : 0 ≤ B) (N : Nat) : Bd B (List.replicate N 0) := fun i => by
  rw [List.getD_eq_getElem?_getD, List.getElem?_replicate]
  split
  · exact ⟨Int.le_refl _, h⟩
  · exact ⟨Int.le_refl _, h⟩
theorem bd_one {B : Int} (h : 1 ≤ B) (N : Nat) : Bd B (List.replicate N 1) := fun i => by
  rw [List.getD_eq_getElem?_getD, List.getElem?_replicate]
  split
  · exact ⟨by decide, h⟩
  · exact ⟨Int.le_refl _, by show (0 : Int) ≤ B; omega⟩
theorem stepL_bd {f : Int → Int} {B : Int} (F : Fit f B) {es : List (Int × Int)} {N : Nat} {now : List Int} (hn : Bd B now) : Bd B (stepL f es N now) ∧ (stepL f es N now).length = N := by
  have := fold_stp F hn es (List.replicate N 0) (bd_zero F.b0 N)
  exact ⟨this.1, by unfold stepL; rw [this.2]; simp⟩
theorem foldl_take {α β : Type} (g : β → α → β) (x : β) {l : List α} {k : Nat} (h : k < l.length) : (l.take (k + 1)).foldl g x = g ((l.take k).foldl g x) l[k] := by
  rw [List.take_succ_eq_append_getElem h, List.foldl_append]; rfl
theorem totL_bd {f : Int → Int} {B : Int} (F : Fit f B) {l : List Int} (hl : Bd B l) : ∀ k, k ≤ l.length → 0 ≤ (l.take k).foldl (fun s x => f (s + x)) 0 ∧ (l.take k).foldl (fun s x => f (s + x)) 0 ≤ B
  | 0, _ => ⟨Int.le_refl _, F.b0⟩
  | k + 1, h => by
    have ih := totL_bd F hl k (by omega)
    rw [foldl_take _ _ (by omega)]
    have hk := hl k
    rw [List.getD_eq_getElem?_getD, List.getElem?_eq_getElem (by omega)] at hk
    have hk' : 0 ≤ l[k] ∧ l[k] ≤ B := hk
    exact F.f0 _ (by omega)
/-! ### reading columns -/
theorem c3_at : ∀ (l : List (Int × Int × Int)) (i : Nat) (x : Int × Int × Int), l[i]? = some x → ((c3 l).drop (i * 3)).take 3 = [i64 x.1, i64 x.2.1, i64 x.2.2]
  | [], i, x, h => by simp at h
  | a :: l, 0, x, h => by
    simp at h
    subst h
    unfold c3
    simp
  | a :: l, i + 1, x, h => by
    have ih := c3_at l i x (by simpa using h)
    unfold c3 at *
    rw [List.map_cons, List.flatten_cons, show (i + 1) * 3 = 3 + i * 3 by omega, ← List.drop_drop]
    exact ih
theorem Rd.ldC {h : H} {s : Sl} {l : List (Int × Int × Int)} (r : Rd h s 3 (c3 l)) {i : Nat} (h1 : i < l.length) {K : List AVal → Prop} (hk : K [i64 l[i].1, i64 l[i].2.1, i64 l[i].2.2]) : ixS s 3 (i : Int) fun p => Cl.ldA p 3 h K := by
  have hl := r.len
  rw [c3_len] at hl
  refine r.ldA (by omega) (by omega) ?_
  rw [Int.toNat_natCast, c3_at l i l[i] (List.getElem?_eq_getElem h1)]
  exact hk
theorem Obj.ixI {h : H} {o : Nat} {cs : List AVal} (x : Obj h o cs) {n i : Nat} (hn : cs.length = n) (hi : i < n) {K : Pt → Prop} (hk : ∀ p, cell h p = cs[i]? → K p) : ixA ⟨some o, n, 0⟩ n 1 (i : Int) K := by
  refine ⟨⟨by omega, by omega⟩, rfl, hk _ ?_⟩
  rw [Int.toNat_natCast, Nat.mul_one]
  exact x.cellE hn
theorem getD_map_pr {l : List (Int × Int × Int)} {k : Nat} (h : k < l.length) : (l.map pr)[k]'(by simpa using h) = (l[k].1, l[k].2.1) := by simp [pr]
/-! ### the program's sequences -/
section
variable {hb : H} {n N : Nat} {c : Int} {s : Sl} {ts : List Tile} {H_ os : Nat} {q : Sl} {f : Int → Int} {B : Int} {gf gv : Nat} {capf capv : List AVal} {σ : Type} {g : σ → Int → σ × Bool} {I : σ → H → Prop} {J : σ → Prop} {n1 : Nat}
theorem seqLoop (k : Strip hb n c s ts H_ os q) (T : TS c ts) (hc6 : c ≤ 6) (hH : H_ ≤ 4) (hN : (N : Int) = c ^ H_) (F : Fit f B) (hlen : (colsI c ts H_).length ≤ 5000)
    (hf : ∀ (x : Int) (h : H) (K : Int → H → Prop), 0 ≤ x → x ≤ 4000000000000000 → K (f x) h → callI SP .i64 gf ([i64 x] ++ capf) h K)
    (hI : ∀ t h h', I t h → Till n1 h h' → I t h') (hn1 : hb.length ≤ n1)
    (hJ : ∀ t y, (g t y).2 = true → J (g t y).1) (hv : ∀ (t : σ) (y : Int) (h' : H), J t → I t h' → 0 ≤ y → y ≤ B → Ext hb h' → n1 ≤ h'.length → callB SP gv ([i64 y] ++ capv) h' fun b h'' => b = (g t y).2 ∧ I (g t y).1 h'' ∧ Chg (fun i => hb.length ≤ i ∧ i < n1) h' h'')
    (μ : σ → Nat) (hμ : ∀ t y, (g t y).2 = true → μ (g t y).1 < μ t) {R : σ} {K : AVal → H → Prop} (hK : ∀ h', I R h' → Ext hb h' → K (.tuple []) h') :
    ∀ (m : Nat) (t : σ) (now : List Int) (u : Sl) (h : H), μ t < m → runQ f ((colsI c ts H_).map pr) N g m t now = R → Bd B now → now.length = N → Ow h u 1 (ic now) → Fr n1 u → J t → I t h → Ext hb h → n1 ≤ h.length →
      impl_strip_sequence_L0 SP K ⟨some os, 5, 0⟩ (.func gf capf) (.func gv capv) u h
  | 0, t, now, u, h, hm, _, _, _, _, _, _, _, _, _ => by omega
  | m + 1, t, now, u, h, hm, hR, hbd, hnl, ou, fu, jt, i, x, hh => by
    apply impl_strip_sequence_unroll0
    unfold impl_strip_sequence_b0
    have hp := pow_small4 (n := H_) T.1 hc6 hH
    have b1 := F.b1
    have ks := k.ext x
    refine ⟨rfl, isPt_in (ks.o.ldI (i := 3) rfl rfl ?_)⟩
    refine mkS_ow (by omega) (by unfold lim; omega) fun v h2 ov lv vo e2 => ?_
    have x2 : Ext h h2 := by rw [e2]; exact Ext.app _ _
    rw [show (List.replicate (c ^ H_).toNat [i64 0]).flatten = ic (List.replicate N 0) from by
      rw [show (c ^ H_).toNat = N by omega]
      induction N with
      | zero => rfl
      | succ z _ => simp [ic, List.map_replicate]] at ov
    refine ⟨rfl, isPt_in ((ks.ext x2).o.ldS (i := 4) rfl rfl ?_)⟩
    have hql := k.len
    have hcb : ∀ e ∈ (colsI c ts H_).map pr, (0 ≤ e.1 ∧ e.1 < N) ∧ 0 ≤ e.2 ∧ e.2 < N := fun e he => by
      rw [colsI_pr T] at he
      have := colP_bound T H_ (-1) 0 0 1 (by omega) (by omega) e he
      rw [Int.one_mul, ← hN] at this
      exact this
    have l2 := x2.len
    have hvf : Fr h.length v := fun o e => by rw [vo] at e; cases e; exact Nat.le_refl _
    generalize hes : (colsI c ts H_).map pr = es at *
    have hel : es.length = (colsI c ts H_).length := by rw [← hes]; simp
    refine impl_strip_sequence_rule2 _ _ _ _ _ _ _ _ _ _ _ (fun j g' => ∃ z : Nat, j = z ∧ z ≤ es.length ∧ Ow g' v 1 (ic ((es.take z).foldl (stp f now) (List.replicate N 0))) ∧ Ext h g') (fun j _ => (es.length - j).toNat) ?_ _ ⟨0, rfl, by omega, ov, x2⟩
    rintro Y _ g' ⟨z, rfl, hz, ov, e⟩ hY
    unfold impl_strip_sequence_b2 impl_strip_sequence_C2
    have hfold := fold_stp F hbd (es.take z) (List.replicate N 0) (bd_zero F.b0 N)
    refine bif_dec (fun hi => ?_) (fun hi => ?_)
    · have hz' : z < es.length := by omega
      have hzc : z < (colsI c ts H_).length := by omega
      have hez : es[z] = ((colsI c ts H_)[z].1, (colsI c ts H_)[z].2.1) := by
        have := getD_map_pr hzc
        simp only [← hes]
        exact this
      have hb' := hcb es[z] (List.getElem_mem hz')
      rw [hez] at hb'
      simp only at hb'
      refine (ks.ext e).cols.rd.ldC hzc ?_
      generalize (colsI c ts H_)[z] = x3 at *
      refine newO_obj fun g3 og3 y3 m3 => ?_
      refine og3.stA fun g4 og4 b4 m4 => ?_
      have y4 : Ext g' g4 := y3.but_ b4 (some_le (Nat.le_refl _))
      have ov4 := ov.ext y4
      have ou4 := ou.ext (e.trans y4)
      have rdc : ∀ {i : Nat} {K : Pt → Int → Prop} (hi : i < 3), (∀ p, K p ([x3.1, x3.2.1, x3.2.2].getD i 0)) → ixA ⟨some g'.length, 3, 0⟩ 3 1 (i : Int) fun p => Cl.ldI .i64 p g4 (K p) := fun {i K} hi hk => by
        refine og4.ixI rfl hi fun p hp => ⟨_, ?_, hk p⟩
        rw [hp]
        match i, hi with
        | 0, _ => rfl
        | 1, _ => rfl
        | 2, _ => rfl
      refine rdc (i := 1) (by omega) fun p5 => ?_
      refine rdc (i := 1) (by omega) fun p7 => ?_
      show ixS v 1 x3.2.1 _
      refine ov4.rd.ldG hb'.2.1 (by rw [hfold.2]; simp; omega) ?_
      refine rdc (i := 0) (by omega) fun p11 => ?_
      show ixS u 1 x3.1 _
      refine ou4.rd.ldG hb'.1.1 (by omega) ?_
      have q1 := hfold.1 x3.2.1.toNat
      have q2 := hbd x3.1.toNat
      refine via_func ?_
      rw [w64_of (by omega) (by omega)]
      refine hf _ _ _ (by omega) (by omega) ⟨rfl, ?_⟩
      refine ov4.stI hb'.2.1 (by have := ov4.rd.ilen; rw [hfold.2] at this; simp at this; omega) _ fun g5 o5 b5 l5 => ?_
      rw [w64_of (by omega) (by omega)]
      refine hY _ _ ⟨z + 1, by push_cast; rfl, by omega, ?_, (e.trans y4).but_ b5 fun o' e' => hvf o' e'⟩ (by omega)
      rw [foldl_take _ _ hz', hez]
      exact o5
    · rw [show z = es.length by omega, List.take_length] at ov
      have hst := stepL_bd F (es := es) (N := N) hbd
      change Ow g' v 1 (ic (stepL f es N now)) at ov
      have hvl := ov.rd.ilen
      clear hY hfold
      refine impl_strip_sequence_rule4 _ _ _ _ _ _ _ _ _ (fun a j g2 => ∃ z : Nat, j = z ∧ z ≤ (stepL f es N now).length ∧ a = ((stepL f es N now).take z).foldl (fun s x => f (s + x)) 0 ∧ g' = g2) (fun _ j _ => ((stepL f es N now).length - j).toNat) ?_ _ _ ⟨0, rfl, by omega, rfl, rfl⟩
      rintro Z _ _ _ ⟨z, rfl, hz, rfl, rfl⟩ hZ
      unfold impl_strip_sequence_b4 impl_strip_sequence_C4
      have ht := totL_bd F hst.1 z hz
      refine bif_dec (fun hi => ?_) (fun hi => ?_)
      · have hz' : z < (stepL f es N now).length := by omega
        have q1 := hst.1 z
        refine ov.rd.ldG (by omega) (by omega) ?_
        rw [Int.toNat_natCast]
        refine via_func ?_
        rw [w64_of (by omega) (by omega)]
        refine hf _ _ _ (by omega) (by omega) ?_
        rw [w64_of (by omega) (by omega)]
        refine hZ _ _ _ ⟨z + 1, by push_cast; rfl, by omega, ?_, rfl⟩ (by omega)
        rw [foldl_take _ _ hz', List.getD_eq_getElem?_getD, List.getElem?_eq_getElem hz']
        rfl
      · rw [show z = (stepL f es N now).length by omega, List.take_length] at ht ⊢
        change 0 ≤ totL f (stepL f es N now) ∧ totL f (stepL f es N now) ≤ B at ht
        refine via_func ?_
        have i2 : I t g' := hI t h g' i (e.till n1)
        have el := e.len
        refine (hv t (totL f (stepL f es N now)) g' jt i2 ht.1 ht.2 (x.trans e) (by omega)).to ?_
        rintro b g2 ⟨hb2, i3, cg⟩
        have hX : Ext hb g2 := (x.trans e).chg_ cg fun i hi => hi.1
        rw [runQ] at hR
        refine bif_not (fun hf' => ?_) (fun hf' => ?_)
        · rw [hf'] at hb2
          rw [if_neg (by rw [← hb2]; decide)] at hR
          rw [hR] at i3
          exact hK g2 i3 hX
        · rw [hf'] at hb2
          rw [if_pos hb2.symm] at hR
          have := cg.1
          have hm2 := hμ t _ hb2.symm
          exact seqLoop k T hc6 hH hN F hlen hf hI hn1 hJ hv μ hμ hK m _ _ v g2 (by omega) (by rw [hes]; exact hR) hst.1 hst.2 (ov.chg cg fun i ei f => by have := hvf i ei; omega) (fun o e => by have := hvf o e; omega) (hJ t _ hb2.symm) i3 hX (by omega)
end
end Go.Proofs.Ytnamnpbkiibadaa.Cl

/- Contracts of StripSequence. No claim is stated here. -/
set_option linter.unusedVariables false
set_option linter.unusedSimpArgs false
namespace Go.Proofs.Ytnamnpbkiibadaa.Cl
open Go
abbrev topS : Int := 1000000000000000
def fS (x : Int) : Int := mnI x 1000000000000001
theorem fitS : Fit fS 1000000000000001 := ⟨by decide, by decide, fun x h => by unfold fS mnI; split <;> omega⟩
def gS (n : Int) (t : List Int × Bool) (y : Int) : (List Int × Bool) × Bool := ((t.1 ++ [y], t.2 && decide (y ≤ topS)), (t.2 && decide (y ≤ topS)) && decide (((t.1.length + 1 : Nat) : Int) < n))
theorem runQ_S {es : List (Int × Int)} {N : Nat} {n : Int} : ∀ (j m : Nat) (now out : List Int), 1 ≤ j → j ≤ m → ((out.length + j : Nat) : Int) = n →
    ((∀ y ∈ seqL fS es N j now, y ≤ topS) → runQ fS es N (gS n) m (out, true) now = (out ++ seqL fS es N j now, true)) ∧ (¬ (∀ y ∈ seqL fS es N j now, y ≤ topS) → (runQ fS es N (gS n) m (out, true) now).2 = false)
  | 0, m, now, out, h, _, _ => by omega
  | j + 1, 0, now, out, _, h, _ => by omega
  | j + 1, m + 1, now, out, h1, h2, hn => by
    rw [runQ, seqL]
    generalize totL fS (stepL fS es N now) = y
    by_cases hy : y ≤ topS
    · have e1 : (gS n (out, true) y).1 = (out ++ [y], true) := by simp [gS, hy]
      cases j with
      | zero =>
        have e2 : (gS n (out, true) y).2 = false := by
          have : ¬ (((out.length + 1 : Nat) : Int) < n) := by omega
          simp only [gS, decide_eq_false this, Bool.and_false]
        rw [if_neg (by rw [e2]; decide), e1]
        exact ⟨fun _ => rfl, fun f => absurd (fun z hz => by simp [seqL] at hz; rw [hz]; exact hy) f⟩
      | succ j =>
        have e2 : (gS n (out, true) y).2 = true := by
          have : ((out.length + 1 : Nat) : Int) < n := by omega
          simp only [gS, decide_eq_true this, decide_eq_true hy]; rfl
        rw [if_pos e2, e1]
        have ih := runQ_S (es := es) (N := N) (n := n) (j + 1) m (stepL fS es N now) (out ++ [y]) (by omega) (by omega) (by simp; omega)
        refine ⟨fun f => ?_, fun f => ih.2 fun g => f fun z hz => ?_⟩
        · rw [ih.1 fun z hz => f z (by simp [hz])]; simp
        · rcases List.mem_cons.1 hz with rfl | hz
          · exact hy
          · exact g z hz
    · have e1 : (gS n (out, true) y).1 = (out ++ [y], false) := by simp [gS, hy]
      have e2 : (gS n (out, true) y).2 = false := by simp [gS, hy]
      rw [if_neg (by rw [e2]; decide), e1]
      exact ⟨fun f => absurd (f y (by simp)) hy, fun _ => rfl⟩
theorem seqL_len {f : Int → Int} {es : List (Int × Int)} {N : Nat} : ∀ (k : Nat) (now : List Int), (seqL f es N k now).length = k
  | 0, _ => rfl
  | k + 1, now => by rw [seqL, List.length_cons, seqL_len k]
/-- The numbers of a strip's sequence. -/
def strS (c : Int) (ts : List Tile) (a n : Int) : List Int := seqL fS (colsOf c ts a) (c ^ a.toNat).toNat n.toNat (List.replicate (c ^ a.toNat).toNat 1)
def SizeS (a n : Int) : Prop := (1 ≤ a ∧ a ≤ 4) ∧ 1 ≤ n ∧ n ≤ 30
open Classical in
noncomputable def codeQ (c : Int) (ts : List Tile) (a n : Int) : Int := if codeOf (setOK c ts) (SizeS a n) ≠ 0 then codeOf (setOK c ts) (SizeS a n) else if codeS c ts a ≠ 0 then codeS c ts a else if ∀ y ∈ strS c ts a n, y ≤ topS then 0 else 3
theorem codeQ_1 {c : Int} {ts : List Tile} {a n : Int} (h : codeOf (setOK c ts) (SizeS a n) ≠ 0) : codeQ c ts a n = codeOf (setOK c ts) (SizeS a n) := by unfold codeQ; rw [if_pos h]
theorem codeQ_2 {c : Int} {ts : List Tile} {a n : Int} (h : codeOf (setOK c ts) (SizeS a n) = 0) (h2 : codeS c ts a ≠ 0) : codeQ c ts a n = codeS c ts a := by unfold codeQ; rw [if_neg (by rw [h]; decide), if_pos h2]
theorem codeQ_3 {c : Int} {ts : List Tile} {a n : Int} (h : codeOf (setOK c ts) (SizeS a n) = 0) (h2 : codeS c ts a = 0) (h3 : ¬ ∀ y ∈ strS c ts a n, y ≤ topS) : codeQ c ts a n = 3 := by unfold codeQ; rw [if_neg (by rw [h]; decide), if_neg (by rw [h2]; decide), if_neg h3]
theorem codeQ_0 {c : Int} {ts : List Tile} {a n : Int} (h : codeOf (setOK c ts) (SizeS a n) = 0) (h2 : codeS c ts a = 0) (h3 : ∀ y ∈ strS c ts a n, y ≤ topS) : codeQ c ts a n = 0 := by unfold codeQ; rw [if_neg (by rw [h]; decide), if_neg (by rw [h2]; decide), if_pos h3]
noncomputable def F_StripSequence_0 (c : Int) (ts : List Tile) (a n : Int) : List Int := sel0 (codeQ c ts a n = 0) (strS c ts a n)
theorem StripSequence_small0 {c : Int} {ts : List Tile} {a n : Int} (sz : ts.length ≤ 1048576) (ba : i64ok a) (bn : i64ok n) : (F_StripSequence_0 c ts a n).length < 1000000 := by
  by_cases h : codeQ c ts a n = 0
  · rw [F_StripSequence_0, sel0_yes h, strS, seqL_len]
    by_cases h1 : codeOf (setOK c ts) (SizeS a n) = 0
    · have := (codeOf_zero h1).2.2
      omega
    · rw [codeQ_1 h1] at h; exact absurd h h1
  · rw [F_StripSequence_0, sel0_no h]; decide
section
variable {h0 : H} {c : Int} {s : Sl} {ts : List Tile} {a n : Int}
end
end Go.Proofs.Ytnamnpbkiibadaa.Cl

/- Contracts of the reference's StripSequence. No claim is stated here. -/
set_option linter.unusedVariables false
set_option linter.unusedSimpArgs false
namespace Go.Proofs.Ytnamnpbkiibadaa.Cl
open Go
theorem pushI3 {h : H} {s : Sl} {l : List Int} {x : Int} (r : Ow h s 1 (ic l)) (hl : (l.length : Int) + 1 ≤ lim) {K : Sl → H → Prop}
    (hk : ∀ s' h', Ow h' s' 1 (ic (l ++ [x])) → But s.o h h' → (∀ o, s.o = some o → s'.o = some o) → K s' h') : newS 1 1 [.int .i64 x] h fun t h1 => app s t 1 h1 K := by
  refine newS_ow (by rfl) fun t h1 ot tl to e1 => ?_
  have e1' : Ext h h1 := by rw [e1]; exact Ext.app _ _
  have hsl := r.rd.ilen
  exact app_ow (by omega) (r.ext e1') ot.rd (by rw [tl, hsl]; exact_mod_cast hl) fun s' h' o' ln b k1 k2 => hk s' h' (by rw [ic_app]; exact o') ((e1'.but _).trans b) k1
section
variable {h0 : H} {u w : Sl} {L : List (Int × Int × Int)} {N : Nat} {now : List Int}
theorem l02Each_c (hN : N ≤ 1000000) : callS SP i_spec_l02Each [i64 N] h0 fun z h' => Ow h' z 1 (ic (List.replicate N 1)) ∧ Fr h0.length z ∧ Ext h0 h' := by
  apply spec_l02Each_call
  unfold spec_l02Each_main
  refine newS_ow (by rfl) fun v h2 ov lv vo e2 => ?_
  have x2 : Ext h0 h2 := by rw [e2]; exact Ext.app _ _
  refine spec_l02Each_rule0 _ _ _ (fun v j g => ∃ z : Nat, j = z ∧ z ≤ N ∧ Ow g v 1 (ic (List.replicate z 1)) ∧ Fr h0.length v ∧ Ext h0 g) (fun _ j _ => (N - j).toNat) ?_ _ _ ⟨0, rfl, by omega, ov, (fun o e => by rw [vo] at e; cases e; exact Nat.le_refl _), x2⟩
  rintro Z v _ g ⟨z, rfl, hz, ov, fv, x⟩ hZ
  unfold spec_l02Each_b0 spec_l02Each_C0
  refine bif_dec (fun hi => ?_) (fun hi => ⟨_, rfl, by rw [show N = z by omega]; exact ov, fv, x⟩)
  refine pushI ov (by simp; unfold lim; omega) fun v' g' ov' bv fv' => ?_
  rw [w64_of (by omega) (by omega)]
  refine hZ _ _ _ ⟨z + 1, by push_cast; rfl, by omega, by rw [List.replicate_succ']; exact ov', fv' _ fv x.len, x.but_ bv (fun o e => fv o e)⟩ (by omega)
end
section
variable {h0 : H} {c : Int} {s : Sl} {ts : List Tile} {a n : Int}
end
end Go.Proofs.Ytnamnpbkiibadaa.Cl

/- Recurrences of heights: the plain part, and the program's walk. No claim is stated here. -/
set_option linter.unusedVariables false
set_option linter.unusedSimpArgs false
namespace Go.Proofs.Ytnamnpbkiibadaa.Cl
open Go
/-! ### keys -/
def addKey (ks : List Int) (k : Int) : List Int := if k ∈ ks then ks else ks ++ [k]
def keysOf (es : List (Int × Int)) : List Int := es.foldl (fun ks e => addKey (addKey ks e.1) e.2) []
theorem addKey_nodup {ks : List Int} (h : ks.Nodup) (k : Int) : (addKey ks k).Nodup := by
  unfold addKey
  split
  · exact h
  · next hn => exact List.nodup_append.2 ⟨h, by simp, fun a ha b hb e => hn (by rw [List.mem_singleton.1 hb] at e; rw [← e]; exact ha)⟩
theorem mem_addKey {ks : List Int} {k x : Int} : x ∈ addKey ks k ↔ x ∈ ks ∨ x = k := by
  unfold addKey
  split
  · next h => exact ⟨.inl, fun h2 => h2.elim id fun e => by rw [e]; exact h⟩
  · simp
theorem keys_spec : ∀ (es : List (Int × Int)) (ks : List Int), ks.Nodup → (es.foldl (fun ks e => addKey (addKey ks e.1) e.2) ks).Nodup ∧ ∀ x, x ∈ es.foldl (fun ks e => addKey (addKey ks e.1) e.2) ks ↔ x ∈ ks ∨ ∃ e ∈ es, x = e.1 ∨ x = e.2
  | [], ks, h => ⟨h, fun x => by simp⟩
  | e :: es, ks, h => by
    obtain ⟨a, b⟩ := keys_spec es (addKey (addKey ks e.1) e.2) (addKey_nodup (addKey_nodup h _) _)
    refine ⟨a, fun x => ?_⟩
    rw [List.foldl_cons, b, mem_addKey, mem_addKey]
    simp only [List.mem_cons, exists_eq_or_imp, or_assoc]
theorem nodup_le : ∀ (l m : List Int), l.Nodup → (∀ x ∈ l, x ∈ m) → l.length ≤ m.length
  | [], _, _, _ => by simp
  | a :: l, m, h, hs => by
    have h1 := List.nodup_cons.1 h
    have hm : a ∈ m := hs a (by simp)
    have := nodup_le l (m.erase a) h1.2 fun x hx => (List.mem_erase_of_ne (fun e => h1.1 (by rw [← e]; exact hx))).2 (hs x (by simp [hx]))
    rw [List.length_erase_of_mem hm] at this
    have := List.length_pos_of_mem hm
    simp only [List.length_cons]
    omega
def ksE (ks : List Int) : List (AVal × AVal) := ks.map fun k => (i64 k, .bool true)
theorem mpPut_keys (k : Int) : ∀ ks : List Int, mpPut (i64 k) (.bool true) (ksE ks) = some (ksE (addKey ks k))
  | [] => rfl
  | a :: ks => by
    have ih := mpPut_keys k ks
    show mpPut (i64 k) (.bool true) ((i64 a, .bool true) :: ksE ks) = _
    have e : keyIs (i64 k) (i64 a) = some (k == a) := by unfold keyIs; simp
    unfold mpPut
    simp only [e]
    by_cases h : k = a
    · subst h
      simp only [beq_self_eq_true]
      unfold addKey
      rw [if_pos (by simp)]; rfl
    · rw [beq_eq_false_iff_ne.2 h]
      simp only [ih, Option.map_some]
      unfold addKey
      by_cases h2 : k ∈ ks
      · rw [if_pos h2, if_pos (by simp [h2])]; rfl
      · rw [if_neg h2, if_neg (by simp [h, h2])]; rfl
def MpK (h : H) (o : Nat) (ks : List Int) : Prop := h[o]? = some (.mp (ksE ks))
theorem MpK.lt {h o ks} (x : MpK h o ks) : o < h.length := (List.getElem?_eq_some_iff.1 x).1
theorem MpK.ext {h h' o ks} (x : MpK h o ks) (e : Ext h h') : MpK h' o ks := e.own x
theorem MpK.but {h h' o ks} {p : Option Nat} (x : MpK h o ks) (b : But p h h') (hn : p ≠ some o) : MpK h' o ks := b.get x hn
theorem mput_k {h : H} {o : Nat} {ks : List Int} (x : MpK h o ks) (k : Int) {K : H → Prop} (hk : ∀ h', MpK h' o (addKey ks k) → But (some o) h h' → h'.length = h.length → K h') : mput (.map (some o)) (i64 k) (.bool true) h K :=
  ⟨o, _, _, rfl, x, mpPut_keys k ks, hk _ (by unfold MpK; have := x.lt; simp [this]) ⟨by simp, fun i hi hne => by rw [List.getElem?_set, if_neg (fun e => hne (by rw [e]))]⟩ (by simp)⟩
theorem mlen_k {h : H} {o : Nat} {ks : List Int} (x : MpK h o ks) {K : Int → Prop} (hk : K (ks.length : Nat)) : mlen (.map (some o)) h K :=
  ⟨some o, ksE ks, rfl, by simp only [mapAt]; rw [show h[o]? = some (.mp (ksE ks)) from x], by rw [show (ksE ks).length = ks.length from List.length_map _]; exact hk⟩
/-! ### the numbers -/
def fM (x : Int) : Int := x % MD
theorem fitM : Fit fM 10006 := ⟨by decide, by decide, fun x _ => by have := emodMD x; unfold fM; have h2 : x % MD < 10007 := this.2; omega⟩
def gR (W : Nat) (t : List Int) (y : Int) : List Int × Bool := (t ++ [y], decide (((t.length + 1 : Nat) : Int) < 2 * (W : Int) + 2))
theorem runQ_R {es : List (Int × Int)} {N W : Nat} : ∀ (j m : Nat) (now out : List Int), 1 ≤ j → j ≤ m → out.length + j = 2 * W + 2 → runQ fM es N (gR W) m out now = out ++ seqL fM es N j now
  | 0, m, now, out, h, _, _ => by omega
  | j + 1, 0, now, out, _, h, _ => by omega
  | j + 1, m + 1, now, out, h1, h2, hn => by
    rw [runQ, seqL]
    generalize totL fM (stepL fM es N now) = y
    have e1 : (gR W out y).1 = out ++ [y] := rfl
    cases j with
    | zero =>
      have e2 : (gR W out y).2 = false := decide_eq_false (by omega)
      rw [if_neg (by rw [e2]; decide), e1]; rfl
    | succ j =>
      have e2 : (gR W out y).2 = true := decide_eq_true (by omega)
      rw [if_pos e2, e1, runQ_R (j + 1) m (stepL fM es N now) (out ++ [y]) (by omega) (by omega) (by simp; omega)]
      simp
theorem seqM_bm {es : List (Int × Int)} {N : Nat} : ∀ (k : Nat) (now : List Int), Bd 10006 now → Bm (seqL fM es N k now)
  | 0, _, _ => Bm.nil
  | k + 1, now, hb => fun x hx => by
    rw [seqL] at hx
    have hs := stepL_bd (es := es) (N := N) fitM hb
    rcases List.mem_cons.1 hx with rfl | hx
    · have := totL_bd fitM hs.1 _ (Nat.le_refl _)
      rw [List.take_length] at this
      exact ⟨this.1, Int.lt_of_le_of_lt this.2 (by decide)⟩
    · exact seqM_bm k _ hs.1 x hx
theorem sum_setI : ∀ (l : List Int) (i : Nat) (x : Int), i < l.length → (l.set i x).sum = l.sum - l.getD i 0 + x
  | [], i, x, h => by simp at h
  | a :: l, 0, x, _ => by simp; omega
  | a :: l, i + 1, x, h => by
    simp only [List.set_cons_succ, List.sum_cons, List.getD_cons_succ]
    rw [sum_setI l i x (by simpa using h)]; omega
theorem fold_mod : ∀ (l : List Int) (s : Int), l.foldl (fun s x => fM (s + x)) s % MD = (s + l.sum) % MD
  | [], s => by simp
  | a :: l, s => by
    rw [List.foldl_cons, fold_mod l, List.sum_cons]
    unfold fM
    rw [Int.emod_add_emod]
    congr 1; omega
theorem fold_ones {N : Nat} {now : List Int} (hone : ∀ i, i < N → now.getD i 0 = 1) : ∀ (es : List (Int × Int)) (nx : List Int), nx.length = N → (∀ e ∈ es, (0 ≤ e.1 ∧ e.1 < N) ∧ 0 ≤ e.2 ∧ e.2 < N) → (es.foldl (stp fM now) nx).sum % MD = (nx.sum + es.length) % MD
  | [], nx, _, _ => by simp
  | e :: es, nx, hl, he => by
    have h := he e (by simp)
    rw [List.foldl_cons, fold_ones hone es _ (by rw [stp_len, hl]) (fun e' h' => he e' (by simp [h']))]
    unfold stp
    rw [sum_setI _ _ _ (by omega), hone _ (by omega)]
    generalize nx.getD e.2.toNat 0 = y
    unfold fM
    simp only [List.length_cons]
    have hm : ((nx.sum - y + (y + 1) % MD) + (es.length : Int)) % MD = (nx.sum - y + (y + 1) + es.length) % MD := by
      unfold MD
      omega
    rw [hm]
    congr 1
    push_cast
    omega
theorem stepL_nil (N : Nat) (now : List Int) : stepL fM [] N now = List.replicate N 0 := rfl
theorem zeros_tot : ∀ N : Nat, totL fM (List.replicate N 0) = 0 := fun N => by
  unfold totL
  induction N with
  | zero => rfl
  | succ N ih => rw [List.replicate_succ, List.foldl_cons]; exact ih
theorem seqM_zero {N : Nat} : ∀ (k : Nat) (now : List Int) (i : Nat), (seqL fM [] N k now).getD i 0 = 0
  | 0, _, i => by simp [seqL]
  | k + 1, now, 0 => by rw [seqL, stepL_nil, zeros_tot]; rfl
  | k + 1, now, i + 1 => by rw [seqL, List.getD_cons_succ]; exact seqM_zero k _ i
theorem seqM_first {es : List (Int × Int)} {N k : Nat} (hes : ∀ e ∈ es, (0 ≤ e.1 ∧ e.1 < N) ∧ 0 ≤ e.2 ∧ e.2 < N) (h0 : 0 < es.length) (h5 : es.length ≤ 5000) : (seqL fM es N (k + 1) (List.replicate N 1)).getD 0 0 ≠ 0 := by
  rw [seqL]
  show totL fM (stepL fM es N (List.replicate N 1)) ≠ 0
  have hb := totL_bd fitM (stepL_bd (es := es) (N := N) fitM (bd_one (by decide) N)).1 _ (Nat.le_refl _)
  rw [List.take_length] at hb
  have h1 := fold_mod (stepL fM es N (List.replicate N 1)) 0
  have h2 := fold_ones (N := N) (now := List.replicate N 1) (fun i hi => by rw [List.getD_eq_getElem?_getD, List.getElem?_replicate, if_pos hi]; rfl) es (List.replicate N 0) (by simp) hes
  have h3 : (List.replicate N (0 : Int)).sum = 0 := by simp
  rw [h3] at h2
  intro e
  change (totL fM (stepL fM es N (List.replicate N 1))) % MD = _ at h1
  change (stepL fM es N (List.replicate N 1)).sum % MD = _ at h2
  rw [e, Int.zero_add, h2] at h1
  have : (0 : Int) % 10007 = (0 + (es.length : Int)) % 10007 := h1
  omega
/-- The numbers of a height, as many as its recurrence needs. -/
def recA (c : Int) (ts : List Tile) (n : Int) : List Int := seqL fM (colsOf c ts n) (c ^ n.toNat).toNat (2 * (keysOf (colsOf c ts n)).length + 2) (List.replicate (c ^ n.toNat).toNat 1)
noncomputable def codeR (c : Int) (ts : List Tile) (n : Int) : Int := if codeS c ts n ≠ 0 then codeS c ts n else if 40 < (keysOf (colsOf c ts n)).length then 3 else 0
noncomputable def F_RecurrenceOf_0 (c : Int) (ts : List Tile) (n : Int) : List Int := sel0 (codeR c ts n = 0) (runI (recA c ts n) (recA c ts n).length).now
theorem codeR_1 {c : Int} {ts : List Tile} {n : Int} (h : codeS c ts n ≠ 0) : codeR c ts n = codeS c ts n := by unfold codeR; rw [if_pos h]
theorem codeR_2 {c : Int} {ts : List Tile} {n : Int} (h : codeS c ts n = 0) (h2 : 40 < (keysOf (colsOf c ts n)).length) : codeR c ts n = 3 := by unfold codeR; rw [if_neg (by rw [h]; decide), if_pos h2]
theorem codeR_0 {c : Int} {ts : List Tile} {n : Int} (h : codeS c ts n = 0) (h2 : ¬ 40 < (keysOf (colsOf c ts n)).length) : codeR c ts n = 0 := by unfold codeR; rw [if_neg (by rw [h]; decide), if_neg h2]
theorem recA_bm (c : Int) (ts : List Tile) (n : Int) : Bm (recA c ts n) := seqM_bm _ _ (bd_one (by decide) _)
theorem recA_len (c : Int) (ts : List Tile) (n : Int) : (recA c ts n).length = 2 * (keysOf (colsOf c ts n)).length + 2 := by unfold recA; rw [seqL_len]
theorem RecurrenceOf_small0 {c : Int} {ts : List Tile} {n : Int} (sz : ts.length ≤ 1048576) (bn : i64ok n) : (F_RecurrenceOf_0 c ts n).length < 1000000 := by
  by_cases h : codeR c ts n = 0
  · rw [F_RecurrenceOf_0, sel0_yes h]
    have h1 := (si_run (recA_bm c ts n) (recA c ts n).length).ln
    have h2 := recA_len c ts n
    have : (keysOf (colsOf c ts n)).length ≤ 40 := by
      by_cases h3 : codeS c ts n = 0
      · by_cases h4 : 40 < (keysOf (colsOf c ts n)).length
        · rw [codeR_2 h3 h4] at h; cases h
        · omega
      · rw [codeR_1 h3] at h; exact absurd h h3
    omega
  · rw [F_RecurrenceOf_0, sel0_no h]; decide
section
variable {h0 : H} {c : Int} {s : Sl} {ts : List Tile} {n : Int}
set_option maxHeartbeats 1000000 in
theorem impl_RecurrenceOf_c (r : Rd h0 s 4 (tcs ts)) (sz : ts.length ≤ 1048576) (bn : i64ok n) :
    callV SP i_impl_RecurrenceOf [.agg (SetC c s), i64 n] h0 fun v h' => ∃ w, v = .tuple [.sl w, i64 (codeR c ts n)] ∧ Ow h' w 1 (ic (F_RecurrenceOf_0 c ts n)) ∧ Fr h0.length w ∧ Ext h0 h' := by
  have fin : ∀ {h' : H} (k : Int), codeR c ts n ≠ 0 → k = codeR c ts n → Ext h0 h' → ∃ w, AVal.tuple [.sl Sl.nil, i64 k] = .tuple [.sl w, i64 (codeR c ts n)] ∧ Ow h' w 1 (ic (F_RecurrenceOf_0 c ts n)) ∧ Fr h0.length w ∧ Ext h0 h' := fun k hq hk x =>
    ⟨_, by rw [hk], by rw [F_RecurrenceOf_0, sel0_no hq]; exact Ow.nil _ _, Fr.nil _, x⟩
  apply impl_RecurrenceOf_call
  unfold impl_RecurrenceOf_main
  refine newK_obj fun h1 o1 x1 l1 => ?_
  refine o1.ldA rfl ?_
  refine (stripOf_c (n := n) (r.ext x1) sz).to ?_
  rintro _ ha ⟨p, rfl, hp, xa⟩
  refine ⟨_, rfl, _, rfl, _, rfl, _, rfl, ?_⟩
  have Xa := x1.trans xa
  refine bif_ne (fun h2 => fin _ (by rw [codeR_1 h2]; exact h2) (codeR_1 h2).symm Xa) (fun h2 => ?_)
  obtain ⟨os, q, rfl, k⟩ := hp h2
  have ok := codeS_ok h2
  have hs := ok.set
  have T := hs.ts
  obtain ⟨H_, rfl⟩ : ∃ H_ : Nat, n = H_ := ⟨n.toNat, by have := ok.hh; omega⟩
  have hof : colsOf c ts (H_ : Int) = colP c ts H_ (-1) 0 0 := by unfold colsOf; rw [Int.toNat_natCast]
  rw [Int.toNat_natCast] at k
  have hln := ok.ln
  rw [hof, ← colsI_len T] at hln
  have hHH := ok.hh
  have hp1 := pow_small4 (n := H_) T.1 hs.1.2 (by omega)
  obtain ⟨N, hN⟩ : ∃ N : Nat, (N : Int) = c ^ H_ := ⟨(c ^ H_).toNat, by omega⟩
  have hce : colsOf c ts (H_ : Int) = (colsI c ts H_).map pr := by rw [hof, colsI_pr T]
  have hrec : recA c ts (H_ : Int) = seqL fM ((colsI c ts H_).map pr) N (2 * (keysOf ((colsI c ts H_).map pr)).length + 2) (List.replicate N 1) := by
    unfold recA
    rw [hce, Int.toNat_natCast, show (c ^ H_).toNat = N by omega]
  -- the map
  show newM ha _
  unfold newM
  have xb : Ext ha (ha ++ [.mp []]) := Ext.app _ _
  have mb : MpK (ha ++ [.mp []]) ha.length [] := by unfold MpK ksE; simp
  generalize ehb : ha ++ [AObj.mp []] = hb at xb mb
  have lb : hb.length = ha.length + 1 := by rw [← ehb]; simp
  refine newO_var fun hc vc xc lc => ?_
  show Cl.st1 (pt hb.length) (.map (some ha.length)) hc _
  refine vc.st _ fun hd vd bd ld => ?_
  have xd : Ext hb hd := xc.but_ bd (some_le (Nat.le_refl _))
  have Xd := Xa.trans (xb.trans xd)
  have md := mb.ext xd
  have kd := k.ext (xb.trans xd)
  refine ⟨rfl, isPt_in (kd.o.ldS (i := 4) rfl rfl ?_)⟩
  have hql := k.len
  have hcb : ∀ e ∈ (colsI c ts H_).map pr, (0 ≤ e.1 ∧ e.1 < N) ∧ 0 ≤ e.2 ∧ e.2 < N := fun e he => by
    rw [colsI_pr T] at he
    have := colP_bound T H_ (-1) 0 0 1 (by omega) (by omega) e he
    rw [Int.one_mul, ← hN] at this
    exact this
  refine impl_RecurrenceOf_rule0 _ _ _ _ _ _ (fun j g => ∃ z : Nat, j = z ∧ z ≤ (colsI c ts H_).length ∧ MpK g ha.length (keysOf (((colsI c ts H_).map pr).take z)) ∧ Var g hb.length (.map (some ha.length)) ∧ Ext ha g ∧ hd.length ≤ g.length) (fun j _ => ((colsI c ts H_).length - j).toNat) ?_ _ ⟨0, rfl, by omega, md, vd, xb.trans xd, Nat.le_refl _⟩
  rintro X _ g ⟨z, rfl, hz, mg, vg, xg, lg⟩ hX
  unfold impl_RecurrenceOf_b0
  refine bif_dec (fun hi => ?_) (fun hi => ?_)
  · have hzc : z < (colsI c ts H_).length := by omega
    refine (k.ext xg).cols.rd.ldC hzc ?_
    have htk : ((colsI c ts H_).map pr).take (z + 1) = ((colsI c ts H_).map pr).take z ++ [((colsI c ts H_)[z].1, (colsI c ts H_)[z].2.1)] := by
      rw [List.take_add_one, List.getElem?_map, List.getElem?_eq_getElem hzc]; rfl
    generalize (colsI c ts H_)[z] = x3 at htk ⊢
    refine newO_obj fun g3 og3 y3 m3 => ?_
    refine og3.stA fun g4 og4 b4 m4 => ?_
    have y4 : Ext g g4 := y3.but_ b4 (some_le (Nat.le_refl _))
    have m4' := mg.ext y4
    have v4 := vg.ext y4
    have hml := mg.lt
    have hvl := vg.lt
    refine v4.ldV ?_
    have rdc : ∀ {i : Nat} {K : Pt → Int → Prop} (hi : i < 3), (∀ p, cell g4 p = some (i64 ([x3.1, x3.2.1, x3.2.2].getD i 0)) → p.o = some g.length → K p ([x3.1, x3.2.1, x3.2.2].getD i 0)) → ixA ⟨some g.length, 3, 0⟩ 3 1 (i : Int) fun p => Cl.ldI .i64 p g4 (K p) := fun {i K} hi hk => by
      refine ⟨⟨by omega, by omega⟩, rfl, ?_⟩
      have hce : cell g4 (Pt.add ⟨some g.length, 3, 0⟩ ((i : Int).toNat * 1)) = some (i64 ([x3.1, x3.2.1, x3.2.2].getD i 0)) := by
        match i, hi with
        | 0, _ => exact og4.cellE (i := 0) rfl
        | 1, _ => exact og4.cellE (i := 1) rfl
        | 2, _ => exact og4.cellE (i := 2) rfl
      exact ⟨_, hce, hk _ hce rfl⟩
    refine rdc (i := 0) (by omega) fun p6 _ _ => ?_
    refine v4.ldV ?_
    refine rdc (i := 1) (by omega) fun p9 hp9 po9 => ?_
    show mput (.map (some ha.length)) (i64 x3.1) (.bool true) g4 _
    refine mput_k m4' _ fun g5 m5 b5 n5 => ?_
    have v5 := v4.but b5 (fun e => by have := Option.some.inj e; omega)
    refine ⟨b5.cellE hp9 (.inl (by rw [po9]; exact sneS (by omega))), by rw [v5.cell, v4.cell], ?_⟩
    show mput (.map (some ha.length)) (i64 x3.2.1) (.bool true) g5 _
    refine mput_k m5 _ fun g6 m6 b6 n6 => ?_
    have v6 := v5.but b6 (fun e => by have := Option.some.inj e; omega)
    have hy := y4.len
    rw [w64_of (n := (z : Int) + 1) (by omega) (by omega)]
    refine hX _ _ ⟨z + 1, by push_cast; rfl, hzc, ?_, v6, ((xg.trans y4).but_ b5 (some_le (Nat.le_refl _))).but_ b6 (some_le (Nat.le_refl _)), by omega⟩ (by omega)
    have ek : keysOf (((colsI c ts H_).map pr).take (z + 1)) = addKey (addKey (keysOf (((colsI c ts H_).map pr).take z)) x3.1) x3.2.1 := by
      rw [htk]; unfold keysOf; rw [List.foldl_append]; rfl
    rw [ek]; exact m6
  have hzl : z = (colsI c ts H_).length := by omega
  subst hzl
  rw [List.take_of_length_le (by simp)] at mg
  unfold impl_RecurrenceOf_C0
  have hWe : keysOf (colsOf c ts (H_ : Int)) = keysOf ((colsI c ts H_).map pr) := by rw [hce]
  refine vg.ldV ?_
  refine mlen_k mg ?_
  have Xg := Xa.trans xg
  refine bif_dec (fun hw => ?_) (fun hw => ?_)
  · have hQ := codeR_2 h2 (by rw [hWe]; omega)
    exact fin 3 (by rw [hQ]; decide) hQ.symm Xg
  have hQ := codeR_0 h2 (by rw [hWe]; omega)
  generalize hW : (keysOf ((colsI c ts H_).map pr)).length = W at hw hrec
  refine newS_ow (by rfl) fun u h18 ou lu uo e18 => ?_
  have x18 : Ext g h18 := by rw [e18]; exact Ext.app _ _
  have l18 : h18.length = g.length + 1 := by rw [e18]; simp
  refine newO_var fun h20 v20 x20 l20 => ?_
  refine v20.st _ fun h24 v24 b24 l24 => ?_
  have x24 : Ext g h24 := x18.trans (x20.but_ b24 (some_le (Nat.le_refl _)))
  have ou24 : Ow h24 u 1 (ic []) := (ou.ext x20).but b24 (.inl (by rw [uo]; exact sneS (by omega)))
  have X24 : Ext ha h24 := xg.trans x24
  have hgl := xg.len
  have hml := mg.lt
  have hvl := vg.lt
  let I : List Int → H → Prop := fun t h => ∃ u, Var h h18.length (.sl u) ∧ Ow h u 1 (ic t) ∧ u.o = some g.length ∧ Var h hb.length (.map (some ha.length)) ∧ MpK h ha.length (keysOf ((colsI c ts H_).map pr))
  have hinit : I [] h24 := ⟨u, v24, ou24, uo, vg.ext x24, mg.ext x24⟩
  let R := runQ fM ((colsI c ts H_).map pr) N (gR W) (2 * W + 3) [] (List.replicate N 1)
  have hrun := runQ_R (es := (colsI c ts H_).map pr) (N := N) (W := W) (2 * W + 2) (2 * W + 3) (List.replicate N 1) [] (by omega) (by omega) (by simp)
  rw [← hrec, List.nil_append] at hrun
  apply impl_strip_sequence_call
  unfold impl_strip_sequence_main
  refine newS_ow (by rfl) fun z g1 oz lz zo e1 => ?_
  have y1 : Ext h24 g1 := by rw [e1]; exact Ext.app _ _
  have k1 := k.ext (X24.trans y1)
  refine ⟨rfl, isPt_in (k1.o.ldI (i := 3) rfl rfl ?_)⟩
  refine (repeatI_c oz.rd (by omega) (by omega)).to ?_
  rintro w g3 ⟨ow, fw, y3⟩
  have hrep : List.replicate (c ^ H_).toNat (i64 1) = ic (List.replicate N 1) := by rw [show (c ^ H_).toNat = N by omega]; simp [ic, List.map_replicate]
  rw [hrep] at ow
  have y1l := y1.len
  have y3l := y3.len
  have Y3 := y1.trans y3
  have X24l := X24.len
  have till : ∀ t h h', I t h → Till h24.length h h' → I t h' := fun t h h' ⟨u, a1, a2, a3, a4, a5⟩ tl => ⟨u, a1.till tl (by omega), (by
    obtain ⟨p, q⟩ | ⟨o, p, b, cc, d, e⟩ := a2.at_
    · exact ⟨a2.len, .inl ⟨p, q⟩⟩
    · exact ⟨a2.len, .inr ⟨o, p, b, cc, d, tl.get e (by rw [a3] at p; have := Option.some.inj p; omega)⟩⟩), a3, a4.till tl (by omega), tl.get a5 (by omega)⟩
  refine seqLoop (σ := List Int) (g := gR W) (I := I) (J := fun t => ((t.length : Nat) : Int) < 2 * (W : Int) + 2) (n1 := h24.length) (capf := []) (capv := [.ptr (pt h18.length), .ptr (pt hb.length)]) k T hs.1.2 (by omega) hN fitM hln ?_ till (by omega) (fun t y f => ?_) ?_ (fun t => 2 * W + 2 - t.length) (fun t y f => ?_) (R := R) ?_ (2 * W + 3) [] (List.replicate N 1) w g3 (by simp) rfl (bd_one (by decide) N) (by simp) ow (fw.le (by omega)) (by show ((([] : List Int).length : Nat) : Int) < _; simp; omega) (till _ _ _ hinit (Y3.till _)) (X24.trans Y3) (by omega)
  · intro x h K _ _ hk
    exact modulo_k hk
  · simp only [gR, decide_eq_true_eq] at f ⊢
    simp only [List.length_append, List.length_singleton]
    exact f
  · rintro t y h' jt ⟨u, i1, i2, i3, i4, i5⟩ y0 yB x hh
    have jt' : ((t.length : Nat) : Int) < 2 * (W : Int) + 2 := jt
    have hul := i2.rd.ilen
    apply impl_RecurrenceOf_1_call
    unfold impl_RecurrenceOf_1_main
    refine i1.ldS ?_
    refine pushI4 i2 (by unfold lim; omega) fun u' g4 ou' bu ku => ?_
    rw [i3] at bu
    have huo := ku _ i3
    have hul' := ou'.rd.ilen
    have i14 := i1.but bu (sneS (by omega))
    refine i14.st _ fun g5 j5 b5 l5 => ?_
    have v5 := (i4.but bu (sneS (by omega))).but b5 (sneS (by omega))
    have m5 := (i5.but bu (sneS (by omega))).but b5 (sneS (by omega))
    refine j5.ldS (v5.ldV (mlen_k m5 ?_))
    rw [hW, w64_of (n := 2 * (W : Int)) (by omega) (by omega), w64_of (n := 2 * (W : Int) + 2) (by omega) (by omega)]
    have CG : Chg (fun i => ha.length ≤ i ∧ i < h24.length) h' g5 := (bu.chg fun i e => by have := Option.some.inj e; omega).trans (b5.chg fun i e => by have := Option.some.inj e; omega)
    refine ⟨_, rfl, ?_, ⟨u', j5, ou'.but b5 (.inl (by rw [huo]; exact sneS (by omega))), huo, v5, m5⟩, CG⟩
    show decide ((u'.len : Int) < 2 * (W : Int) + 2) = decide (((t.length + 1 : Nat) : Int) < 2 * (W : Int) + 2)
    rw [hul', List.length_append, List.length_singleton]
  · simp only [gR, decide_eq_true_eq] at f ⊢
    simp only [List.length_append, List.length_singleton]
    omega
  · rintro h' ⟨u, i1, i2, i3, i4, i5⟩ x
    have hR : R = recA c ts (H_ : Int) := hrun
    rw [hR] at i2
    refine i1.ldS ?_
    have hlen := recA_len c ts (H_ : Int)
    rw [hWe, hW] at hlen
    refine (impl_shortest_c (recA_bm c ts (H_ : Int)) (by omega) i2.rd).to ?_
    rintro v g9 ⟨ov, fv, x9⟩
    have hxl := (Xa.trans x).len
    refine ⟨v, by rw [hQ], ?_, fv.le hxl, (Xa.trans x).trans x9⟩
    rw [F_RecurrenceOf_0, sel0_yes hQ]
    exact ov
end
end Go.Proofs.Ytnamnpbkiibadaa.Cl

/- Recurrences of heights: the reference's walk. No claim is stated here. -/
set_option linter.unusedVariables false
set_option linter.unusedSimpArgs false
namespace Go.Proofs.Ytnamnpbkiibadaa.Cl
open Go
def wl (es : List (Int × Int)) : List Int := es.flatMap fun e => [e.1, e.2]
theorem wl_len : ∀ es, (wl es).length = 2 * es.length
  | [] => rfl
  | e :: es => by
    have := wl_len es
    unfold wl at *
    rw [List.flatMap_cons, List.length_append, this]
    simp; omega
theorem mem_wl {es : List (Int × Int)} {x : Int} : x ∈ wl es ↔ ∃ e ∈ es, x = e.1 ∨ x = e.2 := by
  unfold wl
  simp [List.mem_flatMap]
theorem sorted_keys {es : List (Int × Int)} {l : List Int} (ha : Asc l) (hm : ∀ x, x ∈ l ↔ x ∈ wl es) : l.length = (keysOf es).length := by
  obtain ⟨a, b⟩ := keys_spec es [] List.nodup_nil
  have hb : ∀ x, x ∈ keysOf es ↔ x ∈ l := fun x => by
    rw [hm, mem_wl]
    exact (b x).trans ⟨fun h => h.elim (fun h => by cases h) id, .inr⟩
  have hn : l.Nodup := List.Pairwise.imp (fun h e => by omega) ha
  have h1 := nodup_le l (keysOf es) hn fun x hx => (hb x).2 hx
  have h2 := nodup_le (keysOf es) l a fun x hx => (hb x).1 hx
  omega
section
variable {h0 : H} {c : Int} {s : Sl} {ts : List Tile} {n : Int}
set_option maxHeartbeats 1000000 in
theorem spec_RecurrenceOf_c (r : Rd h0 s 4 (tcs ts)) (sz : ts.length ≤ 1048576) (bn : i64ok n) :
    callV SP i_spec_RecurrenceOf [.agg (SetC c s), i64 n] h0 fun v h' => ∃ w, v = .tuple [.sl w, i64 (codeR c ts n)] ∧ Ow h' w 1 (ic (F_RecurrenceOf_0 c ts n)) ∧ Fr h0.length w ∧ Ext h0 h' := by
  have fin : ∀ {h' : H} (k : Int), codeR c ts n ≠ 0 → k = codeR c ts n → Ext h0 h' → ∃ w, AVal.tuple [.sl Sl.nil, i64 k] = .tuple [.sl w, i64 (codeR c ts n)] ∧ Ow h' w 1 (ic (F_RecurrenceOf_0 c ts n)) ∧ Fr h0.length w ∧ Ext h0 h' := fun k hq hk x =>
    ⟨_, by rw [hk], by rw [F_RecurrenceOf_0, sel0_no hq]; exact Ow.nil _ _, Fr.nil _, x⟩
  apply spec_RecurrenceOf_call
  unfold spec_RecurrenceOf_main
  refine newK_obj fun h1 o1 x1 l1 => ?_
  refine o1.ldA rfl ?_
  refine (l06Code_c (n := n) (r.ext x1) sz).to ?_
  rintro _ h3 ⟨u, rfl, hu, hu0, x3⟩
  refine ⟨_, rfl, _, rfl, _, rfl, _, rfl, ?_⟩
  have X3 := x1.trans x3
  refine bif_ne (fun h2 => fin _ (by rw [codeR_1 h2]; exact h2) (codeR_1 h2).symm X3) (fun h2 => ?_)
  have ok := codeS_ok h2
  have hs := ok.set
  have T := hs.ts
  obtain ⟨H_, rfl⟩ : ∃ H_ : Nat, n = H_ := ⟨n.toNat, by have := ok.hh; omega⟩
  have hHH := ok.hh
  have hof : colsOf c ts (H_ : Int) = colP c ts H_ (-1) 0 0 := by unfold colsOf; rw [Int.toNat_natCast]
  have hp1 := pow_small4 (n := H_) T.1 hs.1.2 (by omega)
  obtain ⟨N, hN⟩ : ∃ N : Nat, (N : Int) = c ^ H_ := ⟨(c ^ H_).toNat, by omega⟩
  have rdu := hu h2
  rw [Int.toNat_natCast] at rdu
  have hln := ok.ln
  rw [hof, ← lay_len] at hln
  change (layN c ts H_ lay0).length ≤ 5000 at hln
  have hce : colsOf c ts (H_ : Int) = (layN c ts H_ lay0).map pr := by rw [hof]; exact (lay_pr H_).symm
  have hcb : ∀ e ∈ (layN c ts H_ lay0).map pr, (0 ≤ e.1 ∧ e.1 < N) ∧ 0 ≤ e.2 ∧ e.2 < N := fun e he => by
    rw [← hce, hof] at he
    have := colP_bound T H_ (-1) 0 0 1 (by omega) (by omega) e he
    rw [Int.one_mul, ← hN] at this
    exact this
  have hrec : recA c ts (H_ : Int) = seqL fM ((layN c ts H_ lay0).map pr) N (2 * (keysOf ((layN c ts H_ lay0).map pr)).length + 2) (List.replicate N 1) := by
    unfold recA
    rw [hce, Int.toNat_natCast, show (c ^ H_).toNat = N by omega]
  generalize hL : layN c ts H_ lay0 = L at *
  have hul := rdu.len
  rw [col3_len] at hul
  -- a row of the columns
  have row : ∀ {g : H} {i : Nat} {K : Sl → Prop} (hi : i < L.length), Ext h3 g → (∀ v, Rd g v 1 (ic [L[i].1, L[i].2.1, L[i].2.2]) → K v) → ixS u 1 (i : Int) fun p => Cl.ldS p g K := fun {g i K} hi x hk =>
    (rdu.ext x).ldG (by omega) (by rw [col3_len]; omega) fun v rv lv => by
      rw [Int.toNat_natCast, col3_row hi] at rv
      exact hk v rv
  have at0 : ∀ {g : H} {v : Sl} {i : Nat} {hi : i < L.length} {K : Int → Prop}, Rd g v 1 (ic [L[i].1, L[i].2.1, L[i].2.2]) → K L[i].1 → ixS v 1 0 fun p => Cl.ldI .i64 p g K := fun {g v i hi K} rv hk => rv.ldG (by omega) (by simp) hk
  have at1 : ∀ {g : H} {v : Sl} {i : Nat} {hi : i < L.length} {K : Int → Prop}, Rd g v 1 (ic [L[i].1, L[i].2.1, L[i].2.2]) → K L[i].2.1 → ixS v 1 1 fun p => Cl.ldI .i64 p g K := fun {g v i hi K} rv hk => rv.ldG (by omega) (by simp) hk
  have htk : ∀ z (hz : z < L.length), (L.map pr).take (z + 1) = (L.map pr).take z ++ [(L[z].1, L[z].2.1)] := fun z hz => by
    rw [List.take_add_one, List.getElem?_map, List.getElem?_eq_getElem hz]; rfl
  refine (o1.ext x3).ldA rfl ?_
  refine (l06Size_c (s := s) T.1 hs.1.2 (H_ := H_) (by omega)).to ?_
  rintro _ h8 ⟨rfl, x8⟩
  rw [← hN]
  refine newS_ow (by rfl) fun ws h13 ow13 lw13 wo13 e13 => ?_
  have x13 : Ext h8 h13 := by rw [e13]; exact Ext.app _ _
  refine spec_RecurrenceOf_rule0 _ _ _ _ (fun s9 i g => ∃ z : Nat, i = z ∧ z ≤ L.length ∧ Ow g s9 1 (ic (wl ((L.map pr).take z))) ∧ s9.o = some h8.length ∧ Ext h8 g) (fun _ i _ => (L.length - i).toNat) ?_ _ _ ⟨0, rfl, by omega, ow13, wo13, x13⟩
  rintro X s9 _ g ⟨z, rfl, hz, ow9, wo9, xg⟩ hX
  unfold spec_RecurrenceOf_b0
  have x3g := x8.trans xg
  have hwl := ow9.rd.ilen
  rw [wl_len, List.length_take, List.length_map] at hwl
  refine bif_dec (fun hi => ?_) (fun hi => ?_)
  · have hzl : z < L.length := by omega
    refine row hzl x3g fun v rv => at0 (hi := hzl) rv (row hzl x3g fun v2 rv2 => at1 (hi := hzl) rv2 ?_)
    refine newS_ow (by rfl) fun t h9 ot tl to e9 => ?_
    have x9 : Ext g h9 := by rw [e9]; exact Ext.app _ _
    refine app_ow (by omega) (ow9.ext x9) ot.rd (by rw [tl, hwl]; unfold lim; omega) fun s' g2 o2 l2 b2 k2 _ => ?_
    rw [wo9] at b2
    rw [w64_of (n := (z : Int) + 1) (by omega) (by omega)]
    refine hX _ _ _ ⟨z + 1, by push_cast; rfl, hzl, ?_, k2 _ wo9, (xg.trans x9).but_ b2 (some_le (Nat.le_refl _))⟩ (by omega)
    rw [htk z hzl]
    unfold wl
    rw [List.flatMap_append, ic_app]
    exact o2
  have hzl : z = L.length := by omega
  subst hzl
  rw [List.take_of_length_le (by simp)] at ow9
  unfold spec_RecurrenceOf_C0
  have X8g := X3.trans x3g
  refine (sortedD_c _ _ _ _ (Nat.le_refl _) (by rw [wl_len, List.length_map]; omega) ow9.rd).to ?_
  rintro sv g1 ⟨l', rl, hasc, hmem, hlle, _, y1⟩
  have hll := rl.ilen
  have hsk := sorted_keys hasc hmem
  have hWe : keysOf (colsOf c ts (H_ : Int)) = keysOf (L.map pr) := by rw [hce]
  refine bif_dec (fun hw => ?_) (fun hw => ?_)
  · have hQ := codeR_2 h2 (by rw [hWe]; omega)
    exact fin 3 (by rw [hQ]; decide) hQ.symm (X8g.trans y1)
  have hQ := codeR_0 h2 (by rw [hWe]; omega)
  generalize hW : (keysOf (L.map pr)).length = W at *
  refine (l02Each_c (N := N) (by omega)).to ?_
  rintro w g2 ⟨ow, fw, y2⟩
  refine newS_ow (by rfl) fun zl g3 oz lz zo e3 => ?_
  have y3 : Ext g2 g3 := by rw [e3]; exact Ext.app _ _
  have lg3 : g3.length = g2.length + 1 := by rw [e3]; simp
  have Y3 := x3g.trans (y1.trans (y2.trans y3))
  have Y2 := x3g.trans (y1.trans y2)
  refine spec_RecurrenceOf_rule2 _ _ _ _ _ (fun w z i g => ∃ (k : Nat) (now out : List Int), i = k ∧ k ≤ 2 * W + 2 ∧ Rd g w 1 (ic now) ∧ now.length = N ∧ Bd 10006 now ∧ Ow g z 1 (ic out) ∧ z.o = some g2.length ∧ w.o ≠ some g2.length ∧ out.length = k ∧ recA c ts (H_ : Int) = out ++ seqL fM (L.map pr) N (2 * W + 2 - k) now ∧ Ext g2 g ∧ g3.length ≤ g.length) (fun _ _ i _ => (2 * W + 2 - i).toNat) ?_ _ _ _
    ⟨0, List.replicate N 1, [], rfl, by omega, ow.rd.ext y3, by simp, bd_one (by decide) N, oz, zo, (fun e => by have := ow.lt e; omega), rfl, by rw [hrec]; simp, y3, Nat.le_refl _⟩
  rintro Y w z _ g4 ⟨k, now, out, rfl, hk, rw4, hnl, hbd, oz4, zo4, hwz, hol, hseq, xg4, gl4⟩ hY
  unfold spec_RecurrenceOf_b2
  have hzl4 := oz4.lt zo4
  rw [hll, w64_of (n := 2 * (l'.length : Int)) (by omega) (by omega), w64_of (n := 2 * (l'.length : Int) + 2) (by omega) (by omega)]
  have hwl4 := rw4.ilen
  refine bif_dec (fun hi4 => ?_) (fun hi4 => ?_)
  rotate_left
  · have hk2 : k = 2 * W + 2 := by omega
    rw [hk2, Nat.sub_self, seqL, List.append_nil] at hseq
    rw [← hseq] at oz4
    unfold spec_RecurrenceOf_C2
    have hlen := recA_len c ts (H_ : Int)
    rw [hWe, hW] at hlen
    refine (l06Shortest_c (recA_bm c ts (H_ : Int)) (by omega) oz4.rd).to ?_
    rintro v g9 ⟨ov, fv, x9⟩
    have Xall := X3.trans (Y2.trans xg4)
    refine ⟨v, by rw [hQ], ?_, fv.le Xall.len, Xall.trans x9⟩
    rw [F_RecurrenceOf_0, sel0_yes hQ, ← shortest_eq (fun i => (recA_bm c ts (H_ : Int)).at i) ?_ (by omega)]
    · exact ov
    · rcases Nat.eq_zero_or_pos (L.map pr).length with e | e
      · left
        intro i
        rw [hrec, List.length_eq_zero_iff.1 e]
        exact seqM_zero _ _ _
      · right
        rw [hrec, show 2 * W + 2 = (2 * W + 1) + 1 from rfl]
        exact seqM_first hcb e (by rw [List.length_map]; exact hln)
  have hkl : k < 2 * W + 2 := by omega
  refine mkS_ow (by omega) (by unfold lim; omega) fun v g5 ov lv vo e5 => ?_
  have x5 : Ext g4 g5 := by rw [e5]; exact Ext.app _ _
  rw [show (List.replicate (N : Int).toNat [i64 0]).flatten = ic (List.replicate N 0) from by rw [Int.toNat_natCast]; unfold ic; rw [List.map_replicate]; simp] at ov
  have r5 := rw4.ext x5
  have o5 := oz4.ext x5
  generalize hes : L.map pr = es at *
  have hel : es.length = L.length := by rw [← hes]; simp
  refine spec_RecurrenceOf_rule4 _ _ Y _ _ _ _ _ _ _ _ (fun j g' => ∃ q : Nat, j = q ∧ q ≤ es.length ∧ Ow g' v 1 (ic ((es.take q).foldl (stp fM now) (List.replicate N 0))) ∧ Ext g4 g') (fun j _ => (es.length - j).toNat) ?_ _ ⟨0, rfl, by omega, ov, x5⟩
  rintro Z _ g6 ⟨q, rfl, hq, ov6, x6⟩ hZ
  unfold spec_RecurrenceOf_b4
  have hfold := fold_stp fitM hbd (es.take q) (List.replicate N 0) (bd_zero fitM.b0 N)
  have hvl := ov6.rd.ilen
  rw [hfold.2, List.length_replicate] at hvl
  have x36 := Y2.trans (xg4.trans x6)
  refine bif_dec (fun hi6 => ?_) (fun hi6 => ?_)
  · have hqe : q < es.length := by omega
    have hqL : q < L.length := by omega
    have hez : es[q] = (L[q].1, L[q].2.1) := by
      simp only [← hes]
      simp [pr]
    have hb' := hcb es[q] (List.getElem_mem hqe)
    rw [hez] at hb'
    simp only at hb'
    refine row hqL x36 fun v1 rv1 => at1 (hi := hqL) rv1 (row hqL x36 fun v2 rv2 => at1 (hi := hqL) rv2 ?_)
    refine ov6.rd.ldG hb'.2.1 (by rw [hfold.2]; simp; omega) ?_
    refine row hqL x36 fun v3 rv3 => at0 (hi := hqL) rv3 ?_
    refine (rw4.ext x6).ldG hb'.1.1 (by omega) ?_
    have q1 := hfold.1 L[q].2.1.toNat
    have q2 := hbd L[q].1.toNat
    rw [w64_of (by omega) (by omega), tmod_nn (by omega)]
    refine ⟨by decide, ?_⟩
    refine ov6.stI hb'.2.1 (by omega) _ fun g7 o7 b7 l7 => ?_
    rw [w64_of (n := (q : Int) + 1) (by omega) (by omega)]
    refine hZ _ _ ⟨q + 1, by push_cast; rfl, by omega, ?_, x6.but_ b7 fun o e => by rw [vo] at e; cases e; exact Nat.le_refl _⟩ (by omega)
    rw [foldl_take _ _ hqe, hez]
    exact o7
  have hqe : q = es.length := by omega
  subst hqe
  rw [List.take_length] at ov6
  have hst := stepL_bd fitM (es := es) (N := N) hbd
  change Ow g6 v 1 (ic (stepL fM es N now)) at ov6
  unfold spec_RecurrenceOf_C4
  refine spec_RecurrenceOf_rule6 _ _ Y _ _ _ _ _ _ (fun a j g' => ∃ z : Nat, j = z ∧ z ≤ (stepL fM es N now).length ∧ a = ((stepL fM es N now).take z).foldl (fun s x => fM (s + x)) 0 ∧ g' = g6) (fun _ j _ => ((stepL fM es N now).length - j).toNat) ?_ _ _ ⟨0, rfl, by omega, rfl, rfl⟩
  rintro V _ _ g' ⟨m, rfl, hm, rfl, eg⟩ hV
  rw [eg]
  unfold spec_RecurrenceOf_b6
  have ht := totL_bd fitM hst.1 m hm
  have hs2 := hst.2
  refine bif_dec (fun hi7 => ?_) (fun hi7 => ?_)
  · have hml : m < (stepL fM es N now).length := by omega
    have q1 := hst.1 m
    refine ov6.rd.ldG (by omega) (by omega) ?_
    rw [Int.toNat_natCast, w64_of (by omega) (by omega), tmod_nn (by omega), w64_of (n := (m : Int) + 1) (by omega) (by omega)]
    refine ⟨by decide, hV _ _ _ ⟨m + 1, by push_cast; rfl, hml, ?_, rfl⟩ (by omega)⟩
    rw [foldl_take _ _ hml, List.getD_eq_getElem?_getD, List.getElem?_eq_getElem hml]
    rfl
  have hml : m = (stepL fM es N now).length := by omega
  subst hml
  rw [List.take_length]
  unfold spec_RecurrenceOf_C6 spec_RecurrenceOf_C3
  have x46 := x6.len
  refine pushI4 (oz4.ext x6) (by unfold lim; omega) fun z' g8 o8 b8 k8 => ?_
  rw [zo4] at b8
  rw [w64_of (n := (k : Int) + 1) (by omega) (by omega)]
  have hvo : v.o ≠ some g2.length := by rw [vo]; exact sneS (by omega)
  refine hY _ _ _ _ ⟨k + 1, stepL fM es N now, out ++ [totL fM (stepL fM es N now)], by push_cast; rfl, by omega, ov6.rd.but b8 (.inl (Ne.symm hvo)), hst.2, hst.1, o8, k8 _ zo4, hvo, by simp [hol], ?_, (xg4.trans x6).but_ b8 (some_le (Nat.le_refl _)), ?_⟩ (by omega)
  · rw [hseq, show 2 * W + 2 - k = (2 * W + 2 - (k + 1)) + 1 by omega, seqL]
    simp
  · have := b8.1; omega
end
end Go.Proofs.Ytnamnpbkiibadaa.Cl

/- What the arguments of a law are. No claim is stated here. -/
set_option linter.unusedVariables false
set_option linter.unusedSimpArgs false
namespace Go.Proofs.Ytnamnpbkiibadaa.Cl
open Go
theorem den_int {P : Program} {h : H} {t : TypeId} {xs : List AVal} {pd : PD} {k : IntKind} (hu : P.underlying t = some (.int k)) (d : Den P h t xs pd) : ∃ n, xs = [.int k n] ∧ (Lit.int k n).wf = true := by
  cases d with
  | int a b => rw [hu] at a; cases a; exact ⟨_, rfl, b⟩
  | bool a => rw [hu] at a; cases a
  | arr a => rw [hu] at a; cases a
  | struct a => rw [hu] at a; cases a
  | sl a => rw [hu] at a; cases a
theorem den_tile {P : Program} {h : H} {t e : TypeId} {xs : List AVal} {pd : PD} (hu : P.underlying t = some (.array 4 e)) (he : P.underlying e = some (.int .i64)) (d : Den P h t xs pd) : ∃ t : Tile, xs = tc t := by
  cases d with
  | int a b => rw [hu] at a; cases a
  | bool a => rw [hu] at a; cases a
  | @arr t n e' ass ds a b c d =>
    rw [hu] at a; cases a
    match ass, ds, b, c, d with
    | [a0, a1, a2, a3], [d0, d1, d2, d3], _, _, d =>
      obtain ⟨n0, rfl, _⟩ := den_int he (d 0 a0 d0 rfl rfl)
      obtain ⟨n1, rfl, _⟩ := den_int he (d 1 a1 d1 rfl rfl)
      obtain ⟨n2, rfl, _⟩ := den_int he (d 2 a2 d2 rfl rfl)
      obtain ⟨n3, rfl, _⟩ := den_int he (d 3 a3 d3 rfl rfl)
      exact ⟨(n0, n1, n2, n3), rfl⟩
  | struct a => rw [hu] at a; cases a
  | sl a => rw [hu] at a; cases a
theorem den_sl {P : Program} {h : H} {t e : TypeId} {xs : List AVal} {pd : PD} (hu : P.underlying t = some (.slice e)) (d : Den P h t xs pd) : ∃ (s : Sl) (ass : List (List AVal)) (ds : List PD), xs = [.sl s] ∧ ass.length = s.len ∧ ds.length = s.len ∧ s.len ≤ maxLen ∧ Rd h s (P.cellsOf e) ass.flatten ∧ ∀ (i : Nat) a d, ass[i]? = some a → ds[i]? = some d → Den P h e a d := by
  cases d with
  | int a b => rw [hu] at a; cases a
  | bool a => rw [hu] at a; cases a
  | arr a => rw [hu] at a; cases a
  | struct a => rw [hu] at a; cases a
  | sl a b c d e f => rw [hu] at a; cases a; exact ⟨_, _, _, rfl, b, c, d, e, f⟩
theorem all_tiles {P : Program} {h : H} {t e : TypeId} (hu : P.underlying t = some (.array 4 e)) (he : P.underlying e = some (.int .i64)) : ∀ (ass : List (List AVal)) (ds : List PD), ass.length = ds.length → (∀ (i : Nat) a d, ass[i]? = some a → ds[i]? = some d → Den P h t a d) → ∃ ts : List Tile, ass.flatten = tcs ts
  | [], _, _, _ => ⟨[], rfl⟩
  | a :: ass, [], h, _ => by simp at h
  | a :: ass, d :: ds, hl, hd => by
    obtain ⟨t, rfl⟩ := den_tile hu he (hd 0 a d rfl rfl)
    obtain ⟨ts, e⟩ := all_tiles hu he ass ds (by simpa using hl) (fun i a d x y => hd (i + 1) a d (by simpa using x) (by simpa using y))
    exact ⟨t :: ts, by rw [List.flatten_cons, e, tcs_cons]⟩
theorem arg_tiles {P : Program} {h : H} {t u e : TypeId} {xs : List AVal} {pd : PD} (ht : P.underlying t = some (.slice u)) (hu : P.underlying u = some (.array 4 e)) (he : P.underlying e = some (.int .i64)) (hc : P.cellsOf u = 4) (d : Den P h t xs pd) : ∃ (s : Sl) (ts : List Tile), xs = [.sl s] ∧ Rd h s 4 (tcs ts) ∧ s.len ≤ 9223372036854775807 := by
  obtain ⟨s, ass, ds, rfl, l1, l2, l3, r, hd⟩ := den_sl ht d
  obtain ⟨ts, e⟩ := all_tiles hu he ass ds (by omega) hd
  rw [hc, e] at r
  exact ⟨s, ts, rfl, r, by unfold maxLen at l3; omega⟩
theorem sep_of {n : Nat} {s w : Sl} {g : H} {z : Nat} {cs : List AVal} (f : Fr n s) (r : Ow g w z cs) (h : g.length ≤ n) : s.o ≠ w.o ∨ s.o = none := by
  cases hs : s.o with
  | none => exact .inr rfl
  | some o =>
    refine .inl fun e => ?_
    have h1 := f o hs
    have h2 := r.lt e.symm
    omega
theorem all_ints {P : Program} {h : H} {t : TypeId} (ht : P.underlying t = some (.int .i64)) : ∀ (ass : List (List AVal)) (ds : List PD), ass.length = ds.length → (∀ (i : Nat) a d, ass[i]? = some a → ds[i]? = some d → Den P h t a d) → ∃ l : List Int, ass.flatten = ic l
  | [], _, _, _ => ⟨[], rfl⟩
  | a :: ass, [], h, _ => by simp at h
  | a :: ass, d :: ds, hl, hd => by
    obtain ⟨n, rfl, _⟩ := den_int ht (hd 0 a d rfl rfl)
    obtain ⟨l, e⟩ := all_ints ht ass ds (by simpa using hl) (fun i a d x y => hd (i + 1) a d (by simpa using x) (by simpa using y))
    exact ⟨n :: l, by rw [List.flatten_cons, e, ic_cons]; rfl⟩
theorem arg_ints {P : Program} {h : H} {t u : TypeId} {xs : List AVal} {pd : PD} (ht : P.underlying t = some (.slice u)) (hu : P.underlying u = some (.int .i64)) (hc : P.cellsOf u = 1) (d : Den P h t xs pd) : ∃ (s : Sl) (l : List Int), xs = [.sl s] ∧ Rd h s 1 (ic l) ∧ s.len ≤ 9223372036854775807 := by
  obtain ⟨s, ass, ds, rfl, l1, l2, l3, r, hd⟩ := den_sl ht d
  obtain ⟨l, e⟩ := all_ints hu ass ds (by omega) hd
  rw [hc, e] at r
  exact ⟨s, l, rfl, r, by unfold maxLen at l3; omega⟩
theorem all_rows {P : Program} {h : H} {t u : TypeId} (ht : P.underlying t = some (.slice u)) (hu : P.underlying u = some (.int .i64)) (hc : P.cellsOf u = 1) : ∀ (ass : List (List AVal)) (ds : List PD), ass.length = ds.length → (∀ (i : Nat) a d, ass[i]? = some a → ds[i]? = some d → Den P h t a d) →
    ∃ (vs : List Sl) (ls : List (List Int)), ass.flatten = vs.map .sl ∧ vs.length = ass.length ∧ ls.length = ass.length ∧ (∀ (i : Nat) v l, vs[i]? = some v → ls[i]? = some l → Rd h v 1 (ic l)) ∧ ∀ l ∈ ls, l.length ≤ 9223372036854775807
  | [], _, _, _ => ⟨[], [], rfl, rfl, rfl, fun i v l h => by simp at h, fun l h => by simp at h⟩
  | a :: ass, [], h, _ => by simp at h
  | a :: ass, d :: ds, hl, hd => by
    obtain ⟨s, l, rfl, r, b⟩ := arg_ints ht hu hc (hd 0 a d rfl rfl)
    obtain ⟨vs, ls, e1, e2, e3, e4, e5⟩ := all_rows ht hu hc ass ds (by simpa using hl) (fun i a d x y => hd (i + 1) a d (by simpa using x) (by simpa using y))
    refine ⟨s :: vs, l :: ls, by rw [List.flatten_cons, e1]; rfl, by simp [e2], by simp [e3], fun i v l' h1 h2 => ?_, fun l' h => ?_⟩
    · cases i with
      | zero => simp at h1 h2; subst h1 h2; exact r
      | succ i => exact e4 i v l' (by simpa using h1) (by simpa using h2)
    · rcases List.mem_cons.1 h with rfl | h
      · have := r.ilen; omega
      · exact e5 l' h
theorem arg_rows {P : Program} {h : H} {t u e : TypeId} {xs : List AVal} {pd : PD} (ht : P.underlying t = some (.slice u)) (hu : P.underlying u = some (.slice e)) (he : P.underlying e = some (.int .i64)) (hc : P.cellsOf u = 1) (hc' : P.cellsOf e = 1) (d : Den P h t xs pd) :
    ∃ (s : Sl) (ls : List (List Int)), xs = [.sl s] ∧ RdSS h s ls ∧ s.len ≤ 9223372036854775807 ∧ ∀ l ∈ ls, l.length ≤ 9223372036854775807 := by
  obtain ⟨s, ass, ds, rfl, l1, l2, l3, r, hd⟩ := den_sl ht d
  obtain ⟨vs, ls, e1, e2, e3, e4, e5⟩ := all_rows hu he hc' ass ds (by omega) hd
  rw [hc, e1] at r
  exact ⟨s, ls, rfl, ⟨vs, by omega, r, e4⟩, by unfold maxLen at l3; omega, e5⟩
theorem arg_int {P : Program} {h : H} {t : TypeId} {xs : List AVal} {pd : PD} (ht : P.underlying t = some (.int .i64)) (d : Den P h t xs pd) : ∃ n, xs = [i64 n] ∧ i64ok n := by
  obtain ⟨n, rfl, w⟩ := den_int ht d
  refine ⟨n, rfl, ?_⟩
  have w' : (decide (IntKind.i64.min ≤ n) && decide (n ≤ IntKind.i64.max)) = true := w
  simp only [Bool.and_eq_true, decide_eq_true_eq] at w'
  unfold i64ok
  have h1 : IntKind.i64.min = -9223372036854775808 := by decide
  have h2 : IntKind.i64.max = 9223372036854775807 := by decide
  omega
def structOK (P : Program) (t c u : TypeId) : Bool := match P.underlying t with
  | some (.struct fs) => fs.size == 2 && (fs[0]?).map (·.type) == some c && (fs[1]?).map (·.type) == some u
  | _ => false
theorem arg_set0 {P : Program} {h : H} {t c u v e : TypeId} {xs : List AVal} {pd : PD} {fs : Array Field} (ht : P.underlying t = some (.struct fs)) (hs : fs.size = 2) (h0 : (fs[0]?).map (·.type) = some c) (h1 : (fs[1]?).map (·.type) = some u) (hc : P.underlying c = some (.int .i64)) (hu : P.underlying u = some (.slice v)) (hv : P.underlying v = some (.array 4 e)) (he : P.underlying e = some (.int .i64)) (hz : P.cellsOf v = 4) (d : Den P h t xs pd) :
    ∃ (n : Int) (s : Sl) (ts : List Tile), xs = SetC n s ∧ Rd h s 4 (tcs ts) ∧ s.len ≤ 9223372036854775807 := by
  cases d with
  | int a b => rw [ht] at a; cases a
  | bool a => rw [ht] at a; cases a
  | arr a => rw [ht] at a; cases a
  | @struct t fs' ass ds a b b' d =>
    rw [ht] at a; cases a
    rw [hs] at b b'
    match ass, ds, b, b', d with
    | [a0, a1], [d0, d1], _, _, d =>
      cases e0 : fs[0]? with
      | none => rw [e0] at h0; cases h0
      | some f0 =>
        cases e1 : fs[1]? with
        | none => rw [e1] at h1; cases h1
        | some f1 =>
          rw [e0] at h0; rw [e1] at h1
          simp at h0 h1
          have k0 := d 0 f0 a0 d0 e0 rfl rfl
          have k1 := d 1 f1 a1 d1 e1 rfl rfl
          rw [h0] at k0; rw [h1] at k1
          obtain ⟨n, rfl, _⟩ := den_int hc k0
          obtain ⟨s, ts, rfl, r, b⟩ := arg_tiles hu hv he hz k1
          exact ⟨n, s, ts, rfl, r, b⟩
  | sl a => rw [ht] at a; cases a
theorem arg_set {P : Program} {h : H} {t c u v e : TypeId} {xs : List AVal} {pd : PD} (ht : structOK P t c u = true) (hc : P.underlying c = some (.int .i64)) (hu : P.underlying u = some (.slice v)) (hv : P.underlying v = some (.array 4 e)) (he : P.underlying e = some (.int .i64)) (hz : P.cellsOf v = 4) (d : Den P h t xs pd) :
    ∃ (n : Int) (s : Sl) (ts : List Tile), xs = SetC n s ∧ Rd h s 4 (tcs ts) ∧ s.len ≤ 9223372036854775807 := by
  unfold structOK at ht
  split at ht
  · next fs hf =>
    simp only [Bool.and_eq_true, beq_iff_eq] at ht
    exact arg_set0 hf ht.1.1 ht.1.2 ht.2 hc hu hv he hz d
  · cases ht
end Go.Proofs.Ytnamnpbkiibadaa.Cl
