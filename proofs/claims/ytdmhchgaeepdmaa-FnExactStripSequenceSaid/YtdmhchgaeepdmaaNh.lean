/- The program's strips: what the search of columns does. No claim is stated here. -/
import Derived.Test.YtdmhchgaeepdmaaNd
set_option linter.unusedVariables false
set_option linter.unusedSimpArgs false
namespace Go.Proofs.Ytdmhchgaeepdmaa.Cl
open Go
def c3 (l : List (Int × Int × Int)) : List AVal := (l.map fun x => [i64 x.1, i64 x.2.1, i64 x.2.2]).flatten
theorem c3_app (l m) : c3 (l ++ m) = c3 l ++ c3 m := by simp [c3]
theorem c3_len : ∀ l, (c3 l).length = l.length * 3
  | [] => rfl
  | a :: l => by
    have := c3_len l
    unfold c3 at *
    rw [List.map_cons, List.flatten_cons, List.length_append, this, List.length_cons]
    simp; omega
def StripC (c : Int) (s : Sl) (H w : Int) (q : Sl) : List AVal := [i64 c, .sl s, i64 H, i64 w, .sl q]
theorem pow_small4 {c : Int} {n : Nat} (h0 : 1 ≤ c) (h1 : c ≤ 6) (hn : n ≤ 4) : 1 ≤ c ^ n ∧ c ^ n ≤ 1296 := by
  have hc : c = 1 ∨ c = 2 ∨ c = 3 ∨ c = 4 ∨ c = 5 ∨ c = 6 := by omega
  have hm : n = 0 ∨ n = 1 ∨ n = 2 ∨ n = 3 ∨ n = 4 := by omega
  rcases hc with rfl | rfl | rfl | rfl | rfl | rfl <;> rcases hm with rfl | rfl | rfl | rfl | rfl <;> decide
theorem pow_step {c l d : Int} {j : Nat} (hc : 1 ≤ c) (hl : 0 ≤ l ∧ l < c ^ j) (hd : 0 ≤ d ∧ d < c) : 0 ≤ l * c + d ∧ l * c + d < c ^ (j + 1) := by
  have h1 : 0 ≤ l * c := Int.mul_nonneg hl.1 (by omega)
  have h2 : (l + 1) * c ≤ c ^ j * c := Int.mul_le_mul_of_nonneg_right (by omega) (by omega)
  rw [Int.add_mul, Int.one_mul] at h2
  rw [Int.pow_succ]
  omega
structure SEnv (h : H) (op ot oh oe os : Nat) (c : Int) (s : Sl) (H_ : Nat) : Prop where
  vp : Var h op (.ptr ⟨some os, 5, 0⟩)
  vt : Obj h ot (SetC c s)
  vh : Var h oh (i64 H_)
  ve : Var h oe (.func i_impl_newStrip_1 [.ptr (pt op), .ptr ⟨some ot, 2, 0⟩, .ptr (pt oh), .ptr (pt oe)])
theorem SEnv.chg {P : Nat → Prop} {h h' : H} {op ot oh oe os : Nat} {c : Int} {s : Sl} {H_ : Nat} (e : SEnv h op ot oh oe os c s H_) (x : Chg P h h') (hn : ¬ P op ∧ ¬ P ot ∧ ¬ P oh ∧ ¬ P oe) : SEnv h' op ot oh oe os c s H_ :=
  ⟨e.vp.chg x hn.1, e.vt.chg x hn.2.1, e.vh.chg x hn.2.2.1, e.ve.chg x hn.2.2.2⟩
section
variable {hb : H} {c w : Int} {s : Sl} {ts : List Tile} {H_ : Nat} {op ot oh oe os n1 : Nat}
theorem extRec (r : Rd hb s 4 (tcs ts)) (T : TS c ts) (hc : c ≤ 6) (hN : ts.length ≤ 16) (hH : 1 ≤ H_ ∧ H_ ≤ 4) (hn : op < n1 ∧ ot < n1 ∧ oh < n1 ∧ oe < n1 ∧ os < n1) (hd : op ≠ os ∧ ot ≠ os ∧ oh ≠ os ∧ oe ≠ os) (hbs : hb.length ≤ os) :
    ∀ (m : Nat) (top last l rr : Int) (cols : List (Int × Int × Int)) (q : Sl) (h : H), m ≤ H_ → (0 ≤ l ∧ l < c ^ (H_ - m)) → (0 ≤ rr ∧ rr < c ^ (H_ - m)) → SEnv h op ot oh oe os c s H_ → Obj h os (StripC c s H_ w q) → Ow h q 3 (c3 cols) → Fr n1 q → n1 ≤ h.length → cols.length ≤ 5000 → Ext hb h →
    callB SP i_impl_newStrip_1 [i64 top, i64 last, i64 l, i64 rr, i64 m, .ptr (pt op), .ptr ⟨some ot, 2, 0⟩, .ptr (pt oh), .ptr (pt oe)] h fun b h' =>
      b = decide ((cols ++ colI c ts H_ m top last l rr).length ≤ 5000) ∧ (b = true → ∃ q', Obj h' os (StripC c s H_ w q') ∧ Ow h' q' 3 (c3 (cols ++ colI c ts H_ m top last l rr)) ∧ Fr n1 q') ∧ Chg (fun i => i = os ∨ n1 ≤ i) h h'
  | 0, top, last, l, rr, cols, q, h, hm, hl, hr, e, o, oq, fq, hn1, hcl, x => by
    apply impl_newStrip_1_call
    unfold impl_newStrip_1_main
    refine bif_eq (fun _ => ?_) (fun f => absurd rfl f)
    refine e.vp.ldP ?_
    refine e.vp.ldP ⟨rfl, isPt_in (o.ldS rfl rfl ⟨rfl, ?_⟩)⟩
    refine newS_ow (by rfl) fun u h4 ou lu uo e4 => ?_
    have x4 : Ext h h4 := by rw [e4]; exact Ext.app _ _
    have l4 : h4.length = h.length + 1 := by rw [e4]; simp
    have ho := o.lt
    refine ⟨((o.ext x4).cellE (n := 5) (i := 4) rfl).trans (o.cellE (n := 5) (i := 4) rfl).symm, x4.cellE e.vp.cell, x4.cellE e.vp.cell, ?_⟩
    have hql : q.len = cols.length := by have := oq.len; rw [c3_len] at this; omega
    refine app_ow (by omega) (oq.ext x4) ou.rd (by rw [lu, hql]; unfold lim; omega) fun q' h6 oq' lq' b6 k1 k2 => ?_
    have hqn : ∀ i, i < n1 → q.o ≠ some i := fun i hi f => by have := fq i f; omega
    have vp6 : Var h6 op _ := (e.vp.ext x4).but b6 (hqn _ hn.1)
    have o6 : Obj h6 os _ := (o.ext x4).but b6 (hqn _ hn.2.2.2.2)
    have l6 := b6.1
    refine ⟨by rw [vp6.cell, e.vp.cell], rfl, isPt_in ?_⟩
    refine o6.st1 (n := 5) (i := 4) rfl (by omega) _ fun h7 o7 b7 l7 => ?_
    have vp7 : Var h7 op _ := vp6.but b7 (fun f => hd.1 (Option.some.inj f).symm)
    refine vp7.ldP ⟨rfl, isPt_in (o7.ldS rfl rfl ⟨_, rfl, ?_, fun _ => ⟨q', o7, ?_, ?_⟩, ?_⟩)⟩
    · have hcol : colI c ts H_ 0 top last l rr = [(l, rr, top)] := rfl
      rw [hcol, List.length_append, List.length_singleton, lq', lu, hql]
      congr 1
      apply propext
      constructor <;> intro f <;> omega
    · refine Ow.but ?_ b7 (.inl fun f => ?_)
      · rw [show colI c ts H_ 0 top last l rr = [(l, rr, top)] from rfl, c3_app]; exact oq'
      · cases hq : q.o with
        | none => have := k2 hq os f.symm; omega
        | some p => rw [k1 p hq] at f; exact hqn os hn.2.2.2.2 (by rw [hq, f])
    · intro i f
      cases hq : q.o with
      | none => have := k2 hq i f; omega
      | some p => rw [k1 p hq] at f; exact fq i (by rw [hq, f])
    · refine ((x4.chg _).trans (b6.chg fun i f => .inr (fq i f))).trans (b7.chg fun i f => .inl (Option.some.inj f).symm)
  | m + 1, top, last, l, rr, cols, q, h, hm, hl, hr, e, o, oq, fq, hn1, hcl, x => by
    have htl := r.tlen
    have hsn : s.len ≤ 16 := by omega
    have hcp := T.1
    apply impl_newStrip_1_call
    unfold impl_newStrip_1_main
    refine bif_eq (fun f => by omega) (fun _ => ?_)
    refine isPt_in (e.vt.ldS rfl rfl ?_)
    generalize hpc : (fun t : Tile => if m + 1 < H_ ∧ sd t 1 ≠ last then [] else colI c ts H_ m (if m + 1 = H_ then sd t 1 else top) (sd t 3) (l * c + sd t 0) (rr * c + sd t 2)) = pc
    have hall : colI c ts H_ (m + 1) top last l rr = ts.flatMap pc := by rw [← hpc]; rfl
    rw [hall]
    refine impl_newStrip_1_rule0 _ _ _ _ _ _ _ _ _ _ _ (fun i0 j g => ∃ k : Nat, j = k ∧ k ≤ ts.length ∧ (m + 1 ≠ H_ → i0 = top) ∧ (cols ++ (ts.take k).flatMap pc).length ≤ 5000 ∧ (∃ q', Obj g os (StripC c s H_ w q') ∧ Ow g q' 3 (c3 (cols ++ (ts.take k).flatMap pc)) ∧ Fr n1 q') ∧ Chg (fun i => i = os ∨ n1 ≤ i) h g) (fun _ j _ => (ts.length - j).toNat) ?_ _ _ ⟨0, rfl, by omega, fun _ => rfl, by simpa using hcl, ⟨q, o, by simpa using oq, fq⟩, Chg.refl _ _⟩
    rintro X i0 _ g ⟨k, rfl, hk, hi0, hlen, ⟨q', o', oq', fq'⟩, cg⟩ hX
    unfold impl_newStrip_1_b0 impl_newStrip_1_C0
    have hnp : ∀ i, i < n1 → i ≠ os → ¬ (i = os ∨ n1 ≤ i) := fun i h1 h2 f => by omega
    have eg := e.chg cg ⟨hnp _ hn.1 hd.1, hnp _ hn.2.1 hd.2.1, hnp _ hn.2.2.1 hd.2.2.1, hnp _ hn.2.2.2.1 hd.2.2.2⟩
    have xg : Ext hb g := x.chg_ cg fun i f => by omega
    have cgl := cg.1
    refine bif_dec (fun hi => ?_) (fun hi => ?_)
    rotate_left
    · rw [show k = ts.length by omega, List.take_length] at oq' hlen
      exact ⟨_, rfl, (decide_eq_true hlen).symm, fun _ => ⟨q', o', oq', fq'⟩, cg⟩
    have hk' : k < ts.length := by omega
    refine (r.ext xg).ldT (by omega) (by omega) fun t ht => ?_
    rw [Int.toNat_natCast] at ht
    have htm : t ∈ ts := List.mem_of_getElem? ht
    have htk : ts[k] = t := (List.getElem?_eq_some_iff.1 ht).2
    have hflat : (ts.take (k + 1)).flatMap pc = (ts.take k).flatMap pc ++ pc t := by
      rw [List.take_succ_eq_append_getElem hk', List.flatMap_append, htk]; simp
    have hrest : ts.flatMap pc = (ts.take k).flatMap pc ++ (pc t ++ (ts.drop (k + 1)).flatMap pc) := by
      have : ts = ts.take k ++ (t :: ts.drop (k + 1)) := by rw [← htk, ← List.drop_eq_getElem_cons hk', List.take_append_drop]
      conv => lhs; rw [this]
      rw [List.flatMap_append, List.flatMap_cons]
    refine newO_obj fun g3 og3 y3 m3 => ?_
    refine og3.stA fun g4 og4 b4 m4 => ?_
    have y4 : Ext g g4 := y3.but_ b4 (some_le (Nat.le_refl _))
    have y4l := y4.len
    have e4 := eg.chg (y4.chg fun _ => False) ⟨id, id, id, id⟩
    have o4 := o'.ext y4
    have oq4 := oq'.ext y4
    have b0 := T.2 t htm 0 (by omega)
    have b1 := T.2 t htm 1 (by omega)
    have b2 := T.2 t htm 2 (by omega)
    have b3 := T.2 t htm 3 (by omega)
    have hpow := pow_small4 (n := H_ - (m + 1)) hcp hc (by omega)
    have hpow2 := pow_small4 (n := H_ - (m + 1) + 1) hcp hc (by omega)
    have eH : H_ - m = H_ - (m + 1) + 1 := by omega
    have bl' := pow_step hcp hl b0
    have br' := pow_step hcp hr b2
    have bl0 : 0 ≤ l * c := Int.mul_nonneg hl.1 (by omega)
    have br0 : 0 ≤ rr * c := Int.mul_nonneg hr.1 (by omega)
    have ew1 : w64 (w64 (l * c) + sd t 0) = l * c + sd t 0 := by rw [w64_of (n := l * c) (by omega) (by omega), w64_of (by omega) (by omega)]
    have ew2 : w64 (w64 (rr * c) + sd t 2) = rr * c + sd t 2 := by rw [w64_of (n := rr * c) (by omega) (by omega), w64_of (by omega) (by omega)]
    -- one tile more
    have call : ∀ (tp : Int), tp = (if m + 1 = H_ then sd t 1 else top) → ¬ (m + 1 < H_ ∧ sd t 1 ≠ last) → viaF (.func i_impl_newStrip_1 [.ptr (pt op), .ptr ⟨some ot, 2, 0⟩, .ptr (pt oh), .ptr (pt oe)]) [i64 tp, i64 (sd t 3), i64 (w64 (w64 (l * c) + sd t 0)), i64 (w64 (w64 (rr * c) + sd t 2)), i64 (w64 (((m + 1 : Nat) : Int) - 1))] fun g20 ys21 => callB SP g20 ys21 g4 fun b h' =>
        bif !b then (∃ b', AVal.bool false = .bool b' ∧ b' = decide ((cols ++ ts.flatMap pc).length ≤ 5000) ∧ (b' = true → ∃ q', Obj h' os (StripC c s H_ w q') ∧ Ow h' q' 3 (c3 (cols ++ ts.flatMap pc)) ∧ Fr n1 q') ∧ Chg (fun i => i = os ∨ n1 ≤ i) h h')
        else X (impl_newStrip_1_e0 tp last l rr ((m + 1 : Nat) : Int) ⟨some ot, 2, 0⟩ (pt oh) (pt oe) s (s.len : Int) (w64 ((k : Int) + 1))) h' := fun tp htp hno => by
      refine via_func ?_
      have hpt : pc t = colI c ts H_ m tp (sd t 3) (l * c + sd t 0) (rr * c + sd t 2) := by rw [← hpc]; simp only; rw [if_neg hno, htp]
      rw [ew1, ew2, w64_of (by omega) (by omega), show ((m + 1 : Nat) : Int) - 1 = (m : Int) by omega]
      refine (extRec r T hc hN hH hn hd hbs m tp (sd t 3) (l * c + sd t 0) (rr * c + sd t 2) (cols ++ (ts.take k).flatMap pc) q' g4 (by omega) (by rw [eH]; exact bl') (by rw [eH]; exact br') e4 o4 oq4 fq' (by omega) hlen (xg.trans y4)).to ?_
      rintro b g5 ⟨hb5, hq5, cg5⟩
      rw [← hpt] at hb5 hq5
      have CG : Chg (fun i => i = os ∨ n1 ≤ i) h g5 := (cg.trans (y4.chg _)).trans cg5
      refine bif_not (fun hf => ⟨false, rfl, ?_, (fun f => by cases f), CG⟩) (fun hf => ?_)
      · rw [hf] at hb5
        have := of_decide_eq_false hb5.symm
        symm
        refine decide_eq_false fun f => this ?_
        rw [hrest] at f
        simp only [List.length_append] at f ⊢
        omega
      · rw [hf] at hb5
        have hle := of_decide_eq_true hb5.symm
        rw [w64_of (by omega) (by omega)]
        refine hX _ _ _ ⟨k + 1, by push_cast; rfl, by omega, fun f => by rw [htp, if_neg f], ?_, ?_, CG⟩ (by omega)
        · rw [hflat, ← List.append_assoc]; exact hle
        · rw [hflat, ← List.append_assoc]; exact hq5 hf
    have skip : m + 1 < H_ ∧ sd t 1 ≠ last → X (impl_newStrip_1_e0 i0 last l rr ((m + 1 : Nat) : Int) ⟨some ot, 2, 0⟩ (pt oh) (pt oe) s (s.len : Int) (w64 ((k : Int) + 1))) g4 := fun hs => by
      have hpt : pc t = [] := by rw [← hpc]; simp only; rw [if_pos hs]
      rw [w64_of (by omega) (by omega)]
      refine hX _ _ _ ⟨k + 1, by push_cast; rfl, by omega, hi0, ?_, ⟨q', o4, ?_, fq'⟩, cg.trans (y4.chg _)⟩ (by omega)
      · rw [hflat, hpt, List.append_nil]; exact hlen
      · rw [hflat, hpt, List.append_nil]; exact oq4
    refine e4.vh.ldI ?_
    refine bif_dec (fun hmh => ?_) (fun hmh => ?_)
    · refine og4.sdI (by omega) (by omega) ?_
      refine bif_ne (fun hq => skip ⟨by omega, hq⟩) (fun hq => ?_)
      refine e4.vh.ldI ?_
      refine bif_eq (fun f => by omega) (fun hne => ?_)
      refine e4.ve.ldV ?_
      refine og4.sdI (by omega) (by omega) ?_
      refine isPt_in (e4.vt.ldI rfl rfl ?_)
      refine og4.sdI (by omega) (by omega) ?_
      refine isPt_in (e4.vt.ldI rfl rfl ?_)
      refine og4.sdI (by omega) (by omega) ?_
      exact call i0 (by rw [if_neg (by omega)]; exact hi0 (by omega)) (fun f => f.2 hq)
    · refine e4.vh.ldI ?_
      refine bif_eq (fun hee => ?_) (fun f => by omega)
      refine og4.sdI (by omega) (by omega) ?_
      refine e4.ve.ldV ?_
      refine og4.sdI (by omega) (by omega) ?_
      refine isPt_in (e4.vt.ldI rfl rfl ?_)
      refine og4.sdI (by omega) (by omega) ?_
      refine isPt_in (e4.vt.ldI rfl rfl ?_)
      refine og4.sdI (by omega) (by omega) ?_
      exact call (sd t 1) (by rw [if_pos (by omega)]) (fun f => by omega)
end
end Go.Proofs.Ytdmhchgaeepdmaa.Cl
