/- The clean machine: objects, slices of slices, changes of several objects. No claim is stated here. -/
import Derived.Test.YtdmhchgaeepdmaaClW
set_option linter.unusedVariables false
set_option linter.unusedSimpArgs false
namespace Go.Proofs.Ytdmhchgaeepdmaa.Cl
open Go
/-! ### objects -/
def Obj (h : H) (o : Nat) (cs : List AVal) : Prop := h[o]? = some (.own cs)
theorem Obj.lt {h o cs} (x : Obj h o cs) : o < h.length := (List.getElem?_eq_some_iff.1 x).1
theorem Obj.ext {h h' o cs} (x : Obj h o cs) (e : Ext h h') : Obj h' o cs := e.own x
theorem Obj.but {h h' o cs} {p : Option Nat} (x : Obj h o cs) (b : But p h h') (hn : p ≠ some o) : Obj h' o cs := b.get x hn
theorem newK_obj {k : Nat} {cs : List AVal} {h : H} {K : Pt → H → Prop} (hk : ∀ h', Obj h' h.length cs → Ext h h' → h'.length = h.length + 1 → K ⟨some h.length, k, 0⟩ h') (hc : cs.length = k := by rfl) : newK k cs h K :=
  ⟨hc, hk _ (by unfold Obj; simp) (Ext.app _ _) (by simp)⟩
theorem newO_obj {cs : List AVal} {h : H} {K : Pt → H → Prop} (hk : ∀ h', Obj h' h.length cs → Ext h h' → h'.length = h.length + 1 → K ⟨some h.length, cs.length, 0⟩ h') : newO cs h K :=
  hk _ (by unfold Obj; simp) (Ext.app _ _) (by simp)
theorem isPt_in {o : Nat} {n off : Nat} {K : Prop} (hk : K) : isPt ⟨some o, n, off⟩ K := ⟨rfl, hk⟩
theorem Obj.cellE {h o cs} (x : Obj h o cs) {n i : Nat} (hn : cs.length = n) : Cl.cell h (Pt.add ⟨some o, n, 0⟩ i) = cs[i]? := by
  have x' : h[o]? = some (.own cs) := x
  simp [Cl.cell, Pt.add, cells, x', hn]
theorem Obj.ldI {h o cs} (x : Obj h o cs) {n i : Nat} {k : IntKind} {m : Int} (hn : cs.length = n) (e : cs[i]? = some (.int k m)) {K : Int → Prop} (hk : K m) : Cl.ldI k (Pt.add ⟨some o, n, 0⟩ i) h K := ⟨m, by rw [x.cellE hn, e], hk⟩
theorem Obj.ldB {h o cs} (x : Obj h o cs) {n i : Nat} {m : Bool} (hn : cs.length = n) (e : cs[i]? = some (.bool m)) {K : Bool → Prop} (hk : K m) : Cl.ldB (Pt.add ⟨some o, n, 0⟩ i) h K := ⟨m, by rw [x.cellE hn, e], hk⟩
theorem Obj.ldS {h o cs} (x : Obj h o cs) {n i : Nat} {m : Sl} (hn : cs.length = n) (e : cs[i]? = some (.sl m)) {K : Sl → Prop} (hk : K m) : Cl.ldS (Pt.add ⟨some o, n, 0⟩ i) h K := ⟨m, by rw [x.cellE hn, e], hk⟩
theorem Obj.ldA {h o cs} (x : Obj h o cs) {n : Nat} (hn : cs.length = n) {K : List AVal → Prop} (hk : K cs) : Cl.ldA ⟨some o, n, 0⟩ n h K := ld_own x hn hk
theorem Obj.stA {h o cs} (x : Obj h o cs) {n m : Nat} {vs : List AVal} {K : H → Prop} (hk : ∀ h', Obj h' o vs → But (some o) h h' → h'.length = h.length → K h') (hn : cs.length = n := by rfl) (hv : vs.length = m := by rfl) (hm : m = n := by rfl) : Cl.stN ⟨some o, n, 0⟩ m vs h K := by
  subst hm
  exact st_own x hn hv fun b e => hk _ e b (by simp)
theorem Obj.st1 {h o cs} (x : Obj h o cs) {n i : Nat} (hn : cs.length = n) (hi : i < n) (v : AVal) {K : H → Prop} (hk : ∀ h', Obj h' o (cs.set i v) → But (some o) h h' → h'.length = h.length → K h') : Cl.st1 (Pt.add ⟨some o, n, 0⟩ i) v h K := by
  have x' : h[o]? = some (.own cs) := x
  have hl := x.lt
  refine ⟨h.set o (.own (cs.set i v)), ?_, hk _ (by unfold Obj; simp [hl]) ⟨by simp, fun j hj hne => by rw [List.getElem?_set, if_neg (fun e => hne (by rw [e]))]⟩ (by simp)⟩
  unfold put1 owned Pt.add
  simp [x', hn, hi]
/-! ### changes of several objects -/
/-- h' is h but for objects of P, and for what is new. -/
def Chg (P : Nat → Prop) (h h' : H) : Prop := h.length ≤ h'.length ∧ ∀ i, i < h.length → ¬ P i → h'[i]? = h[i]?
theorem Chg.refl (P h) : Chg P h h := ⟨Nat.le_refl _, fun _ _ _ => rfl⟩
theorem Chg.trans {P a b c} (x : Chg P a b) (y : Chg P b c) : Chg P a c := ⟨Nat.le_trans x.1 y.1, fun i hi hn => by rw [y.2 i (by have := x.1; omega) hn, x.2 i hi hn]⟩
theorem Chg.to {P Q : Nat → Prop} {a b : H} (x : Chg P a b) (hq : ∀ i, i < a.length → P i → Q i) : Chg Q a b := ⟨x.1, fun i hi hn => x.2 i hi fun hp => hn (hq i hi hp)⟩
theorem Ext.chg {a b : H} (x : Ext a b) (P) : Chg P a b := ⟨x.len, fun i hi _ => x.get hi⟩
theorem But.chg {a b : H} {o : Option Nat} (x : But o a b) {P : Nat → Prop} (hp : ∀ i, o = some i → P i) : Chg P a b := ⟨x.1, fun i hi hn => x.2 i hi fun e => hn (hp i e)⟩
theorem Chg.get {P} {h h' : H} (b : Chg P h h') {i : Nat} {v : AObj} (e : h[i]? = some v) (hn : ¬ P i) : h'[i]? = some v := by
  rw [b.2 i (List.getElem?_eq_some_iff.1 e).1 hn, e]
theorem Chg.ext {P} {h h' : H} (b : Chg P h h') (hn : ∀ i, P i → h.length ≤ i) : Ext h h' := Ext.of b.1 fun i hi => b.2 i hi fun p => by have := hn i p; omega
theorem Ext.chg_ {P} {h a b : H} (x : Ext h a) (y : Chg P a b) (hn : ∀ i, P i → h.length ≤ i) : Ext h b :=
  Ext.of (Nat.le_trans x.len y.1) fun i hi => by
    rw [y.2 i (by have := x.len; omega) (fun p => by have := hn i p; omega), x.get hi]
theorem Chg.range {P} {h h' : H} (b : Chg P h h') {o n off k cs} (e : range h o n off k = some cs) (hn : ∀ i, o = some i → ¬ P i) : range h' o n off k = some cs := by
  obtain ⟨i, xs, rfl, hc, hl, rfl⟩ := range_some e
  refine range_of ?_ hl
  have := cells_lt hc
  unfold Cl.cells at hc ⊢
  rw [b.2 i this (hn i rfl)]; exact hc
theorem Rd.chg {P} {h h' : H} {s z cs} (r : Rd h s z cs) (b : Chg P h h') (hn : ∀ i, s.o = some i → ¬ P i) : Rd h' s z cs :=
  ⟨r.len, r.at_.imp id fun ⟨x, y, e⟩ => ⟨x, y, b.range e hn⟩⟩
theorem Ow.chg {P} {h h' : H} {s z cs} (r : Ow h s z cs) (b : Chg P h h') (hn : ∀ i, s.o = some i → ¬ P i) : Ow h' s z cs :=
  ⟨r.len, r.at_.imp id fun ⟨i, a, x, c, d, e⟩ => ⟨i, a, x, c, d, b.get e (hn i a)⟩⟩
theorem Var.chg {P} {h h' o v} (x : Var h o v) (b : Chg P h h') (hn : ¬ P o) : Var h' o v := b.get x hn
theorem Obj.chg {P} {h h' o v} (x : Obj h o v) (b : Chg P h h') (hn : ¬ P o) : Obj h' o v := b.get x hn
/-! ### slices of slices of integers -/
def RdSS (h : H) (s : Sl) (ls : List (List Int)) : Prop :=
  ∃ vs : List Sl, vs.length = ls.length ∧ Rd h s 1 (vs.map .sl) ∧ ∀ (i : Nat) v l, vs[i]? = some v → ls[i]? = some l → Rd h v 1 (ic l)
theorem RdSS.len {h s ls} (r : RdSS h s ls) : s.len = ls.length := by
  obtain ⟨vs, h1, h2, _⟩ := r
  have := h2.len
  simp at this
  omega
theorem RdSS.ext {h h' s ls} (r : RdSS h s ls) (x : Ext h h') : RdSS h' s ls := by
  obtain ⟨vs, h1, h2, h3⟩ := r
  exact ⟨vs, h1, h2.ext x, fun i v l a b => (h3 i v l a b).ext x⟩
theorem Rd.ilen {h : H} {s : Sl} {l : List Int} (r : Rd h s 1 (ic l)) : s.len = l.length := by have := r.len; rw [ic_len] at this; omega
theorem RdSS.ld {h s ls} (r : RdSS h s ls) {i : Int} (h0 : 0 ≤ i) (h1 : i < ls.length) {K : Sl → Prop} (hk : ∀ v l, ls[i.toNat]? = some l → Rd h v 1 (ic l) → v.len = l.length → K v) : ixS s 1 i fun p => Cl.ldS p h K := by
  obtain ⟨vs, e1, e2, e3⟩ := r
  refine e2.ldS h0 (by omega) fun v hv => ?_
  have hl : ls[i.toNat]? = some ls[i.toNat] := List.getElem?_eq_getElem (by omega)
  have := e3 i.toNat v _ hv hl
  exact hk v _ hl this this.ilen
/-- s lies in new memory of its own, from n on. -/
def NewSS (n : Nat) (h : H) (s : Sl) (ls : List (List Int)) : Prop :=
  ∃ vs : List Sl, vs.length = ls.length ∧ Ow h s 1 (vs.map .sl) ∧ Fr n s ∧ (∀ (i : Nat) v l, vs[i]? = some v → ls[i]? = some l → Ow h v 1 (ic l) ∧ Fr n v) ∧
    (∀ (i j : Nat) v w, i ≠ j → vs[i]? = some v → vs[j]? = some w → ∀ o, v.o = some o → w.o ≠ some o) ∧ ∀ (i : Nat) v, vs[i]? = some v → ∀ o, v.o = some o → s.o ≠ some o
theorem NewSS.rd {n h s ls} (r : NewSS n h s ls) : RdSS h s ls := by
  obtain ⟨vs, h1, h2, _, h3, _⟩ := r
  exact ⟨vs, h1, h2.rd, fun i v l a b => (h3 i v l a b).1.rd⟩
theorem NewSS.le {n m h s ls} (r : NewSS n h s ls) (hm : m ≤ n) : NewSS m h s ls := by
  obtain ⟨vs, h1, h2, h3, h4, h5⟩ := r
  exact ⟨vs, h1, h2, h3.le hm, fun i v l a b => (h4 i v l a b).imp id fun f => f.le hm, h5⟩
theorem NewSS.nil (n h) : NewSS n h Sl.nil [] := ⟨[], rfl, Ow.nil _ _, Fr.nil _, fun i v l a => by simp at a, fun i j v w _ a => by simp at a, fun i v a => by simp at a⟩
theorem NewSS.mk0 {n h s} (o : Ow h s 1 []) (f : Fr n s) : NewSS n h s [] := ⟨[], rfl, o, f, fun i v l a => by simp at a, fun i j v w _ a => by simp at a, fun i v a => by simp at a⟩
theorem mem_idx {α β : Type} {l : List α} {m : List β} (e : l.length = m.length) {i : Nat} {a : α} (h : l[i]? = some a) : ∃ b, m[i]? = some b :=
  ⟨m[i]'(by have := (List.getElem?_eq_some_iff.1 h).1; omega), List.getElem?_eq_getElem (by have := (List.getElem?_eq_some_iff.1 h).1; omega)⟩
theorem NewSS.chg {P n h h' s ls} (r : NewSS n h s ls) (b : Chg P h h') (hn : ∀ i, n ≤ i → i < h.length → ¬ P i) : NewSS n h' s ls := by
  obtain ⟨vs, h1, h2, h3, h4, h5⟩ := r
  refine ⟨vs, h1, h2.chg b fun o e => hn o (h3 o e) (h2.lt e), h3, fun i v l a c => ?_, h5⟩
  obtain ⟨x, y⟩ := h4 i v l a c
  exact ⟨x.chg b fun o e => hn o (y o e) (x.lt e), y⟩
theorem NewSS.ext {n h h' s ls} (r : NewSS n h s ls) (x : Ext h h') : NewSS n h' s ls := r.chg (x.chg fun _ => False) fun _ _ _ f => f
theorem RdSS.chg {P h h' s ls} (r : RdSS h s ls) (b : Chg P h h') (hn : ∀ i, i < h.length → ¬ P i) : RdSS h' s ls := r.ext (Ext.of b.1 fun i hi => b.2 i hi (hn i hi))
/-- append of a new view to a new slice of views -/
theorem NewSS.app {n h s ls} (r : NewSS n h s ls) {v : Sl} {l : List Int} (ov : Ow h v 1 (ic l)) (fv : Fr n v) (hap : ∀ o, v.o = some o → s.o ≠ some o ∧ ∀ vs : List Sl, Ow h s 1 (vs.map .sl) → ∀ w ∈ vs, w.o ≠ some o)
    {x : Sl} (rx : Rd h x 1 [.sl v]) (hl : (ls.length : Int) + 1 ≤ lim) (hnh : n ≤ h.length) {K : Sl → H → Prop} (hk : ∀ s' h', NewSS n h' s' (ls ++ [l]) → But s.o h h' → (∀ o, s.o = some o → s'.o = some o) → (s.o = none → ∀ o, s'.o = some o → h.length ≤ o) → K s' h') : Cl.app s x 1 h K := by
  obtain ⟨vs, h1, h2, h3, h4, h5, h6⟩ := r
  have hx : x.len = 1 := by have := rx.len; simp at this; omega
  have hs : s.len = ls.length := by have := h2.len; simp at this; omega
  refine app_ow (by omega) h2 rx (by rw [hs, hx]; exact_mod_cast hl) fun s' h' o' ln b k1 k2 => ?_
  have hso : ∀ o, s'.o = some o → s.o = some o ∨ h.length ≤ o := fun o e => by
    cases hq : s.o with
    | none => exact .inr (k2 hq o e)
    | some p => rw [k1 p hq] at e; exact .inl e
  refine hk s' h' ⟨vs ++ [v], by simp [h1], by simpa using o', ?_, ?_, ?_, ?_⟩ b k1 k2
  · intro o e
    rcases hso o e with e | e
    · exact h3 o e
    · omega
  · intro i w l' a c
    rw [List.getElem?_append] at a c
    rw [h1] at a
    split at a
    · next hi =>
      rw [if_pos hi] at c
      obtain ⟨p, q⟩ := h4 i w l' a c
      refine ⟨p.but b ?_, q⟩
      cases hw : w.o with
      | none => 
        cases hq : s.o with
        | none => exact .inr rfl
        | some _ => exact .inl (by simp)
      | some o => exact .inl (by rw [← hw]; intro e; exact h6 i w a o hw (by rw [e, hw]))
    · next hi =>
      rw [if_neg hi] at c
      have : i = ls.length := by
        have := (List.getElem?_eq_some_iff.1 c).1
        simp at this; omega
      subst this
      simp at a c
      subst a c
      refine ⟨ov.but b ?_, fv⟩
      cases hw : v.o with
      | none =>
        cases hq : s.o with
        | none => exact .inr rfl
        | some _ => exact .inl (by simp)
      | some o => exact .inl (by intro e; exact (hap o hw).1 e)
  · intro i j w u hne a c o e
    have hwl : ∀ {k : Nat} {y : Sl}, (vs ++ [v])[k]? = some y → vs[k]? = some y ∨ (k = vs.length ∧ y = v) := fun {k y} e => by
      rw [List.getElem?_append] at e
      split at e
      · exact .inl e
      · have : k = vs.length := by
          have := (List.getElem?_eq_some_iff.1 e).1
          simp at this; omega
        subst this
        simp at e
        exact .inr ⟨rfl, e.symm⟩
    rcases hwl a with a1 | ⟨rfl, rfl⟩
    · rcases hwl c with c1 | ⟨rfl, rfl⟩
      · exact h5 i j w u hne a1 c1 o e
      · intro e2
        exact (hap o e2).2 vs h2 w (List.mem_of_getElem? a1) e
    · rcases hwl c with c1 | ⟨rfl, rfl⟩
      · exact (hap o e).2 vs h2 u (List.mem_of_getElem? c1)
      · exact absurd rfl hne
  · intro i w a o e
    have hlt : o < h.length ∧ s.o ≠ some o := by
      rw [List.getElem?_append] at a
      split at a
      · obtain ⟨l', hl'⟩ := mem_idx h1 a
        exact ⟨(h4 i w l' a hl').1.lt e, h6 i w a o e⟩
      · have : w = v := by
          have := List.mem_of_getElem? a
          simpa using this
        subst this
        exact ⟨ov.lt e, (hap o e).1⟩
    intro e2
    rcases hso o e2 with e3 | e3
    · exact hlt.2 e3
    · omega
/-- the same, the view newer than all -/
theorem NewSS.app_new {n m h s ls} (r : NewSS n h s ls) {v : Sl} {l : List Int} (ov : Ow h v 1 (ic l)) (fv : Fr m v) (hnm : n ≤ m) (hm : ∃ h0 : H, NewSS n h0 s ls ∧ h0.length ≤ m ∧ Ext h0 h)
    {x : Sl} (rx : Rd h x 1 [.sl v]) (hl : (ls.length : Int) + 1 ≤ lim) (hnh : n ≤ h.length) {K : Sl → H → Prop} (hk : ∀ s' h', NewSS n h' s' (ls ++ [l]) → But s.o h h' → (∀ o, s.o = some o → s'.o = some o) → (s.o = none → ∀ o, s'.o = some o → h.length ≤ o) → K s' h') : Cl.app s x 1 h K := by
  obtain ⟨h0, r0, hlen, ex⟩ := hm
  refine r.app ov (fv.le hnm) (fun o e => ?_) rx hl hnh hk
  obtain ⟨vs, h1, h2, h3, h4, h5, h6⟩ := r0
  have ho := fv o e
  refine ⟨fun e2 => by have := h2.lt e2; omega, fun us hu w hw => ?_⟩
  intro e2
  have hq : us = vs := by
    have a := hu.rd.sread (by omega)
    have b := (h2.ext ex).rd.sread (by omega)
    rw [a] at b
    have : us.map AVal.sl = vs.map AVal.sl := Option.some.inj b
    exact List.map_inj_right (fun a b e => by simpa using e) |>.1 this
  subst hq
  obtain ⟨i, hi⟩ := List.getElem?_of_mem hw
  obtain ⟨l', hl'⟩ := mem_idx h1 hi
  have := (h4 i w l' hi hl').1.lt e2
  omega
/-- The same, of objects of P. -/
def NewP (P : Nat → Prop) (h : H) (s : Sl) (ls : List (List Int)) : Prop :=
  ∃ vs : List Sl, vs.length = ls.length ∧ Ow h s 1 (vs.map .sl) ∧ (∀ o, s.o = some o → P o) ∧ (∀ (i : Nat) v l, vs[i]? = some v → ls[i]? = some l → Ow h v 1 (ic l) ∧ ∀ o, v.o = some o → P o) ∧
    (∀ (i j : Nat) v w, i ≠ j → vs[i]? = some v → vs[j]? = some w → ∀ o, v.o = some o → w.o ≠ some o) ∧ ∀ (i : Nat) v, vs[i]? = some v → ∀ o, v.o = some o → s.o ≠ some o
theorem NewSS.p {n h s ls} (r : NewSS n h s ls) {P : Nat → Prop} (hp : ∀ i, n ≤ i → i < h.length → P i) : NewP P h s ls := by
  obtain ⟨vs, h1, h2, h3, h4, h5⟩ := r
  exact ⟨vs, h1, h2, fun o e => hp o (h3 o e) (h2.lt e), fun i v l a b => ⟨(h4 i v l a b).1, fun o e => hp o ((h4 i v l a b).2 o e) ((h4 i v l a b).1.lt e)⟩, h5⟩
theorem NewP.ss {P h s ls} (r : NewP P h s ls) {n : Nat} (hp : ∀ i, P i → n ≤ i) : NewSS n h s ls := by
  obtain ⟨vs, h1, h2, h3, h4, h5⟩ := r
  exact ⟨vs, h1, h2, fun o e => hp o (h3 o e), fun i v l a b => (h4 i v l a b).imp id fun f o e => hp o (f o e), h5⟩
theorem NewP.chg {P Q h h' s ls} (r : NewP P h s ls) (b : Chg Q h h') (hn : ∀ i, P i → i < h.length → ¬ Q i) : NewP P h' s ls := by
  obtain ⟨vs, h1, h2, h3, h4, h5⟩ := r
  refine ⟨vs, h1, h2.chg b fun o e => hn o (h3 o e) (h2.lt e), h3, fun i v l a c => ?_, h5⟩
  obtain ⟨x, y⟩ := h4 i v l a c
  exact ⟨x.chg b fun o e => hn o (y o e) (x.lt e), y⟩
theorem NewP.ext {P h h' s ls} (r : NewP P h s ls) (x : Ext h h') : NewP P h' s ls := r.chg (x.chg fun _ => False) fun _ _ _ f => f
theorem NewP.rd {P h s ls} (r : NewP P h s ls) : RdSS h s ls := by
  obtain ⟨vs, h1, h2, _, h3, _⟩ := r
  exact ⟨vs, h1, h2.rd, fun i v l a b => (h3 i v l a b).1.rd⟩
end Go.Proofs.Ytdmhchgaeepdmaa.Cl
