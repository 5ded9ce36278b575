/- Contracts of functions, joined. No claim is stated here. -/
import Derived.Test.YtcoampecbpiecaaGreatFa2
import Derived.Test.YtcoampecbpiecaaGreatFG0
import Derived.Test.YtcoampecbpiecaaGreatFG1
/- The clean machine: places of their own, variables in the heap. No claim is stated here. -/
set_option linter.unusedVariables false
set_option linter.unusedSimpArgs false
namespace Go.Proofs.YtcoampecbpiecaaGreat.Cl
open Go
/-! ### places of their own -/
theorem slotK_in {k : Nat} {h : H} {K : H → Prop} (hk : ∀ h1, Ext h h1 → h1.length = h.length + k → K h1) : slotK k h K :=
  hk _ (Ext.app _ _) (by simp)
theorem newSat_ow {h : H} {len z n : Nat} {cs : List AVal} (hn : n < h.length) (hc : cs.length = len * z) {K : Sl → H → Prop}
    (hk : ∀ s' h', Ow h' s' z cs → s'.len = len → s'.o = some n → But (some n) h h' → h'.length = h.length → K s' h') : newSat len z cs h n K :=
  hk _ _ ⟨hc, .inr ⟨n, rfl, rfl, rfl, rfl, by simp [hn]⟩⟩ rfl rfl ⟨by simp, fun i hi hne => by rw [List.getElem?_set, if_neg (fun e => hne (by rw [e]))]⟩ (by simp)
/-! ### variables -/
abbrev pt (o : Nat) : Pt := ⟨some o, 1, 0⟩
/-- The variable at o has the value v. -/
def Var (h : H) (o : Nat) (v : AVal) : Prop := h[o]? = some (.own [v])
theorem Var.lt {h o v} (x : Var h o v) : o < h.length := (List.getElem?_eq_some_iff.1 x).1
theorem Var.cell {h o v} (x : Var h o v) : Cl.cell h (pt o) = some v := by
  have x' : h[o]? = some (.own [v]) := x
  simp [Cl.cell, cells, x']
theorem Var.ext {h h' o v} (x : Var h o v) (e : Ext h h') : Var h' o v := e.own x
theorem Var.but {h h' o v} {p : Option Nat} (x : Var h o v) (b : But p h h') (hn : p ≠ some o) : Var h' o v := b.get x hn
theorem Var.ldI {h o n} {k : IntKind} (x : Var h o (.int k n)) {K : Int → Prop} (hk : K n) : Cl.ldI k (pt o) h K := ⟨n, x.cell, hk⟩
theorem Var.ldS {h o n} (x : Var h o (.sl n)) {K : Sl → Prop} (hk : K n) : Cl.ldS (pt o) h K := ⟨n, x.cell, hk⟩
theorem Var.ldV {h o n} (x : Var h o n) {K : AVal → Prop} (hk : K n) : Cl.ldV (pt o) h K := ⟨n, x.cell, hk⟩
theorem Var.st {h o v} (x : Var h o v) (u : AVal) {K : H → Prop} (hk : ∀ h', Var h' o u → But (some o) h h' → h'.length = h.length → K h') : Cl.st1 (pt o) u h K := by
  have hl := x.lt
  refine ⟨h.set o (.own [u]), ?_, hk _ (by unfold Var; simp [hl]) ⟨by simp, fun i hi hne => by rw [List.getElem?_set, if_neg (fun e => hne (by rw [e]))]⟩ (by simp)⟩
  have x' : h[o]? = some (.own [v]) := x
  simp [put1, owned, x']
theorem newO_var {v : AVal} {h : H} {K : Pt → H → Prop} (hk : ∀ h', Var h' h.length v → Ext h h' → h'.length = h.length + 1 → K (pt h.length) h') : newO [v] h K :=
  hk _ (by unfold Var; simp) (Ext.app _ _) (by simp)
/-- What is read at a place that is not changed. -/
theorem But.cellE {o : Option Nat} {h h' : H} {p : Pt} {v : AVal} (b : But o h h') (e : cell h p = some v) (hn : o ≠ p.o ∨ o = none) : cell h' p = cell h p := by
  unfold cell at *
  cases hp : p.o with
  | none => rfl
  | some i =>
    rw [hp] at e hn
    simp only at e ⊢
    obtain ⟨c, h1, h2⟩ := Option.bind_eq_some_iff.1 e
    have hl := cells_lt h1
    have : h'[i]? = h[i]? := b.2 i hl (by rcases hn with hn | hn; exact hn; rw [hn]; simp)
    have hc : cells h' i p.n = cells h i p.n := by unfold cells; rw [this]
    rw [hc]
theorem Ext.cellE {h h' : H} {p : Pt} {v : AVal} (b : Ext h h') (e : Cl.cell h p = some v) : Cl.cell h' p = Cl.cell h p := (b.but none).cellE e (.inr rfl)
/-! ### several changes -/
/-- h' is h, but for objects from n on. -/
def Till (n : Nat) (h h' : H) : Prop := h.length ≤ h'.length ∧ ∀ i, i < n → i < h.length → h'[i]? = h[i]?
theorem Till.refl (n h) : Till n h h := ⟨Nat.le_refl _, fun _ _ _ => rfl⟩
theorem Till.trans {n a b c} (x : Till n a b) (y : Till n b c) : Till n a c := ⟨Nat.le_trans x.1 y.1, fun i h1 h2 => by rw [y.2 i h1 (by have := x.1; omega), x.2 i h1 h2]⟩
theorem Till.ext {n : Nat} {a b : H} (x : Till n a b) (hn : a.length ≤ n) : Ext a b := Ext.of x.1 fun i hi => x.2 i (by omega) hi
theorem Till.le {n m : Nat} {a b : H} (x : Till n a b) (h : m ≤ n) : Till m a b := ⟨x.1, fun i h1 h2 => x.2 i (by omega) h2⟩
theorem Till.get {n : Nat} {h h' : H} (x : Till n h h') {o : Nat} {v : AObj} (e : h[o]? = some v) (ho : o < n) : h'[o]? = some v := by rw [x.2 o ho (List.getElem?_eq_some_iff.1 e).1]; exact e
end Go.Proofs.YtcoampecbpiecaaGreat.Cl

/- The clean machine: objects, slices of slices, changes of several objects. No claim is stated here. -/
set_option linter.unusedVariables false
set_option linter.unusedSimpArgs false
namespace Go.Proofs.YtcoampecbpiecaaGreat.Cl
open Go
/-! ### objects -/
def Obj (h : H) (o : Nat) (cs : List AVal) : Prop := h[o]? = some (.own cs)
theorem Obj.lt {h o cs} (x : Obj h o cs) : o < h.length := (List.getElem?_eq_some_iff.1 x).1
theorem Obj.ext {h h' o cs} (x : Obj h o cs) (e : Ext h h') : Obj h' o cs := e.own x
theorem Obj.but {h h' o cs} {p : Option Nat} (x : Obj h o cs) (b : But p h h') (hn : p ≠ some o) : Obj h' o cs := b.get x hn
theorem newK_obj {k : Nat} {cs : List AVal} {h : H} {K : Pt → H → Prop} (hk : ∀ h', Obj h' h.length cs → Ext h h' → h'.length = h.length + 1 → K ⟨some h.length, k, 0⟩ h') (hc : cs.length = k := by rfl) : newK k cs h K :=
  ⟨hc, hk _ (by unfold Obj; simp) (Ext.app _ _) (by simp)⟩
theorem newO_obj {cs : List AVal} {h : H} {K : Pt → H → Prop} (hk : ∀ h', Obj h' h.length cs → Ext h h' → h'.length = h.length + 1 → K ⟨some h.length, cs.length, 0⟩ h') : newO cs h K :=
  hk _ (by unfold Obj; simp) (Ext.app _ _) (by simp)
theorem isPt_in {o : Nat} {n off : Nat} {K : Prop} (hk : K) : isPt ⟨some o, n, off⟩ K := ⟨rfl, hk⟩
theorem Obj.cellE {h o cs} (x : Obj h o cs) {n i : Nat} (hn : cs.length = n) : Cl.cell h (Pt.add ⟨some o, n, 0⟩ i) = cs[i]? := by
  have x' : h[o]? = some (.own cs) := x
  simp [Cl.cell, Pt.add, cells, x', hn]
theorem Obj.ldI {h o cs} (x : Obj h o cs) {n i : Nat} {k : IntKind} {m : Int} (hn : cs.length = n) (e : cs[i]? = some (.int k m)) {K : Int → Prop} (hk : K m) : Cl.ldI k (Pt.add ⟨some o, n, 0⟩ i) h K := ⟨m, by rw [x.cellE hn, e], hk⟩
theorem Obj.ldS {h o cs} (x : Obj h o cs) {n i : Nat} {m : Sl} (hn : cs.length = n) (e : cs[i]? = some (.sl m)) {K : Sl → Prop} (hk : K m) : Cl.ldS (Pt.add ⟨some o, n, 0⟩ i) h K := ⟨m, by rw [x.cellE hn, e], hk⟩
theorem Obj.ldA {h o cs} (x : Obj h o cs) {n : Nat} (hn : cs.length = n) {K : List AVal → Prop} (hk : K cs) : Cl.ldA ⟨some o, n, 0⟩ n h K := ld_own x hn hk
theorem Obj.stA {h o cs} (x : Obj h o cs) {n m : Nat} {vs : List AVal} {K : H → Prop} (hk : ∀ h', Obj h' o vs → But (some o) h h' → h'.length = h.length → K h') (hn : cs.length = n := by rfl) (hv : vs.length = m := by rfl) (hm : m = n := by rfl) : Cl.stN ⟨some o, n, 0⟩ m vs h K := by
  subst hm
  exact st_own x hn hv fun b e => hk _ e b (by simp)
theorem Obj.st1 {h o cs} (x : Obj h o cs) {n i : Nat} (hn : cs.length = n) (hi : i < n) (v : AVal) {K : H → Prop} (hk : ∀ h', Obj h' o (cs.set i v) → But (some o) h h' → h'.length = h.length → K h') : Cl.st1 (Pt.add ⟨some o, n, 0⟩ i) v h K := by
  have x' : h[o]? = some (.own cs) := x
  have hl := x.lt
  refine ⟨h.set o (.own (cs.set i v)), ?_, hk _ (by unfold Obj; simp [hl]) ⟨by simp, fun j hj hne => by rw [List.getElem?_set, if_neg (fun e => hne (by rw [e]))]⟩ (by simp)⟩
  unfold put1 owned Pt.add
  simp [x', hn, hi]
/-! ### changes of several objects -/
/-- h' is h but for objects of P, and for what is new. -/
def Chg (P : Nat → Prop) (h h' : H) : Prop := h.length ≤ h'.length ∧ ∀ i, i < h.length → ¬ P i → h'[i]? = h[i]?
theorem Chg.refl (P h) : Chg P h h := ⟨Nat.le_refl _, fun _ _ _ => rfl⟩
theorem Chg.trans {P a b c} (x : Chg P a b) (y : Chg P b c) : Chg P a c := ⟨Nat.le_trans x.1 y.1, fun i hi hn => by rw [y.2 i (by have := x.1; omega) hn, x.2 i hi hn]⟩
theorem Chg.to {P Q : Nat → Prop} {a b : H} (x : Chg P a b) (hq : ∀ i, i < a.length → P i → Q i) : Chg Q a b := ⟨x.1, fun i hi hn => x.2 i hi fun hp => hn (hq i hi hp)⟩
theorem Ext.chg {a b : H} (x : Ext a b) (P) : Chg P a b := ⟨x.len, fun i hi _ => x.get hi⟩
theorem But.chg {a b : H} {o : Option Nat} (x : But o a b) {P : Nat → Prop} (hp : ∀ i, o = some i → P i) : Chg P a b := ⟨x.1, fun i hi hn => x.2 i hi fun e => hn (hp i e)⟩
theorem Chg.get {P} {h h' : H} (b : Chg P h h') {i : Nat} {v : AObj} (e : h[i]? = some v) (hn : ¬ P i) : h'[i]? = some v := by
  rw [b.2 i (List.getElem?_eq_some_iff.1 e).1 hn, e]
theorem Chg.ext {P} {h h' : H} (b : Chg P h h') (hn : ∀ i, P i → h.length ≤ i) : Ext h h' := Ext.of b.1 fun i hi => b.2 i hi fun p => by have := hn i p; omega
theorem Ext.chg_ {P} {h a b : H} (x : Ext h a) (y : Chg P a b) (hn : ∀ i, P i → h.length ≤ i) : Ext h b :=
  Ext.of (Nat.le_trans x.len y.1) fun i hi => by
    rw [y.2 i (by have := x.len; omega) (fun p => by have := hn i p; omega), x.get hi]
theorem Chg.range {P} {h h' : H} (b : Chg P h h') {o n off k cs} (e : range h o n off k = some cs) (hn : ∀ i, o = some i → ¬ P i) : range h' o n off k = some cs := by
  obtain ⟨i, xs, rfl, hc, hl, rfl⟩ := range_some e
  refine range_of ?_ hl
  have := cells_lt hc
  unfold Cl.cells at hc ⊢
  rw [b.2 i this (hn i rfl)]; exact hc
theorem Rd.chg {P} {h h' : H} {s z cs} (r : Rd h s z cs) (b : Chg P h h') (hn : ∀ i, s.o = some i → ¬ P i) : Rd h' s z cs :=
  ⟨r.len, r.at_.imp id fun ⟨x, y, e⟩ => ⟨x, y, b.range e hn⟩⟩
theorem Ow.chg {P} {h h' : H} {s z cs} (r : Ow h s z cs) (b : Chg P h h') (hn : ∀ i, s.o = some i → ¬ P i) : Ow h' s z cs :=
  ⟨r.len, r.at_.imp id fun ⟨i, a, x, c, d, e⟩ => ⟨i, a, x, c, d, b.get e (hn i a)⟩⟩
theorem Var.chg {P} {h h' o v} (x : Var h o v) (b : Chg P h h') (hn : ¬ P o) : Var h' o v := b.get x hn
theorem Obj.chg {P} {h h' o v} (x : Obj h o v) (b : Chg P h h') (hn : ¬ P o) : Obj h' o v := b.get x hn
/-! ### slices of slices of integers -/
def RdSS (h : H) (s : Sl) (ls : List (List Int)) : Prop :=
  ∃ vs : List Sl, vs.length = ls.length ∧ Rd h s 1 (vs.map .sl) ∧ ∀ (i : Nat) v l, vs[i]? = some v → ls[i]? = some l → Rd h v 1 (ic l)
theorem RdSS.len {h s ls} (r : RdSS h s ls) : s.len = ls.length := by
  obtain ⟨vs, h1, h2, _⟩ := r
  have := h2.len
  simp at this
  omega
theorem RdSS.ext {h h' s ls} (r : RdSS h s ls) (x : Ext h h') : RdSS h' s ls := by
  obtain ⟨vs, h1, h2, h3⟩ := r
  exact ⟨vs, h1, h2.ext x, fun i v l a b => (h3 i v l a b).ext x⟩
theorem Rd.ilen {h : H} {s : Sl} {l : List Int} (r : Rd h s 1 (ic l)) : s.len = l.length := by have := r.len; rw [ic_len] at this; omega
theorem RdSS.ld {h s ls} (r : RdSS h s ls) {i : Int} (h0 : 0 ≤ i) (h1 : i < ls.length) {K : Sl → Prop} (hk : ∀ v l, ls[i.toNat]? = some l → Rd h v 1 (ic l) → v.len = l.length → K v) : ixS s 1 i fun p => Cl.ldS p h K := by
  obtain ⟨vs, e1, e2, e3⟩ := r
  refine e2.ldS h0 (by omega) fun v hv => ?_
  have hl : ls[i.toNat]? = some ls[i.toNat] := List.getElem?_eq_getElem (by omega)
  have := e3 i.toNat v _ hv hl
  exact hk v _ hl this this.ilen
/-- s lies in new memory of its own, from n on. -/
def NewSS (n : Nat) (h : H) (s : Sl) (ls : List (List Int)) : Prop :=
  ∃ vs : List Sl, vs.length = ls.length ∧ Ow h s 1 (vs.map .sl) ∧ Fr n s ∧ (∀ (i : Nat) v l, vs[i]? = some v → ls[i]? = some l → Ow h v 1 (ic l) ∧ Fr n v) ∧
    (∀ (i j : Nat) v w, i ≠ j → vs[i]? = some v → vs[j]? = some w → ∀ o, v.o = some o → w.o ≠ some o) ∧ ∀ (i : Nat) v, vs[i]? = some v → ∀ o, v.o = some o → s.o ≠ some o
theorem NewSS.rd {n h s ls} (r : NewSS n h s ls) : RdSS h s ls := by
  obtain ⟨vs, h1, h2, _, h3, _⟩ := r
  exact ⟨vs, h1, h2.rd, fun i v l a b => (h3 i v l a b).1.rd⟩
theorem NewSS.le {n m h s ls} (r : NewSS n h s ls) (hm : m ≤ n) : NewSS m h s ls := by
  obtain ⟨vs, h1, h2, h3, h4, h5⟩ := r
  exact ⟨vs, h1, h2, h3.le hm, fun i v l a b => (h4 i v l a b).imp id fun f => f.le hm, h5⟩
theorem NewSS.nil (n h) : NewSS n h Sl.nil [] := ⟨[], rfl, Ow.nil _ _, Fr.nil _, fun i v l a => by simp at a, fun i j v w _ a => by simp at a, fun i v a => by simp at a⟩
theorem NewSS.mk0 {n h s} (o : Ow h s 1 []) (f : Fr n s) : NewSS n h s [] := ⟨[], rfl, o, f, fun i v l a => by simp at a, fun i j v w _ a => by simp at a, fun i v a => by simp at a⟩
theorem mem_idx {α β : Type} {l : List α} {m : List β} (e : l.length = m.length) {i : Nat} {a : α} (h : l[i]? = some a) : ∃ b, m[i]? = some b :=
  ⟨m[i]'(by have := (List.getElem?_eq_some_iff.1 h).1; omega), List.getElem?_eq_getElem (by have := (List.getElem?_eq_some_iff.1 h).1; omega)⟩
theorem NewSS.chg {P n h h' s ls} (r : NewSS n h s ls) (b : Chg P h h') (hn : ∀ i, n ≤ i → i < h.length → ¬ P i) : NewSS n h' s ls := by
  obtain ⟨vs, h1, h2, h3, h4, h5⟩ := r
  refine ⟨vs, h1, h2.chg b fun o e => hn o (h3 o e) (h2.lt e), h3, fun i v l a c => ?_, h5⟩
  obtain ⟨x, y⟩ := h4 i v l a c
  exact ⟨x.chg b fun o e => hn o (y o e) (x.lt e), y⟩
theorem NewSS.ext {n h h' s ls} (r : NewSS n h s ls) (x : Ext h h') : NewSS n h' s ls := r.chg (x.chg fun _ => False) fun _ _ _ f => f
theorem RdSS.chg {P h h' s ls} (r : RdSS h s ls) (b : Chg P h h') (hn : ∀ i, i < h.length → ¬ P i) : RdSS h' s ls := r.ext (Ext.of b.1 fun i hi => b.2 i hi (hn i hi))
/-- append of a new view to a new slice of views -/
theorem NewSS.app {n h s ls} (r : NewSS n h s ls) {v : Sl} {l : List Int} (ov : Ow h v 1 (ic l)) (fv : Fr n v) (hap : ∀ o, v.o = some o → s.o ≠ some o ∧ ∀ vs : List Sl, Ow h s 1 (vs.map .sl) → ∀ w ∈ vs, w.o ≠ some o)
    {x : Sl} (rx : Rd h x 1 [.sl v]) (hl : (ls.length : Int) + 1 ≤ lim) (hnh : n ≤ h.length) {K : Sl → H → Prop} (hk : ∀ s' h', NewSS n h' s' (ls ++ [l]) → But s.o h h' → (∀ o, s.o = some o → s'.o = some o) → (s.o = none → ∀ o, s'.o = some o → h.length ≤ o) → K s' h') : Cl.app s x 1 h K := by
  obtain ⟨vs, h1, h2, h3, h4, h5, h6⟩ := r
  have hx : x.len = 1 := by have := rx.len; simp at this; omega
  have hs : s.len = ls.length := by have := h2.len; simp at this; omega
  refine app_ow (by omega) h2 rx (by rw [hs, hx]; exact_mod_cast hl) fun s' h' o' ln b k1 k2 => ?_
  have hso : ∀ o, s'.o = some o → s.o = some o ∨ h.length ≤ o := fun o e => by
    cases hq : s.o with
    | none => exact .inr (k2 hq o e)
    | some p => rw [k1 p hq] at e; exact .inl e
  refine hk s' h' ⟨vs ++ [v], by simp [h1], by simpa using o', ?_, ?_, ?_, ?_⟩ b k1 k2
  · intro o e
    rcases hso o e with e | e
    · exact h3 o e
    · omega
  · intro i w l' a c
    rw [List.getElem?_append] at a c
    rw [h1] at a
    split at a
    · next hi =>
      rw [if_pos hi] at c
      obtain ⟨p, q⟩ := h4 i w l' a c
      refine ⟨p.but b ?_, q⟩
      cases hw : w.o with
      | none => 
        cases hq : s.o with
        | none => exact .inr rfl
        | some _ => exact .inl (by simp)
      | some o => exact .inl (by rw [← hw]; intro e; exact h6 i w a o hw (by rw [e, hw]))
    · next hi =>
      rw [if_neg hi] at c
      have : i = ls.length := by
        have := (List.getElem?_eq_some_iff.1 c).1
        simp at this; omega
      subst this
      simp at a c
      subst a c
      refine ⟨ov.but b ?_, fv⟩
      cases hw : v.o with
      | none =>
        cases hq : s.o with
        | none => exact .inr rfl
        | some _ => exact .inl (by simp)
      | some o => exact .inl (by intro e; exact (hap o hw).1 e)
  · intro i j w u hne a c o e
    have hwl : ∀ {k : Nat} {y : Sl}, (vs ++ [v])[k]? = some y → vs[k]? = some y ∨ (k = vs.length ∧ y = v) := fun {k y} e => by
      rw [List.getElem?_append] at e
      split at e
      · exact .inl e
      · have : k = vs.length := by
          have := (List.getElem?_eq_some_iff.1 e).1
          simp at this; omega
        subst this
        simp at e
        exact .inr ⟨rfl, e.symm⟩
    rcases hwl a with a1 | ⟨rfl, rfl⟩
    · rcases hwl c with c1 | ⟨rfl, rfl⟩
      · exact h5 i j w u hne a1 c1 o e
      · intro e2
        exact (hap o e2).2 vs h2 w (List.mem_of_getElem? a1) e
    · rcases hwl c with c1 | ⟨rfl, rfl⟩
      · exact (hap o e).2 vs h2 u (List.mem_of_getElem? c1)
      · exact absurd rfl hne
  · intro i w a o e
    have hlt : o < h.length ∧ s.o ≠ some o := by
      rw [List.getElem?_append] at a
      split at a
      · obtain ⟨l', hl'⟩ := mem_idx h1 a
        exact ⟨(h4 i w l' a hl').1.lt e, h6 i w a o e⟩
      · have : w = v := by
          have := List.mem_of_getElem? a
          simpa using this
        subst this
        exact ⟨ov.lt e, (hap o e).1⟩
    intro e2
    rcases hso o e2 with e3 | e3
    · exact hlt.2 e3
    · omega
/-- the same, the view newer than all -/
theorem NewSS.app_new {n m h s ls} (r : NewSS n h s ls) {v : Sl} {l : List Int} (ov : Ow h v 1 (ic l)) (fv : Fr m v) (hnm : n ≤ m) (hm : ∃ h0 : H, NewSS n h0 s ls ∧ h0.length ≤ m ∧ Ext h0 h)
    {x : Sl} (rx : Rd h x 1 [.sl v]) (hl : (ls.length : Int) + 1 ≤ lim) (hnh : n ≤ h.length) {K : Sl → H → Prop} (hk : ∀ s' h', NewSS n h' s' (ls ++ [l]) → But s.o h h' → (∀ o, s.o = some o → s'.o = some o) → (s.o = none → ∀ o, s'.o = some o → h.length ≤ o) → K s' h') : Cl.app s x 1 h K := by
  obtain ⟨h0, r0, hlen, ex⟩ := hm
  refine r.app ov (fv.le hnm) (fun o e => ?_) rx hl hnh hk
  obtain ⟨vs, h1, h2, h3, h4, h5, h6⟩ := r0
  have ho := fv o e
  refine ⟨fun e2 => by have := h2.lt e2; omega, fun us hu w hw => ?_⟩
  intro e2
  have hq : us = vs := by
    have a := hu.rd.sread (by omega)
    have b := (h2.ext ex).rd.sread (by omega)
    rw [a] at b
    have : us.map AVal.sl = vs.map AVal.sl := Option.some.inj b
    exact List.map_inj_right (fun a b e => by simpa using e) |>.1 this
  subst hq
  obtain ⟨i, hi⟩ := List.getElem?_of_mem hw
  obtain ⟨l', hl'⟩ := mem_idx h1 hi
  have := (h4 i w l' hi hl').1.lt e2
  omega
/-- The same, of objects of P. -/
def NewP (P : Nat → Prop) (h : H) (s : Sl) (ls : List (List Int)) : Prop :=
  ∃ vs : List Sl, vs.length = ls.length ∧ Ow h s 1 (vs.map .sl) ∧ (∀ o, s.o = some o → P o) ∧ (∀ (i : Nat) v l, vs[i]? = some v → ls[i]? = some l → Ow h v 1 (ic l) ∧ ∀ o, v.o = some o → P o) ∧
    (∀ (i j : Nat) v w, i ≠ j → vs[i]? = some v → vs[j]? = some w → ∀ o, v.o = some o → w.o ≠ some o) ∧ ∀ (i : Nat) v, vs[i]? = some v → ∀ o, v.o = some o → s.o ≠ some o
theorem NewSS.p {n h s ls} (r : NewSS n h s ls) {P : Nat → Prop} (hp : ∀ i, n ≤ i → i < h.length → P i) : NewP P h s ls := by
  obtain ⟨vs, h1, h2, h3, h4, h5⟩ := r
  exact ⟨vs, h1, h2, fun o e => hp o (h3 o e) (h2.lt e), fun i v l a b => ⟨(h4 i v l a b).1, fun o e => hp o ((h4 i v l a b).2 o e) ((h4 i v l a b).1.lt e)⟩, h5⟩
theorem NewP.ss {P h s ls} (r : NewP P h s ls) {n : Nat} (hp : ∀ i, P i → n ≤ i) : NewSS n h s ls := by
  obtain ⟨vs, h1, h2, h3, h4, h5⟩ := r
  exact ⟨vs, h1, h2, fun o e => hp o (h3 o e), fun i v l a b => (h4 i v l a b).imp id fun f o e => hp o (f o e), h5⟩
theorem NewP.chg {P Q h h' s ls} (r : NewP P h s ls) (b : Chg Q h h') (hn : ∀ i, P i → i < h.length → ¬ Q i) : NewP P h' s ls := by
  obtain ⟨vs, h1, h2, h3, h4, h5⟩ := r
  refine ⟨vs, h1, h2.chg b fun o e => hn o (h3 o e) (h2.lt e), h3, fun i v l a c => ?_, h5⟩
  obtain ⟨x, y⟩ := h4 i v l a c
  exact ⟨x.chg b fun o e => hn o (y o e) (x.lt e), y⟩
theorem NewP.ext {P h h' s ls} (r : NewP P h s ls) (x : Ext h h') : NewP P h' s ls := r.chg (x.chg fun _ => False) fun _ _ _ f => f
theorem NewP.rd {P h s ls} (r : NewP P h s ls) : RdSS h s ls := by
  obtain ⟨vs, h1, h2, _, h3, _⟩ := r
  exact ⟨vs, h1, h2.rd, fun i v l a b => (h3 i v l a b).1.rd⟩
end Go.Proofs.YtcoampecbpiecaaGreat.Cl

/- Contracts of the functions on tiles, of the search in slices and of the laws' helpers. No claim is stated here. -/
set_option linter.unusedVariables false
set_option linter.unusedSimpArgs false
namespace Go.Proofs.YtcoampecbpiecaaGreat.Cl
open Go
abbrev SP : SatT := Sat Tryz.prog
abbrev Tile := Int × Int × Int × Int
def tc (t : Tile) : List AVal := [i64 t.1, i64 t.2.1, i64 t.2.2.1, i64 t.2.2.2]
def tcs (ts : List Tile) : List AVal := (ts.map tc).flatten
theorem tc_len (t : Tile) : (tc t).length = 4 := rfl
theorem tcs_len : ∀ ts : List Tile, (tcs ts).length = ts.length * 4
  | [] => rfl
  | t :: ts => by
    have := tcs_len ts
    unfold tcs at *
    simp only [List.map_cons, List.flatten_cons, List.length_append, tc_len, List.length_cons]
    omega
theorem tcs_app (a b : List Tile) : tcs (a ++ b) = tcs a ++ tcs b := by simp [tcs]
theorem tcs_cons (a : Tile) (b : List Tile) : tcs (a :: b) = tc a ++ tcs b := by simp [tcs]
theorem tcs_at : ∀ (ts : List Tile) (i : Nat) (t : Tile), ts[i]? = some t → ((tcs ts).drop (i * 4)).take 4 = tc t
  | [], i, t, e => by simp at e
  | a :: ts, 0, t, e => by
    simp at e; subst e
    rw [tcs_cons]; simp [List.take_append, tc_len]
    rw [List.take_of_length_le (by simp [tc_len])]
  | a :: ts, i + 1, t, e => by
    rw [tcs_cons, show (i + 1) * 4 = (tc a).length + i * 4 by rw [tc_len]; omega, ← List.drop_drop, List.drop_left]
    exact tcs_at ts i t (by simpa using e)
/-- A slice of tiles. -/
theorem Rd.ldT {h : H} {s : Sl} {ts : List Tile} (r : Rd h s 4 (tcs ts)) {i : Int} (h0 : 0 ≤ i) (h1 : i < ts.length) {K : List AVal → Prop} (hk : ∀ t, ts[i.toNat]? = some t → K (tc t)) : ixS s 4 i fun p => Cl.ldA p 4 h K := by
  have hlen : ts.length = s.len := by have := r.len; rw [tcs_len] at this; omega
  have hx : ts[i.toNat]? = some ts[i.toNat] := List.getElem?_eq_getElem (by omega)
  exact r.ldA h0 (by omega) (by rw [tcs_at ts _ _ hx]; exact hk _ hx)
theorem Rd.tlen {h : H} {s : Sl} {ts : List Tile} (r : Rd h s 4 (tcs ts)) : s.len = ts.length := by have := r.len; rw [tcs_len] at this; omega

def i64ok (n : Int) : Prop := -9223372036854775808 ≤ n ∧ n < 9223372036854775808
def tileok (c : Int) (t : Tile) : Bool := decide (0 ≤ t.1 ∧ t.1 ≤ c - 1) && decide (0 ≤ t.2.1 ∧ t.2.1 ≤ c - 1) && decide (0 ≤ t.2.2.1 ∧ t.2.2.1 ≤ c - 1) && decide (0 ≤ t.2.2.2 ∧ t.2.2.2 ≤ c - 1)
attribute [local simp] newK newO ixA ldI ldA stN st1 Cl.range cell Cl.cells putN put1 owned get_app get_app0 set_app set_app0 Pt.add splice Ext.app Ext.refl cutA isPt

theorem l01In_c (a b c : Int) (h : H) : callB SP i_spec_l01In [i64 a, i64 b, i64 c] h fun r h' => r = decide (b ≤ a ∧ a ≤ c) ∧ h' = h := by
  apply spec_l01In_call
  unfold spec_l01In_main
  refine bif_dec (fun h1 => ?_) (fun h1 => ?_)
  all_goals simp; try omega
theorem within_c (a b c : Int) (h : H) : callB SP i_impl_within [i64 a, i64 b, i64 c] h fun r h' => r = decide (b ≤ a ∧ a ≤ c) ∧ h' = h := by
  apply impl_within_call
  unfold impl_within_main
  refine bif_dec (fun h1 => ?_) (fun h1 => ?_)
  all_goals simp; try omega
/-! ### search -/
def findI {α : Type} (q : α → Bool) (l : List α) : Int := match l.findIdx? q with | some i => (i : Int) | none => -1
theorem findI_hit {α : Type} {q : α → Bool} {l : List α} {i : Nat} {x : α} (hx : l[i]? = some x) (hq : q x = true) (hn : ∀ j y, j < i → l[j]? = some y → q y = false) : findI q l = i := by
  unfold findI
  have : l.findIdx? q = some i := by
    rw [List.findIdx?_eq_some_iff_getElem]
    obtain ⟨h1, h2⟩ := List.getElem?_eq_some_iff.1 hx
    refine ⟨h1, by rw [h2]; exact hq, fun j hj => ?_⟩
    rw [hn j _ hj (List.getElem?_eq_getElem (by omega))]; simp
  rw [this]
theorem findI_none {α : Type} {q : α → Bool} {l : List α} (hn : ∀ y ∈ l, q y = false) : findI q l = -1 := by
  unfold findI
  have : l.findIdx? q = none := by
    rw [List.findIdx?_eq_none_iff]
    intro x hx; rw [hn x hx]
  rw [this]
theorem findI_ge {α : Type} (q : α → Bool) (l : List α) : decide (findI q l ≥ 0) = l.any q := by
  unfold findI
  cases h : l.findIdx? q with
  | none =>
    rw [List.findIdx?_eq_none_iff] at h
    have : l.any q = false := by rw [List.any_eq_false]; intro x hx; rw [h x hx]; simp
    rw [this]; simp
  | some i =>
    have h2 : l.any q = true := by
      rw [List.findIdx?_eq_some_iff_getElem] at h
      obtain ⟨h1, h2, _⟩ := h
      exact List.any_eq_true.2 ⟨_, List.getElem_mem h1, h2⟩
    rw [h2]; simp
theorem indexFunc_int_c {h0 : H} {s : Sl} {l : List Int} (r : Rd h0 s 1 (ic l)) (hl : l.length < 4000000000000000000) (g : Nat) (cap : List AVal) (q : Int → Bool)
    (hg : ∀ x ∈ l, ∀ h, Ext h0 h → callB SP g (i64 x :: cap) h fun b h' => b = q x ∧ Ext h h') : callI SP .i64 i_slices_IndexFunc_s_int64_int64_ [.sl s, .func g cap] h0 fun n h' => n = findI q l ∧ Ext h0 h' := by
  have hlen : s.len = l.length := by have := r.len; rw [ic_len] at this; omega
  apply slices_IndexFunc_s_int64_int64__call
  unfold slices_IndexFunc_s_int64_int64__main
  refine slices_IndexFunc_s_int64_int64__rule0 _ _ s _ _ (fun i h => 0 ≤ i ∧ i ≤ l.length ∧ Ext h0 h ∧ ∀ j y, j < i.toNat → l[j]? = some y → q y = false) (fun i _ => (l.length - i).toNat) ?_ _ ⟨by omega, by omega, Ext.refl _, fun j y hj => by omega⟩
  intro X i h ⟨i0, i1, hx, hn⟩ hX
  unfold slices_IndexFunc_s_int64_int64__b0
  refine bif_dec (fun hi => ?_) (fun hi => ?_)
  · refine (r.ext hx).ldI i0 (by omega) fun x hxe => via_func ?_
    refine (hg x (List.mem_of_getElem? hxe) h hx).to ?_
    rintro _ h' ⟨rfl, hx'⟩
    refine bif_b (fun hq => ?_) (fun hq => ?_)
    · refine ⟨i, rfl, ?_, hx.trans hx'⟩
      rw [findI_hit hxe hq hn]; omega
    · rw [w64_of (by omega) (by omega)]
      refine hX _ _ ⟨by omega, by omega, hx.trans hx', fun j y hj hy => ?_⟩ (by omega)
      by_cases hji : j = i.toNat
      · subst hji; rw [hxe] at hy; cases hy; exact hq
      · exact hn j y (by omega) hy
  · refine ⟨_, rfl, ?_, hx⟩
    rw [findI_none]
    intro y hy
    obtain ⟨j, hj, rfl⟩ := List.mem_iff_getElem.1 hy
    exact hn j _ (by omega) (List.getElem?_eq_getElem hj)
theorem containsFunc_int_c {h0 : H} {s : Sl} {l : List Int} (r : Rd h0 s 1 (ic l)) (hl : l.length < 4000000000000000000) (g : Nat) (cap : List AVal) (q : Int → Bool)
    (hg : ∀ x ∈ l, ∀ h, Ext h0 h → callB SP g (i64 x :: cap) h fun b h' => b = q x ∧ Ext h h') : callB SP i_slices_ContainsFunc_s_int64_int64_ [.sl s, .func g cap] h0 fun b h' => b = l.any q ∧ Ext h0 h' := by
  apply slices_ContainsFunc_s_int64_int64__call
  unfold slices_ContainsFunc_s_int64_int64__main
  refine (indexFunc_int_c r hl g cap q hg).to ?_
  rintro _ h' ⟨rfl, hx⟩
  exact ⟨_, rfl, findI_ge q l, hx⟩
/-! ### tiles -/
theorem isTile1_w (x c : Int) (o : Nat) (h : H) (ho : h[o]? = some (.own [i64 c])) : callB SP i_impl_isTile_1 [i64 x, .ptr ⟨some o, 1, 0⟩] h fun b h' => b = (!decide (0 ≤ x ∧ x ≤ w64 (c - 1))) ∧ h' = h := by
  apply impl_isTile_1_call
  unfold impl_isTile_1_main
  refine ⟨c, by simp [ho], ?_⟩
  dsimp only
  refine (within_c _ _ _ _).to ?_
  rintro _ _ ⟨rfl, rfl⟩
  exact ⟨_, rfl, rfl, rfl⟩
theorem isTile_w (t : Tile) (c : Int) (h : H) : callB SP i_impl_isTile [.agg (tc t), i64 c] h fun b h' => b = tileok (w64 (c - 1) + 1) t ∧ Ext h h' := by
  apply impl_isTile_call
  simp only [impl_isTile_main, newK, newO]
  refine ⟨rfl, ⟨by omega, by omega, by omega⟩, rfl, rfl, ?_⟩
  refine (containsFunc_int_c (l := [t.1, t.2.1, t.2.2.1, t.2.2.2]) ⟨rfl, .inr ⟨rfl, rfl, ?_⟩⟩ (by simp) i_impl_isTile_1 _ (fun x => !decide (0 ≤ x ∧ x ≤ w64 (c - 1))) ?_).to ?_
  · simp [tc, ic]
  · intro x _ h' hx
    refine (isTile1_w x c _ h' (hx.own (by simp))).to ?_
    rintro _ _ ⟨rfl, rfl⟩
    exact ⟨rfl, Ext.refl _⟩
  · rintro _ h' ⟨rfl, l, rfl⟩
    refine ⟨_, rfl, ?_, by simp⟩
    simp [tileok, Bool.and_assoc]
theorem tcs_one (t : Tile) : tcs [t] = tc t := by simp [tcs]
theorem l01Tile_c (c : Int) (hc : i64ok (c - 1)) (t : Tile) (h : H) : callB SP i_spec_l01Tile [i64 c, .agg (tc t)] h fun b h' => b = tileok c t ∧ Ext h h' := by
  apply spec_l01Tile_call
  simp only [spec_l01Tile_main, newK]
  refine ⟨rfl, ?_⟩
  refine spec_l01Tile_rule0 _ _ _ _ (fun i h' => 0 ≤ i ∧ i ≤ 4 ∧ h' = h ++ [.own (tc t)] ∧ ∀ j y, j < i.toNat → [t.1, t.2.1, t.2.2.1, t.2.2.2][j]? = some y → 0 ≤ y ∧ y ≤ c - 1) (fun i _ => (4 - i).toNat) ?_ _ ⟨by omega, by omega, rfl, fun j y hj => by omega⟩
  rintro X i _ ⟨i0, i1, rfl, hn⟩ hX
  unfold spec_l01Tile_b0 spec_l01Tile_C0
  refine bif_dec (fun hi => ?_) (fun hi => ?_)
  · have hx : ∃ x, [t.1, t.2.1, t.2.2.1, t.2.2.2][i.toNat]? = some x := ⟨_, List.getElem?_eq_getElem (by simp; omega)⟩
    obtain ⟨x, hx⟩ := hx
    refine ⟨⟨i0, hi⟩, rfl, x, ?_, ?_⟩
    · have hg : (tc t)[i.toNat]? = some (i64 x) := by
        rw [show tc t = ic [t.1, t.2.1, t.2.2.1, t.2.2.2] from rfl]
        unfold ic
        rw [List.getElem?_map, hx]; rfl
      simp [hg, tc_len]
    · dsimp only
      rw [w64_of hc.1 hc.2, w64_of (by omega) (by omega)]
      refine (l01In_c _ _ _ _).to ?_
      rintro _ _ ⟨rfl, rfl⟩
      refine bif_not (fun hq => ?_) (fun hq => ?_)
      · refine ⟨_, rfl, ?_, by simp⟩
        rw [decide_eq_false_iff_not] at hq
        have hm := List.mem_of_getElem? hx
        simp only [List.mem_cons, List.not_mem_nil, or_false] at hm
        unfold tileok
        rcases hm with rfl | rfl | rfl | rfl <;> simp [hq]
      · refine hX _ _ ⟨by omega, by omega, rfl, fun j y hj hy => ?_⟩ (by omega)
        by_cases hji : j = i.toNat
        · subst hji; rw [hx] at hy; cases hy; exact of_decide_eq_true hq
        · exact hn j y (by omega) hy
  · refine ⟨_, rfl, ?_, by simp⟩
    unfold tileok
    have h4 : i.toNat = 4 := by omega
    rw [h4] at hn
    have a0 := hn 0 _ (by omega) rfl
    have a1 := hn 1 _ (by omega) rfl
    have a2 := hn 2 _ (by omega) rfl
    have a3 := hn 3 _ (by omega) rfl
    simp [a0, a1, a2, a3]
/-! ### TurnsOf -/
/-! ### the laws' helpers -/
def tl (t : Tile) : List Int := [t.1, t.2.1, t.2.2.1, t.2.2.2]
/-- k, k + 1, .. -/
def upto (k : Int) : Nat → List Int
  | 0 => []
  | n + 1 => k :: upto (k + 1) n
/-- a store into a view that is owned whole -/
theorem Ow.st1 {h : H} {s : Sl} {z : Nat} {l : List Int} (r : Ow h s z (ic l)) {i j : Int} (hz : 0 < z) (h0 : 0 ≤ i) (h1 : i < s.len) (j0 : 0 ≤ j) (j1 : j < z) (x : Int) {K : H → Prop}
    (hk : ∀ h', Ow h' s z (ic (l.set (i.toNat * z + j.toNat) x)) → But s.o h h' → h'.length = h.length → K h') : ixS s z i fun p => ixA p z 1 j fun q => Cl.st1 q (i64 x) h K := by
  obtain ⟨a, b⟩ | ⟨o, a, b, c, d, e⟩ := r.at_
  · omega
  · have hlen := r.len
    rw [ic_len] at hlen
    have hb : i.toNat * z + j.toNat < l.length := by
      have : (i.toNat + 1) * z ≤ s.len * z := Nat.mul_le_mul_right _ (by omega)
      rw [Nat.add_mul] at this; omega
    have ho : o < h.length := (List.getElem?_eq_some_iff.1 e).1
    refine ⟨⟨h0, h1⟩, b, by simp [a], ⟨j0, j1⟩, by simp [Pt.add, a], h.set o (.own (ic (l.set (i.toNat * z + j.toNat) x))), ?_, hk _ ⟨by rw [ic_len]; simpa using hlen, .inr ⟨o, a, b, c, d, by simp [List.getElem?_set, ho]⟩⟩ ?_ (by simp)⟩
    · unfold put1 owned Pt.add
      have : (ic l).set (i.toNat * z + j.toNat) (i64 x) = ic (l.set (i.toNat * z + j.toNat) x) := by unfold ic; rw [List.map_set]
      simp [a, c, d, e, ic_len, hlen, this]
      omega
    · rw [a]
      exact ⟨by simp, fun k hk hn => by rw [List.getElem?_set, if_neg (fun e => hn (by rw [e]))]⟩
attribute [local simp] newK newO ixA ldI ldA stN st1 Cl.range cell Cl.cells putN put1 owned get_app get_app0 set_app set_app0 Pt.add splice Ext.app Ext.refl cutA isPt
/-! ### comparing -/
def cmpL : List Int → List Int → Int
  | [], [] => 0
  | [], _ :: _ => -1
  | _ :: _, [] => 1
  | a :: l, b :: m => if a < b then -1 else if a > b then 1 else cmpL l m
theorem isNaN_c (x : Int) (h : H) : callB SP i_cmp_isNaN_int64_ [i64 x] h fun b h' => b = false ∧ h' = h := by
  apply cmp_isNaN_int64__call
  unfold cmp_isNaN_int64__main
  exact ⟨_, rfl, by simp, rfl⟩
theorem cmpCompare_c (x y : Int) (h : H) : callI SP .i64 i_cmp_Compare_int64_ [i64 x, i64 y] h fun n h' => n = (if x < y then -1 else if x > y then 1 else 0) ∧ h' = h := by
  apply cmp_Compare_int64__call
  unfold cmp_Compare_int64__main
  refine (isNaN_c x h).to ?_
  rintro _ _ ⟨rfl, rfl⟩
  refine (isNaN_c y _).to ?_
  rintro _ _ ⟨rfl, rfl⟩
  refine bif_dec (fun h1 => ⟨_, rfl, by simp [h1], rfl⟩) (fun h1 => bif_dec (fun h2 => ⟨_, rfl, by simp [h1, h2], rfl⟩) (fun h2 => ⟨_, rfl, by simp [h1, h2], rfl⟩))
theorem drop_cons {α : Type} {l : List α} {i : Nat} {x : α} (e : l[i]? = some x) : l.drop i = x :: l.drop (i + 1) := by
  obtain ⟨h, rfl⟩ := List.getElem?_eq_some_iff.1 e
  exact List.drop_eq_getElem_cons h
theorem sCompare_c {h0 : H} {s s' : Sl} {l l' : List Int} (r : Rd h0 s 1 (ic l)) (r' : Rd h0 s' 1 (ic l')) (hl : l.length < 4000000000000000000) : callI SP .i64 i_slices_Compare_s_int64_int64_ [.sl s, .sl s'] h0 fun n h' => n = cmpL l l' ∧ h' = h0 := by
  have hlen : s.len = l.length := by have := r.len; rw [ic_len] at this; omega
  have hlen' : s'.len = l'.length := by have := r'.len; rw [ic_len] at this; omega
  apply slices_Compare_s_int64_int64__call
  unfold slices_Compare_s_int64_int64__main
  refine slices_Compare_s_int64_int64__rule0 _ _ s s' s _ (fun i h => 0 ≤ i ∧ i ≤ l.length ∧ i ≤ l'.length ∧ h = h0 ∧ cmpL l l' = cmpL (l.drop i.toNat) (l'.drop i.toNat)) (fun i _ => (l.length - i).toNat) ?_ _ ⟨by omega, by omega, by omega, rfl, by simp⟩
  rintro X i _ ⟨i0, i1, i2, rfl, he⟩ hX
  unfold slices_Compare_s_int64_int64__b0 slices_Compare_s_int64_int64__C0
  refine bif_dec (fun hi => ?_) (fun hi => ?_)
  · refine r.ldI i0 (by omega) fun x hx => bif_dec (fun hj => ?_) (fun hj => ?_)
    · refine ⟨_, rfl, ?_, rfl⟩
      rw [he, drop_cons hx, List.drop_eq_nil_of_le (show l'.length ≤ i.toNat by omega)]; rfl
    · refine r'.ldI i0 (by omega) fun y hy => ?_
      refine (cmpCompare_c x y _).to ?_
      rintro _ _ ⟨rfl, rfl⟩
      rw [drop_cons hx, drop_cons hy, cmpL] at he
      refine bif_ne (fun hq => ⟨_, rfl, ?_, rfl⟩) (fun hq => ?_)
      · rw [he]
        split
        · rfl
        · split
          · rfl
          · next h1 h2 => simp [h1, h2] at hq
      · rw [w64_of (by omega) (by omega)]
        refine hX _ _ ⟨by omega, by omega, by omega, rfl, ?_⟩ (by omega)
        rw [he, show (i + 1).toNat = i.toNat + 1 by omega]
        split
        · next h1 => simp [h1] at hq
        · split
          · next h1 h2 => simp [h1, h2] at hq
          · rfl
  · have e1 : l.drop i.toNat = [] := List.drop_eq_nil_of_le (by omega)
    refine bif_dec (fun hj => ⟨_, rfl, ?_, rfl⟩) (fun hj => ⟨_, rfl, ?_, rfl⟩)
    · have hy : l'[i.toNat]? = some _ := List.getElem?_eq_getElem (by omega)
      rw [he, e1, drop_cons hy]; rfl
    · rw [he, e1, List.drop_eq_nil_of_le (show l'.length ≤ i.toNat by omega)]; rfl
def cmpT (a b : Tile) : Int := cmpL (tl a) (tl b)
theorem compare_c (a b : Tile) (h : H) : callI SP .i64 i_impl_compare [.agg (tc a), .agg (tc b)] h fun n h' => n = cmpT a b ∧ Ext h h' := by
  apply impl_compare_call
  simp only [impl_compare_main, newK]
  refine ⟨rfl, rfl, ⟨by omega, by omega, by omega⟩, rfl, rfl, ⟨by omega, by omega, by omega⟩, rfl, rfl, ?_⟩
  refine (sCompare_c (l := tl a) (l' := tl b) ⟨rfl, .inr ⟨rfl, rfl, ?_⟩⟩ ⟨rfl, .inr ⟨rfl, rfl, ?_⟩⟩ (by simp [tl])).to ?_
  · simp [tc, tl, ic]
  · simp [tc, tl, ic]
  · rintro _ _ ⟨rfl, rfl⟩
    exact ⟨_, rfl, rfl, by simp⟩
theorem l01Before_c (a b : Tile) (h : H) : callB SP i_spec_l01Before [.agg (tc a), .agg (tc b)] h fun r h' => r = decide (cmpT a b < 0) ∧ Ext h h' := by
  apply spec_l01Before_call
  simp only [spec_l01Before_main, newK]
  refine ⟨rfl, rfl, ?_⟩
  refine spec_l01Before_rule0 _ _ _ _ (fun i h' => 0 ≤ i ∧ i ≤ 4 ∧ h' = h ++ [.own (tc a)] ++ [.own (tc b)] ∧ cmpT a b = cmpL ((tl a).drop i.toNat) ((tl b).drop i.toNat)) (fun i _ => (4 - i).toNat) ?_ _ ⟨by omega, by omega, rfl, by simp [cmpT]⟩
  rintro X i _ ⟨i0, i1, rfl, he⟩ hX
  unfold spec_l01Before_b0 spec_l01Before_C0
  refine bif_dec (fun hi => ?_) (fun hi => ?_)
  · have hx : (tl a)[i.toNat]? = some _ := List.getElem?_eq_getElem (by simp [tl]; omega)
    have hy : (tl b)[i.toNat]? = some _ := List.getElem?_eq_getElem (by simp [tl]; omega)
    rw [drop_cons hx, drop_cons hy, cmpL] at he
    have gx := ic_at hx
    have gy := ic_at hy
    refine ixA_ldI (cs := tc a) (by simp) rfl i0 hi gx (ixA_ldI (cs := tc b) (by simp) rfl i0 hi gy (bif_ne (fun hq => ?_) (fun hq => ?_)))
    · refine ixA_ldI (cs := tc a) (by simp) rfl i0 hi gx (ixA_ldI (cs := tc b) (by simp) rfl i0 hi gy ⟨_, rfl, ?_, by simp⟩)
      rw [he]
      by_cases h1 : (tl a)[i.toNat]'(by simp [tl]; omega) < (tl b)[i.toNat]'(by simp [tl]; omega)
      · simp [h1]
      · have h2 : (tl a)[i.toNat]'(by simp [tl]; omega) > (tl b)[i.toNat]'(by simp [tl]; omega) := by omega
        simp [h1, h2]
    · rw [w64_of (by omega) (by omega)]
      refine hX _ _ ⟨by omega, by omega, rfl, ?_⟩ (by omega)
      rw [he, if_neg (by omega), if_neg (by omega), show (i + 1).toNat = i.toNat + 1 by omega]
  · refine ⟨_, rfl, ?_, by simp⟩
    rw [he, List.drop_eq_nil_of_le (by simp [tl]; omega), List.drop_eq_nil_of_le (by simp [tl]; omega)]
    rfl
/-- a store of one cell into a view that is owned whole -/
theorem Ow.stC {h : H} {s : Sl} {cs : List AVal} (r : Ow h s 1 cs) {i : Int} (h0 : 0 ≤ i) (h1 : i < s.len) (v : AVal) {K : H → Prop}
    (hk : ∀ h', Ow h' s 1 (cs.set i.toNat v) → But s.o h h' → h'.length = h.length → K h') : ixS s 1 i fun p => Cl.st1 p v h K := by
  obtain ⟨a, b⟩ | ⟨o, a, b, c, d, e⟩ := r.at_
  · omega
  · have hlen := r.len
    have ho : o < h.length := (List.getElem?_eq_some_iff.1 e).1
    refine ⟨⟨h0, h1⟩, b, by simp [a], h.set o (.own (cs.set i.toNat v)), ?_, hk _ ⟨by simpa using hlen, .inr ⟨o, a, b, c, d, by simp [List.getElem?_set, ho]⟩⟩ ?_ (by simp)⟩
    · unfold put1 owned
      simp [a, c, d, e, hlen]
      omega
    · rw [a]
      exact ⟨by simp, fun k hk hn => by rw [List.getElem?_set, if_neg (fun e => hn (by rw [e]))]⟩
theorem Ow.stI {h : H} {s : Sl} {l : List Int} (r : Ow h s 1 (ic l)) {i : Int} (h0 : 0 ≤ i) (h1 : i < s.len) (x : Int) {K : H → Prop}
    (hk : ∀ h', Ow h' s 1 (ic (l.set i.toNat x)) → But s.o h h' → h'.length = h.length → K h') : ixS s 1 i fun p => Cl.st1 p (.int .i64 x) h K :=
  r.stC h0 h1 _ fun h' o b n => hk h' (by
    have : (ic l).set i.toNat (i64 x) = ic (l.set i.toNat x) := by unfold ic; rw [List.map_set]
    rw [← this]; exact o) b n
/-- a store of an element of several cells into a view that is owned whole -/
theorem Ow.stA {h : H} {s : Sl} {z : Nat} {cs : List AVal} (r : Ow h s z cs) {i : Int} (h0 : 0 ≤ i) (h1 : i < s.len) (vs : List AVal) (hv : vs.length = z) {K : H → Prop}
    (hk : ∀ h', Ow h' s z (splice cs (i.toNat * z) vs) → But s.o h h' → h'.length = h.length → K h') : ixS s z i fun p => Cl.stN p z vs h K := by
  obtain ⟨a, b⟩ | ⟨o, a, b, c, d, e⟩ := r.at_
  · omega
  · have hlen := r.len
    have ho : o < h.length := (List.getElem?_eq_some_iff.1 e).1
    have hb : i.toNat * z + z ≤ s.len * z := by
      have : (i.toNat + 1) * z ≤ s.len * z := Nat.mul_le_mul_right _ (by omega)
      rw [Nat.add_mul] at this; omega
    have hsl : (splice cs (i.toNat * z) vs).length = s.len * z := by
      unfold splice
      rw [List.length_append, List.length_append, List.length_take, List.length_drop, hlen, hv]; omega
    refine ⟨⟨h0, h1⟩, b, by simp [a], h.set o (.own (splice cs (i.toNat * z) vs)), hv, ?_, hk _ ⟨hsl, .inr ⟨o, a, b, c, d, by simp [List.getElem?_set, ho]⟩⟩ ?_ (by simp)⟩
    · unfold putN owned
      simp [a, c, d, e, hlen, hv]
      omega
    · rw [a]
      exact ⟨by simp, fun k hk hn => by rw [List.getElem?_set, if_neg (fun e => hn (by rw [e]))]⟩
theorem tcs_set : ∀ (l : List Tile) (i : Nat) (t : Tile), i < l.length → splice (tcs l) (i * 4) (tc t) = tcs (l.set i t)
  | [], i, t, h => by simp at h
  | a :: l, 0, t, h => by
    unfold splice
    simp [tcs_cons, tc]
  | a :: l, i + 1, t, h => by
    have ih := tcs_set l i t (by simpa using h)
    rw [List.set_cons_succ, tcs_cons, tcs_cons, ← ih]
    unfold splice
    rw [show (i + 1) * 4 = (tc a).length + i * 4 by rw [tc_len]; omega, show (tc a).length + i * 4 + (tc t).length = (tc a).length + (i * 4 + (tc t).length) by omega]
    rw [List.take_length_add_append, List.drop_length_add_append]
    simp
end Go.Proofs.YtcoampecbpiecaaGreat.Cl

/- Contracts of the laws' helpers for sets and for slices of slices, and of the functions that tell sets. No claim is stated here. -/
set_option linter.unusedVariables false
set_option linter.unusedSimpArgs false
namespace Go.Proofs.YtcoampecbpiecaaGreat.Cl
open Go
/-! ### sets -/
/-- The cells of a set. -/
def SetC (c : Int) (s : Sl) : List AVal := [i64 c, .sl s]
/-! ### slices of integers and of slices -/
/-- All lengths of a slice of slices, and its own. -/
def sumLen (ls : List (List Int)) : Nat := (ls.map List.length).sum
theorem sumLen_mem {ls : List (List Int)} {l : List Int} (h : l ∈ ls) : l.length ≤ sumLen ls := by
  unfold sumLen
  induction ls with
  | nil => simp at h
  | cons a ls ih =>
    simp only [List.map_cons, List.sum_cons]
    rcases List.mem_cons.1 h with rfl | h
    · omega
    · have := ih h; omega
/-- What marks make of the rows. -/
def marks (k : Int) : List (List Int) → List (List Int)
  | [] => []
  | l :: ls => upto k l.length :: marks (k + l.length) ls
end Go.Proofs.YtcoampecbpiecaaGreat.Cl

/- Contracts of the functions that tell sets, rows of numbers of tiles, fillings, cylinders and tori. No claim is stated here. -/
set_option linter.unusedVariables false
set_option linter.unusedSimpArgs false
namespace Go.Proofs.YtcoampecbpiecaaGreat.Cl
open Go
/-! ### reading, by place -/
def sd (t : Tile) : Nat → Int | 0 => t.1 | 1 => t.2.1 | 2 => t.2.2.1 | _ => t.2.2.2
def tat (ts : List Tile) (n : Int) : Tile := ts.getD n.toNat (0, 0, 0, 0)
theorem tat_at {ts : List Tile} {n : Int} {t : Tile} (h : ts[n.toNat]? = some t) : tat ts n = t := by unfold tat; rw [List.getD_eq_getElem?_getD, h]; rfl
theorem at_tat {ts : List Tile} {n : Int} (h1 : n.toNat < ts.length) : ts[n.toNat]? = some (tat ts n) := by unfold tat; rw [List.getD_eq_getElem?_getD, List.getElem?_eq_getElem h1]; rfl
theorem tc_sd (t : Tile) {k : Nat} (hk : k < 4) : (tc t)[k]? = some (i64 (sd t k)) := by
  match k with
  | 0 => rfl
  | 1 => rfl
  | 2 => rfl
  | 3 => rfl
theorem Rd.sideG {h : H} {s : Sl} {ts : List Tile} (r : Rd h s 4 (tcs ts)) {n k : Int} (h0 : 0 ≤ n) (h1 : n < ts.length) (k0 : 0 ≤ k) (k1 : k < 4) {K : Int → Prop} (hk : K (sd (tat ts n) k.toNat)) : ixS s 4 n fun p => ixA p 4 1 k fun q => Cl.ldI .i64 q h K := by
  have hl := r.tlen
  refine r.ix h0 (by omega) fun p po pr => ⟨⟨k0, by omega⟩, po, _, ?_, hk⟩
  have := cell_of_range pr (i := k.toNat) (by omega)
  rw [Pt.add, Nat.mul_one, this, tcs_at ts n.toNat _ (at_tat (by omega)), tc_sd _ (by omega)]
theorem Rd.tileG {h : H} {s : Sl} {ts : List Tile} (r : Rd h s 4 (tcs ts)) {n : Int} (h0 : 0 ≤ n) (h1 : n < ts.length) {K : List AVal → Prop} (hk : K (tc (tat ts n))) : ixS s 4 n fun p => Cl.ldA p 4 h K :=
  r.ldT h0 h1 fun t ht => by rw [← tat_at ht]; exact hk
theorem Rd.ldG {h : H} {s : Sl} {l : List Int} (r : Rd h s 1 (ic l)) {i : Int} (h0 : 0 ≤ i) (h1 : i < l.length) {K : Int → Prop} (hk : K (l.getD i.toNat 0)) : ixS s 1 i fun p => Cl.ldI .i64 p h K :=
  r.ldI h0 h1 fun x hx => by rw [List.getD_eq_getElem?_getD, hx] at hk; exact hk
theorem Rd.ixC {h : H} {s : Sl} {l : List Int} (r : Rd h s 1 (ic l)) {i : Int} (h0 : 0 ≤ i) (h1 : i < l.length) {K : Pt → Prop} (hk : ∀ p : Pt, cell h p = some (i64 (l.getD i.toNat 0)) → K p) : ixS s 1 i K := by
  have hlen := r.ilen
  obtain hl | ⟨a, b, c⟩ := r.at_
  · omega
  · refine ⟨⟨h0, by omega⟩, a, b, hk _ ?_⟩
    have := cell_of_range c (i := i.toNat) (by omega)
    rw [Nat.mul_one, this]
    unfold ic
    rw [List.getElem?_map, List.getElem?_eq_getElem (by omega), List.getD_eq_getElem?_getD, List.getElem?_eq_getElem (by omega)]
    rfl
theorem Rd.ixT {h : H} {s : Sl} {ts : List Tile} (r : Rd h s 4 (tcs ts)) {n : Int} (h0 : 0 ≤ n) (h1 : n < ts.length) {K : Pt → Prop} (hk : ∀ p : Pt, p.o.isSome = true → range h p.o p.n p.off 4 = some (tc (tat ts n)) → K p) : ixS s 4 n K := by
  have hl := r.tlen
  refine r.ix h0 (by omega) fun p po pr => hk p po ?_
  rw [pr, tcs_at ts n.toNat _ (at_tat (by omega))]
theorem Ext.rangeE {h h' : H} (x : Ext h h') {o n off k cs} (e : Cl.range h o n off k = some cs) : Cl.range h' o n off k = Cl.range h o n off k := by rw [x.range e, e]
theorem Obj.sdI {h : H} {o : Nat} {t : Tile} (x : Obj h o (tc t)) {k : Int} (k0 : 0 ≤ k) (k1 : k < 4) {K : Int → Prop} (hk : K (sd t k.toNat)) : ixA ⟨some o, 4, 0⟩ 4 1 k fun p => Cl.ldI .i64 p h K :=
  ixA_ldI x rfl k0 (by omega) (tc_sd t (by omega)) hk
def rw_ (rows : List (List Int)) (y : Nat) : List Int := rows.getD y []
def G (rows : List (List Int)) (y x : Nat) : Int := (rw_ rows y).getD x 0
theorem rw_at {rows : List (List Int)} {y : Nat} {l : List Int} (h : rows[y]? = some l) : rw_ rows y = l := by unfold rw_; rw [List.getD_eq_getElem?_getD, h]; rfl
theorem at_rw {rows : List (List Int)} {y : Nat} (h : y < rows.length) : rows[y]? = some (rw_ rows y) := by unfold rw_; rw [List.getD_eq_getElem?_getD, List.getElem?_eq_getElem h]; rfl
theorem RdSS.ldG {h s ls} (r : RdSS h s ls) {i : Int} (h0 : 0 ≤ i) (h1 : i < ls.length) {K : Sl → Prop} (hk : ∀ v, Rd h v 1 (ic (rw_ ls i.toNat)) → v.len = (rw_ ls i.toNat).length → K v) : ixS s 1 i fun p => Cl.ldS p h K :=
  r.ld h0 h1 fun v l hv rv lv => by rw [← rw_at hv] at rv lv; exact hk v rv lv
theorem RdSS.ixC {h s ls} (r : RdSS h s ls) {i : Int} (h0 : 0 ≤ i) (h1 : i < ls.length) {K : Pt → Prop} (hk : ∀ (p : Pt) v, cell h p = some (.sl v) → Rd h v 1 (ic (rw_ ls i.toNat)) → v.len = (rw_ ls i.toNat).length → K p) : ixS s 1 i K := by
  have hlen := r.len
  obtain ⟨vs, e1, e2, e3⟩ := r
  have hv : vs[i.toNat]? = some vs[i.toNat] := List.getElem?_eq_getElem (by omega)
  have hr := e3 _ _ _ hv (at_rw (by omega))
  obtain hl | ⟨a, b, c⟩ := e2.at_
  · omega
  · refine ⟨⟨h0, by omega⟩, a, b, hk _ _ ?_ hr hr.ilen⟩
    have := cell_of_range c (i := i.toNat) (by omega)
    rw [Nat.mul_one, this, List.getElem?_map, hv]
    rfl
theorem within_k {a b c : Int} {h : H} {K : Bool → H → Prop} (hk : K (decide (b ≤ a ∧ a ≤ c)) h) : callB SP i_impl_within [i64 a, i64 b, i64 c] h K :=
  (within_c a b c h).to (by rintro _ _ ⟨rfl, rfl⟩; exact hk)
theorem l01In_k {a b c : Int} {h : H} {K : Bool → H → Prop} (hk : K (decide (b ≤ a ∧ a ≤ c)) h) : callB SP i_spec_l01In [i64 a, i64 b, i64 c] h K :=
  (l01In_c a b c h).to (by rintro _ _ ⟨rfl, rfl⟩; exact hk)
/-! ### sets -/
def Qset (c : Int) (ts : List Tile) (j : Nat) : Prop := tileok c (tat ts j) = true ∧ (0 < j → cmpT (tat ts ((j : Int) - 1)) (tat ts j) < 0)
def setOK (c : Int) (ts : List Tile) : Prop := (1 ≤ c ∧ c ≤ 6) ∧ ts.length ≤ 16 ∧ ∀ j, j < ts.length → Qset c ts j
theorem l01Is_c {h0 : H} {c : Int} {s : Sl} {ts : List Tile} (r : Rd h0 s 4 (tcs ts)) : callB SP i_spec_l01Is [.agg (SetC c s)] h0 fun b h' => (b = true ↔ setOK c ts) ∧ Ext h0 h' := by
  have hl := r.tlen
  apply spec_l01Is_call
  unfold spec_l01Is_main
  refine newK_obj fun h1 o1 x1 n1 => ?_
  refine isPt_in (o1.ldI rfl rfl ?_)
  refine l01In_k ?_
  refine bif_not (fun hc => ⟨_, rfl, ?_, x1⟩) (fun hc => ?_)
  · simp only [Bool.false_eq_true, false_iff]
    intro hs
    simp at hc
    have := hs.1; omega
  have hc' : 1 ≤ c ∧ c ≤ 6 := by simpa using hc
  refine isPt_in (o1.ldS rfl rfl ?_)
  refine bif_dec (fun hq => ⟨_, rfl, ?_, x1⟩) (fun hq => ?_)
  · simp only [Bool.false_eq_true, false_iff]
    intro hs
    have := hs.2.1; omega
  refine spec_l01Is_rule0 _ _ _ (fun i h => 0 ≤ i ∧ i ≤ ts.length ∧ Ext h1 h ∧ ∀ j, j < i.toNat → Qset c ts j) (fun i _ => (ts.length - i).toNat) ?_ _ ⟨by omega, by omega, Ext.refl _, fun j hj => by omega⟩
  rintro X i h ⟨i0, i1, x, hj⟩ hX
  unfold spec_l01Is_b0 spec_l01Is_C0
  have o := o1.ext x
  refine isPt_in (o.ldS rfl rfl ?_)
  have no : ∀ {h'}, Ext h h' → ¬ Qset c ts i.toNat → i < ts.length → ∃ b, AVal.bool false = .bool b ∧ (b = true ↔ setOK c ts) ∧ Ext h0 h' := fun {h'} x' hn hi =>
    ⟨_, rfl, by simp only [Bool.false_eq_true, false_iff]; exact fun hs => hn (hs.2.2 _ (by omega)), (x1.trans x).trans x'⟩
  refine bif_dec (fun hi => ?_) (fun hi => ?_)
  · refine isPt_in (o.ldI rfl rfl ?_)
    refine isPt_in (o.ldS rfl rfl ?_)
    have hn : ((i.toNat : Nat) : Int) = i := by omega
    refine (r.ext (x1.trans x)).tileG i0 (by omega) ?_
    refine (l01Tile_c c ⟨by omega, by omega⟩ (tat ts i) h).to ?_
    rintro _ h2 ⟨rfl, x2⟩
    refine bif_not (fun hq => no x2 (fun q => ?_) (by omega)) (fun hq => ?_)
    · have := q.1; rw [hn, hq] at this; cases this
    refine bif_dec (fun hp => ?_) (fun hp => ?_)
    · have o2 := o.ext x2
      have r2 := r.ext ((x1.trans x).trans x2)
      refine isPt_in (o2.ldS rfl rfl ?_)
      rw [w64_of (by omega) (by omega)]
      refine r2.tileG (by omega) (by omega) ?_
      refine isPt_in (o2.ldS rfl rfl ?_)
      refine r2.tileG i0 (by omega) ?_
      refine (l01Before_c _ _ _).to ?_
      rintro _ h3 ⟨rfl, x3⟩
      refine bif_not (fun hb => no (x2.trans x3) (fun q => ?_) (by omega)) (fun hb => ?_)
      · have := q.2 (by omega); rw [hn] at this; simp at hb; omega
      · rw [w64_of (by omega) (by omega)]
        refine hX _ _ ⟨by omega, by omega, (x.trans x2).trans x3, fun j hjj => ?_⟩ (by omega)
        by_cases e : j = i.toNat
        · subst e; refine ⟨by rw [hn]; exact hq, fun _ => ?_⟩; rw [hn]; simpa using hb
        · exact hj j (by omega)
    · rw [w64_of (by omega) (by omega)]
      refine hX _ _ ⟨by omega, by omega, x.trans x2, fun j hjj => ?_⟩ (by omega)
      by_cases e : j = i.toNat
      · subst e; exact ⟨by rw [hn]; exact hq, fun h => by omega⟩
      · exact hj j (by omega)
  · exact ⟨_, rfl, ⟨fun _ => ⟨hc', by omega, fun j hjj => hj j (by omega)⟩, fun _ => rfl⟩, x1.trans x⟩
theorem IsSet_c {h0 : H} {c : Int} {s : Sl} {ts : List Tile} (r : Rd h0 s 4 (tcs ts)) (hbig : ts.length < 4000000000000000000) : callB SP i_impl_IsSet [.agg (SetC c s)] h0 fun b h' => (b = true ↔ setOK c ts) ∧ Ext h0 h' := by
  have hl := r.tlen
  apply impl_IsSet_call
  unfold impl_IsSet_main
  refine newK_obj fun h1 o1 x1 n1 => ?_
  refine isPt_in (o1.ldS rfl rfl ?_)
  have hw : 1 ≤ c ∧ c ≤ 6 → w64 (c - 1) + 1 = c := fun hc => by rw [w64_of (by omega) (by omega)]; omega
  refine impl_IsSet_rule0 _ _ _ _ _ (fun i h => 0 ≤ i ∧ i ≤ ts.length ∧ Ext h1 h ∧ (1 ≤ c ∧ c ≤ 6 → ∀ j, j < i.toNat → Qset c ts j)) (fun i _ => (ts.length - i).toNat) ?_ _ ⟨by omega, by omega, Ext.refl _, fun _ j hj => by omega⟩
  rintro X i h ⟨i0, i1, x, hj⟩ hX
  unfold impl_IsSet_b0 impl_IsSet_C0
  have o := o1.ext x
  have no : ∀ {h'}, Ext h h' → (1 ≤ c ∧ c ≤ 6 → ¬ Qset c ts i.toNat) → i < ts.length → ∃ b, AVal.bool false = .bool b ∧ (b = true ↔ setOK c ts) ∧ Ext h0 h' := fun {h'} x' hn hi =>
    ⟨_, rfl, by simp only [Bool.false_eq_true, false_iff]; exact fun hs => hn hs.1 (hs.2.2 _ (by omega)), (x1.trans x).trans x'⟩
  refine bif_dec (fun hi => ?_) (fun hi => ?_)
  · have hn : ((i.toNat : Nat) : Int) = i := by omega
    refine (r.ext (x1.trans x)).tileG i0 (by omega) ?_
    refine newO_obj fun h2 o2 x2 n2 => ?_
    refine o2.stA fun h3 o3 b3 n3 => ?_
    have x3 : Ext h h3 := x2.but_ b3 (some_le (Nat.le_refl _))
    refine o3.ldA rfl ?_
    refine isPt_in ((o.ext x3).ldI rfl rfl ?_)
    refine (isTile_w (tat ts i) c h3).to ?_
    rintro _ h4 ⟨rfl, x4⟩
    refine bif_not (fun hq => no (x3.trans x4) (fun hc q => ?_) (by omega)) (fun hq => ?_)
    · have := q.1; rw [hn] at this; rw [hw hc, this] at hq; cases hq
    refine bif_dec (fun hp => ?_) (fun hp => ?_)
    · have o4 := o.ext (x3.trans x4)
      have r4 := r.ext ((x1.trans x).trans (x3.trans x4))
      refine isPt_in (o4.ldS rfl rfl ?_)
      rw [w64_of (n := i - 1) (by omega) (by omega)]
      refine r4.tileG (by omega) (by omega) ?_
      refine (o3.ext x4).ldA rfl ?_
      refine (compare_c _ _ _).to ?_
      rintro _ h5 ⟨rfl, x5⟩
      refine bif_dec (fun hb => no ((x3.trans x4).trans x5) (fun hc q => ?_) (by omega)) (fun hb => ?_)
      · have := q.2 (by omega); rw [hn] at this; omega
      · rw [w64_of (n := i + 1) (by omega) (by omega)]
        refine hX _ _ ⟨by omega, by omega, x.trans ((x3.trans x4).trans x5), fun hc j hjj => ?_⟩ (by omega)
        by_cases e : j = i.toNat
        · subst e; refine ⟨by rw [hn, ← hw hc]; exact hq, fun _ => ?_⟩; rw [hn]; omega
        · exact hj hc j (by omega)
    · rw [w64_of (n := i + 1) (by omega) (by omega)]
      refine hX _ _ ⟨by omega, by omega, x.trans (x3.trans x4), fun hc j hjj => ?_⟩ (by omega)
      by_cases e : j = i.toNat
      · subst e; exact ⟨by rw [hn, ← hw hc]; exact hq, fun h => by omega⟩
      · exact hj hc j (by omega)
  · refine isPt_in (o.ldI rfl rfl ?_)
    refine within_k ?_
    refine bif_dec (fun hc => ?_) (fun hc => ⟨_, rfl, ?_, x1.trans x⟩)
    · refine isPt_in (o.ldS rfl rfl ⟨_, rfl, ?_, x1.trans x⟩)
      rw [decide_eq_true_eq]
      exact ⟨fun hs => ⟨hc, by omega, fun j hjj => hj hc j (by omega)⟩, fun hs => by have := hs.2.1; omega⟩
    · simp only [Bool.false_eq_true, false_iff]
      exact fun hs => hc hs.1
/-! ### codes -/
open Classical in
noncomputable def bP (A : Prop) : Bool := decide A
theorem bP_iff (A : Prop) : bP A = true ↔ A := by unfold bP; simp
theorem bP_of {b : Bool} {A : Prop} (h : b = true ↔ A) : b = bP A := by rw [Bool.eq_iff_iff, h, bP_iff]
theorem bP_yes {A : Prop} (h : A) : bP A = true := (bP_iff A).2 h
theorem bP_no {A : Prop} (h : ¬ A) : bP A = false := by
  cases hb : bP A with
  | false => rfl
  | true => exact absurd ((bP_iff A).1 hb) h
open Classical in
noncomputable def codeOf (A B : Prop) : Int := if A then (if B then 0 else 2) else 1
theorem codeOf_no {A B : Prop} (h : ¬ A) : codeOf A B = 1 := by unfold codeOf; rw [if_neg h]
theorem codeOf_range {A B : Prop} (h : A) (h2 : ¬ B) : codeOf A B = 2 := by unfold codeOf; rw [if_pos h, if_neg h2]
theorem codeOf_yes {A B : Prop} (h : A) (h2 : B) : codeOf A B = 0 := by unfold codeOf; rw [if_pos h, if_pos h2]
theorem codeOf_zero {A B : Prop} (h : codeOf A B = 0) : A ∧ B := by
  unfold codeOf at h
  split at h
  · split at h
    · exact ⟨by assumption, by assumption⟩
    · cases h
  · cases h
theorem codeOf_cond {A B : Prop} (h : codeOf A B ≠ 0) : ¬ (A ∧ B) := fun ⟨a, b⟩ => h (codeOf_yes a b)
theorem setCode_c {h0 : H} {c : Int} {s : Sl} {ts : List Tile} (r : Rd h0 s 4 (tcs ts)) (hbig : ts.length < 4000000000000000000) (g : Nat) (cap : List AVal) (Q : Prop)
    (hg : setOK c ts → ∀ h, Ext h0 h → callB SP g cap h fun b h' => (b = true ↔ Q) ∧ Ext h h') : callI SP .i64 i_impl_setCode [.agg (SetC c s), .func g cap] h0 fun n h' => n = codeOf (setOK c ts) Q ∧ Ext h0 h' := by
  apply impl_setCode_call
  unfold impl_setCode_main
  refine newK_obj fun h1 o1 x1 n1 => ?_
  refine o1.ldA rfl ?_
  refine (IsSet_c (r.ext x1) hbig).to ?_
  rintro b h2 ⟨hb, x2⟩
  refine bif_not (fun hq => ⟨_, rfl, (codeOf_no fun hs => ?_).symm, x1.trans x2⟩) (fun hq => ?_)
  · rw [hb.2 hs] at hq; cases hq
  have hs := hb.1 hq
  refine via_func ?_
  rw [List.nil_append]
  refine (hg hs h2 (x1.trans x2)).to ?_
  rintro b h3 ⟨hb3, x3⟩
  refine bif_not (fun hq => ⟨_, rfl, (codeOf_range hs fun q => ?_).symm, (x1.trans x2).trans x3⟩) (fun hq => ⟨_, rfl, (codeOf_yes hs (hb3.1 hq)).symm, (x1.trans x2).trans x3⟩)
  rw [hb3.2 q] at hq; cases hq
/-! ### rows of numbers -/
def Tabl (rows : List (List Int)) (most : Int) : Prop := (1 ≤ rows.length ∧ (rows.length : Int) ≤ most) ∧ ∀ y, y < rows.length → (rw_ rows y).length = (rw_ rows 0).length ∧ 1 ≤ (rw_ rows y).length ∧ ((rw_ rows y).length : Int) ≤ most
def Nums (n : Nat) (rows : List (List Int)) : Prop := (∀ y x, y < rows.length → x < (rw_ rows y).length → 0 ≤ G rows y x ∧ G rows y x < n) ∧ Tabl rows 8
theorem isNumber_c {h0 : H} {c : Int} {s : Sl} (i : Int) (hs : s.len < 9000000000000000000) : callB SP i_impl_Set_isNumber [.agg (SetC c s), i64 i] h0 fun b h' => b = decide (0 ≤ i ∧ i < s.len) ∧ Ext h0 h' := by
  apply impl_Set_isNumber_call
  unfold impl_Set_isNumber_main
  refine newK_obj fun h1 o1 x1 n1 => ?_
  refine isPt_in (o1.ldS rfl rfl ?_)
  refine within_k ?_
  refine ⟨_, rfl, ?_, x1⟩
  rw [w64_of (by omega) (by omega)]
  rw [Bool.eq_iff_iff, decide_eq_true_eq, decide_eq_true_eq]; omega
theorem isTable_c {h0 : H} {s : Sl} {rows : List (List Int)} (r : RdSS h0 s rows) (most : Int) (hm : most < 1000) : callB SP i_impl_isTable [.sl s, i64 most] h0 fun b h' => (b = true ↔ Tabl rows most) ∧ h' = h0 := by
  have hl := r.len
  apply impl_isTable_call
  unfold impl_isTable_main
  refine bif_dec (fun hq => ⟨_, rfl, ?_, rfl⟩) (fun hq => ?_)
  · simp only [Bool.false_eq_true, false_iff]
    intro t; have := t.1; omega
  refine bif_dec (fun hq2 => ⟨_, rfl, ?_, rfl⟩) (fun hq2 => ?_)
  · simp only [Bool.false_eq_true, false_iff]
    intro t; have := t.1; omega
  refine impl_isTable_rule0 _ _ _ _ _ _ (fun i h => 0 ≤ i ∧ i ≤ rows.length ∧ h = h0 ∧ ∀ y, y < i.toNat → (rw_ rows y).length = (rw_ rows 0).length ∧ 1 ≤ (rw_ rows y).length ∧ ((rw_ rows y).length : Int) ≤ most) (fun i _ => (rows.length - i).toNat) ?_ _ ⟨by omega, by omega, rfl, fun j hj => by omega⟩
  rintro X i _ ⟨i0, i1, rfl, hj⟩ hX
  unfold impl_isTable_b0 impl_isTable_C0
  refine bif_dec (fun hi => ?_) (fun hi => ?_)
  · refine r.ldG i0 (by omega) fun v rv lv => ?_
    refine r.ldG (by omega) (by omega) fun v0 rv0 lv0 => ?_
    have no : ¬ ((rw_ rows i.toNat).length = (rw_ rows 0).length ∧ 1 ≤ (rw_ rows i.toNat).length ∧ ((rw_ rows i.toNat).length : Int) ≤ most) → (false = true ↔ Tabl rows most) := fun hn => by
      simp only [Bool.false_eq_true, false_iff]; exact fun t => hn (t.2 _ (by omega))
    have lv0' : v0.len = (rw_ rows 0).length := lv0
    refine bif_ne (fun hq => ⟨_, rfl, no (by omega), rfl⟩) (fun hq => ?_)
    refine bif_dec (fun hq => ⟨_, rfl, no (by omega), rfl⟩) (fun hq => ?_)
    refine bif_dec (fun hq => ⟨_, rfl, no (by omega), rfl⟩) (fun hq => ?_)
    rw [w64_of (by omega) (by omega)]
    refine hX _ _ ⟨by omega, by omega, rfl, fun j hjj => ?_⟩ (by omega)
    by_cases e : j = i.toNat
    · subst e; omega
    · exact hj j (by omega)
  · exact ⟨_, rfl, ⟨fun _ => ⟨⟨by omega, by omega⟩, fun j hjj => hj j (by omega)⟩, fun _ => rfl⟩, rfl⟩
theorem areNumbers_c {h0 : H} {c : Int} {s q : Sl} {ts : List Tile} {rows : List (List Int)} (r : Rd h0 s 4 (tcs ts)) (rr : RdSS h0 q rows) (hbig : ts.length < 4000000000000000000) (hr : rows.length < 4000000000000000000) (hrs : ∀ l ∈ rows, l.length < 4000000000000000000) :
    callB SP i_impl_Set_areNumbers [.agg (SetC c s), .sl q] h0 fun b h' => (b = true ↔ Nums ts.length rows) ∧ Ext h0 h' := by
  have hl := r.tlen
  have hq := rr.len
  apply impl_Set_areNumbers_call
  unfold impl_Set_areNumbers_main
  refine newK_obj fun h1 o1 x1 n1 => ?_
  refine impl_Set_areNumbers_rule0 _ _ _ _ _ _ (fun i h => 0 ≤ i ∧ i ≤ rows.length ∧ Ext h1 h ∧ ∀ y x, y < i.toNat → x < (rw_ rows y).length → 0 ≤ G rows y x ∧ G rows y x < ts.length) (fun i _ => (rows.length - i).toNat) ?_ _ ⟨by omega, by omega, Ext.refl _, fun y x hy => by omega⟩
  rintro X i h ⟨i0, i1, x, hj⟩ hX
  unfold impl_Set_areNumbers_b0 impl_Set_areNumbers_C0
  refine bif_dec (fun hi => ?_) (fun hi => ?_)
  · refine (rr.ext (x1.trans x)).ldG i0 (by omega) fun v rv lv => ?_
    have hvl : (rw_ rows i.toNat).length < 4000000000000000000 := hrs _ (List.mem_of_getElem? (at_rw (rows := rows) (y := i.toNat) (by omega)))
    refine impl_Set_areNumbers_rule2 _ _ X _ _ _ _ _ _ _ (fun k h' => 0 ≤ k ∧ k ≤ (rw_ rows i.toNat).length ∧ Ext h h' ∧ ∀ x, x < k.toNat → 0 ≤ G rows i.toNat x ∧ G rows i.toNat x < ts.length) (fun k _ => ((rw_ rows i.toNat).length - k).toNat) ?_ _ ⟨by omega, by omega, Ext.refl _, fun x hx => by omega⟩
    rintro Y k h' ⟨k0, k1, x', hk⟩ hY
    unfold impl_Set_areNumbers_b2 impl_Set_areNumbers_C2 impl_Set_areNumbers_C1
    refine bif_dec (fun hki => ?_) (fun hki => ?_)
    · refine (rv.ext x').ldG k0 (by omega) ?_
      refine (o1.ext (x.trans x')).ldA rfl ?_
      refine (isNumber_c _ (by omega)).to ?_
      rintro _ h2 ⟨rfl, x2⟩
      refine bif_not (fun hb => ⟨_, rfl, ?_, (x1.trans x).trans (x'.trans x2)⟩) (fun hb => ?_)
      · simp only [Bool.false_eq_true, false_iff]
        intro t
        have := t.1 i.toNat k.toNat (by omega) (by omega)
        unfold G at this
        simp at hb this
        omega
      · rw [w64_of (by omega) (by omega)]
        refine hY _ _ ⟨by omega, by omega, x'.trans x2, fun j hjj => ?_⟩ (by omega)
        by_cases e : j = k.toNat
        · subst e
          unfold G
          have := of_decide_eq_true hb
          omega
        · exact hk j (by omega)
    · rw [w64_of (by omega) (by omega)]
      refine hX _ _ ⟨by omega, by omega, x.trans x', fun y z hy hz => ?_⟩ (by omega)
      by_cases e : y = i.toNat
      · subst e; exact hk z (by omega)
      · exact hj y z (by omega) hz
  · refine (isTable_c (rr.ext (x1.trans x)) 8 (by omega)).to ?_
    rintro b _ ⟨hb, rfl⟩
    refine ⟨_, rfl, ?_, x1.trans x⟩
    rw [hb]
    exact ⟨fun t => ⟨fun y z hy hz => hj y z (by omega) hz, t⟩, fun t => t.2⟩
theorem l01Rows_c {h0 : H} {c : Int} {s q : Sl} {ts : List Tile} {rows : List (List Int)} (r : Rd h0 s 4 (tcs ts)) (rr : RdSS h0 q rows) :
    callI SP .i64 i_spec_l01Rows [.agg (SetC c s), .sl q] h0 fun n h' => n = codeOf (setOK c ts) (Nums ts.length rows) ∧ Ext h0 h' := by
  have hl := r.tlen
  have hq := rr.len
  apply spec_l01Rows_call
  unfold spec_l01Rows_main
  refine newK_obj fun h1 o1 x1 n1 => ?_
  refine o1.ldA rfl ?_
  refine (l01Is_c (r.ext x1)).to ?_
  rintro b h2 ⟨hb, x2⟩
  have X2 := x1.trans x2
  refine bif_not (fun hqb => ⟨_, rfl, (codeOf_no fun hs => ?_).symm, X2⟩) (fun hqb => ?_)
  · rw [hb.2 hs] at hqb; cases hqb
  have hs := hb.1 hqb
  have no : ∀ {h'}, Ext h0 h' → ¬ Nums ts.length rows → ∃ n, AVal.int .i64 2 = .int .i64 n ∧ n = codeOf (setOK c ts) (Nums ts.length rows) ∧ Ext h0 h' := fun x hn => ⟨_, rfl, (codeOf_range hs hn).symm, x⟩
  refine bif_dec (fun hq => no X2 fun t => ?_) (fun hq1 => ?_)
  · have := t.2.1; omega
  refine bif_dec (fun hq => no X2 fun t => ?_) (fun hq2 => ?_)
  · have := t.2.1; omega
  refine (rr.ext X2).ldG (by omega) (by omega) fun v rv lv => ?_
  have lv0 : v.len = (rw_ rows 0).length := lv
  refine bif_dec (fun hq => no X2 fun t => ?_) (fun hq3 => ?_)
  · have := t.2.2 0 (by omega); omega
  refine (rr.ext X2).ldG (by omega) (by omega) fun v' rv' lv' => ?_
  have lv0' : v'.len = (rw_ rows 0).length := lv'
  refine bif_dec (fun hq => no X2 fun t => ?_) (fun hq4 => ?_)
  · have := t.2.2 0 (by omega); omega
  refine spec_l01Rows_rule0 _ _ _ _ (fun i h => 0 ≤ i ∧ i ≤ rows.length ∧ Ext h2 h ∧ ∀ y, y < i.toNat → (rw_ rows y).length = (rw_ rows 0).length ∧ ∀ x, x < (rw_ rows y).length → 0 ≤ G rows y x ∧ G rows y x < ts.length) (fun i _ => (rows.length - i).toNat) ?_ _ ⟨by omega, by omega, Ext.refl _, fun j hj => by omega⟩
  rintro X i h ⟨i0, i1, x, hj⟩ hX
  unfold spec_l01Rows_b0 spec_l01Rows_C0
  have XX := X2.trans x
  refine bif_dec (fun hi => ?_) (fun hi => ?_)
  · refine (rr.ext XX).ldG i0 (by omega) fun u ru lu => ?_
    refine (rr.ext XX).ldG (by omega) (by omega) fun u' ru' lu' => ?_
    have lu0 : u'.len = (rw_ rows 0).length := lu'
    refine bif_ne (fun hq => no XX fun t => ?_) (fun hq => ?_)
    · have := t.2.2 i.toNat (by omega); omega
    refine spec_l01Rows_rule2 _ _ X _ _ _ (fun k h' => 0 ≤ k ∧ k ≤ (rw_ rows i.toNat).length ∧ Ext h h' ∧ ∀ x, x < k.toNat → 0 ≤ G rows i.toNat x ∧ G rows i.toNat x < ts.length) (fun k _ => ((rw_ rows i.toNat).length - k).toNat) ?_ _ ⟨by omega, by omega, Ext.refl _, fun x hx => by omega⟩
    rintro Y k h' ⟨k0, k1, x', hk⟩ hY
    unfold spec_l01Rows_b2 spec_l01Rows_C2 spec_l01Rows_C1
    have XX' := XX.trans x'
    refine (rr.ext XX').ldG i0 (by omega) fun w rw1 lw => ?_
    refine bif_dec (fun hki => ?_) (fun hki => ?_)
    · refine (rr.ext XX').ldG i0 (by omega) fun w' rw2 lw' => ?_
      refine rw2.ldG k0 (by omega) ?_
      refine isPt_in ((o1.ext (x2.trans (x.trans x'))).ldS rfl rfl ?_)
      have := hs.2.1
      rw [w64_of (by omega) (by omega)]
      refine l01In_k ?_
      refine bif_not (fun hb => no XX' fun t => ?_) (fun hb => ?_)
      · have := t.1 i.toNat k.toNat (by omega) (by omega)
        unfold G at this
        simp at hb this
        omega
      · rw [w64_of (by omega) (by omega)]
        refine hY _ _ ⟨by omega, by omega, x', fun j hjj => ?_⟩ (by omega)
        by_cases e : j = k.toNat
        · subst e
          unfold G
          have := of_decide_eq_true hb
          omega
        · exact hk j (by omega)
    · rw [w64_of (by omega) (by omega)]
      refine hX _ _ ⟨by omega, by omega, x.trans x', fun y hy => ?_⟩ (by omega)
      by_cases e : y = i.toNat
      · subst e; exact ⟨by omega, fun z hz => hk z (by omega)⟩
      · exact hj y (by omega)
  · refine ⟨_, rfl, (codeOf_yes hs ⟨fun y z hy hz => (hj y (by omega)).2 z hz, ⟨by omega, by omega⟩, fun y hy => ?_⟩).symm, XX⟩
    have := (hj y (by omega)).1
    omega
/-- All sides of the tiles are colours. -/
def TS (c : Int) (ts : List Tile) : Prop := 1 ≤ c ∧ ∀ t ∈ ts, ∀ k, k < 4 → 0 ≤ sd t k ∧ sd t k < c
theorem setOK.ts {c : Int} {ts : List Tile} (h : setOK c ts) : TS c ts := by
  refine ⟨h.1.1, fun t ht k hk => ?_⟩
  obtain ⟨i, hi, rfl⟩ := List.getElem_of_mem ht
  have := (h.2.2 i hi).1
  rw [tat_at (n := (i : Int)) (t := ts[i]) (by rw [Int.toNat_natCast]; exact List.getElem?_eq_getElem hi)] at this
  unfold tileok at this
  simp only [Bool.and_eq_true, decide_eq_true_eq] at this
  match k, hk with
  | 0, _ => show 0 ≤ ts[i].1 ∧ ts[i].1 < c; omega
  | 1, _ => show 0 ≤ ts[i].2.1 ∧ ts[i].2.1 < c; omega
  | 2, _ => show 0 ≤ ts[i].2.2.1 ∧ ts[i].2.2.1 < c; omega
  | 3, _ => show 0 ≤ ts[i].2.2.2 ∧ ts[i].2.2.2 < c; omega
end Go.Proofs.YtcoampecbpiecaaGreat.Cl

/- Draws: the source of numbers. No claim is stated here. -/
set_option linter.unusedVariables false
set_option linter.unusedSimpArgs false
namespace Go.Proofs.YtcoampecbpiecaaGreat.Cl
open Go
def bc (q : List Int) : List AVal := q.map (.int .u8)
theorem bc_len (q : List Int) : (bc q).length = q.length := by simp [bc]
/-- The source's object: the code, the place, the hash. -/
def Src (h : H) (o : Nat) : Prop := ∃ (s : Sl) (a x : Int) (q : List Int), Obj h o [.sl s, i64 a, .int .u64 x] ∧ Rd h s 1 (bc q) ∧ (s.len = 0 ∨ ∀ i, s.o = some i → i < o) ∧ 0 ≤ a ∧ a ≤ q.length ∧ q.length ≤ 1000000 ∧ ∀ b ∈ q, 0 ≤ b ∧ b < 256
section
variable {h h' : H} {o : Nat}
theorem Src.lt (r : Src h o) : o < h.length := by obtain ⟨_, _, _, _, a, _⟩ := r; exact a.lt
theorem Src.chg {P : Nat → Prop} (r : Src h o) (c : Chg P h h') (hP : ∀ i, i ≤ o → ¬ P i) : Src h' o := by
  obtain ⟨s, a, x, q, h1, h2, h3, h4⟩ := r
  refine ⟨s, a, x, q, h1.chg c (hP o (Nat.le_refl _)), ?_, h3, h4⟩
  rcases h3 with h3 | h3
  · exact ⟨h2.len, .inl h3⟩
  · exact h2.chg c fun i e => hP i (by have := h3 i e; omega)
theorem srcRd {s : Sl} {z : Nat} {cs : List AVal} (h3 : s.len = 0 ∨ ∀ i, s.o = some i → i < o) (h2 : Rd h s z cs) (b : But (some o) h h') : Rd h' s z cs := by
  rcases h3 with h3 | h3
  · exact ⟨h2.len, .inl h3⟩
  · refine h2.but b ?_
    cases hs : s.o with
    | none => exact .inl (by simp)
    | some i => exact .inl fun e => by have := h3 i hs; have := Option.some.inj e; omega
theorem Src.ext (r : Src h o) (e : Ext h h') : Src h' o := r.chg (e.chg fun _ => False) fun _ _ f => f
theorem Src.but {p : Option Nat} (r : Src h o) (b : But p h h') (hp : ∀ i, p = some i → o < i) : Src h' o := r.chg (b.chg (P := fun i => p = some i) fun i e => e) fun i hi e => by have := hp i e; omega
theorem Rd.blen {s : Sl} {q : List Int} (r : Rd h s 1 (bc q)) : s.len = q.length := by have := r.len; rw [bc_len] at this; omega
theorem Rd.ldByte {s : Sl} {q : List Int} (r : Rd h s 1 (bc q)) {i : Int} (h0 : 0 ≤ i) (h1 : i < q.length) {K : Int → Prop} (hk : ∀ x, x ∈ q → K x) : ixS s 1 i fun p => Cl.ldI .u8 p h K := by
  have hlen := r.blen
  have hx : q[i.toNat]? = some q[i.toNat] := List.getElem?_eq_getElem (by omega)
  obtain hl | ⟨a, b, c⟩ := r.at_
  · omega
  · refine ⟨⟨h0, by omega⟩, a, b, q[i.toNat], ?_, hk _ (List.getElem_mem _)⟩
    have := cell_of_range c (i := i.toNat) (by omega)
    rw [Nat.mul_one, this]
    unfold bc
    rw [List.getElem?_map, hx]
    rfl
theorem wrap_u64 {n : Int} (h0 : 0 ≤ n) (h1 : n < 18446744073709551616) : IntKind.wrap .u64 n = n := by
  unfold IntKind.wrap
  simp [IntKind.bits, IntKind.signed] <;> omega
theorem and_bound (x : Int) : 0 ≤ bitsOp .and .u64 x 16777215 ∧ bitsOp .and .u64 x 16777215 ≤ 16777215 := by
  unfold bitsOp
  simp only
  have h : ((BitVec.ofInt (IntKind.u64).bits x) &&& (BitVec.ofInt (IntKind.u64).bits 16777215)).toNat ≤ 16777215 := by
    rw [BitVec.toNat_and]
    exact Nat.le_trans Nat.and_le_right (by decide)
  rw [wrap_u64 (by omega) (by omega)]
  omega
/-- A number handed out for n. -/
def Nx (n x : Int) : Prop := 0 ≤ x ∧ (1 ≤ n → x < n) ∧ (n < 1 → x = 0)
theorem Nx.le {n x : Int} (h : Nx n x) : x ≤ max n 0 := by
  by_cases hn : 1 ≤ n
  · have := h.2.1 hn; omega
  · have := h.2.2 (by omega); omega
theorem Nx.tmod {n y : Int} (hn : 1 ≤ n) (hy : 0 ≤ y) : Nx n (Int.tmod y n) := by
  rw [Int.tmod_eq_emod_of_nonneg hy]
  exact ⟨Int.emod_nonneg _ (by omega), fun _ => Int.emod_lt_of_pos _ (by omega), fun h => by omega⟩
theorem next_c (r : Src h o) (n : Int) : callI SP .i64 i_spec_l01Next [.ptr ⟨some o, 3, 0⟩, i64 n] h fun x h' => Nx n x ∧ Src h' o ∧ But (some o) h h' ∧ h'.length = h.length := by
  have hr := r
  obtain ⟨s, a, x, q, h1, h2, h3, h4, h5, h6, h7⟩ := r
  have hl := h2.blen
  apply spec_l01Next_call
  unfold spec_l01Next_main
  refine bif_dec (fun hn => ⟨_, rfl, ⟨by omega, fun h => by omega, fun _ => rfl⟩, hr, But.refl _ _, rfl⟩) (fun hn => ?_)
  refine ⟨rfl, isPt_in (h1.ldI rfl rfl ⟨rfl, isPt_in ?_⟩)⟩
  refine h1.st1 rfl (by simp) _ fun g1 o1 b1 l1 => ?_
  refine ⟨rfl, isPt_in (o1.ldI rfl rfl ⟨by decide, ⟨rfl, isPt_in (o1.ldI (m := a) rfl rfl ⟨rfl, isPt_in (o1.ldS (m := s) rfl rfl ?_)⟩)⟩⟩)⟩
  have r1 : Rd g1 s 1 (bc q) := srcRd h3 h2 b1
  have hb := and_bound (shrI .u64 (IntKind.wrap .u64 ((IntKind.wrap .u64 (x * 6364136223846793005)) + 1442695040888963407)) 33)
  refine bif_dec (fun hi => ?_) (fun hi => ?_)
  · refine ⟨rfl, isPt_in (o1.ldS (m := s) rfl rfl ⟨rfl, isPt_in (o1.ldI (m := a) rfl rfl ?_)⟩)⟩
    refine r1.ldByte h4 (by omega) fun y hy => ?_
    have hy2 := h7 y hy
    refine ⟨rfl, isPt_in (o1.ldI (m := a) rfl rfl ⟨rfl, isPt_in ?_⟩)⟩
    refine o1.st1 rfl (by simp) _ fun g2 o2 b2 l2 => ?_
    refine ⟨by omega, ?_⟩
    refine ⟨_, rfl, ?_, ?_, b1.trans b2, by omega⟩
    · rw [w64_of (n := y) (by omega) (by omega)]
      refine Nx.tmod (by omega) ?_
      generalize bitsOp .and .u64 (shrI .u64 (IntKind.wrap .u64 ((IntKind.wrap .u64 (x * 6364136223846793005)) + 1442695040888963407)) 33) 16777215 = z at *
      rw [w64_of (n := z) (by omega) (by omega), w64_of (n := z + y) (by omega) (by omega)]
      omega
    · refine ⟨s, w64 (a + 1), _, q, o2, ?_, h3, ?_, ?_, h6, h7⟩
      · exact srcRd h3 r1 b2
      · rw [w64_of (by omega) (by omega)]; omega
      · rw [w64_of (by omega) (by omega)]; omega
  · refine ⟨by omega, ?_⟩
    refine ⟨_, rfl, ?_, ⟨s, a, _, q, o1, r1, h3, h4, h5, h6, h7⟩, b1, l1⟩
    refine Nx.tmod (by omega) ?_
    generalize bitsOp .and .u64 (shrI .u64 (IntKind.wrap .u64 ((IntKind.wrap .u64 (x * 6364136223846793005)) + 1442695040888963407)) 33) 16777215 = z at *
    rw [w64_of (n := z) (by omega) (by omega)]
    omega
set_option maxRecDepth 20000 in
theorem from_c {s : Sl} {q : List Int} (r : Rd h s 1 (bc q)) (hs : s.len = 0 ∨ ∀ i, s.o = some i → i < h.length) (hq : q.length ≤ 1000000) (hb : ∀ b ∈ q, 0 ≤ b ∧ b < 256) : callP SP i_spec_l01From [.sl s] h fun p h' => p = ⟨some h.length, 3, 0⟩ ∧ Src h' h.length ∧ Ext h h' := by
  have hl := r.blen
  apply spec_l01From_call
  unfold spec_l01From_main
  refine newK_obj fun h1 o1 x1 n1 => ?_
  refine spec_l01From_rule0 _ _ _ _ (fun i g => ∃ (k : Nat) (x : Int), i = k ∧ k ≤ q.length ∧ Obj g h.length [.sl s, i64 0, .int .u64 x] ∧ Chg (fun i => i = h.length) h1 g) (fun i _ => ((q.length : Int) - i).toNat) ?_ _ ⟨0, _, rfl, by omega, o1, Chg.refl _ _⟩
  rintro X _ g ⟨k, x, rfl, hk, og, ch⟩ hX
  have E : Ext h g := x1.chg_ ch fun i e => by omega
  have rg := r.ext E
  have fin : spec_l01From_C0 SP (fun v h' => ∃ r, v = .ptr r ∧ r = ⟨some h.length, 3, 0⟩ ∧ Src h' h.length ∧ Ext h h') ⟨some h.length, 3, 0⟩ g := ⟨_, rfl, rfl, ⟨s, 0, x, q, og, rg, hs, by omega, by omega, hq, hb⟩, E⟩
  unfold spec_l01From_b0
  refine bif_dec (fun hi => ?_) (fun hi => fin)
  refine bif_b (fun _ => ?_) (fun _ => fin)
  refine ⟨rfl, isPt_in (og.ldI rfl rfl ?_)⟩
  refine rg.ldByte (by omega) (by omega) fun y hy => ?_
  refine ⟨rfl, isPt_in ?_⟩
  refine og.st1 rfl (by simp) _ fun g2 o2 b2 l2 => ?_
  rw [w64_of (by omega) (by omega)]
  exact hX _ _ ⟨k + 1, _, by push_cast; rfl, by omega, o2, ch.trans (b2.chg fun i e => (Option.some.inj e).symm)⟩ (by omega)
theorem pick_c (r : Src h o) {s : Sl} {l : List Int} (rs : Rd h s 1 (ic l)) (hs : s.o ≠ some o) (hl : 1 ≤ l.length) : callI SP .i64 i_spec_l01Pick [.ptr ⟨some o, 3, 0⟩, .sl s] h fun x h' => x ∈ l ∧ Src h' o ∧ But (some o) h h' ∧ h'.length = h.length := by
  have hsl := rs.ilen
  apply spec_l01Pick_call
  unfold spec_l01Pick_main
  refine (next_c r _).to ?_
  rintro x h1 ⟨hx, r1, b1, l1⟩
  have := hx.2.1 (by omega)
  refine (rs.but b1 (.inl fun e => hs e.symm)).ldI hx.1 (by omega) fun y hy => ?_
  exact ⟨_, rfl, List.mem_of_getElem? hy, r1, b1, l1⟩
theorem pickN_c (r : Src h o) {n : Nat} {cs : List AVal} {l : List Int} (hcs : cs = ic l) (hn : l.length = n) (hl : 1 ≤ l.length) {K : Int → H → Prop} (hk : ∀ x h', x ∈ l → Src h' o → Chg (fun i => i = o) h h' → K x h') :
    newS n 1 cs h fun s h1 => callI SP .i64 i_spec_l01Pick [.ptr ⟨some o, 3, 0⟩, .sl s] h1 K := by
  subst hcs
  refine newS_ow (by rw [ic_len, hn, Nat.mul_one]) fun s h1 os ls so e1 => ?_
  have x1 : Ext h h1 := by rw [e1]; exact Ext.app _ _
  have hlt := r.lt
  refine (pick_c (r.ext x1) os.rd (by rw [so]; intro e; have := Option.some.inj e; omega) hl).to ?_
  rintro x h2 ⟨hx, r2, b2, _⟩
  exact hk x h2 hx r2 ((x1.chg _).trans (b2.chg fun i e => (Option.some.inj e).symm))
theorem near_c (r : Src h o) (n : Int) (hn : 0 ≤ n ∧ n ≤ 1000000) : callI SP .i64 i_spec_l01Near [.ptr ⟨some o, 3, 0⟩, i64 n] h fun x h' => i64ok x ∧ Src h' o ∧ Chg (fun i => i = o) h h' := by
  apply spec_l01Near_call
  unfold spec_l01Near_main
  refine (next_c r _).to ?_
  rintro x h1 ⟨hx, r1, b1, l1⟩
  have c1 : Chg (fun i => i = o) h h1 := b1.chg fun i e => (Option.some.inj e).symm
  rw [w64_of (n := n + 1) (by omega) (by omega)]
  refine bif_eq (fun he => ?_) (fun hne => ?_)
  · refine pickN_c r1 (l := [-1, n + 1, 1099511627776, -4611686018427387904]) rfl rfl (by simp) fun y h2 hy r2 c2 => ?_
    refine ⟨_, rfl, ?_, r2, c1.trans c2⟩
    unfold i64ok
    simp at hy
    omega
  · refine (next_c r1 _).to ?_
    rintro y h2 ⟨hy, r2, b2, l2⟩
    refine ⟨_, rfl, ?_, r2, c1.trans (b2.chg fun i e => (Option.some.inj e).symm)⟩
    have := hy.2.1 (by omega)
    have := hy.1
    unfold i64ok
    omega
/-- A drawn tile of c colours. -/
def DT (c : Int) (t : Tile) : Prop := ∀ k, k < 4 → Nx c (sd t k)
theorem drawTile_c (r : Src h o) (c : Int) : callA SP i_spec_l01DrawTile [.ptr ⟨some o, 3, 0⟩, i64 c] h fun cs h' => ∃ t, cs = tc t ∧ DT c t ∧ Src h' o ∧ Chg (fun i => i = o) h h' := by
  apply spec_l01DrawTile_call
  unfold spec_l01DrawTile_main
  refine newO_obj fun h1 o1 x1 n1 => ?_
  have hlt := r.lt
  have r1 := r.ext x1
  refine (next_c r1 c).to ?_
  rintro a h2 ⟨ha, r2, b2, l2⟩
  refine (next_c r2 c).to ?_
  rintro b h3 ⟨hb, r3, b3, l3⟩
  refine (next_c r3 c).to ?_
  rintro d h4 ⟨hd, r4, b4, l4⟩
  refine (next_c r4 c).to ?_
  rintro e h5 ⟨he, r5, b5, l5⟩
  have b15 := ((b2.trans b3).trans b4).trans b5
  have o5 := o1.but b15 (fun e => by have := Option.some.inj e; omega)
  refine o5.stA fun h6 o6 b6 n6 => ?_
  refine o6.ldA rfl ⟨_, rfl, (a, b, d, e), rfl, fun k hk => ?_, r5.but b6 (fun i e => by have := Option.some.inj e; omega), ?_⟩
  · have hk' : k = 0 ∨ k = 1 ∨ k = 2 ∨ k = 3 := by omega
    rcases hk' with rfl | rfl | rfl | rfl
    · exact ha
    · exact hb
    · exact hd
    · exact he
  · exact (((x1.chg (fun i => i = o ∨ h.length ≤ i)).trans (b15.chg fun i e => .inl (Option.some.inj e).symm)).trans (b6.chg fun i e => .inr (by have := Option.some.inj e; omega))).to fun i hi e => by omega
end
end Go.Proofs.YtcoampecbpiecaaGreat.Cl

/- Draws: texts of sets. No claim is stated here. -/
set_option linter.unusedVariables false
set_option linter.unusedSimpArgs false
namespace Go.Proofs.YtcoampecbpiecaaGreat.Cl
open Go
theorem ixStr_of {t : ByteArray} {i : Int} (h0 : 0 ≤ i) (h1 : i < t.size) {K : Int → Prop} (hk : ∀ b : Int, 0 ≤ b → b < 256 → K b) : ixStr t i K := by
  have hlt : i.toNat < t.size := by omega
  refine ⟨t[i.toNat], h0, getElem?_pos t i.toNat hlt, hk _ (by omega) ?_⟩
  have := t[i.toNat].toNat_lt
  omega
theorem cutStr_of {t : ByteArray} {a b : Int} (h0 : 0 ≤ a) (h1 : a ≤ b) (h2 : b ≤ t.size) {K : ByteArray → Prop} (hk : ∀ s : ByteArray, s.size ≤ t.size → K s) : cutStr t a b K := by
  refine ⟨⟨h0, h1, h2⟩, hk _ ?_⟩
  rw [ByteArray.size_extract]
  omega
theorem via_str {t : ByteArray} {K : ByteArray → Prop} (hk : K t) : viaStr (.str t) K := ⟨t, rfl, hk⟩
theorem pushV {h : H} {s : Sl} {l : List AVal} {x : AVal} (r : Ow h s 1 l) (hl : (l.length : Int) + 1 ≤ lim) {K : Sl → H → Prop}
    (hk : ∀ s' h', Ow h' s' 1 (l ++ [x]) → But s.o h h' → (∀ o, s'.o = some o → s.o = some o ∨ h.length ≤ o) → h.length ≤ h'.length → K s' h') : newS 1 1 [x] h fun t h1 => app s t 1 h1 K := by
  refine newS_ow (by rfl) fun t h1 ot tl to e1 => ?_
  have e1' : Ext h h1 := by rw [e1]; exact Ext.app _ _
  have hln := e1'.len
  have hsl : s.len = l.length := by have := r.len; omega
  refine app_ow (by omega) (r.ext e1') ot.rd (by rw [tl, hsl]; exact_mod_cast hl) fun s' h' o' ln b k1 k2 => hk s' h' o' ((e1'.but _).trans b) (fun o e => ?_) (Nat.le_trans hln b.1)
  cases hq : s.o with
  | none => have := k2 hq o e; exact .inr (by omega)
  | some p => rw [k1 p hq] at e; exact .inl e
/-- A slice of texts. -/
def RdT (h : H) (s : Sl) (L : List ByteArray) : Prop := Rd h s 1 (L.map .str) ∧ ∀ x ∈ L, x.size ≤ 1000
theorem RdT.len {h s L} (r : RdT h s L) : s.len = L.length := by have := r.1.len; rw [List.length_map] at this; omega
theorem RdT.ext {h h' s L} (r : RdT h s L) (x : Ext h h') : RdT h' s L := ⟨r.1.ext x, r.2⟩
theorem RdT.ld {h : H} {s : Sl} {L : List ByteArray} (r : RdT h s L) {i : Int} (h0 : 0 ≤ i) (h1 : i < L.length) {K : AVal → Prop} (hk : ∀ x : ByteArray, x.size ≤ 1000 → K (.str x)) : ixS s 1 i fun p => Cl.ldV p h K := by
  have hlen := r.len
  have hx : L[i.toNat]? = some L[i.toNat] := List.getElem?_eq_getElem (by omega)
  obtain hl | ⟨a, b, c⟩ := r.1.at_
  · omega
  · refine ⟨⟨h0, by omega⟩, a, b, .str L[i.toNat], ?_, hk _ (r.2 _ (List.getElem_mem _))⟩
    have := cell_of_range c (i := i.toNat) (by omega)
    rw [Nat.mul_one, this, List.getElem?_map, hx]
    rfl
section
variable {h : H}
theorem split_c (t : ByteArray) (ht : t.size ≤ 1000) (b : Int) : callS SP i_spec_l01Split [.str t, .int .u8 b] h fun u h' => ∃ L, RdT h' u L ∧ L.length ≤ t.size + 1 ∧ Fr h.length u ∧ Ext h h' := by
  apply spec_l01Split_call
  unfold spec_l01Split_main
  refine newS_ow (by rfl) fun u h1 ou lu uo e1 => ?_
  have x1 : Ext h h1 := by rw [e1]; exact Ext.app _ _
  refine spec_l01Split_rule0 _ _ _ _ (fun u a i g => ∃ (L : List ByteArray) (k m : Nat), a = k ∧ i = m ∧ k ≤ m ∧ m ≤ t.size ∧ Ow g u 1 (L.map .str) ∧ (∀ x ∈ L, x.size ≤ 1000) ∧ L.length ≤ m ∧ Fr h.length u ∧ Ext h g) (fun _ _ i _ => ((t.size : Int) - i).toNat) ?_ _ _ _
    ⟨[], 0, 0, rfl, rfl, Nat.le_refl _, by omega, ou, fun x hx => (by cases hx), Nat.le_refl _, fun o e => (by rw [uo] at e; cases e; exact Nat.le_refl _), x1⟩
  rintro X u _ _ g ⟨L, k, m, rfl, rfl, hkm, hm, ou, hL, hl, fu, x⟩ hX
  have hgl := x.len
  unfold spec_l01Split_b0
  refine via_str ?_
  refine bif_dec (fun hi => ?_) (fun hi => ?_)
  · refine via_str (ixStr_of (by omega) hi fun y y0 y1 => ?_)
    refine bif_eq (fun _ => ?_) (fun _ => ?_)
    · refine via_str (cutStr_of (by omega) (by omega) (by omega) fun w hw => ?_)
      refine pushV ou (by rw [List.length_map]; unfold lim; omega) fun u' g' ou' b' hu' hl' => ?_
      rw [w64_of (by omega) (by omega)]
      refine hX _ _ _ _ ⟨L ++ [w], m + 1, m + 1, by push_cast; rfl, by push_cast; rfl, Nat.le_refl _, by omega, by rw [List.map_append]; exact ou', fun x hx => ?_, by rw [List.length_append, List.length_singleton]; omega, fun o e => ?_, x.but_ b' fun o e => fu o e⟩ (by omega)
      · rcases List.mem_append.1 hx with hx | hx
        · exact hL x hx
        · rw [List.mem_singleton] at hx; subst hx; omega
      · rcases hu' o e with h1 | h1
        · exact fu o h1
        · omega
    · rw [w64_of (by omega) (by omega)]
      exact hX _ _ _ _ ⟨L, k, m + 1, rfl, by push_cast; rfl, by omega, by omega, ou, hL, by omega, fu, x⟩ (by omega)
  · unfold spec_l01Split_C0
    refine via_str (cutStr_of (by omega) (by omega) (by omega) fun w hw => ?_)
    refine pushV ou (by rw [List.length_map]; unfold lim; omega) fun u' g' ou' b' hu' hl' => ?_
    refine ⟨u', rfl, L ++ [w], ⟨by rw [List.map_append]; exact ou'.rd, fun x hx => ?_⟩, by rw [List.length_append, List.length_singleton]; omega, fun o e => ?_, x.but_ b' fun o e => fu o e⟩
    · rcases List.mem_append.1 hx with hx | hx
      · exact hL x hx
      · rw [List.mem_singleton] at hx; subst hx; omega
    · rcases hu' o e with h1 | h1
      · exact fu o h1
      · omega
theorem number_c (t : ByteArray) (ht : t.size ≤ 1000) : callI SP .i64 i_spec_l01Number [.str t] h fun n h' => h = h' := by
  apply spec_l01Number_call
  unfold spec_l01Number_main
  have loop : ¬ (t.size : Int) > 9 → spec_l01Number_L0 SP (fun v h' => ∃ r, v = .int .i64 r ∧ h = h') (.str t) 0 0 h := fun h9 => by
    refine spec_l01Number_rule0 _ _ _ (fun n i g => ∃ m : Nat, i = m ∧ m ≤ t.size ∧ g = h) (fun _ i _ => ((t.size : Int) - i).toNat) ?_ _ _ ⟨0, rfl, by omega, rfl⟩
    rintro X n _ g ⟨m, rfl, hm, rfl⟩ hX
    unfold spec_l01Number_b0
    refine via_str ?_
    refine bif_dec (fun hi => ?_) (fun hi => ⟨_, rfl, rfl⟩)
    refine via_str (ixStr_of (by omega) hi fun y _ _ => ?_)
    refine bif_dec (fun _ => ⟨_, rfl, rfl⟩) (fun _ => ?_)
    refine via_str (ixStr_of (by omega) hi fun y _ _ => ?_)
    refine bif_dec (fun _ => ⟨_, rfl, rfl⟩) (fun _ => ?_)
    refine via_str (ixStr_of (by omega) hi fun y _ _ => ?_)
    rw [w64_of (n := (m : Int) + 1) (by omega) (by omega)]
    exact hX _ _ _ ⟨m + 1, by push_cast; rfl, by omega, rfl⟩ (by omega)
  refine via_str ?_
  refine bif_eq (fun _ => ⟨_, rfl, rfl⟩) (fun _ => ?_)
  refine via_str ?_
  refine bif_dec (fun _ => ⟨_, rfl, rfl⟩) (fun h9 => ?_)
  refine via_str ?_
  refine bif_dec (fun hi => ?_) (fun _ => loop h9)
  refine via_str (ixStr_of (by omega) (by omega) fun y _ _ => ?_)
  exact bif_eq (fun _ => ⟨_, rfl, rfl⟩) (fun _ => loop h9)
/-- A set, or nothing. -/
def WSet (c : Int) (ts : List Tile) : Prop := setOK c ts ∨ (c = 0 ∧ ts = [])
theorem WSet.len {c ts} (h : WSet c ts) : ts.length ≤ 16 := by
  rcases h with h | h
  · exact h.2.1
  · rw [h.2]; simp
theorem WSet.col {c ts} (h : WSet c ts) : 0 ≤ c ∧ c ≤ 6 := by
  rcases h with h | h
  · have := h.1; omega
  · omega
/-- What a text read as a set brings. -/
def RdR (h : H) (v : AVal) (h' : H) : Prop := ∃ u c ts f, v = .tuple [.agg (SetC c u), .bool f] ∧ Rd h' u 4 (tcs ts) ∧ WSet c ts ∧ Fr h.length u ∧ Ext h h'
theorem RdR.no {g : H} {o : Nat} {cs : List AVal} (p : Obj g o cs) (hcs : cs.length = 2) {f : Bool} (hx : h.length ≤ o) (x : Ext h g) :
    stN ⟨some o, 2, 0⟩ 2 [.int .i64 0, .sl Sl.nil] g fun h9 => ldA ⟨some o, 2, 0⟩ 2 h9 fun cs10 => RdR h (.tuple [.agg cs10, .bool f]) h9 := by
  refine p.stA (fun h6 o6 b6 n6 => ?_) hcs
  exact o6.ldA rfl ⟨Sl.nil, 0, [], f, rfl, Rd.nil _ _, .inr ⟨rfl, rfl⟩, Fr.nil _, x.but_ b6 (some_le hx)⟩
theorem read_c (t : ByteArray) (ht : t.size ≤ 1000) : callV SP i_spec_l01Read [.str t] h (RdR h) := by
  apply spec_l01Read_call
  unfold spec_l01Read_main
  refine newO_obj fun h1 o1 x1 n1 => ?_
  refine (split_c t ht _).to ?_
  rintro u h2 ⟨L, rL, hL, fu, x2⟩
  have X2 := x1.trans x2
  have hul := rL.len
  have hx2 := x2.len
  refine bif_ne (fun _ => RdR.no (o1.ext x2) rfl (Nat.le_refl _) X2) (fun h2l => ?_)
  refine rL.ld (by omega) (by omega) fun a ha => ?_
  refine (number_c a ha).to ?_
  rintro n _ rfl
  refine newS_ow (by rfl) fun w h3 ow lw wo e3 => ?_
  have x3 : Ext h2 h3 := by rw [e3]; exact Ext.app _ _
  have n3 : h3.length = h2.length + 1 := by rw [e3]; simp
  refine newO_obj fun h4 o4 x4 n4 => ?_
  refine o4.stA fun h5 o5 b5 n5 => ?_
  have x35 : Ext h3 h5 := x4.but_ b5 (some_le (Nat.le_refl _))
  have x25 := x3.trans x35
  have X5 := X2.trans x25
  have fin : ∀ {g : H} {w : Sl} {ts : List Tile}, Ext h2 g → Obj g h3.length [i64 n, .sl w] → Ow g w 4 (tcs ts) → Fr h2.length w → spec_l01Read_C0 SP (RdR h) ⟨some h.length, 2, 0⟩ ⟨some h3.length, 2, 0⟩ g := fun {g w ts} E og ow fw => by
    unfold spec_l01Read_C0
    have Eg := X2.trans E
    refine og.ldA rfl ?_
    refine (l01Is_c (c := n) ow.rd).to ?_
    rintro b g1 ⟨hb, y1⟩
    have p1 := (o1.ext (x2.trans E)).ext y1
    refine bif_not (fun _ => RdR.no p1 rfl (Nat.le_refl _) (Eg.trans y1)) (fun hq => ?_)
    refine (og.ext y1).ldA rfl ?_
    refine p1.stA fun g2 q2 b2 m2 => ?_
    refine q2.ldA rfl ⟨w, n, ts, true, rfl, (ow.ext y1).rd.but b2 ?_, .inl (hb.1 hq), fw.le (by omega), (Eg.trans y1).but_ b2 (some_le (Nat.le_refl _))⟩
    refine .inl fun e => ?_
    have := fw _ e.symm
    omega
  refine (rL.ext x25).ld (by omega) (by omega) fun a2 ha2 => ?_
  refine ⟨a2, rfl, ByteArray.empty, rfl, ?_⟩
  refine bif_not (fun hne => ?_) (fun _ => ?_)
  · refine (rL.ext x25).ld (by omega) (by omega) fun a3 ha3 => ?_
    refine (split_c a3 ha3 _).to ?_
    rintro v h6 ⟨M, rM, hM, fv, x6⟩
    have hml := rM.len
    refine spec_l01Read_rule0 _ _ _ _ _ (fun i g => ∃ (k : Nat) (w : Sl) (ts : List Tile), i = k ∧ k ≤ M.length ∧ Obj g h3.length [i64 n, .sl w] ∧ Ow g w 4 (tcs ts) ∧ w.o = some h2.length ∧ ts.length ≤ k ∧ Chg (fun o => o = h2.length ∨ o = h3.length) h6 g) (fun i _ => ((M.length : Int) - i).toNat) ?_ _
      ⟨0, w, [], rfl, by omega, o5.ext x6, (by simpa [tcs] using (ow.ext (x35.trans x6))), wo, Nat.le_refl _, Chg.refl _ _⟩
    rintro X _ g ⟨k, w, ts, rfl, hk, og, ow, wo, htl, ch⟩ hX
    have E2 : Ext h2 g := (x25.trans x6).chg_ ch fun i e => by omega
    unfold spec_l01Read_b0
    refine bif_dec (fun hi => ?_) (fun _ => fin E2 og ow (fun o e => by rw [wo] at e; cases e; exact Nat.le_refl _))
    have rMg : RdT g v M := ⟨rM.1.chg ch fun i e => by have := fv i e; have := x25.len; omega, rM.2⟩
    refine rMg.ld (by omega) (by omega) fun a4 ha4 => ?_
    refine via_str ?_
    refine bif_ne (fun _ => RdR.no ((o1.ext (x2.trans (x25.trans x6))).chg ch (by omega)) rfl (Nat.le_refl _) (X2.trans E2)) (fun h4 => ?_)
    refine isPt_in (og.ldS (m := w) rfl rfl ?_)
    refine via_str (ixStr_of (by omega) (by omega) fun y0 _ _ => ?_)
    refine via_str (ixStr_of (by omega) (by omega) fun y1 _ _ => ?_)
    refine via_str (ixStr_of (by omega) (by omega) fun y2 _ _ => ?_)
    refine via_str (ixStr_of (by omega) (by omega) fun y3 _ _ => ?_)
    refine ⟨rfl, ?_⟩
    refine newS_ow (z := 4) (n := 1) (by rfl) fun x g1 ox lx xo e1 => ?_
    have z1 : Ext g g1 := by rw [e1]; exact Ext.app _ _
    have og1 := og.ext z1
    refine ⟨(og1.cellE (n := 2) rfl).trans (og.cellE (n := 2) rfl).symm, ?_⟩
    have hwl := ow.rd.tlen
    have hkM : M.length ≤ 1001 := by omega
    refine app_ow (by omega) (ow.ext z1) ox.rd (by rw [lx, hwl]; unfold lim; omega) fun w' g2 ow2 lw2 b2 k1 _ => ?_
    have wo2 := k1 _ wo
    rw [wo] at b2
    have og2 := og1.but b2 (fun e => by have := Option.some.inj e; omega)
    refine isPt_in ?_
    refine og2.st1 rfl (by simp) _ fun g3 og3 b3 m3 => ?_
    rw [w64_of (n := (k : Int) + 1) (by omega) (by omega)]
    refine hX _ _ ⟨k + 1, w', ts ++ [(w64 ((w64 y0) - 48), w64 ((w64 y1) - 48), w64 ((w64 y2) - 48), w64 ((w64 y3) - 48))], by push_cast; rfl, by omega, og3, ?_, wo2, by rw [List.length_append, List.length_singleton]; omega, ?_⟩ (by omega)
    · refine Ow.but (o := some h3.length) ?_ b3 (.inl fun e => by rw [wo2] at e; have := Option.some.inj e; omega)
      rw [tcs_app, tcs_one]
      exact ow2
    · exact ch.trans (((z1.chg _).trans (b2.chg fun i e => .inl (Option.some.inj e).symm)).trans (b3.chg fun i e => .inr (Option.some.inj e).symm))
  · have := fin (ts := []) x25 o5 (by simpa [tcs] using ow.ext x35) (fun o e => by rw [wo] at e; cases e; exact Nat.le_refl _)
    exact this
end
end Go.Proofs.YtcoampecbpiecaaGreat.Cl

/- Stacked pairs: the program's walk. No claim is stated here. -/
set_option linter.unusedVariables false
set_option linter.unusedSimpArgs false
namespace Go.Proofs.YtcoampecbpiecaaGreat.Cl
open Go
def pc (e : Int × Int) : List AVal := [i64 e.1, i64 e.2]
theorem push_tc {h : H} {s : Sl} {l : List Tile} {t : Tile} (r : Ow h s 4 (tcs l)) (hl : (l.length : Int) + 1 ≤ lim) {K : Sl → H → Prop}
    (hk : ∀ s' h', Ow h' s' 4 (tcs (l ++ [t])) → But s.o h h' → (∀ o, s'.o = some o → s.o = some o ∨ h.length ≤ o) → h.length ≤ h'.length → K s' h') : newS 1 4 (tc t) h fun x h1 => app s x 4 h1 K := by
  refine newS_ow (by rfl) fun x h1 ot tl to e1 => ?_
  have e1' : Ext h h1 := by rw [e1]; exact Ext.app _ _
  have hln := e1'.len
  have hsl := r.rd.tlen
  refine app_ow (by omega) (r.ext e1') ot.rd (by rw [tl, hsl]; exact_mod_cast hl) fun s' h' o' ln b k1 k2 => hk s' h' (by rw [tcs_app]; simpa [tcs] using o') ((e1'.but _).trans b) (fun o e => ?_) (Nat.le_trans hln b.1)
  cases hq : s.o with
  | none => have := k2 hq o e; exact .inr (by omega)
  | some p => rw [k1 p hq] at e; exact .inl e
theorem Fr.push {n : Nat} {s s' : Sl} {h : H} (f : Fr n s) (hn : n ≤ h.length) (hs : ∀ o, s'.o = some o → s.o = some o ∨ h.length ≤ o) : Fr n s' := fun o e => by
  rcases hs o e with h1 | h1
  · exact f o h1
  · omega
/-! ### stacked pairs, by the numbers of their tiles -/
section
variable {h0 : H} {s t : Sl} {S T : List Tile}
end
end Go.Proofs.YtcoampecbpiecaaGreat.Cl

/- Orders, lists without repetition in order: plain. No claim is stated here. -/
set_option linter.unusedVariables false
set_option linter.unusedSimpArgs false
namespace Go.Proofs.YtcoampecbpiecaaGreat.Cl
open Go
/-- a strict total order -/
structure STO {α : Type} (lt : α → α → Prop) : Prop where
  irr : ∀ a, ¬ lt a a
  trans : ∀ a b c, lt a b → lt b c → lt a c
  tri : ∀ a b, a ≠ b → lt a b ∨ lt b a
theorem STO.asym {α : Type} {lt : α → α → Prop} (o : STO lt) {a b : α} (h : lt a b) : ¬ lt b a := fun h2 => o.irr a (o.trans _ _ _ h h2)
theorem srt_unique {α : Type} {lt : α → α → Prop} (o : STO lt) : ∀ {l m : List α}, l.Pairwise lt → m.Pairwise lt → (∀ x, x ∈ l ↔ x ∈ m) → l = m
  | [], [], _, _, _ => rfl
  | [], b :: m, _, _, h => by have := (h b).2 (by simp); cases this
  | a :: l, [], _, _, h => by have := (h a).1 (by simp); cases this
  | a :: l, b :: m, hl, hm, h => by
    have h1 := List.pairwise_cons.1 hl
    have h2 := List.pairwise_cons.1 hm
    have hab : a = b := Classical.byContradiction fun hne => by
      rcases o.tri a b hne with h3 | h3
      · have := (h a).1 (by simp)
        rcases List.mem_cons.1 this with h4 | h4
        · exact hne h4
        · exact o.asym h3 (h2.1 a h4)
      · have := (h b).2 (by simp)
        rcases List.mem_cons.1 this with h4 | h4
        · exact hne h4.symm
        · exact o.asym h3 (h1.1 b h4)
    subst hab
    congr 1
    refine srt_unique o h1.2 h2.2 fun x => ⟨fun hx => ?_, fun hx => ?_⟩
    · rcases List.mem_cons.1 ((h x).1 (by simp [hx])) with h4 | h4
      · subst h4; exact absurd (h1.1 x hx) (o.irr x)
      · exact h4
    · rcases List.mem_cons.1 ((h x).2 (by simp [hx])) with h4 | h4
      · subst h4; exact absurd (h2.1 x hx) (o.irr x)
      · exact h4
open Classical in
noncomputable def insD {α : Type} (lt : α → α → Prop) (x : α) : List α → List α
  | [] => [x]
  | y :: l => if x = y then y :: l else if lt x y then x :: y :: l else y :: insD lt x l
theorem mem_insD {α : Type} {lt : α → α → Prop} {x z : α} : ∀ {l : List α}, z ∈ insD lt x l ↔ z = x ∨ z ∈ l
  | [] => by simp [insD]
  | y :: l => by
    unfold insD
    split
    · next h => subst h; simp
    · split
      · simp
      · simp only [List.mem_cons, mem_insD (l := l)]
        constructor
        · rintro (h | h | h)
          · exact .inr (.inl h)
          · exact .inl h
          · exact .inr (.inr h)
        · rintro (h | h | h)
          · exact .inr (.inl h)
          · exact .inl h
          · exact .inr (.inr h)
theorem pw_insD {α : Type} {lt : α → α → Prop} (o : STO lt) {x : α} : ∀ {l : List α}, l.Pairwise lt → (insD lt x l).Pairwise lt
  | [], _ => by simp [insD]
  | y :: l, h => by
    have h1 := List.pairwise_cons.1 h
    unfold insD
    split
    · exact h
    · next hne =>
      split
      · next hlt =>
        refine List.pairwise_cons.2 ⟨fun z hz => ?_, h⟩
        rcases List.mem_cons.1 hz with rfl | hz
        · exact hlt
        · exact o.trans _ _ _ hlt (h1.1 z hz)
      · next hnl =>
        refine List.pairwise_cons.2 ⟨fun z hz => ?_, pw_insD o h1.2⟩
        rcases mem_insD.1 hz with rfl | hz
        · exact (o.tri _ _ hne).resolve_left hnl
        · exact h1.1 z hz
noncomputable def dsort {α : Type} (lt : α → α → Prop) (l : List α) : List α := l.foldr (insD lt) []
theorem mem_dsort {α : Type} {lt : α → α → Prop} {z : α} : ∀ {l : List α}, z ∈ dsort lt l ↔ z ∈ l
  | [] => by simp [dsort]
  | x :: l => by
    show z ∈ insD lt x (dsort lt l) ↔ _
    rw [mem_insD, mem_dsort, List.mem_cons]
theorem pw_dsort {α : Type} {lt : α → α → Prop} (o : STO lt) : ∀ (l : List α), (dsort lt l).Pairwise lt
  | [] => by simp [dsort]
  | x :: l => pw_insD o (pw_dsort o l)
theorem dsort_eq {α : Type} {lt : α → α → Prop} (o : STO lt) {l m : List α} (hm : m.Pairwise lt) (h : ∀ x, x ∈ m ↔ x ∈ l) : m = dsort lt l :=
  srt_unique o hm (pw_dsort o l) fun x => by rw [h, mem_dsort]
theorem insD_len {α : Type} {lt : α → α → Prop} {x : α} : ∀ {l : List α}, (insD lt x l).length ≤ l.length + 1
  | [] => by simp [insD]
  | y :: l => by
    have := insD_len (lt := lt) (x := x) (l := l)
    unfold insD
    split
    · omega
    · split <;> simp <;> omega
theorem dsort_len {α : Type} {lt : α → α → Prop} : ∀ (l : List α), (dsort lt l).length ≤ l.length
  | [] => by simp [dsort]
  | x :: l => by
    have := dsort_len (lt := lt) l
    have := insD_len (lt := lt) (x := x) (l := dsort lt l)
    show (insD lt x (dsort lt l)).length ≤ _
    simp only [List.length_cons]; omega
/-! ### lists of numbers -/
def ltL (l m : List Int) : Prop := cmpL l m < 0
theorem cmpL_anti' : ∀ a b, cmpL b a = - cmpL a b
  | [], [] => rfl
  | [], _ :: _ => rfl
  | _ :: _, [] => rfl
  | a :: l, b :: m => by
    have := cmpL_anti' l m
    simp only [cmpL]
    by_cases h1 : a < b
    · rw [if_neg (by omega), if_pos (show b > a from h1), if_pos h1]; rfl
    · by_cases h2 : b < a
      · rw [if_pos h2, if_neg h1, if_pos (show a > b from h2)]
      · rw [if_neg h2, if_neg (show ¬ b > a from h1), if_neg h1, if_neg (show ¬ a > b from h2), this]
theorem cmpL_zero : ∀ a b, cmpL a b = 0 → a = b
  | [], [], _ => rfl
  | [], _ :: _, h => by simp [cmpL] at h
  | _ :: _, [], h => by simp [cmpL] at h
  | a :: l, b :: m, h => by
    simp only [cmpL] at h
    split at h
    · cases h
    · split at h
      · cases h
      · rw [cmpL_zero l m h, show a = b by omega]
theorem cmpL_self' : ∀ a, cmpL a a = 0
  | [] => rfl
  | a :: l => by simp only [cmpL]; rw [if_neg (by omega), if_neg (by omega), cmpL_self' l]
theorem ltL_trans : ∀ a b c, ltL a b → ltL b c → ltL a c
  | [], [], _, h, _ => by simp [ltL, cmpL] at h
  | [], _ :: _, [], _, h => by simp [ltL, cmpL] at h
  | [], _ :: _, _ :: _, _, _ => by simp [ltL, cmpL]
  | _ :: _, [], _, h, _ => by simp [ltL, cmpL] at h
  | _ :: _, _ :: _, [], _, h => by simp [ltL, cmpL] at h
  | a :: l, b :: m, c :: n, h1, h2 => by
    have ih := ltL_trans l m n
    unfold ltL at *
    simp only [cmpL] at h1 h2 ⊢
    by_cases e1 : a < b
    · by_cases e2 : b < c
      · rw [if_pos (by omega)]; decide
      · rw [if_neg e2] at h2
        by_cases e3 : b > c
        · rw [if_pos e3] at h2; omega
        · rw [if_pos (by omega)]; decide
    · rw [if_neg e1] at h1
      by_cases e3 : a > b
      · rw [if_pos e3] at h1; omega
      · rw [if_neg e3] at h1
        by_cases e2 : b < c
        · rw [if_pos (by omega)]; decide
        · rw [if_neg e2] at h2
          by_cases e4 : b > c
          · rw [if_pos e4] at h2; omega
          · rw [if_neg e4] at h2
            rw [if_neg (by omega), if_neg (by omega)]
            exact ih h1 h2
theorem ltL_sto : STO ltL := ⟨fun a h => by unfold ltL at h; rw [cmpL_self'] at h; omega, ltL_trans, fun a b h => by
  unfold ltL
  have := cmpL_anti' a b
  have : cmpL a b ≠ 0 := fun e => h (cmpL_zero a b e)
  omega⟩
theorem STO.inv {α β : Type} {lt : β → β → Prop} (o : STO lt) (f : α → β) (hf : ∀ a b, f a = f b → a = b) : STO fun a b => lt (f a) (f b) :=
  ⟨fun a => o.irr _, fun a b c => o.trans _ _ _, fun a b h => o.tri _ _ fun e => h (hf a b e)⟩
def ltT (a b : Tile) : Prop := cmpT a b < 0
theorem ltT_sto : STO ltT := ltL_sto.inv tl fun a b h => by
  obtain ⟨a1, a2, a3, a4⟩ := a
  obtain ⟨b1, b2, b3, b4⟩ := b
  simp [tl] at h
  obtain ⟨rfl, rfl, rfl, rfl⟩ := h
  rfl
section
variable {s : Sl}
theorem tcs_take4 : ∀ (l : List Tile) (n : Nat), (tcs l).take (n * 4) = tcs (l.take n)
  | [], n => by simp [tcs]
  | a :: l, 0 => by simp [tcs]
  | a :: l, n + 1 => by
    rw [List.take_succ_cons, tcs_cons, tcs_cons, ← tcs_take4 l n, show (n + 1) * 4 = (tc a).length + n * 4 by rw [tc_len]; omega, List.take_length_add_append]
theorem tcs_drop4 : ∀ (l : List Tile) (n : Nat), (tcs l).drop (n * 4) = tcs (l.drop n)
  | [], n => by simp [tcs]
  | a :: l, 0 => by simp
  | a :: l, n + 1 => by
    rw [List.drop_succ_cons, tcs_cons, ← tcs_drop4 l n, show (n + 1) * 4 = (tc a).length + n * 4 by rw [tc_len]; omega, ← List.drop_drop, List.drop_left]
theorem Ow.cutV {h : H} {A : List Tile} (r : Ow h s 4 (tcs A)) {o : Nat} (ho : s.o = some o) {lo hi : Int} (h0 : 0 ≤ lo) (h1 : lo ≤ hi) (h2 : hi ≤ s.len) {K : Sl → Prop} (hk : K ⟨s.o, s.n, lo.toNat * 4, (hi - lo).toNat, 4⟩) : cut s 4 lo hi h K := by
  obtain ⟨a, _⟩ | ⟨o', a, b, c, d, e⟩ := r.at_
  · rw [ho] at a; cases a
  · have hc : (cells h o' s.n).isSome = true := by unfold cells; rw [e]; simp only; rw [if_pos (by rw [r.len, d])]; rfl
    refine ⟨⟨h0, h1⟩, by unfold okS; rw [a]; exact hc, (fun hn => by rw [a] at hn; cases hn), fun _ => ⟨b, by rw [c, d]; have : hi.toNat * 4 ≤ s.len * 4 := Nat.mul_le_mul_right _ (by omega); omega⟩, ?_⟩
    rw [c, Nat.zero_add]
    exact hk
theorem Ow.viewT {h : H} {A : List Tile} (r : Ow h s 4 (tcs A)) {o : Nat} (ho : s.o = some o) {lo n : Nat} (hn : lo + n ≤ s.len) : Rd h ⟨s.o, s.n, lo * 4, n, 4⟩ 4 (tcs ((A.drop lo).take n)) := by
  have hal : A.length = s.len := by have := r.rd.tlen; omega
  obtain ⟨a, _⟩ | ⟨o', a, b, c, d, e⟩ := r.at_
  · rw [ho] at a; cases a
  · refine ⟨by rw [tcs_len, List.length_take, List.length_drop]; show min n (A.length - lo) * 4 = n * 4; rw [show min n (A.length - lo) = n by omega], .inr ⟨rfl, by rw [ho]; rfl, ?_⟩⟩
    have hc : cells h o' s.n = some (tcs A) := by unfold cells; rw [e]; simp only; rw [if_pos (by rw [r.len, d])]
    show range h s.o s.n (lo * 4) (n * 4) = _
    rw [a, range_of hc (by rw [tcs_len]; omega), tcs_drop4, tcs_take4]
noncomputable def dsT (l : List Tile) : List Tile := dsort ltT l
theorem dsT_len (l : List Tile) : (dsT l).length ≤ l.length := dsort_len l
end
section
variable {c : Int} {ts : List Tile}
theorem tat_nat {i : Nat} (h : i < ts.length) : tat ts (i : Int) = ts[i] := tat_at (by rw [Int.toNat_natCast, List.getElem?_eq_getElem h])
theorem setOK.pw (h : setOK c ts) : ts.Pairwise ltT := by
  rw [List.pairwise_iff_getElem]
  have key : ∀ n i j : Nat, (hi : i < ts.length) → (hj : j < ts.length) → j = i + n + 1 → ltT ts[i] ts[j] := by
    intro n
    induction n with
    | zero =>
      intro i j hi hj e
      have := (h.2.2 j hj).2 (by omega)
      rw [show ((j : Int) - 1) = ((i : Nat) : Int) by omega, tat_nat hi, tat_nat hj] at this
      exact this
    | succ n ih =>
      intro i j hi hj e
      have h1 := ih i (j - 1) hi (by omega) (by omega)
      have h2 := (h.2.2 j hj).2 (by omega)
      rw [show ((j : Int) - 1) = ((j - 1 : Nat) : Int) by omega, tat_nat (show j - 1 < ts.length by omega), tat_nat hj] at h2
      exact ltT_sto.trans _ _ _ h1 h2
  intro i j hi hj hij
  exact key (j - i - 1) i j hi hj (by omega)
theorem setOK_of (h1 : 1 ≤ c) (h2 : c ≤ 6) (hl : ts.length ≤ 16) (hp : ts.Pairwise ltT) (hs : ∀ t ∈ ts, ∀ k, k < 4 → 0 ≤ sd t k ∧ sd t k < c) : setOK c ts := by
  refine ⟨⟨h1, h2⟩, hl, fun j hj => ⟨?_, fun h0 => ?_⟩⟩
  · rw [tat_nat hj]
    have hm := List.getElem_mem hj
    have a0 := hs _ hm 0 (by omega)
    have a1 := hs _ hm 1 (by omega)
    have a2 := hs _ hm 2 (by omega)
    have a3 := hs _ hm 3 (by omega)
    simp only [sd] at a0 a1 a2 a3
    unfold tileok
    simp only [Bool.and_eq_true, decide_eq_true_eq]
    omega
  · rw [show ((j : Int) - 1) = ((j - 1 : Nat) : Int) by omega, tat_nat (show j - 1 < ts.length by omega), tat_nat hj]
    exact List.pairwise_iff_getElem.1 hp (j - 1) j (by omega) hj (by omega)
end
theorem ix4 {h : H} {o : Nat} {t : Tile} (x : Obj h o (tc t)) (i : Nat) (hi : i < 4) {K : Pt → Int → Prop} (hk : ∀ p, p = Pt.add ⟨some o, 4, 0⟩ i → K p (sd t i)) : ixA ⟨some o, 4, 0⟩ 4 1 (i : Int) fun p => Cl.ldI .i64 p h (K p) := by
  refine ⟨⟨by omega, by omega⟩, rfl, ?_⟩
  rw [show (i : Int).toNat * 1 = i by omega]
  exact ⟨_, by rw [x.cellE (n := 4) rfl]; exact tc_sd t hi, hk _ rfl⟩
theorem eqA_tc {a b : Tile} {K : Bool → Prop} (h : K (decide (a = b))) : eqA .i64 4 (tc a) (tc b) K := by
  refine ⟨tl a, tl b, rfl, rfl, rfl, rfl, ?_⟩
  have : (tl a == tl b) = decide (a = b) := by
    obtain ⟨a1, a2, a3, a4⟩ := a
    obtain ⟨b1, b2, b3, b4⟩ := b
    rw [Bool.eq_iff_iff, beq_iff_eq, decide_eq_true_eq]
    simp [tl]
  rw [this]
  exact h
end Go.Proofs.YtcoampecbpiecaaGreat.Cl

/- Views of the first part of an object. No claim is stated here. -/
set_option linter.unusedVariables false
set_option linter.unusedSimpArgs false
namespace Go.Proofs.YtcoampecbpiecaaGreat.Cl
open Go
/-- The view s is the first part of an own object (or of none). -/
structure Pre (h : H) (s : Sl) (z : Nat) (cs : List AVal) : Prop where
  len : cs.length = s.len * z
  at_ : (s.o = none ∧ s.len = 0) ∨ (∃ o xs m, s.o = some o ∧ s.sz = z ∧ s.off = 0 ∧ s.n = m * z ∧ xs.length = m * z ∧ s.len ≤ m ∧ h[o]? = some (.own xs) ∧ xs.take (s.len * z) = cs)
theorem Pre.nil (h : H) (z : Nat) : Pre h Sl.nil z [] := ⟨by simp [Sl.nil], .inl ⟨rfl, rfl⟩⟩
theorem Ow.pre {h s z cs} (r : Ow h s z cs) : Pre h s z cs := by
  refine ⟨r.len, ?_⟩
  obtain ⟨a, b⟩ | ⟨o, a, b, c, d, e⟩ := r.at_
  · exact .inl ⟨a, b⟩
  · refine .inr ⟨o, cs, s.len, a, b, c, d, r.len, Nat.le_refl _, e, ?_⟩
    rw [← r.len, List.take_length]
theorem Pre.rd {h s z cs} (r : Pre h s z cs) : Rd h s z cs := by
  refine ⟨r.len, ?_⟩
  obtain ⟨a, b⟩ | ⟨o, xs, m, a, b, c, d, e, f, g, k⟩ := r.at_
  · exact .inl b
  · have hm : s.len * z ≤ m * z := Nat.mul_le_mul_right _ f
    refine .inr ⟨b, by simp [a], ?_⟩
    rw [a, range_of (xs := xs) (by unfold cells; simp [g, d, e]) (by omega), c, List.drop_zero, k]
theorem Pre.chg {P} {h h' : H} {s z cs} (r : Pre h s z cs) (b : Chg P h h') (hn : ∀ i, s.o = some i → ¬ P i) : Pre h' s z cs :=
  ⟨r.len, r.at_.imp id fun ⟨o, xs, m, a, b', c, d, e, f, g, k⟩ => ⟨o, xs, m, a, b', c, d, e, f, b.get g (hn o a), k⟩⟩
theorem Pre.ext {h h' : H} {s z cs} (r : Pre h s z cs) (x : Ext h h') : Pre h' s z cs := r.chg (x.chg fun _ => False) fun _ _ f => f
theorem Pre.but {o : Option Nat} {h h' : H} {s z cs} (r : Pre h s z cs) (b : But o h h') (hn : ∀ i, s.o = some i → o ≠ some i) : Pre h' s z cs :=
  r.chg (b.chg (P := fun i => o = some i) fun i e => e) hn
theorem Pre.lt {h s z cs} (r : Pre h s z cs) {o : Nat} (e : s.o = some o) : o < h.length := by
  obtain ⟨a, _⟩ | ⟨i, xs, m, a, _, _, _, _, _, g, _⟩ := r.at_
  · rw [a] at e; cases e
  · rw [a] at e; cases e; exact (List.getElem?_eq_some_iff.1 g).1
theorem Pre.ok {h s z cs} (r : Pre h s z cs) : okS h s := by
  unfold okS
  obtain ⟨a, _⟩ | ⟨i, xs, m, a, _, _, d, e, _, g, _⟩ := r.at_
  · rw [a]; trivial
  · rw [a]; unfold cells; simp [g, d, e]
end Go.Proofs.YtcoampecbpiecaaGreat.Cl

/- The reference's order of tiles. No claim is stated here. -/
set_option linter.unusedVariables false
set_option linter.unusedSimpArgs false
namespace Go.Proofs.YtcoampecbpiecaaGreat.Cl
open Go
section
variable {h0 : H} {s : Sl} {l : List Tile}
theorem ins_pw {A : List Tile} {x : Tile} {q : Nat} (hp : A.Pairwise ltT) (hq : q ≤ A.length) (hgt : ∀ j (hj : j < A.length), q ≤ j → ltT x A[j]) (hlt : ∀ (h : 0 < q), ltT (A[q - 1]'(by omega)) x) : (A.take q ++ x :: A.drop q).Pairwise ltT := by
  rw [List.pairwise_append]
  refine ⟨hp.sublist (List.take_sublist _ _), ?_, fun a ha b hb => ?_⟩
  · refine List.pairwise_cons.2 ⟨fun b hb => ?_, hp.sublist (List.drop_sublist _ _)⟩
    obtain ⟨j, hj, rfl⟩ := List.getElem_of_mem hb
    rw [List.getElem_drop]
    exact hgt _ _ (by omega)
  · obtain ⟨j, hj, rfl⟩ := List.getElem_of_mem ha
    have hj' : j < q := by rw [List.length_take] at hj; omega
    rw [List.getElem_take]
    have hax : ltT A[j] x := by
      by_cases e : j = q - 1
      · subst e; exact hlt (by omega)
      · exact ltT_sto.trans _ _ _ (List.pairwise_iff_getElem.1 hp j (q - 1) (by omega) (by omega) (by omega)) (hlt (by omega))
    rcases List.mem_cons.1 hb with rfl | hb
    · exact hax
    · obtain ⟨k, hk, rfl⟩ := List.getElem_of_mem hb
      rw [List.getElem_drop]
      exact ltT_sto.trans _ _ _ hax (hgt _ _ (by omega))
theorem ins_heap {h : H} {s3 : Sl} {A : List Tile} {x : Tile} {q n : Nat} (o : Ow h s3 4 (tcs A)) (f : Fr n s3) (hn : n ≤ h.length) (so : s3.o.isSome = true) (hq : q ≤ A.length) (hA : A.length ≤ 1000000) {K : Sl → H → Prop}
    (hk : ∀ u h', Ow h' u 4 (tcs (A.take q ++ x :: A.drop q)) → Fr n u → u.o.isSome = true → Ext h h' → K u h') :
    newS 1 4 (tc x) h fun s7 h8 => cut s3 4 (q : Int) (s3.len : Int) h8 fun s9 => okS h s3 ∧ (app s7 s9 4 h8 fun s10 h11 => newS 0 4 [] h11 fun s12 h13 => cut s3 4 0 (q : Int) h13 fun s14 => app s12 s14 4 h13 fun s15 h16 => app s15 s10 4 h16 fun s17 h18 => K s17 h18) := by
  obtain ⟨p, hp⟩ := Option.isSome_iff_exists.1 so
  have hl := o.rd.tlen
  refine newS_ow (by rfl) fun s7 h8 o7 l7 e7 y8 => ?_
  have x8 : Ext h h8 := by rw [y8]; exact Ext.app _ _
  have n8 : h8.length = h.length + 1 := by rw [y8]; simp
  refine (o.ext x8).cutV hp (by omega) (by omega) (by omega) ?_
  refine ⟨o.pre.ok, ?_⟩
  rw [Int.toNat_natCast, show ((s3.len : Int) - (q : Int)).toNat = A.length - q by omega]
  have v9 := (o.ext x8).viewT hp (lo := q) (n := A.length - q) (by omega)
  rw [List.take_of_length_le (by rw [List.length_drop]; omega)] at v9
  refine app_ow (by omega) o7 v9 (by rw [l7]; show ((1 + (A.length - q) : Nat) : Int) ≤ lim; unfold lim; omega) fun s10 h11 o10 l10 b11 k1 k2 => ?_
  have hs7 : s7.o = some h.length := e7
  have hs10 := k1 _ hs7
  have x11 : Ext h h11 := x8.but_ b11 fun i e => by rw [hs7] at e; have := Option.some.inj e; omega
  have n11 := b11.1
  refine newS_ow (by rfl) fun s12 h13 o12 l12 e12 y13 => ?_
  have x13 : Ext h11 h13 := by rw [y13]; exact Ext.app _ _
  have n13 : h13.length = h11.length + 1 := by rw [y13]; simp
  have x113 := x11.trans x13
  refine (o.ext x113).cutV hp (by omega) (by omega) (by omega) ?_
  rw [show (0 : Int).toNat = 0 from rfl, show ((q : Int) - 0).toNat = q by omega]
  have v14 := (o.ext x113).viewT hp (lo := 0) (n := q) (by omega)
  rw [List.drop_zero] at v14
  refine app_ow (by omega) o12 v14 (by rw [l12]; show ((0 + q : Nat) : Int) ≤ lim; unfold lim; omega) fun s15 h16 o15 l15 b16 k3 k4 => ?_
  have hs15 := k3 _ e12
  have o10' : Ow h16 s10 4 (tc x ++ tcs (A.drop q)) := (o10.ext x13).but b16 (.inl (by rw [e12, hs10]; intro e; have := Option.some.inj e; omega))
  have hl10 : s10.len = 1 + (A.length - q) := by rw [l10, l7]
  have hl15 : s15.len = 0 + q := by rw [l15, l12]
  refine app_ow (by omega) o15 o10'.rd (by rw [hl15, hl10]; unfold lim; omega) fun s17 h18 o17 l17 b18 k5 k6 => ?_
  have hs17 := k5 _ hs15
  refine hk s17 h18 ?_ (fun i e => by rw [hs17] at e; have := Option.some.inj e; omega) (by rw [hs17]; rfl) ((x113.but_ b16 fun i e => by rw [e12] at e; have := Option.some.inj e; omega).but_ b18 fun i e => by rw [hs15] at e; have := Option.some.inj e; omega)
  rw [tcs_app, tcs_cons]
  simpa using o17
theorem l01Sort_c (r : Rd h0 s 4 (tcs l)) (hl : l.length ≤ 1000000) :
    callS SP i_spec_l01Sort [.sl s] h0 fun u h' => Ow h' u 4 (tcs (dsT l)) ∧ Fr h0.length u ∧ Ext h0 h' := by
  have hsl := r.tlen
  apply spec_l01Sort_call
  unfold spec_l01Sort_main
  refine newS_ow (by rfl) fun u h1 ou lu uo e1 => ?_
  have x1 : Ext h0 h1 := by rw [e1]; exact Ext.app _ _
  refine spec_l01Sort_rule0 _ _ _ (fun u i h => ∃ (z : Nat) (A : List Tile), i = z ∧ z ≤ l.length ∧ Ow h u 4 (tcs A) ∧ Fr h0.length u ∧ u.o.isSome = true ∧ Ext h0 h ∧ A.Pairwise ltT ∧ (∀ x, x ∈ A ↔ x ∈ l.take z) ∧ A.length ≤ z) (fun _ i _ => (l.length - i).toNat) ?_ _ _
    ⟨0, [], rfl, by omega, by simpa [tcs] using ou, fun o e => by rw [uo] at e; cases e; exact Nat.le_refl _, by rw [uo]; rfl, x1, List.Pairwise.nil, fun x => by simp, Nat.le_refl _⟩
  rintro X0 u _ h ⟨z, A, rfl, hz, ou, fu, so, x, hp, hm, hAl⟩ hX
  unfold spec_l01Sort_b0 spec_l01Sort_C0
  refine bif_dec (fun hi => ?_) (fun hi => ?_)
  rotate_left
  · rw [show z = l.length by omega, List.take_length] at hm
    exact ⟨u, rfl, by rw [show dsT l = A from (dsort_eq ltT_sto hp hm).symm]; exact ou, fu, x⟩
  have hz' : z < l.length := by omega
  have hul := ou.rd.tlen
  have tz : tat l (z : Int) = l[z] := tat_at (by rw [Int.toNat_natCast, List.getElem?_eq_getElem hz'])
  have hst : ((z : Int) + 1) = ((z + 1 : Nat) : Int) := by push_cast; rfl
  have hxl := x.len
  have memz : ∀ y, y ∈ l.take (z + 1) ↔ y ∈ l.take z ∨ y = l[z] := fun y => by rw [List.take_succ_eq_append_getElem hz', List.mem_append, List.mem_singleton]
  refine spec_l01Sort_rule2 _ _ X0 _ _ _ (fun j g => ∃ q : Nat, j = q ∧ q ≤ A.length ∧ Ext h g ∧ ∀ k (hk : k < A.length), q ≤ k → ltT l[z] A[k]) (fun j _ => j.toNat) ?_ _ ⟨A.length, by rw [hul], Nat.le_refl _, Ext.refl _, fun k hk h => by omega⟩
  rintro X2 _ g ⟨q, rfl, hq, xg, hgt⟩ hY
  have rl := r.ext (x.trans xg)
  have og := ou.ext xg
  have fin : ∀ {g' : H}, Ext h g' → (∀ (h : 0 < q), ltT (A[q - 1]'(by omega)) l[z]) → newS 1 4 (tc l[z]) g' (fun s7 h8 => cut u 4 (q : Int) (u.len : Int) h8 fun s9 => okS g' u ∧ (app s7 s9 4 h8 fun s10 h11 => newS 0 4 [] h11 fun s12 h13 => cut u 4 0 (q : Int) h13 fun s14 => app s12 s14 4 h13 fun s15 h16 => app s15 s10 4 h16 fun s17 h18 => X0 (spec_l01Sort_e0 s s17 (w64 ((z : Int) + 1))) h18)) := fun {g'} xg' hlt => by
    rw [w64_of (n := (z : Int) + 1) (by omega) (by omega)]
    refine ins_heap (ou.ext xg') fu (by have := xg'.len; omega) so hq (by omega) fun v h' ov fv sv xv => ?_
    refine hX _ _ _ ⟨z + 1, _, hst, hz', ov, fv, sv, (x.trans xg').trans xv, ins_pw hp hq hgt hlt, fun y => ?_, by rw [List.length_append, List.length_take, List.length_cons, List.length_drop]; omega⟩ (by omega)
    rw [memz, ← hm, List.mem_append, List.mem_cons]
    have : y ∈ A ↔ y ∈ A.take q ∨ y ∈ A.drop q := by rw [← List.mem_append, List.take_append_drop]
    rw [this]
    constructor
    · rintro (h | h | h)
      · exact .inl (.inl h)
      · exact .inr h
      · exact .inl (.inr h)
    · rintro ((h | h) | h)
      · exact .inl h
      · exact .inr (.inr h)
      · exact .inr (.inl h)
  unfold spec_l01Sort_b2
  refine bif_dec (fun hj => ?_) (fun hj => ?_)
  · have hqA : q - 1 < A.length := by omega
    have tq : tat A ((q - 1 : Nat) : Int) = A[q - 1] := tat_at (by rw [Int.toNat_natCast, List.getElem?_eq_getElem hqA])
    refine rl.tileG (by omega) (by omega) ?_
    rw [w64_of (n := (q : Int) - 1) (by omega) (by omega), show (q : Int) - 1 = ((q - 1 : Nat) : Int) by omega]
    refine og.rd.tileG (by omega) (by omega) ?_
    rw [tz, tq]
    refine (l01Before_c l[z] A[q - 1] g).to ?_
    rintro b g2 ⟨rfl, y2⟩
    have xg2 := xg.trans y2
    refine bif_dec (fun hb => ?_) (fun hb => ?_)
    · refine hY _ _ ⟨q - 1, rfl, by omega, xg2, fun k hk h => ?_⟩ (by omega)
      by_cases e : k = q - 1
      · subst e; exact hb
      · exact hgt k hk (by omega)
    · unfold spec_l01Sort_C2
      refine bif_dec (fun _ => ?_) (fun h => absurd hj h)
      rw [w64_of (n := (q : Int) - 1) (by omega) (by omega), show (q : Int) - 1 = ((q - 1 : Nat) : Int) by omega]
      refine (ou.ext xg2).rd.tileG (by omega) (by omega) ?_
      refine (r.ext (x.trans xg2)).tileG (by omega) (by omega) (eqA_tc ?_)
      rw [tz, tq]
      refine bif_dec (fun he => ?_) (fun he => ?_)
      · unfold spec_l01Sort_C1
        rw [w64_of (n := (z : Int) + 1) (by omega) (by omega)]
        refine hX _ _ _ ⟨z + 1, A, hst, hz', ou.ext xg2, fu, so, x.trans xg2, hp, fun y => ?_, by omega⟩ (by omega)
        rw [memz, ← hm]
        exact ⟨.inl, fun h => h.elim id fun h => by rw [h, ← he]; exact List.getElem_mem hqA⟩
      · refine (r.ext (x.trans xg2)).tileG (by omega) (by omega) ⟨rfl, ?_⟩
        rw [tz]
        refine fin xg2 fun _ => ?_
        exact (ltT_sto.tri _ _ he).resolve_right hb
  · unfold spec_l01Sort_C2
    refine bif_dec (fun h => absurd h hj) (fun _ => ?_)
    refine rl.tileG (by omega) (by omega) ⟨rfl, ?_⟩
    rw [tz]
    exact fin xg fun h => by omega
theorem l01Made_c (r : Rd h0 s 4 (tcs l)) (hl : l.length ≤ 1000000) (c : Int) :
    callA SP i_spec_l01Made [i64 c, .sl s] h0 fun cs h' => ∃ u, cs = SetC c u ∧ Ow h' u 4 (tcs (dsT l)) ∧ Fr h0.length u ∧ Ext h0 h' := by
  apply spec_l01Made_call
  unfold spec_l01Made_main
  refine newO_obj fun h1 o1 x1 n1 => ?_
  refine (l01Sort_c (r.ext x1) hl).to ?_
  rintro u h2 ⟨ou, fu, x2⟩
  refine (o1.ext x2).stA fun h3 o3 b3 n3 => ?_
  refine o3.ldA rfl ⟨_, rfl, u, rfl, ou.but b3 (.inl fun e => by have := fu _ e.symm; omega), fu.le (by omega), (x1.trans x2).but_ b3 (some_le (Nat.le_refl _))⟩
end
end Go.Proofs.YtcoampecbpiecaaGreat.Cl

/- The reference's sorting and searching. No claim is stated here. -/
set_option linter.unusedVariables false
set_option linter.unusedSimpArgs false
namespace Go.Proofs.YtcoampecbpiecaaGreat.Cl
open Go
/-! ### plain -/
abbrev Asc (l : List Int) : Prop := l.Pairwise (· < ·)
theorem drop_at {α : Type} {l : List α} {i : Nat} (h : i < l.length) : l.drop i = l[i] :: l.drop (i + 1) := List.drop_eq_getElem_cons h
/-! ### views -/
theorem cut_rd {h : H} {s : Sl} {z : Nat} {cs : List AVal} (r : Rd h s z cs) (hs : 0 < s.len) {lo hi : Int} (h0 : 0 ≤ lo) (h1 : lo ≤ hi) (h2 : hi ≤ s.len) {K : Sl → Prop} (hk : ∀ s', Rd h s' z ((cs.drop (lo.toNat * z)).take ((hi - lo).toNat * z)) → s'.o = s.o → s'.len = (hi - lo).toNat → K s') : cut s z lo hi h K := by
  obtain a | ⟨a, b, e⟩ := r.at_
  · omega
  · obtain ⟨o, xs, ho, hc, hl, rfl⟩ := range_some e
    have hn : xs.length = s.n := by
      unfold cells at hc
      split at hc
      · split at hc
        · next q => rw [← Option.some.inj hc]; exact q
        · cases hc
      · split at hc
        · next q => rw [← Option.some.inj hc]; exact q
        · cases hc
      · cases hc
    have hm : hi.toNat * z ≤ s.len * z := Nat.mul_le_mul_right _ (by omega)
    refine ⟨⟨h0, h1⟩, ?_, (fun q => by rw [ho] at q; cases q), fun _ => ⟨a, by omega⟩, hk _ ⟨?_, ?_⟩ rfl rfl⟩
    · unfold okS
      rw [ho]
      simp only
      rw [hc]; rfl
    · have hlm : (hi - lo).toNat * z + lo.toNat * z = hi.toNat * z := by rw [← Nat.add_mul]; congr 1; omega
      show _ = (hi - lo).toNat * z
      simp only [List.length_take, List.length_drop]
      omega
    · by_cases q : (hi - lo).toNat = 0
      · exact .inl q
      · refine .inr ⟨rfl, b, ?_⟩
        have hlm : (hi - lo).toNat * z + lo.toNat * z = hi.toNat * z := by rw [← Nat.add_mul]; congr 1; omega
        have hh : lo.toNat * z + (hi - lo).toNat * z ≤ s.len * z := by omega
        exact range_sub e hh
theorem ok_rd {h : H} {s : Sl} {z : Nat} {cs : List AVal} (r : Rd h s z cs) (hs : 0 < s.len) : okS h s := by
  obtain a | ⟨a, b, e⟩ := r.at_
  · omega
  · obtain ⟨o, xs, ho, hc, hl, rfl⟩ := range_some e
    unfold okS
    rw [ho]
    simp only
    rw [hc]; rfl
/-- A step of the merge. -/
structure Mrg (A B out : List Int) (i k : Nat) : Prop where
  i1 : i ≤ A.length
  k1 : k ≤ B.length
  asc : Asc out
  lt : ∀ x ∈ out, (∀ y ∈ A.drop i, x < y) ∧ ∀ y ∈ B.drop k, x < y
  mem : ∀ x, (x ∈ out ∨ x ∈ A.drop i ∨ x ∈ B.drop k) ↔ (x ∈ A ∨ x ∈ B)
  len : out.length ≤ i + k
theorem Mrg.symm {A B out : List Int} {i k : Nat} (m : Mrg A B out i k) : Mrg B A out k i :=
  ⟨m.k1, m.i1, m.asc, fun x hx => ⟨(m.lt x hx).2, (m.lt x hx).1⟩, fun x => by have := m.mem x; rw [or_comm (a := x ∈ B), ← this]; rw [or_comm (a := x ∈ B.drop k)], by have := m.len; omega⟩
theorem Mrg.skip {A B out : List Int} {i k : Nat} (m : Mrg A B out i k) (hi : i < A.length) (hk : k < B.length) (e : A[i] = B[k]) : Mrg A B out (i + 1) k := by
  have hd := drop_at hi
  have hd2 := drop_at hk
  refine ⟨hi, m.k1, m.asc, fun x hx => ⟨fun y hy => (m.lt x hx).1 y (by rw [hd]; exact List.mem_cons_of_mem _ hy), (m.lt x hx).2⟩, fun x => ?_, by have := m.len; omega⟩
  rw [← m.mem x, hd, hd2]
  simp only [List.mem_cons]
  constructor
  · rintro (h | h | h)
    · exact .inl h
    · exact .inr (.inl (.inr h))
    · exact .inr (.inr h)
  · rintro (h | (h | h) | h)
    · exact .inl h
    · exact .inr (.inr (.inl (by rw [h, e])))
    · exact .inr (.inl h)
    · exact .inr (.inr h)
end Go.Proofs.YtcoampecbpiecaaGreat.Cl

/- Draws: sets. No claim is stated here. -/
set_option linter.unusedVariables false
set_option linter.unusedSimpArgs false
namespace Go.Proofs.YtcoampecbpiecaaGreat.Cl
open Go
section
variable {h : H} {o : Nat}
theorem names_c : callS SP i_spec_l01Names [] h fun u h' => ∃ L, RdT h' u L ∧ L.length = 8 ∧ Fr h.length u ∧ Ext h h' := by
  apply spec_l01Names_call
  unfold spec_l01Names_main
  refine newS_ow (by rfl) fun u h1 ou lu uo e1 => ?_
  refine ⟨u, rfl, [_, _, _, _, _, _, _, _], ⟨ou.rd, ?_⟩, rfl, fun o e => (by rw [uo] at e; cases e; exact Nat.le_refl _), by rw [e1]; exact Ext.app _ _⟩
  decide
theorem named_c (t : ByteArray) : callV SP i_spec_l01Named [.str t] h (RdR h) := by
  apply spec_l01Named_call
  unfold spec_l01Named_main
  refine newO_obj fun h1 o1 x1 n1 => ?_
  refine names_c.to ?_
  rintro u h2 ⟨L, rL, hL, fu, x2⟩
  refine newS_ow (by rfl) fun v h3 ov lv vo e3 => ?_
  have x3 : Ext h2 h3 := by rw [e3]; exact Ext.app _ _
  have X3 := x1.trans (x2.trans x3)
  obtain ⟨M, rM, hM⟩ : ∃ M, RdT h3 v M ∧ M.length = 8 := ⟨[_, _, _, _, _, _, _, _], ⟨ov.rd, by decide⟩, rfl⟩
  have rL3 := rL.ext x3
  have hul := rL3.len
  have p1 := o1.ext (x2.trans x3)
  refine spec_l01Named_rule0 _ _ _ _ _ _ (fun i g => ∃ k : Nat, i = k ∧ k ≤ 8 ∧ g = h3) (fun i _ => (8 - i).toNat) ?_ _ ⟨0, rfl, by omega, rfl⟩
  rintro X _ _ ⟨k, rfl, hk, rfl⟩ hX
  unfold spec_l01Named_b0
  refine bif_dec (fun hi => ?_) (fun _ => RdR.no p1 rfl (Nat.le_refl _) X3)
  refine rL3.ld (by omega) (by omega) fun x _ => ?_
  refine ⟨x, rfl, t, rfl, ?_⟩
  refine bif_b (fun _ => ?_) (fun _ => ?_)
  · refine rM.ld (by omega) (by omega) fun y hy => ?_
    refine (read_c y hy).to ?_
    rintro _ h4 ⟨w, c, ts, f, rfl, rw', hw, fw, x4⟩
    refine ⟨_, rfl, _, rfl, _, rfl, _, rfl, ?_⟩
    refine newO_obj fun h5 o5 x5 n5 => ?_
    refine o5.stA fun h6 o6 b6 n6 => ?_
    have x46 : Ext h4 h6 := x5.but_ b6 (some_le (Nat.le_refl _))
    refine o6.ldA rfl ?_
    have hx3 := X3.len
    refine (p1.ext (x4.trans x46)).stA fun h7 o7 b7 n7 => ?_
    refine o7.ldA rfl ⟨w, c, ts, true, rfl, (rw'.ext x46).but b7 (.inl fun e => by have := fw _ e.symm; have := x1.len; have := x2.len; have := x3.len; omega), hw, fw.le (by omega), ((X3.trans x4).trans x46).but_ b7 (some_le (Nat.le_refl _))⟩
  · rw [w64_of (by omega) (by omega)]
    exact hX _ _ ⟨k + 1, by push_cast; rfl, by omega, rfl⟩ (by omega)
theorem renamed_c {u v : Sl} {c : Int} {ts : List Tile} {l : List Int} (r : Rd h u 4 (tcs ts)) (hw : WSet c ts) (rv : Rd h v 1 (ic l)) (hl : (l.length : Int) = c) (hb : ∀ x ∈ l, 0 ≤ x ∧ x < c) :
    callA SP i_spec_l01Renamed [.agg (SetC c u), .sl v] h fun cs h' => ∃ w ts', cs = SetC c w ∧ Rd h' w 4 (tcs ts') ∧ WSet c ts' ∧ Fr h.length w ∧ Ext h h' := by
  have hul := r.tlen
  have hvl := rv.ilen
  have h16 := hw.len
  apply spec_l01Renamed_call
  unfold spec_l01Renamed_main
  refine newK_obj fun h1 o1 x1 n1 => ?_
  refine newO_obj fun h2 o2 x2 n2 => ?_
  refine newS_ow (by rfl) fun w h3 ow lw wo e3 => ?_
  have x3 : Ext h2 h3 := by rw [e3]; exact Ext.app _ _
  have X3 := x1.trans (x2.trans x3)
  refine spec_l01Renamed_rule0 _ _ _ _ _ (fun w i g => ∃ (k : Nat) (A : List Tile), i = k ∧ k ≤ ts.length ∧ A.length = k ∧ (∀ t ∈ A, ∀ j, j < 4 → 0 ≤ sd t j ∧ sd t j < c) ∧ Ow g w 4 (tcs A) ∧ Fr h2.length w ∧ Ext h2 g) (fun _ i _ => ((ts.length : Int) - i).toNat) ?_ _ _
    ⟨0, [], rfl, by omega, rfl, fun t ht => (by cases ht), by simpa [tcs] using ow, fun o e => (by rw [wo] at e; cases e; exact Nat.le_refl _), x3⟩
  rintro X w _ g ⟨k, A, rfl, hk, hA, hAb, ow, fw, x⟩ hX
  have Xg := x1.trans (x2.trans x)
  have p1 := o1.ext (x2.trans x)
  have hgl := x.len
  unfold spec_l01Renamed_b0
  refine isPt_in (p1.ldS rfl rfl ?_)
  refine bif_dec (fun hi => ?_) (fun hi => ?_)
  · have hkl : k < ts.length := by omega
    have hs : setOK c ts := by
      rcases hw with h | h
      · exact h
      · rw [h.2] at hkl; simp at hkl
    have hT := fun j hj => hs.ts.2 ts[k] (List.getElem_mem hkl) j hj
    refine isPt_in (p1.ldS rfl rfl ?_)
    refine (r.ext Xg).tileG (by omega) (by omega) ?_
    rw [tat_nat hkl]
    refine newO_obj fun g1 q1 y1 m1 => ?_
    refine q1.stA fun g2 q2 b2 m2 => ?_
    have y2 : Ext g g2 := y1.but_ b2 (some_le (Nat.le_refl _))
    have rvg := rv.ext (Xg.trans y2)
    have ld : ∀ (j : Nat) (hj : j < 4) {K : Int → Prop}, (∀ x, x ∈ l → K x) → ixS v 1 (sd ts[k] j) fun p => Cl.ldI .i64 p g2 K := fun j hj K hK => by
      have := hT j hj
      exact rvg.ldI this.1 (by omega) fun x hx => hK x (List.mem_of_getElem? hx)
    refine ix4 q2 0 (by omega) fun p7 _ => ?_
    refine ld 0 (by omega) fun a ha => ?_
    refine ix4 q2 1 (by omega) fun p11 _ => ?_
    refine ld 1 (by omega) fun b hb' => ?_
    refine ix4 q2 2 (by omega) fun p15 _ => ?_
    refine ld 2 (by omega) fun d hd => ?_
    refine ix4 q2 3 (by omega) fun p19 _ => ?_
    refine ld 3 (by omega) fun e he => ⟨rfl, ?_⟩
    have hwl := ow.rd.tlen
    refine push_tc (t := (a, b, d, e)) (ow.ext y2) (by unfold lim; omega) fun w' g3 ow3 b3 hw3 l3 => ?_
    rw [w64_of (by omega) (by omega)]
    have hy2 := y2.len
    refine hX _ _ _ ⟨k + 1, A ++ [(a, b, d, e)], by push_cast; rfl, by omega, by simp [hA], fun t ht j hj => ?_, ow3, fw.push (h := g2) (by omega) hw3, (x.trans y2).but_ b3 fun o e => fw o e⟩ (by omega)
    rcases List.mem_append.1 ht with ht | ht
    · exact hAb t ht j hj
    · rw [List.mem_singleton] at ht
      subst ht
      have hj' : j = 0 ∨ j = 1 ∨ j = 2 ∨ j = 3 := by omega
      rcases hj' with rfl | rfl | rfl | rfl
      · exact hb a ha
      · exact hb b hb'
      · exact hb d hd
      · exact hb e he
  · have hkU : k = ts.length := by omega
    unfold spec_l01Renamed_C0
    refine isPt_in (p1.ldI rfl rfl ?_)
    have hdl := dsT_len A
    refine (l01Made_c (l := A) ow.rd (by omega) c).to ?_
    rintro _ g1 ⟨z, rfl, oz, fz, y1⟩
    have hwset : WSet c (dsT A) := by
      rcases hw with hs | hs
      · exact .inl (setOK_of hs.1.1 hs.1.2 (by omega) (pw_dsort ltT_sto _) fun t ht => hAb t (mem_dsort.1 ht))
      · have : A = [] := List.length_eq_zero_iff.1 (by rw [hA, hkU, hs.2]; rfl)
        subst this
        exact .inr ⟨hs.1, rfl⟩
    have hx1 := x1.len
    have hXg := Xg.len
    refine ((o2.ext x).ext y1).stA fun g2 q2 b2 m2 => ?_
    refine q2.ldA rfl ⟨_, rfl, z, dsT A, rfl, (oz.rd).but b2 (.inl fun e => by have := fz _ e.symm; omega), hwset, fz.le (by omega), (Xg.trans y1).but_ b2 (some_le (by omega))⟩
end
end Go.Proofs.YtcoampecbpiecaaGreat.Cl

/- Draws: orders, sets drawn, sets spoilt. No claim is stated here. -/
set_option linter.unusedVariables false
set_option linter.unusedSimpArgs false
namespace Go.Proofs.YtcoampecbpiecaaGreat.Cl
open Go
section
variable {h : H} {o : Nat}
theorem Ow.okS {s : Sl} {z : Nat} {cs : List AVal} (r : Ow h s z cs) : Cl.okS h s := by
  unfold Cl.okS
  obtain ⟨a, _⟩ | ⟨i, a, _, _, d, e⟩ := r.at_
  · rw [a]; trivial
  · rw [a]; unfold cells; simp [e, d, r.len]
theorem Ow.cutZ {s : Sl} {z : Nat} {cs : List AVal} (r : Ow h s z cs) {p : Nat} (hp : s.o = some p) {lo hi : Int} (h0 : 0 ≤ lo) (h1 : lo ≤ hi) (h2 : hi ≤ s.len) {K : Sl → Prop}
    (hk : ∀ s', s'.o = some p → s'.len = (hi - lo).toNat → (∀ g, Ow g s z cs → Rd g s' z ((cs.drop (lo.toNat * z)).take ((hi - lo).toNat * z))) → K s') : cut s z lo hi h K := by
  have hok := r.okS
  obtain ⟨a, _⟩ | ⟨i, a, b, c, d, e⟩ := r.at_
  · rw [hp] at a; cases a
  have hm : hi.toNat * z ≤ s.len * z := Nat.mul_le_mul_right _ (by omega)
  refine ⟨⟨h0, h1⟩, hok, (fun hn => by rw [hp] at hn; cases hn), fun _ => ⟨b, by rw [c, d]; omega⟩, hk _ hp rfl fun g rg => ?_⟩
  have hlm : (hi - lo).toNat * z + lo.toNat * z = hi.toNat * z := by rw [← Nat.add_mul]; congr 1; omega
  have hlen := rg.len
  refine ⟨?_, ?_⟩
  · show _ = (hi - lo).toNat * z
    simp only [List.length_take, List.length_drop]
    omega
  · refine .inr ⟨rfl, by show s.o.isSome = true; rw [hp]; rfl, ?_⟩
    obtain ⟨a', _⟩ | ⟨j, a', b', c', d', e'⟩ := rg.at_
    · rw [hp] at a'; cases a'
    have hc : cells g j s.n = some cs := by unfold cells; rw [e']; simp only; rw [if_pos (by rw [rg.len, d'])]
    show range g s.o s.n (s.off + lo.toNat * z) ((hi - lo).toNat * z) = _
    rw [a', range_of hc (by rw [hlen, c']; omega), c', Nat.zero_add]
theorem ownD_c {x : Sl} {l : List Int} (r : Rd h x 1 (ic l)) (hl : l.length ≤ 1048576) : callS SP i_spec_l01Own [.sl x] h fun s h' => Ow h' s 1 (ic l) ∧ Fr h.length s ∧ Ext h h' := by
  have hx := r.ilen
  apply spec_l01Own_call
  unfold spec_l01Own_main
  refine newS_ow (by rfl) fun s h1 os ls so he => ?_
  have e1 : Ext h h1 := he ▸ Ext.app _ _
  refine app_ow (by omega) os (r.ext e1) (by rw [ls, hx]; unfold lim; omega) fun s' h' o' l' b' k1 _ => ?_
  have := k1 _ so
  exact ⟨s', rfl, by simpa using o', fun i e => by rw [this] at e; cases e; exact Nat.le_refl _, e1.but_ b' (by rw [so]; exact some_le (Nat.le_refl _))⟩
theorem Ow.someO {s : Sl} {z : Nat} {cs : List AVal} (r : Ow h s z cs) (hl : 0 < s.len) : ∃ p, s.o = Option.some p := by
  obtain ⟨_, b⟩ | ⟨i, a, _⟩ := r.at_
  · omega
  · exact ⟨i, a⟩
theorem drawOrder_c (r : Src h o) (n : Int) (h0 : 0 ≤ n) (h6 : n ≤ 1000) : callS SP i_spec_l01DrawOrder [.ptr ⟨some o, 3, 0⟩, i64 n] h fun u h' => ∃ l, Ow h' u 1 (ic l) ∧ (l.length : Int) = n ∧ (∀ x ∈ l, 0 ≤ x ∧ x < n) ∧ Fr h.length u ∧ Src h' o ∧ Chg (fun i => i = o) h h' := by
  have hlt := r.lt
  apply spec_l01DrawOrder_call
  unfold spec_l01DrawOrder_main
  refine newS_ow (by rfl) fun u h1 ou lu uo e1 => ?_
  have x1 : Ext h h1 := by rw [e1]; exact Ext.app _ _
  refine spec_l01DrawOrder_rule0 _ _ _ _ (fun u i g => ∃ (k : Nat) (l : List Int), i = k ∧ (k : Int) ≤ n ∧ Ow g u 1 (ic l) ∧ u.o.isSome = true ∧ l.length = k ∧ (∀ x ∈ l, 0 ≤ x ∧ x < n) ∧ Fr h.length u ∧ Src g o ∧ Chg (fun i => i = o ∨ h.length ≤ i) h g) (fun _ i _ => (n - i).toNat) ?_ _ _
    ⟨0, [], rfl, h0, ou, by rw [uo]; rfl, rfl, fun x hx => (by cases hx), fun i e => (by rw [uo] at e; cases e; exact Nat.le_refl _), r.ext x1, x1.chg _⟩
  rintro X u _ g ⟨k, l, rfl, hk, ou, su, hl, hb, fu, rg, ch⟩ hX
  have hgl := ch.1
  unfold spec_l01DrawOrder_b0
  refine bif_dec (fun hi => ?_) (fun hi => ⟨u, rfl, l, ou, by omega, hb, fu, rg, ch.to fun i hi e => by omega⟩)
  obtain ⟨p, hp⟩ := Option.isSome_iff_exists.1 su
  have hpf := fu p hp
  have hpl := ou.lt hp
  rw [w64_of (n := (k : Int) + 1) (by omega) (by omega)]
  refine (next_c rg _).to ?_
  rintro x g1 ⟨hx, r1, b1, l1⟩
  have hx2 := hx.2.1 (by omega)
  have hx1 := hx.1
  have ou1 := ou.but b1 (.inl fun e => by rw [hp] at e; have := Option.some.inj e; omega)
  refine slotK_in fun g2 y2 m2 => ?_
  have ou2 := ou1.ext y2
  have hul := ou2.rd.ilen
  refine ou2.cutZ hp (Int.le_refl 0) hx.1 (by omega) fun s3 s3o s3l v3 => ?_
  have rv3 := v3 g2 ou2
  have e3 : (((ic l).drop ((0 : Int).toNat * 1)).take ((x - 0).toNat * 1)) = ic (l.take x.toNat) := by
    unfold ic
    rw [show (0 : Int).toNat * 1 = 0 by rfl, List.drop_zero, ← List.map_take, Nat.mul_one, show (x - 0).toNat = x.toNat by omega]
  rw [e3] at rv3
  refine (ownD_c rv3 (by rw [List.length_take]; omega)).to ?_
  rintro s5 g4 ⟨o5, f5, y4⟩
  have ou4 := ou2.ext y4
  refine ou4.cutZ hp hx.1 (by omega) (Int.le_refl _) fun s6 s6o s6l v6 => ?_
  refine ⟨ou2.okS, ?_⟩
  have hy4 := y4.len
  refine newSat_ow (by omega) (by rfl) fun s7 g8 o7 l7 s7o b8 m8 => ?_
  have ou8 := ou4.but b8 (.inl fun e => by rw [hp] at e; have := Option.some.inj e; omega)
  refine ⟨ou4.okS, ou8.okS, ou8.okS, ?_⟩
  have o58 := o5.but b8 (by
    cases hq : s5.o with
    | none => exact .inl (by simp)
    | some q => exact .inl fun e => by have := f5 q hq; have := Option.some.inj e; omega)
  have h5l := o58.rd.ilen
  rw [List.length_take] at h5l
  refine app_ow (by omega) o58 o7.rd (by rw [h5l, l7]; unfold lim; omega) fun s9 g10 o9 l9 b10 k9 k9' => ?_
  have hs9 : ∀ q, s9.o = some q → g2.length ≤ q := fun q e => by
    cases hq : s5.o with
    | none => have := k9' hq q e; omega
    | some q' => rw [k9 q' hq] at e; have := f5 q' hq; have := Option.some.inj e; omega
  have hs5 : ∀ i, s5.o = some i → g2.length ≤ i := f5
  have ou10 := ou8.but b10 (by
    cases hq : s5.o with
    | none => exact .inr rfl
    | some q => exact .inl fun e => by have := f5 q hq; rw [hp] at e; have := Option.some.inj e; omega)
  refine ⟨ou10.okS, ?_⟩
  have rv6 := v6 g10 ou10
  have e6 : (((ic l).drop (x.toNat * 1)).take (((u.len : Int) - x).toNat * 1)) = ic (l.drop x.toNat) := by
    unfold ic
    rw [Nat.mul_one, Nat.mul_one, ← List.map_drop, ← List.map_take, List.take_of_length_le (by rw [List.length_drop]; omega)]
  rw [e6] at rv6
  have h10 : s9.len = min x.toNat l.length + 1 := by rw [l9, h5l, l7]
  refine app_ow (by omega) o9 rv6 (by rw [h10, s6l]; unfold lim; omega) fun s11 g12 o11 l11 b12 k11 k11' => ?_
  have hs11 : ∀ q, s11.o = some q → g2.length ≤ q := fun q e => by
    cases hq : s9.o with
    | none => have := k11' hq q e; have := b10.1; omega
    | some q' => rw [k11 q' hq] at e; have := hs9 q' hq; have := Option.some.inj e; omega
  have hl11 : ic (l.take x.toNat) ++ [i64 (k : Int)] ++ ic (l.drop x.toNat) = ic (l.take x.toNat ++ [(k : Int)] ++ l.drop x.toNat) := by rw [ic_app, ic_app]; rfl
  have o11' : Ow g12 s11 1 (ic (l.take x.toNat ++ [(k : Int)] ++ l.drop x.toNat)) := by rw [← hl11]; exact o11
  obtain ⟨q11, hq11⟩ := o11.someO (by rw [l11, h10]; omega)
  have c2 : Chg (fun i => i = o ∨ h.length ≤ i) g g12 := ((((b1.chg fun i e => .inl (Option.some.inj e).symm).trans (y2.chg _)).trans (y4.chg _)).trans (b8.chg fun i e => .inr (by have := Option.some.inj e; omega))).trans ((b10.chg fun i e => .inr (by have := hs5 i e; omega)).trans (b12.chg fun i e => .inr (by have := hs9 i e; omega)))
  have r12 : Src g12 o := (((r1.ext y2).ext y4).but b8 (fun i e => by have := Option.some.inj e; omega)).but b10 (fun i e => by have := hs5 i e; omega) |>.but b12 (fun i e => by have := hs9 i e; omega)
  refine hX _ _ _ ⟨k + 1, _, by push_cast; rfl, by omega, o11', by rw [hq11]; rfl, ?_, fun y hy => ?_, fun i e => by have := hs11 i e; omega, r12, ch.trans c2⟩ (by omega)
  · simp only [List.length_append, List.length_take, List.length_drop, List.length_singleton]
    omega
  · rw [List.mem_append, List.mem_append, List.mem_singleton] at hy
    rcases hy with (hy | hy) | hy
    · exact hb y (List.mem_of_mem_take hy)
    · subst hy; omega
    · exact hb y (List.mem_of_mem_drop hy)
/-- A drawn set. -/
def DrS (h : H) (o : Nat) (cs : List AVal) (h' : H) : Prop := ∃ u c ts, cs = SetC c u ∧ Rd h' u 4 (tcs ts) ∧ WSet c ts ∧ Fr h.length u ∧ Src h' o ∧ Chg (fun i => i = o) h h'
theorem drawOf_c (r : Src h o) (c n : Int) (hc : 1 ≤ c ∧ c ≤ 6) (hn : n ≤ 16) : callA SP i_spec_l01DrawOf [.ptr ⟨some o, 3, 0⟩, i64 c, i64 n] h fun cs h' => ∃ u ts, cs = SetC c u ∧ Rd h' u 4 (tcs ts) ∧ setOK c ts ∧ (ts.length : Int) ≤ max n 0 ∧ Fr h.length u ∧ Src h' o ∧ Chg (fun i => i = o) h h' := by
  have hlt := r.lt
  apply spec_l01DrawOf_call
  unfold spec_l01DrawOf_main
  refine newO_obj fun h1 o1 x1 n1 => ?_
  refine newS_ow (by rfl) fun u h2 ou lu uo e2 => ?_
  have x2 : Ext h1 h2 := by rw [e2]; exact Ext.app _ _
  have X2 := x1.trans x2
  refine spec_l01DrawOf_rule0 _ _ _ _ _ (fun u i g => ∃ A : List Tile, i ≤ n ∧ (A.length : Int) + (max i 0) = max n 0 ∧ Ow g u 4 (tcs A) ∧ (∀ t ∈ A, DT c t) ∧ Fr h1.length u ∧ Src g o ∧ Chg (fun i => i = o ∨ h1.length ≤ i) h2 g) (fun _ i _ => i.toNat) ?_ _ _
    ⟨[], Int.le_refl _, by simp, by simpa [tcs] using ou, fun t ht => (by cases ht), fun i e => (by rw [uo] at e; cases e; exact Nat.le_refl _), r.ext X2, Chg.refl _ _⟩
  rintro X u i g ⟨A, hi, hA, ou, hD, fu, rg, ch⟩ hX
  have hch := ch.1
  have hx2 := x2.len
  unfold spec_l01DrawOf_b0
  refine bif_dec (fun h0 => ?_) (fun h0 => ?_)
  · refine (drawTile_c rg c).to ?_
    rintro _ g1 ⟨t, rfl, ht, r1, c1⟩
    refine ⟨rfl, ?_⟩
    have hg1 := c1.1
    have hul := ou.rd.tlen
    refine push_tc (t := t) (ou.chg c1 fun i e e2 => by have := fu i e; omega) (by unfold lim; omega) fun u' g2 ou2 b2 hu2 l2 => ?_
    rw [w64_of (by omega) (by omega)]
    refine hX _ _ _ ⟨A ++ [t], by omega, by rw [List.length_append, List.length_singleton]; omega, ou2, fun y hy => ?_, fu.push (h := g1) (by omega) hu2, r1.but b2 fun i e => by have := fu i e; omega, (ch.trans (c1.to fun i _ e => .inl e)).trans (b2.chg fun i e => .inr (fu i e))⟩ (by omega)
    rcases List.mem_append.1 hy with hy | hy
    · exact hD y hy
    · rw [List.mem_singleton] at hy; subst hy; exact ht
  · unfold spec_l01DrawOf_C0
    have hdl := dsT_len A
    have hAl : A.length ≤ 16 := by omega
    refine (l01Made_c (l := A) ou.rd (by omega) c).to ?_
    rintro _ g1 ⟨z, rfl, oz, fz, y1⟩
    have hs : setOK c (dsT A) := setOK_of hc.1 hc.2 (by omega) (pw_dsort ltT_sto _) fun t ht j hj => by
      have := hD t (mem_dsort.1 ht) j hj
      exact ⟨this.1, this.2.1 hc.1⟩
    have og := (o1.ext x2).chg ch (by omega)
    have r1 := rg.ext y1
    refine (og.ext y1).stA fun g2 q2 b2 m2 => ?_
    refine q2.ldA rfl ⟨_, rfl, z, dsT A, rfl, (oz.rd).but b2 (.inl fun e => by have := fz _ e.symm; omega), hs, by omega, fz.le (by omega), r1.but b2 fun i e => by have := Option.some.inj e; omega, ?_⟩
    exact ((((X2.chg (fun i => i = o ∨ h.length ≤ i)).trans (ch.to fun i _ e => by omega)).trans (y1.chg _)).trans (b2.chg fun i e => .inr (by have := Option.some.inj e; omega))).to fun i hi e => by omega
end
end Go.Proofs.YtcoampecbpiecaaGreat.Cl

/- Steps of the laws. No claim is stated here. -/
set_option linter.unusedVariables false
set_option linter.unusedSimpArgs false
namespace Go.Proofs.YtcoampecbpiecaaGreat.Cl
open Go
theorem Obj.rangeE {h o cs} (x : Obj h o cs) {n : Nat} (hn : cs.length = n) : Cl.range h (some o) n 0 n = some cs := by
  have x' : h[o]? = some (.own cs) := x
  subst hn
  rw [range_of (xs := cs) (by unfold cells; simp [x']) (by simp)]
  simp
theorem Obj.stays {h h' o cs} (x : Obj h o cs) {n : Nat} (hn : cs.length = n) (e : Ext h h') : Cl.range h' (some o) n 0 n = Cl.range h (some o) n 0 n := by rw [e.range (x.rangeE hn), x.rangeE hn]
end Go.Proofs.YtcoampecbpiecaaGreat.Cl

/- Draws: small sets, sets, sets spoilt. No claim is stated here. -/
set_option linter.unusedVariables false
set_option linter.unusedSimpArgs false
namespace Go.Proofs.YtcoampecbpiecaaGreat.Cl
open Go
section
variable {h : H} {o : Nat}
theorem ret_set {g : H} {p n : Nat} {l : List AVal} {u : Sl} {c : Int} {ts : List Tile} (P : Obj g p l) (hl : l.length = 2) (hp : h.length ≤ p) (hop : o < h.length) (r : Rd g u 4 (tcs ts)) (f : Fr n u) (hn : u.o ≠ some p) (s : Src g o) (ch : Chg (fun i => i = o ∨ h.length ≤ i) h g)
    {Q : List AVal → H → Prop} (hk : ∀ h', Rd h' u 4 (tcs ts) → Src h' o → Chg (fun i => i = o) h h' → Q (SetC c u) h') : stN ⟨some p, 2, 0⟩ 2 (SetC c u) g fun h6 => ldA ⟨some p, 2, 0⟩ 2 h6 fun cs => Q cs h6 := by
  refine P.stA (fun h6 o6 b6 n6 => ?_) hl
  refine o6.ldA rfl (hk h6 (r.but b6 (.inl fun e => hn e.symm)) (s.but b6 fun i e => by have := Option.some.inj e; omega) ?_)
  exact (ch.trans (b6.chg fun i e => .inr (by have := Option.some.inj e; omega))).to fun i hi e => by omega
theorem some_ne {i o : Nat} (h : i ≠ o) : some i ≠ some o := fun e => h (Option.some.inj e)
theorem Src.self {h' : H} {n : Nat} (r : Src h o) (b : But (some o) h h') : Chg (fun i => i = o ∨ n ≤ i) h h' := b.chg fun i e => .inl (Option.some.inj e).symm
theorem small_c (r : Src h o) : callA SP i_spec_l01Small [.ptr ⟨some o, 3, 0⟩] h fun cs h' => DrS h o cs h' := by
  have hlt := r.lt
  apply spec_l01Small_call
  unfold spec_l01Small_main
  refine newO_obj fun h1 o1 x1 n1 => ?_
  have r1 := r.ext x1
  refine (next_c r1 3).to ?_
  rintro a h2 ⟨ha, r2, b2, l2⟩
  have c2 : Chg (fun i => i = o ∨ h.length ≤ i) h h2 := (x1.chg _).trans (r1.self b2)
  have o2 := o1.but b2 (some_ne (by omega))
  refine bif_eq (fun _ => ?_) (fun _ => ?_)
  · refine names_c.to ?_
    rintro u h3 ⟨L, rL, hL, fu, x3⟩
    have hul := rL.len
    have r3 := r2.ext x3
    have hx3 := x3.len
    refine (next_c r3 _).to ?_
    rintro b h4 ⟨hb, r4, b4, l4⟩
    have hb2 := hb.2.1 (by omega)
    have rL4 : RdT h4 u L := ⟨rL.1.but b4 (by
      cases hq : u.o with
      | none => exact .inl (by simp)
      | some q => exact .inl fun e => by have := fu q hq; have := Option.some.inj e; omega), rL.2⟩
    refine rL4.ld hb.1 (by omega) fun t ht => ?_
    refine (named_c t).to ?_
    rintro _ h5 ⟨w, c, ts, f, rfl, rw', hw, fw, x5⟩
    refine ⟨_, rfl, _, rfl, _, rfl, _, rfl, ?_⟩
    refine newO_obj fun h6 o6 x6 n6 => ?_
    refine o6.stA fun h7 o7 b7 n7 => ?_
    have x57 : Ext h5 h7 := x6.but_ b7 (some_le (Nat.le_refl _))
    have hx5 := x5.len
    have hx57 := x57.len
    refine o7.ldA rfl ?_
    refine isPt_in (o7.ldI rfl rfl ?_)
    have hcol := hw.col
    have r7 := (r4.ext x5).ext x57
    refine (drawOrder_c r7 c hcol.1 (by omega)).to ?_
    rintro v h8 ⟨l, ov, hl, hlb, fv, r8, c8⟩
    have o8 := o7.chg c8 (by omega)
    refine ⟨(o8.rangeE rfl).trans (o7.rangeE rfl).symm, ?_⟩
    have hx8 := c8.1
    have rw8 := (rw'.ext x57).chg c8 fun i e => by have := fw i e; omega
    refine (renamed_c rw8 hw ov.rd hl hlb).to ?_
    rintro _ h9 ⟨z, ts', rfl, rz, hz, fz, x9⟩
    have C := ((((((c2.trans (x3.chg _)).trans (r3.self b4)).trans (x5.chg _)).trans (x57.chg _)).trans (c8.to fun i _ e => .inl e))).trans (x9.chg _)
    have o9 := ((((o2.ext x3).but b4 (some_ne (by omega))).ext (x5.trans x57)).chg c8 (by omega)).ext x9
    exact ret_set o9 rfl (Nat.le_refl _) hlt rz (fz.le (n := h8.length) (m := h.length) (by omega)) (fun e => by have := fz _ e; omega) (r8.ext x9) C fun h' a b c' => ⟨_, rfl, z, c, ts', rfl, a, hz, fz.le (by omega), b, c'⟩
  · refine pickN_c r2 (l := [1, 2, 2, 2, 3]) rfl rfl (by simp) fun a h3 ha r3 c3 => ?_
    refine pickN_c r3 (l := [3, 6, 9]) rfl rfl (by simp) fun b h4 hb r4 c4 => ?_
    refine (next_c r4 b).to ?_
    rintro n h5 ⟨hn, r5, b5, l5⟩
    have hn' := hn.le
    have ha' : 1 ≤ a ∧ a ≤ 3 := by simp at ha; omega
    have hb' : 3 ≤ b ∧ b ≤ 9 := by simp at hb; omega
    refine (drawOf_c r5 a n (by omega) (by omega)).to ?_
    rintro _ h6 ⟨u, ts, rfl, ru, hs, _, fu, r6, c6⟩
    have hx3 := c3.1
    have hx4 := c4.1
    have C := (((c2.trans (c3.to fun i _ e => .inl e)).trans (c4.to fun i _ e => .inl e)).trans (r4.self b5)).trans (c6.to fun i _ e => .inl e)
    have o6 := (((o2.chg c3 (by omega)).chg c4 (by omega)).but b5 (some_ne (by omega))).chg c6 (by omega)
    exact ret_set o6 rfl (Nat.le_refl _) hlt ru fu (fun e => by have := fu _ e; omega) r6 C fun h' a' b' c' => ⟨_, rfl, u, a, ts, rfl, a', .inl hs, fu.le (by omega), b', c'⟩
theorem setOK.dsT_app {c : Int} {ts : List Tile} (hs : setOK c ts) {t : Tile} (hl : ts.length ≤ 15) (ht : ∀ k, k < 4 → 0 ≤ sd t k ∧ sd t k < c) : setOK c (dsT (ts ++ [t])) := by
  have := dsT_len (ts ++ [t])
  rw [List.length_append, List.length_singleton] at this
  refine setOK_of hs.1.1 hs.1.2 (by omega) (pw_dsort ltT_sto _) fun x hx j hj => ?_
  rcases List.mem_append.1 (mem_dsort.1 hx) with h1 | h1
  · exact hs.ts.2 x h1 j hj
  · rw [List.mem_singleton] at h1; subst h1; exact ht j hj
theorem draw_c (r : Src h o) : callA SP i_spec_l01Draw [.ptr ⟨some o, 3, 0⟩] h fun cs h' => DrS h o cs h' := by
  have hlt := r.lt
  apply spec_l01Draw_call
  unfold spec_l01Draw_main
  refine newO_obj fun h1 o1 x1 n1 => ?_
  have r1 := r.ext x1
  refine (next_c r1 4).to ?_
  rintro a h2 ⟨ha, r2, b2, l2⟩
  have c2 : Chg (fun i => i = o ∨ h.length ≤ i) h h2 := (x1.chg _).trans (r1.self b2)
  have o2 := o1.but b2 (some_ne (by omega))
  have fin : ∀ {g : H} {cs : List AVal}, DrS h2 o cs g → ∃ u c, cs = SetC c u ∧ stN ⟨some h.length, 2, 0⟩ 2 (SetC c u) g fun h6 => ldA ⟨some h.length, 2, 0⟩ 2 h6 fun cs => ∃ cs', AVal.agg cs = AVal.agg cs' ∧ DrS h o cs' h6 := by
    rintro g cs ⟨u, c, ts, rfl, ru, hw, fu, rg, cg⟩
    refine ⟨u, c, rfl, ?_⟩
    exact ret_set (o2.chg cg (by omega)) rfl (Nat.le_refl _) hlt ru fu (fun e => by have := fu _ e; omega) rg (c2.trans (cg.to fun i _ e => .inl e)) fun h' a' b' c' => ⟨_, rfl, u, c, ts, rfl, a', hw, fu.le (by omega), b', c'⟩
  have sml : callA SP i_spec_l01Small [.ptr ⟨some o, 3, 0⟩] h2 fun cs5 h4 => stN ⟨some h.length, 2, 0⟩ 2 cs5 h4 fun h6 => ldA ⟨some h.length, 2, 0⟩ 2 h6 fun cs => ∃ cs', AVal.agg cs = AVal.agg cs' ∧ DrS h o cs' h6 := by
    refine (small_c r2).to ?_
    rintro cs g d
    obtain ⟨u, c, rfl, hk⟩ := fin d
    exact hk
  refine bif_eq (fun ea => ?_) (fun na => ?_)
  · refine bif_eq (fun _ => sml) (fun ne => absurd ea ne)
  refine bif_eq (fun ea => sml) (fun na1 => ?_)
  refine bif_eq (fun ea => ?_) (fun na2 => ?_)
  · refine pickN_c r2 (l := [2, 3, 4]) rfl rfl (by simp) fun c h3 hc r3 c3 => ?_
    refine (next_c r3 10).to ?_
    rintro n h4 ⟨hn, r4, b4, l4⟩
    have hn' := hn.2.1 (by omega)
    have hn0 := hn.1
    have hc' : 2 ≤ c ∧ c ≤ 4 := by simp at hc; omega
    refine (drawOf_c r4 c n (by omega) (by omega)).to ?_
    rintro _ h5 ⟨u, ts, rfl, ru, hs, hsl, fu, r5, c5⟩
    have hul := ru.tlen
    refine newO_obj fun h6 o6 x6 n6 => ?_
    refine o6.stA fun h7 o7 b7 n7 => ?_
    have x57 : Ext h5 h7 := x6.but_ b7 (some_le (Nat.le_refl _))
    have r7 := r5.ext x57
    have hx3 := c3.1
    have hx5 := c5.1
    refine isPt_in (o7.ldI rfl rfl ?_)
    refine (next_c r7 c).to ?_
    rintro x h8 ⟨hx, r8, b8, l8⟩
    have o8 := o7.but b8 (some_ne (by omega))
    refine isPt_in (o8.ldI rfl rfl ?_)
    refine ⟨(o7.cellE rfl).trans (o8.cellE rfl).symm, ?_⟩
    refine (next_c r8 c).to ?_
    rintro y h9 ⟨hy, r9, b9, l9⟩
    have o9 := o8.but b9 (some_ne (by omega))
    refine slotK_in fun g1 y1 m1 => ?_
    have p1 := o9.ext y1
    refine isPt_in (p1.ldI rfl rfl (isPt_in (p1.ldS rfl rfl ?_)))
    refine newSat_ow (by omega) (by rfl) fun s2 g2 q2 ll2 so2 bb2 m2 => ?_
    have p2 := p1.but bb2 (some_ne (by omega))
    refine ⟨(p2.cellE rfl).trans (p1.cellE rfl).symm, (p2.cellE rfl).trans (p1.cellE rfl).symm, ?_⟩
    have ru9 := ((ru.ext x57).but b8 (.inl fun e => by have := fu _ e.symm; omega)).but b9 (.inl fun e => by have := fu _ e.symm; omega)
    have ru2 := ru9.ext (y1.but_ bb2 (some_le (by omega)))
    refine app_ow (by omega) q2 ru2 (by rw [ll2, hul]; unfold lim; omega) fun s3 g3 q3 ll3 bb3 k3 k3' => ?_
    have so3 := k3 _ so2
    rw [so2] at bb3
    have p3 := p2.but bb3 (some_ne (by omega))
    refine ⟨(p3.cellE rfl).trans (p1.cellE rfl).symm, rfl, ?_⟩
    have hb3 := bb3.1
    refine newSat_ow (by omega) (by rfl) fun s4 g4 q4 ll4 so4 bb4 m4 => ?_
    have p4 := p3.but bb4 (some_ne (by omega))
    refine ⟨(p3.cellE rfl).trans (p1.cellE rfl).symm, (p4.cellE rfl).trans (p1.cellE rfl).symm, (p4.cellE rfl).trans (p1.cellE rfl).symm, ?_⟩
    have q34 := q3.but bb4 (.inl fun e => by rw [so3] at e; have := Option.some.inj e; omega)
    refine app_ow (by omega) q34 q4.rd (by rw [ll3, ll2, hul, ll4]; unfold lim; omega) fun s5 g5 q5 ll5 bb5 k5 k5' => ?_
    have so5 := k5 _ so3
    rw [so3] at bb5
    have p5 := p4.but bb5 (some_ne (by omega))
    refine ⟨(p5.cellE rfl).trans (p1.cellE rfl).symm, ?_⟩
    have e5 : ([] : List AVal) ++ tcs ts ++ spl [.int .i64 0, .int .i64 0, .int .i64 0, .int .i64 0] 0 4 [.int .i64 x, .int .i64 y, .int .i64 x, .int .i64 y] = tcs (ts ++ [(x, y, x, y)]) := by rw [tcs_app, tcs_one]; rfl
    have q5' : Ow g5 s5 4 (tcs (ts ++ [(x, y, x, y)])) := by rw [← e5]; exact q5
    have hts : ts.length ≤ 15 := by omega
    refine (l01Made_c (l := ts ++ [(x, y, x, y)]) q5'.rd (by rw [List.length_append, List.length_singleton]; omega) c).to ?_
    rintro _ g6 ⟨z, rfl, oz, fz, y6⟩
    have hxc := hx.2.1 (by omega)
    have hyc := hy.2.1 (by omega)
    have hx0 := hx.1
    have hy0 := hy.1
    have hset : setOK c (dsT (ts ++ [(x, y, x, y)])) := hs.dsT_app hts fun k hk => by
      have hk' : k = 0 ∨ k = 1 ∨ k = 2 ∨ k = 3 := by omega
      rcases hk' with rfl | rfl | rfl | rfl
      · exact ⟨hx0, hxc⟩
      · exact ⟨hy0, hyc⟩
      · exact ⟨hx0, hxc⟩
      · exact ⟨hy0, hyc⟩
    have hb5 := bb5.1
    have C : Chg (fun i => i = o ∨ h.length ≤ i) h g6 := ((((((((((c2.trans (c3.to fun i _ e => .inl e)).trans (r3.self b4)).trans (c5.to fun i _ e => .inl e)).trans (x57.chg _)).trans (r7.self b8)).trans (r8.self b9)).trans (y1.chg _)).trans (bb2.chg fun i e => .inr (by have := Option.some.inj e; omega))).trans (bb3.chg fun i e => .inr (by have := Option.some.inj e; omega))).trans ((bb4.chg fun i e => .inr (by have := Option.some.inj e; omega)).trans (bb5.chg fun i e => .inr (by have := Option.some.inj e; omega)))).trans (y6.chg _)
    have rs : Src g6 o := (((((r9.ext y1).but bb2 fun i e => by have := Option.some.inj e; omega).but bb3 fun i e => by have := Option.some.inj e; omega).but bb4 fun i e => by have := Option.some.inj e; omega).but bb5 fun i e => by have := Option.some.inj e; omega).ext y6
    have oo := (((((((((((o2.chg c3 (by omega)).but b4 (some_ne (by omega))).chg c5 (by omega)).ext x57).but b8 (some_ne (by omega))).but b9 (some_ne (by omega))).ext y1).but bb2 (some_ne (by omega))).but bb3 (some_ne (by omega))).but bb4 (some_ne (by omega))).but bb5 (some_ne (by omega))).ext y6
    exact ret_set oo rfl (Nat.le_refl _) hlt oz.rd fz (fun e => by have := fz _ e; omega) rs C fun h' a' b' c' => ⟨_, rfl, z, c, _, rfl, a', .inl hset, fz.le (by omega), b', c'⟩
  · refine (next_c r2 6).to ?_
    rintro c h3 ⟨hc, r3, b3, l3⟩
    have hc' := hc.2.1 (by omega)
    have hc0 := hc.1
    refine (next_c r3 17).to ?_
    rintro n h4 ⟨hn, r4, b4, l4⟩
    have hn' := hn.2.1 (by omega)
    rw [w64_of (by omega) (by omega)]
    refine (drawOf_c r4 (1 + c) n (by omega) (by omega)).to ?_
    rintro _ h5 ⟨u, ts, rfl, ru, hs, hsl, fu, r5, c5⟩
    have C := ((c2.trans (r2.self b3)).trans (r3.self b4)).trans (c5.to fun i _ e => .inl e)
    have o5 := ((o2.but b3 (some_ne (by omega))).but b4 (some_ne (by omega))).chg c5 (by omega)
    exact ret_set o5 rfl (Nat.le_refl _) hlt ru fu (fun e => by have := fu _ e; omega) r5 C fun h' a' b' c' => ⟨_, rfl, u, 1 + c, ts, rfl, a', .inl hs, fu.le (by omega), b', c'⟩
end
end Go.Proofs.YtcoampecbpiecaaGreat.Cl

/- Draws: sets that seldom are none. No claim is stated here. -/
set_option linter.unusedVariables false
set_option linter.unusedSimpArgs false
namespace Go.Proofs.YtcoampecbpiecaaGreat.Cl
open Go
theorem Rd.keep {h h' : H} {s : Sl} {z : Nat} {cs : List AVal} {P : Nat → Prop} (r : Rd h s z cs) (c : Chg (fun i => P i ∨ h.length ≤ i) h h') (hn : ∀ i, s.o = some i → ¬ P i) : Rd h' s z cs := by
  refine ⟨r.len, r.at_.imp id fun ⟨x, y, e⟩ => ⟨x, y, c.range e fun i hi => ?_⟩⟩
  obtain ⟨j, xs, hj, hc, _, _⟩ := range_some e
  have := cells_lt hc
  rw [hi] at hj
  have := Option.some.inj hj
  rintro (h1 | h1)
  · exact hn i hi h1
  · omega
/-- A set, or seldom none. -/
def DrB (n : Nat) (h : H) (o : Nat) (cs : List AVal) (h' : H) : Prop := ∃ u c ts, cs = SetC c u ∧ Rd h' u 4 (tcs ts) ∧ ts.length ≤ 17 ∧ Fr n u ∧ Src h' o ∧ Chg (fun i => i = o) h h'
section
variable {h : H} {o n : Nat} {u : Sl} {c : Int} {ts : List Tile}
theorem DrB.ret {g : H} {p : Nat} {l : List AVal} {w : Sl} {d : Int} {us : List Tile} (P : Obj g p l) (hl : l.length = 2) (hp : h.length ≤ p) (hop : o < h.length) (r : Rd g w 4 (tcs us)) (f : Fr n w) (hn : w.o ≠ some p) (s : Src g o) (ch : Chg (fun i => i = o ∨ h.length ≤ i) h g)
    (hu : us.length ≤ 17) : stN ⟨some p, 2, 0⟩ 2 (SetC d w) g fun h6 => ldA ⟨some p, 2, 0⟩ 2 h6 fun cs => ∃ cs', AVal.agg cs = AVal.agg cs' ∧ DrB n h o cs' h6 :=
  ret_set P hl hp hop r f hn s ch fun h' a b c' => ⟨_, rfl, w, d, us, rfl, a, hu, f, b, c'⟩
theorem bad_c (r : Src h o) (ru : Rd h u 4 (tcs ts)) (hw : WSet c ts) (fu : Fr n u) (hn : n ≤ h.length) (ho : o < n) : callA SP i_spec_l01Bad [.ptr ⟨some o, 3, 0⟩, .agg (SetC c u)] h fun cs h' => DrB n h o cs h' := by
  have hlt := r.lt
  have h16 := hw.len
  have hul := ru.tlen
  apply spec_l01Bad_call
  unfold spec_l01Bad_main
  refine newK_obj fun h1 a1 x1 n1 => ?_
  refine newO_obj fun h2 o2 x2 n2 => ?_
  refine newS_ow (by rfl) fun s h3 os ls so e3 => ?_
  have x3 : Ext h2 h3 := by rw [e3]; exact Ext.app _ _
  have n3 : h3.length = h2.length + 1 := by rw [e3]; simp
  have X3 := x1.trans (x2.trans x3)
  have a3 := a1.ext (x2.trans x3)
  have o3 := o2.ext x3
  refine isPt_in (a3.ldS rfl rfl ?_)
  refine app_ow (by omega) os (ru.ext X3) (by rw [ls, hul]; unfold lim; omega) fun s4 h4 os4 l4 b4 k4 _ => ?_
  have so4 := k4 _ so
  rw [so] at b4
  rw [List.nil_append] at os4
  have hb4 := b4.1
  have r4 := (r.ext X3).but b4 fun i e => by have := Option.some.inj e; omega
  have a4 := a3.but b4 (some_ne (by omega))
  have o4 := o3.but b4 (some_ne (by omega))
  have C4 : Chg (fun i => i = o ∨ h.length ≤ i) h h4 := (X3.chg _).trans (b4.chg fun i e => .inr (by have := Option.some.inj e; omega))
  refine (next_c r4 50).to ?_
  rintro x h5 ⟨hx, r5, b5, l5⟩
  have os5 := os4.but b5 (.inl fun e => by rw [so4] at e; have := Option.some.inj e; omega)
  have a5 := a4.but b5 (some_ne (by omega))
  have o5 := o4.but b5 (some_ne (by omega))
  have C5 := C4.trans (r4.self b5)
  have f4 : Fr n s4 := fun i e => by rw [so4] at e; have := Option.some.inj e; omega
  have hs4 := os5.rd.tlen
  have hp : h.length ≤ h1.length := by omega
  have ne4 : s4.o ≠ some h1.length := by rw [so4]; exact some_ne (by omega)
  refine bif_eq (fun _ => ?_) (fun _ => ?_)
  · refine pickN_c r5 (l := [0, 7, -1]) rfl rfl (by simp) fun a g1 ha r6 c6 => ?_
    exact DrB.ret (o5.chg c6 (by omega)) rfl hp hlt (os5.chg c6 fun i e => by rw [so4] at e; have := Option.some.inj e; omega).rd f4 ne4 r6 (C5.trans (c6.to fun i _ e => .inl e)) (by omega)
  refine bif_eq (fun _ => ?_) (fun _ => ?_)
  · refine isPt_in (a5.ldI rfl rfl ?_)
    refine newS_ow (by rfl) fun q g1 oq lq qo e1 => ?_
    have y1 : Ext h5 g1 := by rw [e1]; exact Ext.app _ _
    have m1 : g1.length = h5.length + 1 := by rw [e1]; simp
    have a6 := a5.ext y1
    refine ⟨(a6.cellE rfl).trans (a5.cellE rfl).symm, ?_⟩
    refine (pick_c (r5.ext y1) (l := [0, -1]) oq.rd (by rw [qo]; exact some_ne (by omega)) (by simp)).to ?_
    rintro a g2 ⟨ha, r6, b6, l6⟩
    have a7 := a6.but b6 (some_ne (by omega))
    refine ⟨(a7.cellE rfl).trans (a5.cellE rfl).symm, rfl, ?_⟩
    have os7 := (os5.ext y1).but b6 (.inl fun e => by rw [so4] at e; have := Option.some.inj e; omega)
    refine push_tc (t := (c, 0, 0, a)) os7 (by unfold lim; omega) fun s7 g3 os8 b7 hs7 l7 => ?_
    rw [so4] at b7
    have a8 := a7.but b7 (some_ne (by omega))
    refine isPt_in (a8.ldI rfl rfl ?_)
    have fr7 : ∀ i, s7.o = some i → i = h2.length ∨ g2.length ≤ i := fun i e => (hs7 i e).imp (fun e => by rw [so4] at e; exact (Option.some.inj e).symm) id
    exact DrB.ret (((o5.ext y1).but b6 (some_ne (by omega))).but b7 (some_ne (by omega))) rfl hp hlt os8.rd (fun i e => by have := fr7 i e; omega) (fun e => by have := fr7 _ e; omega) (r6.but b7 fun i e => by have := Option.some.inj e; omega) (((C5.trans (y1.chg _)).trans ((r5.ext y1).self b6)).trans (b7.chg fun i e => .inr (by have := Option.some.inj e; omega))) (by rw [List.length_append, List.length_singleton]; omega)
  refine bif_eq (fun _ => ?_) (fun _ => ?_)
  · refine isPt_in (a5.ldI rfl rfl ?_)
    refine (drawTile_c r5 c).to ?_
    rintro _ g2 ⟨t, rfl, ht, r6, c6⟩
    have hc6 := c6.1
    refine ⟨rfl, ?_⟩
    have a7 := a5.chg c6 (by omega)
    have os7 := os5.chg c6 fun i e => by rw [so4] at e; have := Option.some.inj e; omega
    refine push_tc (t := t) os7 (by unfold lim; omega) fun s7 g3 os8 b7 hs7 l7 => ?_
    rw [so4] at b7
    have a8 := a7.but b7 (some_ne (by omega))
    refine isPt_in (a8.ldI rfl rfl ?_)
    have fr7 : ∀ i, s7.o = some i → i = h2.length ∨ g2.length ≤ i := fun i e => (hs7 i e).imp (fun e => by rw [so4] at e; exact (Option.some.inj e).symm) id
    exact DrB.ret ((o5.chg c6 (by omega)).but b7 (some_ne (by omega))) rfl hp hlt os8.rd (fun i e => by have := fr7 i e; omega) (fun e => by have := fr7 _ e; omega) (r6.but b7 fun i e => by have := Option.some.inj e; omega) ((C5.trans (c6.to fun i _ e => .inl e)).trans (b7.chg fun i e => .inr (by have := Option.some.inj e; omega))) (by rw [List.length_append, List.length_singleton]; omega)
  refine bif_eq (fun _ => ?_) (fun _ => ?_)
  · refine bif_dec (fun h2l => ?_) (fun _ => ?_)
    · refine os5.rd.tileG (by omega) (by omega) ?_
      refine newO_obj fun g1 q1 y1 m1 => ?_
      refine q1.stA fun g2 q2 bb2 m2 => ?_
      have y12 := y1.but_ bb2 (some_le (Nat.le_refl _))
      have os6 := os5.ext y12
      refine os6.rd.tileG (by omega) (by omega) ?_
      refine os6.stA (by omega) (by omega) _ (tc_len _) fun g3 os7 b7 n7 => ?_
      rw [so4] at b7
      rw [show (0 : Int).toNat * 4 = 0 * 4 by rfl, tcs_set _ _ _ (by omega)] at os7
      refine (q2.but b7 (some_ne (by omega))).ldA rfl ?_
      refine os7.stA (by omega) (by omega) _ (tc_len _) fun g4 os8 b8 n8 => ?_
      rw [so4] at b8
      rw [show (1 : Int).toNat * 4 = 1 * 4 by rfl, tcs_set _ _ _ (by rw [List.length_set]; omega)] at os8
      have A := ((a5.ext y12).but b7 (some_ne (by omega))).but b8 (some_ne (by omega))
      refine isPt_in (A.ldI rfl rfl ?_)
      exact DrB.ret (((o5.ext y12).but b7 (some_ne (by omega))).but b8 (some_ne (by omega))) rfl hp hlt os8.rd f4 ne4 (((r5.ext y12).but b7 fun i e => by have := Option.some.inj e; omega).but b8 fun i e => by have := Option.some.inj e; omega) (((C5.trans (y12.chg _)).trans (b7.chg fun i e => .inr (by have := Option.some.inj e; omega))).trans (b8.chg fun i e => .inr (by have := Option.some.inj e; omega))) (by simp only [List.length_set]; omega)
    · refine isPt_in (a5.ldI rfl rfl ?_)
      exact DrB.ret o5 rfl hp hlt os5.rd f4 ne4 r5 C5 (by omega)
  · refine a5.ldA rfl ?_
    have rd5 := ru.keep (P := fun i => i = o) C5 fun i e => by have := fu i e; omega
    refine o5.stA (fun h6 o6 b6 n6 => ?_) rfl
    have C6 : Chg (fun i => i = o ∨ h.length ≤ i) h h6 := C5.trans (b6.chg fun i e => .inr (by have := Option.some.inj e; omega))
    exact o6.ldA rfl ⟨_, rfl, u, c, ts, rfl, ru.keep (P := fun i => i = o) C6 fun i e => (by have := fu i e; omega), (by omega), fu, r5.but b6 fun i e => (by have := Option.some.inj e; omega), C6.to fun i hi e => (by omega)⟩
end
end Go.Proofs.YtcoampecbpiecaaGreat.Cl

/- What the arguments of a law are. No claim is stated here. -/
set_option linter.unusedVariables false
set_option linter.unusedSimpArgs false
namespace Go.Proofs.YtcoampecbpiecaaGreat.Cl
open Go
theorem den_int {P : Program} {h : H} {t : TypeId} {xs : List AVal} {pd : PD} {k : IntKind} (hu : P.underlying t = some (.int k)) (d : Den P h t xs pd) : ∃ n, xs = [.int k n] ∧ (Lit.int k n).wf = true := by
  cases d with
  | int a b => rw [hu] at a; cases a; exact ⟨_, rfl, b⟩
  | bool a => rw [hu] at a; cases a
  | arr a => rw [hu] at a; cases a
  | struct a => rw [hu] at a; cases a
  | sl a => rw [hu] at a; cases a
theorem den_sl {P : Program} {h : H} {t e : TypeId} {xs : List AVal} {pd : PD} (hu : P.underlying t = some (.slice e)) (d : Den P h t xs pd) : ∃ (s : Sl) (ass : List (List AVal)) (ds : List PD), xs = [.sl s] ∧ ass.length = s.len ∧ ds.length = s.len ∧ s.len ≤ maxLen ∧ Rd h s (P.cellsOf e) ass.flatten ∧ ∀ (i : Nat) a d, ass[i]? = some a → ds[i]? = some d → Den P h e a d := by
  cases d with
  | int a b => rw [hu] at a; cases a
  | bool a => rw [hu] at a; cases a
  | arr a => rw [hu] at a; cases a
  | struct a => rw [hu] at a; cases a
  | sl a b c d e f => rw [hu] at a; cases a; exact ⟨_, _, _, rfl, b, c, d, e, f⟩
end Go.Proofs.YtcoampecbpiecaaGreat.Cl

/- The laws' own comparisons and sums. No claim is stated here. -/
set_option linter.unusedVariables false
set_option linter.unusedSimpArgs false
namespace Go.Proofs.YtcoampecbpiecaaGreat.Cl
open Go
theorem likeInts_c {h0 : H} {s s' : Sl} {l l' : List Int} (r : Rd h0 s 1 (ic l)) (r' : Rd h0 s' 1 (ic l')) (hl : l.length < 4000000000000000000) : callB SP i_laws_likeInts [.sl s, .sl s'] h0 fun b h' => b = (l == l') ∧ h' = h0 := by
  have hlen : s.len = l.length := by have := r.len; rw [ic_len] at this; omega
  have hlen' : s'.len = l'.length := by have := r'.len; rw [ic_len] at this; omega
  apply laws_likeInts_call
  unfold laws_likeInts_main
  refine bif_ne (fun hq => ?_) (fun hq => ?_)
  · refine ⟨_, rfl, ?_, rfl⟩
    cases hb : l == l' with
    | false => rfl
    | true => rw [beq_iff_eq] at hb; subst hb; omega
  refine laws_likeInts_rule0 _ _ _ _ (fun i h => 0 ≤ i ∧ i ≤ l.length ∧ h = h0 ∧ ∀ j, j < i.toNat → l[j]? = l'[j]?) (fun i _ => (l.length - i).toNat) ?_ _ ⟨by omega, by omega, rfl, fun j hj => by omega⟩
  rintro X i _ ⟨i0, i1, rfl, hn⟩ hX
  unfold laws_likeInts_b0 laws_likeInts_C0
  refine bif_dec (fun hi => ?_) (fun hi => ?_)
  · refine r.ldI i0 (by omega) fun x hxe => r'.ldI i0 (by omega) fun y hye => ?_
    refine bif_ne (fun hq => ?_) (fun hq => ?_)
    · refine ⟨_, rfl, ?_, rfl⟩
      cases hb : l == l' with
      | false => rfl
      | true =>
        rw [beq_iff_eq] at hb; subst hb
        rw [hxe] at hye; cases hye
        exact absurd rfl hq
    · rw [w64_of (by omega) (by omega)]
      refine hX _ _ ⟨by omega, by omega, rfl, fun j hj => ?_⟩ (by omega)
      by_cases hji : j = i.toNat
      · subst hji
        rw [hxe, hye, hq]
      · exact hn j (by omega)
  · refine ⟨_, rfl, ?_, rfl⟩
    symm
    rw [beq_iff_eq]
    apply List.ext_getElem?
    intro j
    by_cases hj : j < l.length
    · exact hn j (by omega)
    · rw [List.getElem?_eq_none (by omega), List.getElem?_eq_none (by omega)]
theorem rows5_c {h0 : H} {s s' : Sl} {ls ls' : List (List Int)} (r : RdSS h0 s ls) (r' : RdSS h0 s' ls') (hl : ls.length < 4000000000000000000) (hls : ∀ l ∈ ls, l.length < 4000000000000000000) : callB SP i_laws_rows5 [.sl s, .sl s'] h0 fun b h' => b = (ls == ls') ∧ h' = h0 := by
  have hlen := r.len
  have hlen' := r'.len
  apply laws_rows5_call
  unfold laws_rows5_main
  refine bif_ne (fun hq => ?_) (fun hq => ?_)
  · refine ⟨_, rfl, ?_, rfl⟩
    cases hb : ls == ls' with
    | false => rfl
    | true => rw [beq_iff_eq] at hb; subst hb; omega
  refine laws_rows5_rule0 _ _ _ _ (fun i h => 0 ≤ i ∧ i ≤ ls.length ∧ h = h0 ∧ ∀ j, j < i.toNat → ls[j]? = ls'[j]?) (fun i _ => (ls.length - i).toNat) ?_ _ ⟨by omega, by omega, rfl, fun j hj => by omega⟩
  rintro X i _ ⟨i0, i1, rfl, hn⟩ hX
  unfold laws_rows5_b0 laws_rows5_C0
  refine bif_dec (fun hi => ?_) (fun hi => ?_)
  · refine r.ld i0 (by omega) fun v l hv rv lv => r'.ld i0 (by omega) fun v' l' hv' rv' lv' => ?_
    refine (likeInts_c rv rv' (hls l (List.mem_of_getElem? hv))).to ?_
    rintro _ _ ⟨rfl, rfl⟩
    refine bif_not (fun hq => ?_) (fun hq => ?_)
    · refine ⟨_, rfl, ?_, rfl⟩
      cases hb : ls == ls' with
      | false => rfl
      | true =>
        rw [beq_iff_eq] at hb; subst hb
        rw [hv] at hv'; cases hv'
        simp at hq
    · rw [w64_of (by omega) (by omega)]
      refine hX _ _ ⟨by omega, by omega, rfl, fun j hj => ?_⟩ (by omega)
      by_cases hji : j = i.toNat
      · subst hji
        rw [hv, hv']
        simp at hq
        rw [hq]
      · exact hn j (by omega)
  · refine ⟨_, rfl, ?_, rfl⟩
    symm
    rw [beq_iff_eq]
    apply List.ext_getElem?
    intro j
    by_cases hj : j < ls.length
    · exact hn j (by omega)
    · rw [List.getElem?_eq_none (by omega), List.getElem?_eq_none (by omega)]
/-- What marks make of the rows. -/
theorem rows5_yes {h0 : H} {s s' : Sl} {ls : List (List Int)} (r : RdSS h0 s ls) (r' : RdSS h0 s' ls) (hl : ls.length < 4000000000000000000) (hls : ∀ l ∈ ls, l.length < 4000000000000000000) {A : H → Prop} {B : H → Prop} (hk : B h0) : callB SP i_laws_rows5 [.sl s, .sl s'] h0 fun b h' => bif !b then A h' else B h' := by
  refine (rows5_c r r' hl hls).to ?_
  rintro _ _ ⟨rfl, rfl⟩
  exact bif_not (fun hq => by simp at hq) fun _ => hk
theorem big_c {h : H} (s : Sl) : callB SP i_laws_big [.sl s] h fun b h' => b = decide ((s.len : Int) > 4096) ∧ h = h' := by
  apply laws_big_call
  unfold laws_big_main
  exact ⟨_, rfl, rfl, rfl⟩
theorem all_bytes {P : Program} {h : H} {t : TypeId} (ht : P.underlying t = some (.int .u8)) : ∀ (ass : List (List AVal)) (ds : List PD), ass.length = ds.length → (∀ (i : Nat) a d, ass[i]? = some a → ds[i]? = some d → Den P h t a d) → ∃ l : List Int, ass.flatten = bc l ∧ ∀ b ∈ l, 0 ≤ b ∧ b < 256
  | [], _, _, _ => ⟨[], rfl, fun b hb => by cases hb⟩
  | a :: ass, [], h, _ => by simp at h
  | a :: ass, d :: ds, hl, hd => by
    obtain ⟨n, rfl, w⟩ := den_int ht (hd 0 a d rfl rfl)
    obtain ⟨l, e, hb⟩ := all_bytes ht ass ds (by simpa using hl) (fun i a d x y => hd (i + 1) a d (by simpa using x) (by simpa using y))
    have w' : (decide (IntKind.u8.min ≤ n) && decide (n ≤ IntKind.u8.max)) = true := w
    simp only [Bool.and_eq_true, decide_eq_true_eq] at w'
    have h1 : IntKind.u8.min = 0 := by decide
    have h2 : IntKind.u8.max = 255 := by decide
    refine ⟨n :: l, by rw [List.flatten_cons, e]; rfl, fun b hb' => ?_⟩
    rcases List.mem_cons.1 hb' with rfl | hb'
    · omega
    · exact hb b hb'
theorem arg_bytes {P : Program} {h : H} {t u : TypeId} {xs : List AVal} {pd : PD} (ht : P.underlying t = some (.slice u)) (hu : P.underlying u = some (.int .u8)) (hc : P.cellsOf u = 1) (d : Den P h t xs pd) : ∃ (s : Sl) (l : List Int), xs = [.sl s] ∧ Rd h s 1 (bc l) ∧ ∀ b ∈ l, 0 ≤ b ∧ b < 256 := by
  obtain ⟨s, ass, ds, rfl, l1, l2, l3, r, hd⟩ := den_sl ht d
  obtain ⟨l, e, hb⟩ := all_bytes hu ass ds (by omega) hd
  rw [hc, e] at r
  exact ⟨s, l, rfl, r, hb⟩
end Go.Proofs.YtcoampecbpiecaaGreat.Cl

/- Draws of sets of tori, and of their sizes. No claim is stated here. -/
set_option linter.unusedVariables false
set_option linter.unusedSimpArgs false
namespace Go.Proofs.YtcoampecbpiecaaGreat.Cl
open Go
def l05Tail (K : AVal → H → Prop) (x0 p0 p4 : Pt) (h7 : H) : Prop :=
 isPt p4 (
 ldS (Pt.add p4 1) h7 fun s32 =>
 bif (decide ((s32.len : Int) > (10))) then
 callI SP .i64 i_spec_l01Next [.ptr x0, .int .i64 (4)] h7 fun n34 h33 =>
 bif (decide (n34 > (0))) then
 isPt p4 (
 ldI .i64 (Pt.add p4 0) h33 fun n35 =>
 newS 0 4 [] h33 fun s36 h37 =>
(cell h37 (Pt.add p4 0) = cell h33 (Pt.add p4 0)) ∧ (
 isPt p4 (
 ldS (Pt.add p4 1) h37 fun s38 =>
(cell h33 (Pt.add p4 1) = cell h37 (Pt.add p4 1)) ∧ (
 cut s38 4 (0) (8) h37 fun s39 =>
 okS h33 s38 ∧ (
 app s36 s39 4 h37 fun s40 h41 =>
(cell h41 (Pt.add p4 0) = cell h33 (Pt.add p4 0)) ∧ (
 stN p4 2 [.int .i64 n35, .sl s40] h41 fun h42 =>
 ldA p4 2 h42 fun cs43 =>
 stN p0 2 cs43 h42 fun h44 =>
 ldA p0 2 h44 fun cs45 =>
 K (.agg cs45) h44))))))
 else
 ldA p4 2 h33 fun cs46 =>
 stN p0 2 cs46 h33 fun h47 =>
 ldA p0 2 h47 fun cs48 =>
 K (.agg cs48) h47
 else
 ldA p4 2 h7 fun cs49 =>
 stN p0 2 cs49 h7 fun h50 =>
 ldA p0 2 h50 fun cs51 =>
 K (.agg cs51) h50)
section
variable {h : H} {o : Nat}
theorem setOK.take8 {c : Int} {ts : List Tile} (hs : setOK c ts) (n : Nat) : setOK c (ts.take n) :=
  setOK_of hs.1.1 hs.1.2 (by rw [List.length_take]; have := hs.2.1; omega) (hs.pw.sublist (List.take_sublist _ _)) fun t ht j hj => hs.ts.2 t (List.mem_of_mem_take ht) j hj
theorem l05Tail_c {g : H} {p0 p4 : Nat} {l : List AVal} {u : Sl} {c : Int} {ts : List Tile} (P0 : Obj g p0 l) (hl : l.length = 2) (P4 : Obj g p4 (SetC c u)) (h0 : h.length ≤ p0) (h4 : h.length ≤ p4) (h04 : p0 ≠ p4) (hop : o < h.length) (ru : Rd g u 4 (tcs ts)) (hw : WSet c ts) (fu : Fr h.length u) (hn : u.o ≠ some p0) (rg : Src g o) (ch : Chg (fun i => i = o ∨ h.length ≤ i) h g) :
    l05Tail (fun v h' => ∃ cs, v = .agg cs ∧ DrS h o cs h') ⟨some o, 3, 0⟩ ⟨some p0, 2, 0⟩ ⟨some p4, 2, 0⟩ g := by
  have hul := ru.tlen
  have hch := ch.1
  have l0 := P0.lt
  have l4 := P4.lt
  unfold l05Tail
  refine isPt_in (P4.ldS rfl rfl ?_)
  refine bif_dec (fun h10 => ?_) (fun _ => ?_)
  rotate_left
  · refine P4.ldA rfl ?_
    exact ret_set P0 hl h0 hop ru fu hn rg ch fun h' a b c' => ⟨_, rfl, u, c, ts, rfl, a, hw, fu, b, c'⟩
  refine (next_c rg 4).to ?_
  rintro x g1 ⟨_, r1, b1, l1⟩
  have Q0 := P0.but b1 (some_ne (by omega))
  have Q4 := P4.but b1 (some_ne (by omega))
  have ru1 := ru.but b1 (.inl fun e => by have := fu _ e.symm; omega)
  have c1 := ch.trans (rg.self b1)
  refine bif_dec (fun _ => ?_) (fun _ => ?_)
  rotate_left
  · refine Q4.ldA rfl ?_
    exact ret_set Q0 hl h0 hop ru1 fu hn r1 c1 fun h' a b c' => ⟨_, rfl, u, c, ts, rfl, a, hw, fu, b, c'⟩
  refine isPt_in (Q4.ldI rfl rfl ?_)
  refine newS_ow (by rfl) fun s g2 os ls so e2 => ?_
  have x2 : Ext g1 g2 := by rw [e2]; exact Ext.app _ _
  have n2 : g2.length = g1.length + 1 := by rw [e2]; simp
  have Q42 := Q4.ext x2
  refine ⟨(Q42.cellE rfl).trans (Q4.cellE rfl).symm, ?_⟩
  refine isPt_in (Q42.ldS rfl rfl ?_)
  refine ⟨(Q4.cellE rfl).trans (Q42.cellE rfl).symm, ?_⟩
  refine cut_rd (ru1.ext x2) (by omega) (by omega) (by omega) (by omega) fun s' rs' so' ls' => ?_
  refine ⟨ok_rd ru1 (by omega), ?_⟩
  have e8 : ((tcs ts).drop ((0 : Int).toNat * 4)).take (((8 : Int) - 0).toNat * 4) = tcs (ts.take 8) := by
    rw [show (0 : Int).toNat * 4 = 0 by rfl, List.drop_zero, show ((8 : Int) - 0).toNat * 4 = 8 * 4 by rfl, tcs_take4]
  rw [e8] at rs'
  refine app_ow (by omega) os rs' (by rw [ls, ls']; unfold lim; omega) fun w g3 ow lw b3 k3 _ => ?_
  have wo := k3 _ so
  rw [so] at b3
  rw [List.nil_append] at ow
  have Q43 := Q42.but b3 (some_ne (by omega))
  refine ⟨(Q43.cellE rfl).trans (Q4.cellE rfl).symm, ?_⟩
  refine Q43.stA fun g4 Q44 b4 n4 => ?_
  refine Q44.ldA rfl ?_
  have hb3 := b3.1
  have rw4 := ow.rd.but b4 (.inl fun e => by rw [wo] at e; have := Option.some.inj e; omega)
  have Q04 := ((Q0.ext x2).but b3 (some_ne (by omega))).but b4 (some_ne (by omega))
  have r4 := ((r1.ext x2).but b3 fun i e => by have := Option.some.inj e; omega).but b4 fun i e => by have := Option.some.inj e; omega
  have c4 := ((c1.trans (x2.chg _)).trans (b3.chg fun i e => .inr (by have := Option.some.inj e; omega))).trans (b4.chg fun i e => .inr (by have := Option.some.inj e; omega))
  have hs : setOK c ts := by
    rcases hw with hs | hs
    · exact hs
    · rw [hs.2] at hul; simp at hul; omega
  exact ret_set Q04 hl h0 hop rw4 (n := h.length) (fun i e => by rw [wo] at e; have := Option.some.inj e; omega) (by rw [wo]; exact some_ne (by omega)) r4 c4 fun h' a b c' => ⟨_, rfl, w, c, ts.take 8, rfl, a, .inl (hs.take8 8), fun i e => by rw [wo] at e; have := Option.some.inj e; omega, b, c'⟩
theorem l05Draw_c (r : Src h o) : callA SP i_spec_l05Draw [.ptr ⟨some o, 3, 0⟩] h fun cs h' => DrS h o cs h' := by
  have hlt := r.lt
  apply spec_l05Draw_call
  unfold spec_l05Draw_main
  refine newO_obj fun h1 o1 x1 n1 => ?_
  refine (small_c (r.ext x1)).to ?_
  rintro _ h2 ⟨u, c, ts, rfl, ru, hw, fu, r2, c2⟩
  have hc2 := c2.1
  refine newO_obj fun h3 o3 x3 n3 => ?_
  refine o3.stA fun h4 o4 b4 n4 => ?_
  have x24 : Ext h2 h4 := x3.but_ b4 (some_le (Nat.le_refl _))
  have r4 := r2.ext x24
  refine (next_c r4 3).to ?_
  rintro a h5 ⟨_, r5, b5, l5⟩
  have p0 := ((o1.chg c2 (by omega)).ext x24).but b5 (some_ne (by omega))
  have p4 := o4.but b5 (some_ne (by omega))
  have C5 : Chg (fun i => i = o ∨ h.length ≤ i) h h5 := (((x1.chg _).trans (c2.to fun i _ e => .inl e)).trans (x24.chg _)).trans (r4.self b5)
  refine bif_eq (fun _ => ?_) (fun _ => ?_)
  · refine (draw_c r5).to ?_
    rintro _ h6 ⟨w, d, us, rfl, rw', hw', fw, r6, c6⟩
    have hc6 := c6.1
    refine (p4.chg c6 (by omega)).stA fun h7 o7 b7 n7 => ?_
    have rw7 := rw'.but b7 (.inl fun e => by have := fw _ e.symm; omega)
    exact l05Tail_c ((p0.chg c6 (by omega)).but b7 (some_ne (by omega))) rfl o7 (Nat.le_refl _) (by omega) (by omega) hlt rw7 hw' (fw.le (by omega)) (fun e => by have := fw _ e; omega) (r6.but b7 fun i e => by have := Option.some.inj e; omega) ((C5.trans (c6.to fun i _ e => .inl e)).trans (b7.chg fun i e => .inr (by have := Option.some.inj e; omega)))
  · have ru5 := (ru.ext x24).but b5 (.inl fun e => by have := fu _ e.symm; omega)
    exact l05Tail_c p0 rfl p4 (Nat.le_refl _) (by omega) (by omega) hlt ru5 hw (fu.le (by omega)) (fun e => by have := fu _ e; omega) r5 C5
end
end Go.Proofs.YtcoampecbpiecaaGreat.Cl

/- Contracts of the functions that tell fillings, cylinders and tori. No claim is stated here. -/
set_option linter.unusedVariables false
set_option linter.unusedSimpArgs false
namespace Go.Proofs.YtcoampecbpiecaaGreat.Cl
open Go
section
variable {h : H} {a : Nat} {c : Int} {s q : Sl} {ts : List Tile} {rows : List (List Int)}
theorem side_of (o : Obj h a (SetC c s)) (r : Rd h s 4 (tcs ts)) {n k : Int} (n0 : 0 ≤ n) (n1 : n < ts.length) (k0 : 0 ≤ k) (k1 : k < 4) {K : Int → Prop} (hk : K (sd (tat ts n) k.toNat)) :
    isPt ⟨some a, 2, 0⟩ (ldS (Pt.add ⟨some a, 2, 0⟩ 1) h fun s2 => ixS s2 4 n fun p => ixA p 4 1 k fun p => ldI .i64 p h K) :=
  isPt_in (o.ldS rfl rfl (r.sideG n0 n1 k0 k1 hk))
theorem side_in (o : Obj h a (SetC c s)) (r : Rd h s 4 (tcs ts)) {v : Sl} {y : Nat} (rv : Rd h v 1 (ic (rw_ rows y))) {x k : Int} (x0 : 0 ≤ x) (x1 : x < (rw_ rows y).length) (hn : 0 ≤ G rows y x.toNat ∧ G rows y x.toNat < ts.length) (k0 : 0 ≤ k) (k1 : k < 4) {K : Int → Prop} (hk : K (sd (tat ts (G rows y x.toNat)) k.toNat)) :
    isPt ⟨some a, 2, 0⟩ (ldS (Pt.add ⟨some a, 2, 0⟩ 1) h fun s2 => ixS v 1 x fun p => ldI .i64 p h fun n => ixS s2 4 n fun p => ixA p 4 1 k fun p => ldI .i64 p h K) :=
  isPt_in (o.ldS rfl rfl (rv.ldG x0 x1 (r.sideG hn.1 hn.2 k0 k1 hk)))
theorem side_at (o : Obj h a (SetC c s)) (r : Rd h s 4 (tcs ts)) (rr : RdSS h q rows) {y x k : Int} (y0 : 0 ≤ y) (y1 : y < rows.length) (x0 : 0 ≤ x) (x1 : x < (rw_ rows y.toNat).length) (hn : 0 ≤ G rows y.toNat x.toNat ∧ G rows y.toNat x.toNat < ts.length) (k0 : 0 ≤ k) (k1 : k < 4) {K : Int → Prop} (hk : K (sd (tat ts (G rows y.toNat x.toNat)) k.toNat)) :
    isPt ⟨some a, 2, 0⟩ (ldS (Pt.add ⟨some a, 2, 0⟩ 1) h fun s2 => ixS q 1 y fun p => ldS p h fun v => ixS v 1 x fun p => ldI .i64 p h fun n => ixS s2 4 n fun p => ixA p 4 1 k fun p => ldI .i64 p h K) :=
  isPt_in (o.ldS rfl rfl (rr.ldG y0 y1 fun v rv lv => rv.ldG x0 x1 (r.sideG hn.1 hn.2 k0 k1 hk)))
end
/-- The side k of the tile at a place. -/
abbrev S_ (ts : List Tile) (rows : List (List Int)) (y x k : Nat) : Int := sd (tat ts (G rows y x)) k
def CellOK (ts : List Tile) (rows : List (List Int)) (y x : Nat) : Prop := (0 < x → S_ ts rows y (x - 1) 2 = S_ ts rows y x 0) ∧ (0 < y → S_ ts rows (y - 1) x 3 = S_ ts rows y x 1)
def Filling (ts : List Tile) (rows : List (List Int)) : Prop := ∀ y x, y < rows.length → x < (rw_ rows y).length → CellOK ts rows y x
def CylEnds (ts : List Tile) (rows : List (List Int)) : Prop := ∀ y, y < rows.length → S_ ts rows y ((rw_ rows y).length - 1) 2 = S_ ts rows y 0 0
def TorEnds (ts : List Tile) (rows : List (List Int)) : Prop := ∀ x, x < (rw_ rows 0).length → S_ ts rows (rows.length - 1) x 3 = S_ ts rows 0 x 1
section
variable {h0 : H} {c : Int} {s q : Sl} {ts : List Tile} {rows : List (List Int)}
theorem l01Good_c (r : Rd h0 s 4 (tcs ts)) (rr : RdSS h0 q rows) (hN : Nums ts.length rows) : callB SP i_spec_l01Good [.agg (SetC c s), .sl q] h0 fun b h' => (b = true ↔ Filling ts rows) ∧ Ext h0 h' := by
  have hl := r.tlen
  have hq := rr.len
  have hT := hN.2
  apply spec_l01Good_call
  unfold spec_l01Good_main
  refine newK_obj fun h1 o1 x1 n1 => ?_
  refine spec_l01Good_rule0 _ _ _ _ (fun i h => 0 ≤ i ∧ i ≤ rows.length ∧ Ext h1 h ∧ ∀ y x, y < i.toNat → x < (rw_ rows y).length → CellOK ts rows y x) (fun i _ => (rows.length - i).toNat) ?_ _ ⟨by omega, by omega, Ext.refl _, fun y x hy => by omega⟩
  rintro X i h ⟨i0, i1, x, hj⟩ hX
  unfold spec_l01Good_b0 spec_l01Good_C0
  refine bif_dec (fun hi => ?_) (fun hi => ⟨_, rfl, ⟨fun _ y z hy hz => hj y z (by omega) hz, fun _ => rfl⟩, x1.trans x⟩)
  refine spec_l01Good_rule2 _ _ X _ _ _ (fun k h' => 0 ≤ k ∧ k ≤ (rw_ rows i.toNat).length ∧ Ext h h' ∧ ∀ x, x < k.toNat → CellOK ts rows i.toNat x) (fun k _ => ((rw_ rows i.toNat).length - k).toNat) ?_ _ ⟨by omega, by omega, Ext.refl _, fun x hx => by omega⟩
  rintro Y k h' ⟨k0, k1, x', hk⟩ hY
  unfold spec_l01Good_b2 spec_l01Good_C2 spec_l01Good_C1
  have XX := (x1.trans x).trans x'
  refine (rr.ext XX).ldG i0 (by omega) fun v rv lv => ?_
  have hrow := hT.2 i.toNat (by omega)
  have h8 := hT.1
  refine bif_dec (fun hki => ?_) (fun hki => ?_)
  · have no : ∀ {h''}, Ext h' h'' → ¬ CellOK ts rows i.toNat k.toNat → ∃ b, AVal.bool false = .bool b ∧ (b = true ↔ Filling ts rows) ∧ Ext h0 h'' := fun {h''} x2 hn =>
      ⟨_, rfl, by simp only [Bool.false_eq_true, false_iff]; exact fun f => hn (f _ _ (by omega) (by omega)), XX.trans x2⟩
    have hc := hN.1 i.toNat k.toNat (by omega) (by omega)
    have o := o1.ext (x.trans x')
    refine isPt_in (o.ldS rfl rfl ?_)
    refine (rr.ext XX).ixC i0 (by omega) fun p3 v2 e3 rv2 lv2 => ⟨v2, e3, ?_⟩
    refine rv2.ixC k0 (by omega) fun p5 e5 => ⟨_, e5, ?_⟩
    refine (r.ext XX).ixT hc.1 hc.2 fun p7 po e7 => ⟨_, e7, ?_⟩
    refine newO_obj fun h2 o2 x2 n2 => ?_
    refine ⟨x2.rangeE e7, x2.cellE e5, x2.cellE e3, x2.cellE (o.cellE rfl), ?_⟩
    refine o2.stA fun h3 o3 b3 n3 => ?_
    have x3 : Ext h' h3 := x2.but_ b3 (some_le (Nat.le_refl _))
    have o' := o.ext x3
    have r' := r.ext (XX.trans x3)
    have rr' := rr.ext (XX.trans x3)
    have hcG : G rows i.toNat k.toNat = (rw_ rows i.toNat).getD k.toNat 0 := rfl
    have next : CellOK ts rows i.toNat k.toNat → Y (spec_l01Good_e2 q ⟨some h0.length, 2, 0⟩ i (w64 (k + 1))) h3 := fun hok => by
      rw [w64_of (by omega) (by omega)]
      refine hY _ _ ⟨by omega, by omega, x'.trans x3, fun z hz => ?_⟩ (by omega)
      by_cases e : z = k.toNat
      · subst e; exact hok
      · exact hk z (by omega)
    have up : (0 < k → S_ ts rows i.toNat (k.toNat - 1) 2 = S_ ts rows i.toNat k.toNat 0) → bif (decide (i > 0)) then
        isPt ⟨some h0.length, 2, 0⟩ (ldS (Pt.add ⟨some h0.length, 2, 0⟩ 1) h3 fun s2 => ixS q 1 (w64 (i - 1)) fun p => ldS p h3 fun u => ixS u 1 k fun p => ldI .i64 p h3 fun n => ixS s2 4 n fun p => ixA p 4 1 3 fun p => ldI .i64 p h3 fun n29 =>
          ixA ⟨some h'.length, 4, 0⟩ 4 1 1 fun p => ldI .i64 p h3 fun n31 => bif (n29 != n31) then ∃ r, AVal.bool false = .bool r ∧ (r = true ↔ Filling ts rows) ∧ Ext h0 h3 else Y (spec_l01Good_e2 q ⟨some h0.length, 2, 0⟩ i (w64 (k + 1))) h3)
        else Y (spec_l01Good_e2 q ⟨some h0.length, 2, 0⟩ i (w64 (k + 1))) h3 := fun hw => by
      refine bif_dec (fun hp => ?_) (fun hp => next ⟨fun h => hw (by omega), fun h => by omega⟩)
      rw [w64_of (n := i - 1) (by omega) (by omega)]
      have hrow' := hT.2 (i - 1).toNat (by omega)
      refine side_at o' r' rr' (by omega) (by omega) k0 (by omega) (hN.1 _ _ (by omega) (by omega)) (by omega) (by omega) ?_
      refine o3.sdI (by omega) (by omega) ?_
      rw [show (i - 1).toNat = i.toNat - 1 by omega]
      refine bif_ne (fun hq => no x3 fun t => hq (t.2 (by omega))) (fun hq => next ⟨fun h => hw (by omega), fun _ => hq⟩)
    refine bif_dec (fun hp => ?_) (fun hp => up fun h => by omega)
    rw [w64_of (n := k - 1) (by omega) (by omega)]
    refine side_at o' r' rr' i0 (by omega) (by omega) (by omega) (hN.1 _ _ (by omega) (by omega)) (by omega) (by omega) ?_
    refine o3.sdI (by omega) (by omega) ?_
    rw [show (k - 1).toNat = k.toNat - 1 by omega]
    exact bif_ne (fun hq => no x3 fun t => hq (t.1 (by omega))) (fun hq => up fun _ => hq)
  · rw [w64_of (by omega) (by omega)]
    refine hX _ _ ⟨by omega, by omega, x.trans x', fun y z hy hz => ?_⟩ (by omega)
    by_cases e : y = i.toNat
    · subst e; exact hk z (by omega)
    · exact hj y z (by omega) hz
theorem isFilling_c (r : Rd h0 s 4 (tcs ts)) (rr : RdSS h0 q rows) (hN : Nums ts.length rows) : callB SP i_impl_Set_isFilling [.agg (SetC c s), .sl q] h0 fun b h' => (b = true ↔ Filling ts rows) ∧ Ext h0 h' := by
  have hl := r.tlen
  have hq := rr.len
  have hT := hN.2
  apply impl_Set_isFilling_call
  unfold impl_Set_isFilling_main
  refine newK_obj fun h1 o1 x1 n1 => ?_
  refine impl_Set_isFilling_rule0 _ _ _ _ _ _ (fun i h => 0 ≤ i ∧ i ≤ rows.length ∧ h = h1 ∧ ∀ y x, y < i.toNat → x < (rw_ rows y).length → CellOK ts rows y x) (fun i _ => (rows.length - i).toNat) ?_ _ ⟨by omega, by omega, rfl, fun y x hy => by omega⟩
  rintro X i h ⟨i0, i1, e, hj⟩ hX
  rw [e]
  unfold impl_Set_isFilling_b0 impl_Set_isFilling_C0
  refine bif_dec (fun hi => ?_) (fun hi => ⟨_, rfl, ⟨fun _ y z hy hz => hj y z (by omega) hz, fun _ => rfl⟩, x1⟩)
  have r1 := r.ext x1
  have rr1 := rr.ext x1
  refine rr1.ldG i0 (by omega) fun v rv lv => ?_
  have hrow := hT.2 i.toNat (by omega)
  have h8 := hT.1
  refine impl_Set_isFilling_rule2 _ _ X _ _ _ _ _ _ _ _ _ (fun k h' => 0 ≤ k ∧ k ≤ (rw_ rows i.toNat).length ∧ h' = h1 ∧ ∀ x, x < k.toNat → CellOK ts rows i.toNat x) (fun k _ => ((rw_ rows i.toNat).length - k).toNat) ?_ _ ⟨by omega, by omega, rfl, fun x hx => by omega⟩
  rintro Y k h' ⟨k0, k1, e', hk⟩ hY
  rw [e']
  unfold impl_Set_isFilling_b2 impl_Set_isFilling_C2 impl_Set_isFilling_C1
  refine bif_dec (fun hki => ?_) (fun hki => ?_)
  · have no : ¬ CellOK ts rows i.toNat k.toNat → ∃ b, AVal.bool false = .bool b ∧ (b = true ↔ Filling ts rows) ∧ Ext h0 h1 := fun hn =>
      ⟨_, rfl, by simp only [Bool.false_eq_true, false_iff]; exact fun f => hn (f _ _ (by omega) (by omega)), x1⟩
    have hc := hN.1 i.toNat k.toNat (by omega) (by omega)
    refine rv.ldG k0 (by omega) ?_
    have next : CellOK ts rows i.toNat k.toNat → Y (impl_Set_isFilling_e2 q ⟨some h0.length, 2, 0⟩ i v q q.len i v v.len (w64 (k + 1))) h1 := fun hok => by
      rw [w64_of (by omega) (by omega)]
      refine hY _ _ ⟨by omega, by omega, rfl, fun z hz => ?_⟩ (by omega)
      by_cases e : z = k.toNat
      · subst e; exact hok
      · exact hk z (by omega)
    have up : (0 < k → S_ ts rows i.toNat (k.toNat - 1) 2 = S_ ts rows i.toNat k.toNat 0) → bif (decide (i > 0)) then
        isPt ⟨some h0.length, 2, 0⟩ (ldS (Pt.add ⟨some h0.length, 2, 0⟩ 1) h1 fun s2 => ixS q 1 (w64 (i - 1)) fun p => ldS p h1 fun u => ixS u 1 k fun p => ldI .i64 p h1 fun n => ixS s2 4 n fun p => ixA p 4 1 3 fun p => ldI .i64 p h1 fun n29 =>
          isPt ⟨some h0.length, 2, 0⟩ (ldS (Pt.add ⟨some h0.length, 2, 0⟩ 1) h1 fun s2 => ixS s2 4 ((rw_ rows i.toNat).getD k.toNat 0) fun p => ixA p 4 1 1 fun p => ldI .i64 p h1 fun n31 => bif (n29 != n31) then ∃ r, AVal.bool false = .bool r ∧ (r = true ↔ Filling ts rows) ∧ Ext h0 h1 else Y (impl_Set_isFilling_e2 q ⟨some h0.length, 2, 0⟩ i v q q.len i v v.len (w64 (k + 1))) h1))
        else Y (impl_Set_isFilling_e2 q ⟨some h0.length, 2, 0⟩ i v q q.len i v v.len (w64 (k + 1))) h1 := fun hw => by
      refine bif_dec (fun hp => ?_) (fun hp => next ⟨fun h => hw (by omega), fun h => by omega⟩)
      rw [w64_of (n := i - 1) (by omega) (by omega)]
      have hrow' := hT.2 (i - 1).toNat (by omega)
      refine side_at o1 r1 rr1 (by omega) (by omega) k0 (by omega) (hN.1 _ _ (by omega) (by omega)) (by omega) (by omega) ?_
      refine side_of o1 r1 hc.1 hc.2 (by omega) (by omega) ?_
      rw [show (i - 1).toNat = i.toNat - 1 by omega]
      refine bif_ne (fun hq => no fun t => hq (t.2 (by omega))) (fun hq => next ⟨fun h => hw (by omega), fun _ => hq⟩)
    refine bif_dec (fun hp => ?_) (fun hp => up fun h => by omega)
    rw [w64_of (n := k - 1) (by omega) (by omega)]
    refine side_in o1 r1 rv (by omega) (by omega) (hN.1 _ _ (by omega) (by omega)) (by omega) (by omega) ?_
    refine side_of o1 r1 hc.1 hc.2 (by omega) (by omega) ?_
    rw [show (k - 1).toNat = k.toNat - 1 by omega]
    exact bif_ne (fun hq => no fun t => hq (t.1 (by omega))) (fun hq => up fun _ => hq)
  · rw [w64_of (by omega) (by omega)]
    refine hX _ _ ⟨by omega, by omega, rfl, fun y z hy hz => ?_⟩ (by omega)
    by_cases e : y = i.toNat
    · subst e; exact hk z (by omega)
    · exact hj y z (by omega) hz
theorem l05Cylinder_c (r : Rd h0 s 4 (tcs ts)) (rr : RdSS h0 q rows) (hN : Nums ts.length rows) : callB SP i_spec_l05Cylinder [.agg (SetC c s), .sl q] h0 fun b h' => (b = true ↔ CylEnds ts rows) ∧ Ext h0 h' := by
  have hl := r.tlen
  have hq := rr.len
  have hT := hN.2
  apply spec_l05Cylinder_call
  unfold spec_l05Cylinder_main
  refine newK_obj fun h1 o1 x1 n1 => ?_
  refine spec_l05Cylinder_rule0 _ _ _ _ (fun i h => 0 ≤ i ∧ i ≤ rows.length ∧ h = h1 ∧ ∀ y, y < i.toNat → S_ ts rows y ((rw_ rows y).length - 1) 2 = S_ ts rows y 0 0) (fun i _ => (rows.length - i).toNat) ?_ _ ⟨by omega, by omega, rfl, fun y hy => by omega⟩
  rintro X i h ⟨i0, i1, e, hj⟩ hX
  rw [e]
  unfold spec_l05Cylinder_b0 spec_l05Cylinder_C0
  have r1 := r.ext x1
  have rr1 := rr.ext x1
  refine bif_dec (fun hi => ?_) (fun hi => ⟨_, rfl, ⟨fun _ y hy => hj y (by omega), fun _ => rfl⟩, x1⟩)
  have hrow := hT.2 i.toNat (by omega)
  have h8 := hT.1
  refine isPt_in (o1.ldS rfl rfl ?_)
  refine rr1.ldG i0 (by omega) fun v rv lv => ?_
  refine rr1.ldG i0 (by omega) fun v' rv' lv' => ?_
  rw [w64_of (n := (v'.len : Int) - 1) (by omega) (by omega)]
  have hx : ((v'.len : Int) - 1).toNat = (rw_ rows i.toNat).length - 1 := by omega
  have hg := hN.1 i.toNat ((rw_ rows i.toNat).length - 1) (by omega) (by omega)
  refine rv.ldG (by omega) (by omega) ?_
  rw [hx]
  refine r1.sideG hg.1 hg.2 (by omega) (by omega) ?_
  refine side_at o1 r1 rr1 i0 (by omega) (by omega) (by omega) (hN.1 _ _ (by omega) (by omega)) (by omega) (by omega) ?_
  refine bif_ne (fun hq => ⟨_, rfl, ?_, x1⟩) (fun hq => ?_)
  · simp only [Bool.false_eq_true, false_iff]
    exact fun f => hq (f _ (by omega))
  rw [w64_of (by omega) (by omega)]
  refine hX _ _ ⟨by omega, by omega, rfl, fun y hy => ?_⟩ (by omega)
  by_cases e : y = i.toNat
  · subst e; exact hq
  · exact hj y (by omega)
theorem isCylinder_c (r : Rd h0 s 4 (tcs ts)) (rr : RdSS h0 q rows) (hN : Nums ts.length rows) : callB SP i_impl_Set_isCylinder [.agg (SetC c s), .sl q] h0 fun b h' => (b = true ↔ Filling ts rows ∧ CylEnds ts rows) ∧ Ext h0 h' := by
  have hl := r.tlen
  have hq := rr.len
  have hT := hN.2
  apply impl_Set_isCylinder_call
  unfold impl_Set_isCylinder_main
  refine newK_obj fun h1 o1 x1 n1 => ?_
  refine impl_Set_isCylinder_rule0 _ _ _ _ _ _ (fun i h => 0 ≤ i ∧ i ≤ rows.length ∧ h = h1 ∧ ∀ y, y < i.toNat → S_ ts rows y ((rw_ rows y).length - 1) 2 = S_ ts rows y 0 0) (fun i _ => (rows.length - i).toNat) ?_ _ ⟨by omega, by omega, rfl, fun y hy => by omega⟩
  rintro X i h ⟨i0, i1, e, hj⟩ hX
  rw [e]
  unfold impl_Set_isCylinder_b0 impl_Set_isCylinder_C0
  have r1 := r.ext x1
  have rr1 := rr.ext x1
  refine bif_dec (fun hi => ?_) (fun hi => ?_)
  · have hrow := hT.2 i.toNat (by omega)
    have h8 := hT.1
    refine rr1.ldG i0 (by omega) fun v rv lv => ?_
    rw [w64_of (n := (v.len : Int) - 1) (by omega) (by omega)]
    have hx : ((v.len : Int) - 1).toNat = (rw_ rows i.toNat).length - 1 := by omega
    have hg := hN.1 i.toNat ((rw_ rows i.toNat).length - 1) (by omega) (by omega)
    refine side_in o1 r1 rv (by omega) (by omega) (by rw [hx]; exact hg) (by omega) (by omega) ?_
    rw [hx]
    refine side_in o1 r1 rv (by omega) (by omega) (hN.1 _ _ (by omega) (by omega)) (by omega) (by omega) ?_
    refine bif_ne (fun hq => ⟨_, rfl, ?_, x1⟩) (fun hq => ?_)
    · simp only [Bool.false_eq_true, false_iff]
      exact fun f => hq (f.2 _ (by omega))
    rw [w64_of (by omega) (by omega)]
    refine hX _ _ ⟨by omega, by omega, rfl, fun y hy => ?_⟩ (by omega)
    by_cases e : y = i.toNat
    · subst e; exact hq
    · exact hj y (by omega)
  · refine o1.ldA rfl ?_
    refine (isFilling_c r1 rr1 hN).to ?_
    rintro b h2 ⟨hb, x2⟩
    exact ⟨_, rfl, by rw [hb]; exact ⟨fun f => ⟨f, fun y hy => hj y (by omega)⟩, fun f => f.1⟩, x1.trans x2⟩
theorem l05Torus_c (r : Rd h0 s 4 (tcs ts)) (rr : RdSS h0 q rows) (hN : Nums ts.length rows) : callB SP i_spec_l05Torus [.agg (SetC c s), .sl q] h0 fun b h' => (b = true ↔ Filling ts rows ∧ CylEnds ts rows ∧ TorEnds ts rows) ∧ Ext h0 h' := by
  have hl := r.tlen
  have hq := rr.len
  have hT := hN.2
  have hrow := hT.2 0 (by have := hT.1; omega)
  have hlast := hT.2 (rows.length - 1) (by have := hT.1; omega)
  have h8 := hT.1
  apply spec_l05Torus_call
  unfold spec_l05Torus_main
  refine newK_obj fun h1 o1 x1 n1 => ?_
  refine spec_l05Torus_rule0 _ _ _ _ (fun i h => 0 ≤ i ∧ i ≤ (rw_ rows 0).length ∧ h = h1 ∧ ∀ x, x < i.toNat → S_ ts rows (rows.length - 1) x 3 = S_ ts rows 0 x 1) (fun i _ => ((rw_ rows 0).length - i).toNat) ?_ _ ⟨by omega, by omega, rfl, fun y hy => by omega⟩
  rintro X i h ⟨i0, i1, e, hj⟩ hX
  rw [e]
  unfold spec_l05Torus_b0 spec_l05Torus_C0
  have r1 := r.ext x1
  have rr1 := rr.ext x1
  refine rr1.ldG (by omega) (by omega) fun v rv lv => ?_
  have lv0 : v.len = (rw_ rows 0).length := lv
  refine bif_dec (fun hi => ?_) (fun hi => ?_)
  · rw [w64_of (n := (q.len : Int) - 1) (by omega) (by omega)]
    have hx : ((q.len : Int) - 1).toNat = rows.length - 1 := by omega
    refine side_at o1 r1 rr1 (by omega) (by omega) i0 (by rw [hx]; omega) (by rw [hx]; exact hN.1 _ _ (by omega) (by omega)) (by omega) (by omega) ?_
    refine side_at o1 r1 rr1 (by omega) (by omega) i0 (by simpa using (by omega)) (hN.1 _ _ (by simpa using (by omega)) (by simpa using (by omega))) (by omega) (by omega) ?_
    rw [hx]
    refine bif_ne (fun hq => ⟨_, rfl, ?_, x1⟩) (fun hq => ?_)
    · simp only [Bool.false_eq_true, false_iff]
      exact fun f => hq (f.2.2 _ (by omega))
    rw [w64_of (by omega) (by omega)]
    refine hX _ _ ⟨by omega, by omega, rfl, fun y hy => ?_⟩ (by omega)
    by_cases e : y = i.toNat
    · subst e; exact hq
    · exact hj y (by omega)
  · refine o1.ldA rfl ?_
    refine (l01Good_c r1 rr1 hN).to ?_
    rintro b h2 ⟨hb, x2⟩
    refine bif_b (fun hbt => ?_) (fun hbf => ⟨_, rfl, ?_, x1.trans x2⟩)
    · refine (o1.ext x2).ldA rfl ?_
      refine (l05Cylinder_c (r1.ext x2) (rr1.ext x2) hN).to ?_
      rintro b' h3 ⟨hb', x3⟩
      exact ⟨_, rfl, by rw [hb']; exact ⟨fun f => ⟨hb.1 hbt, f, fun y hy => hj y (by omega)⟩, fun f => f.2.1⟩, (x1.trans x2).trans x3⟩
    · simp only [Bool.false_eq_true, false_iff]
      intro f
      rw [hb.2 f.1] at hbf; cases hbf
theorem isTorus_c (r : Rd h0 s 4 (tcs ts)) (rr : RdSS h0 q rows) (hN : Nums ts.length rows) : callB SP i_impl_Set_isTorus [.agg (SetC c s), .sl q] h0 fun b h' => (b = true ↔ Filling ts rows ∧ CylEnds ts rows ∧ TorEnds ts rows) ∧ Ext h0 h' := by
  have hl := r.tlen
  have hq := rr.len
  have hT := hN.2
  have hrow := hT.2 0 (by have := hT.1; omega)
  have hlast := hT.2 (rows.length - 1) (by have := hT.1; omega)
  have h8 := hT.1
  apply impl_Set_isTorus_call
  unfold impl_Set_isTorus_main
  refine newK_obj fun h1 o1 x1 n1 => ?_
  have r1 := r.ext x1
  have rr1 := rr.ext x1
  refine rr1.ldG (by omega) (by omega) fun v rv lv => ?_
  have lv0 : v.len = (rw_ rows 0).length := lv
  refine impl_Set_isTorus_rule0 _ _ _ _ _ _ (fun i h => 0 ≤ i ∧ i ≤ (rw_ rows 0).length ∧ h = h1 ∧ ∀ x, x < i.toNat → S_ ts rows (rows.length - 1) x 3 = S_ ts rows 0 x 1) (fun i _ => ((rw_ rows 0).length - i).toNat) ?_ _ ⟨by omega, by omega, rfl, fun y hy => by omega⟩
  rintro X i h ⟨i0, i1, e, hj⟩ hX
  rw [e]
  unfold impl_Set_isTorus_b0 impl_Set_isTorus_C0
  refine bif_dec (fun hi => ?_) (fun hi => ?_)
  · have rv0 : Rd h1 v 1 (ic (rw_ rows 0)) := rv
    refine rv0.ldG i0 (by omega) ?_
    rw [w64_of (n := (q.len : Int) - 1) (by omega) (by omega)]
    have hx : ((q.len : Int) - 1).toNat = rows.length - 1 := by omega
    have hg := hN.1 0 i.toNat (by omega) (by omega)
    refine side_at o1 r1 rr1 (by omega) (by omega) i0 (by rw [hx]; omega) (by rw [hx]; exact hN.1 _ _ (by omega) (by omega)) (by omega) (by omega) ?_
    refine side_of o1 r1 hg.1 hg.2 (by omega) (by omega) ?_
    rw [hx]
    refine bif_ne (fun hq => ⟨_, rfl, ?_, x1⟩) (fun hq => ?_)
    · simp only [Bool.false_eq_true, false_iff]
      exact fun f => hq (f.2.2 _ (by omega))
    rw [w64_of (by omega) (by omega)]
    refine hX _ _ ⟨by omega, by omega, rfl, fun y hy => ?_⟩ (by omega)
    by_cases e : y = i.toNat
    · subst e; exact hq
    · exact hj y (by omega)
  · refine o1.ldA rfl ?_
    refine (isCylinder_c r1 rr1 hN).to ?_
    rintro b h2 ⟨hb, x2⟩
    exact ⟨_, rfl, by rw [hb]; exact ⟨fun f => ⟨f.1, f.2, fun y hy => hj y (by omega)⟩, fun f => ⟨f.1, f.2.1⟩⟩, x1.trans x2⟩
end
end Go.Proofs.YtcoampecbpiecaaGreat.Cl

/- Contracts of IsCylinder and IsTorus. No claim is stated here. -/
set_option linter.unusedVariables false
set_option linter.unusedSimpArgs false
namespace Go.Proofs.YtcoampecbpiecaaGreat.Cl
open Go
noncomputable def F_IsTorus_0 (c : Int) (ts : List Tile) (rows : List (List Int)) : Bool := bP ((setOK c ts ∧ Nums ts.length rows) ∧ Filling ts rows ∧ CylEnds ts rows ∧ TorEnds ts rows)
section
variable {h0 : H} {c : Int} {s q : Sl} {ts : List Tile} {rows : List (List Int)}
theorem areNumbers_1 (r : Rd h0 s 4 (tcs ts)) (rr : RdSS h0 q rows) (sz : ts.length ≤ 1048576) (szr : rows.length ≤ 1048576) (sd : ∀ l ∈ rows, l.length ≤ 1048576) : callB SP i_impl_Set_areNumbers [.agg (SetC c s), .sl q] h0 fun b h' => (b = true ↔ Nums ts.length rows) ∧ Ext h0 h' :=
  areNumbers_c r rr (by omega) (by omega) fun l hl => by have := sd l hl; omega
theorem impl_IsTorus_c (r : Rd h0 s 4 (tcs ts)) (rr : RdSS h0 q rows) (sz : ts.length ≤ 1048576) (szr : rows.length ≤ 1048576) (sd : ∀ l ∈ rows, l.length ≤ 1048576) :
    callV SP i_impl_IsTorus [.agg (SetC c s), .sl q] h0 fun v h' => v = .tuple [.bool (F_IsTorus_0 c ts rows), i64 (codeOf (setOK c ts) (Nums ts.length rows))] ∧ Ext h0 h' := by
  apply impl_IsTorus_call
  unfold impl_IsTorus_main
  refine newK_obj fun h1 o1 x1 n1 => ?_
  refine newO_var fun h2 v2 x2 n2 => ?_
  have o2 := o1.ext x2
  have x12 := x1.trans x2
  refine o2.ldA rfl ?_
  refine (setCode_c (r.ext x12) (by omega) _ _ (Nums ts.length rows) fun _ h x => ?_).to ?_
  · apply impl_IsTorus_1_call
    unfold impl_IsTorus_1_main
    refine (o2.ext x).ldA rfl ?_
    refine (v2.ext x).ldS ?_
    refine (areNumbers_1 (r.ext (x12.trans x)) (rr.ext (x12.trans x)) sz szr sd).to ?_
    exact fun b h' e => ⟨_, rfl, e⟩
  rintro n h3 ⟨rfl, x3⟩
  have X := x12.trans x3
  refine bif_ne (fun hq => ⟨?_, X⟩) (fun hq => ?_)
  · have := codeOf_cond hq
    unfold F_IsTorus_0
    rw [bP_no fun f => this f.1]
  have hc := codeOf_zero hq
  refine (o2.ext x3).ldA rfl ?_
  refine (v2.ext x3).ldS ?_
  refine (isTorus_c (r.ext X) (rr.ext X) hc.2).to ?_
  rintro b h4 ⟨hb, x4⟩
  refine ⟨?_, X.trans x4⟩
  rw [hq]
  unfold F_IsTorus_0
  rw [bP_of (A := (setOK c ts ∧ Nums ts.length rows) ∧ Filling ts rows ∧ CylEnds ts rows ∧ TorEnds ts rows) (hb.trans ⟨fun f => ⟨hc, f⟩, fun f => f.2⟩)]
end
end Go.Proofs.YtcoampecbpiecaaGreat.Cl

/- Contracts of shifted tori: shifts, comparing, least forms, shifts that keep. No claim is stated here. -/
set_option linter.unusedVariables false
set_option linter.unusedSimpArgs false
namespace Go.Proofs.YtcoampecbpiecaaGreat.Cl
open Go
/-! ### one element more -/
theorem push_c {h : H} {s : Sl} {l : List AVal} {x : AVal} (r : Ow h s 1 l) (hl : (s.len : Int) + 1 ≤ lim) {K : Sl → H → Prop}
    (hk : ∀ s' h', Ow h' s' 1 (l ++ [x]) → s'.len = s.len + 1 → But s.o h h' → (∀ n, Fr n s → n ≤ h.length → Fr n s') → K s' h') : newS 1 1 [x] h fun t h1 => app s t 1 h1 K := by
  refine newS_ow (by rfl) fun t h1 ot tl to e1 => ?_
  subst e1
  refine app_ow (by omega) (r.ext (Ext.app _ _)) ot.rd (by rw [tl]; exact_mod_cast hl) fun s' h' o' ln b k1 k2 => hk s' h' o' (by omega) ?_ fun n fn hn o e => ?_
  · exact ((Ext.app h _).but _).trans b
  · cases hq : s.o with
    | none => have := k2 hq o e; simp at this; omega
    | some p => rw [k1 p hq] at e; cases e; exact fn _ hq
theorem pushI {h : H} {s : Sl} {l : List Int} {x : Int} (r : Ow h s 1 (ic l)) (hl : (l.length : Int) + 1 ≤ lim) {K : Sl → H → Prop}
    (hk : ∀ s' h', Ow h' s' 1 (ic (l ++ [x])) → But s.o h h' → (∀ n, Fr n s → n ≤ h.length → Fr n s') → K s' h') : newS 1 1 [.int .i64 x] h fun t h1 => app s t 1 h1 K := by
  refine push_c r (by have := r.rd.ilen; omega) fun s' h' o' _ b f => hk s' h' ?_ b f
  rw [ic_app]; exact o'
theorem NewSS.push {n m : Nat} {h : H} {s : Sl} {ls : List (List Int)} (r : NewSS n h s ls) {v : Sl} {l : List Int} (ov : Ow h v 1 (ic l)) (fv : Fr m v) (hnm : n ≤ m) (hm : ∃ h0 : H, NewSS n h0 s ls ∧ h0.length ≤ m ∧ Ext h0 h)
    (hl : (ls.length : Int) + 1 ≤ lim) (hnh : n ≤ h.length) {K : Sl → H → Prop} (hk : ∀ s' h', NewSS n h' s' (ls ++ [l]) → But s.o h h' → K s' h') : newS 1 1 [.sl v] h fun t h1 => Cl.app s t 1 h1 K := by
  refine newS_ow (by rfl) fun t h1 ot tl to e1 => ?_
  have e1' : Ext h h1 := by rw [e1]; exact Ext.app _ _
  obtain ⟨h0, r0, l0, x0⟩ := hm
  refine (r.ext e1').app_new (ov.ext e1') fv hnm ⟨h0, r0, l0, x0.trans e1'⟩ ot.rd hl (Nat.le_trans hnh e1'.len) fun s' h' n' b _ _ => hk s' h' n' ((e1'.but _).trans b)
theorem NewSS.fr {n h s ls} (r : NewSS n h s ls) : Fr n s := by obtain ⟨_, _, _, f, _⟩ := r; exact f
/-! ### tables of numbers -/
def tab1 (n : Nat) (f : Nat → Int) : List Int := (List.range n).map f
def tab2 (n : Nat) (f : Nat → List Int) : List (List Int) := (List.range n).map f
theorem tab1_len (n f) : (tab1 n f).length = n := by simp [tab1]
theorem tab2_len (n f) : (tab2 n f).length = n := by simp [tab2]
theorem tab1_succ (n f) : tab1 (n + 1) f = tab1 n f ++ [f n] := by simp [tab1, List.range_succ]
theorem tab2_succ (n f) : tab2 (n + 1) f = tab2 n f ++ [f n] := by simp [tab2, List.range_succ]
theorem tab2_row {n f y} (h : y < n) : rw_ (tab2 n f) y = f y := by
  unfold rw_ tab2
  rw [List.getD_eq_getElem?_getD, List.getElem?_map, List.getElem?_range h]; rfl
theorem tab1_at {n f y} (h : y < n) : (tab1 n f).getD y 0 = f y := by
  unfold tab1
  rw [List.getD_eq_getElem?_getD, List.getElem?_map, List.getElem?_range h]; rfl
theorem foldl_range_succ {α : Type} (g : α → Nat → α) (x : α) (n : Nat) : (List.range (n + 1)).foldl g x = g ((List.range n).foldl g x) n := by
  rw [List.range_succ, List.foldl_append]; rfl
/-! ### shifts -/
abbrev wide (rows : List (List Int)) : Nat := (rw_ rows 0).length
def shiftG (rows : List (List Int)) (a b : Nat) : List (List Int) := tab2 rows.length fun y => tab1 (wide rows) fun x => G rows ((y + a) % rows.length) ((x + b) % wide rows)
/-- Rows of one length, not too many. -/
structure Rect (rows : List (List Int)) : Prop where
  h0 : 1 ≤ rows.length
  h1 : rows.length ≤ 8
  w : ∀ y, y < rows.length → (rw_ rows y).length = wide rows
  w0 : 1 ≤ wide rows
  w1 : wide rows ≤ 8
theorem Nums.rect {n rows} (h : Nums n rows) : Rect rows := by
  have h2 := h.2.2
  have h1 := h.2.1
  have := h2 0 (by omega)
  exact ⟨by omega, by omega, fun y hy => (h2 y hy).1, this.2.1, by have := this.2.2; unfold wide; omega⟩
theorem shiftG_len (rows a b) : (shiftG rows a b).length = rows.length := tab2_len _ _
theorem shiftG_row {rows a b y} (h : y < rows.length) : (rw_ (shiftG rows a b) y).length = wide rows := by unfold shiftG; rw [tab2_row h, tab1_len]
theorem Rect.shift {rows} (r : Rect rows) (a b) : Rect (shiftG rows a b) := by
  have w : wide (shiftG rows a b) = wide rows := shiftG_row r.h0
  exact ⟨by rw [shiftG_len]; exact r.h0, by rw [shiftG_len]; exact r.h1, fun y hy => by rw [w]; rw [shiftG_len] at hy; exact shiftG_row hy, by rw [w]; exact r.w0, by rw [w]; exact r.w1⟩
theorem wrapmod {i a n : Int} (h0 : 0 ≤ i) (h1 : i < 1000) (a0 : 0 ≤ a) (a1 : a < 1000) (n0 : 0 < n) : 0 ≤ Int.tmod (w64 (i + a)) n ∧ Int.tmod (w64 (i + a)) n < n ∧ (Int.tmod (w64 (i + a)) n).toNat = (i.toNat + a.toNat) % n.toNat := by
  rw [w64_of (by omega) (by omega)]
  have e : Int.tmod (i + a) n = (i + a) % n := Int.tmod_eq_emod_of_nonneg (by omega)
  rw [e]
  have h2 := Int.emod_nonneg (i + a) (show n ≠ 0 by omega)
  have h3 := Int.emod_lt_of_pos (i + a) n0
  refine ⟨h2, h3, ?_⟩
  have : ((i.toNat + a.toNat : Nat) : Int) % ((n.toNat : Nat) : Int) = (i + a) % n := by
    rw [show ((i.toNat + a.toNat : Nat) : Int) = i + a by omega, show ((n.toNat : Nat) : Int) = n by omega]
  omega
section
variable {h0 : H} {q : Sl} {rows : List (List Int)}
theorem shifted_c (rr : RdSS h0 q rows) (R : Rect rows) (a b : Int) (a0 : 0 ≤ a) (a1 : a < 1000) (b0 : 0 ≤ b) (b1 : b < 1000) : callS SP i_impl_shifted [.sl q, i64 a, i64 b] h0 fun s h' => NewSS h0.length h' s (shiftG rows a.toNat b.toNat) ∧ Ext h0 h' := by
  have hq := rr.len
  have R0 := R.h0; have R1 := R.h1; have W0 := R.w0; have W1 := R.w1
  apply impl_shifted_call
  unfold impl_shifted_main
  refine newS_ow (by rfl) fun s h1 os ls so e1 => ?_
  have x1 : Ext h0 h1 := by rw [e1]; exact Ext.app _ _
  refine rr.ixC (by omega) (by omega) fun p v e3 rv lv => ⟨v, x1.cell e3, (x1.cellE e3).symm, ?_⟩
  have lv0 : v.len = wide rows := lv
  have ns : NewSS h0.length h1 s [] := NewSS.mk0 os (fun o e => by rw [so] at e; cases e; exact Nat.le_refl _)
  refine impl_shifted_rule0 _ _ _ _ _ _ _ _ (fun s i h => 0 ≤ i ∧ i ≤ rows.length ∧ Ext h0 h ∧ NewSS h0.length h s (tab2 i.toNat fun y => tab1 (wide rows) fun x => G rows ((y + a.toNat) % rows.length) ((x + b.toNat) % wide rows))) (fun _ i _ => (rows.length - i).toNat) ?_ _ _ ⟨by omega, by omega, x1, by simpa [tab2] using ns⟩
  rintro X s i h ⟨i0, i1, x, n⟩ hX
  unfold impl_shifted_b0 impl_shifted_C0
  refine bif_dec (fun hi => ?_) (fun hi => ⟨_, rfl, ?_, x⟩)
  · refine newS_ow (by rfl) fun t h2 ot lt to e2 => ?_
    have x2 : Ext h h2 := by rw [e2]; exact Ext.app _ _
    refine impl_shifted_rule2 _ _ X _ _ _ _ _ _ _ _ _ _ (fun t k h' => 0 ≤ k ∧ k ≤ wide rows ∧ Ext h h' ∧ Ow h' t 1 (ic (tab1 k.toNat fun x => G rows ((i.toNat + a.toNat) % rows.length) ((x + b.toNat) % wide rows))) ∧ Fr h.length t) (fun _ k _ => (wide rows - k).toNat) ?_ _ _ ⟨by omega, by omega, x2, by simpa [tab1, ic] using ot, fun o e => by rw [to] at e; cases e; exact Nat.le_refl _⟩
    rintro Y t k h' ⟨k0, k1, x', ot, ft⟩ hY
    unfold impl_shifted_b2 impl_shifted_C2 impl_shifted_C1
    refine bif_dec (fun hki => ?_) (fun hki => ?_)
    · obtain ⟨m1, m2, m3⟩ := wrapmod (n := q.len) i0 (by omega) a0 a1 (by omega)
      obtain ⟨m4, m5, m6⟩ := wrapmod (n := v.len) k0 (by omega) b0 b1 (by omega)
      refine ⟨by omega, ?_⟩
      refine (rr.ext (x.trans x')).ldG m1 (by omega) fun u ru lu => ?_
      have hw := R.w (Int.tmod (w64 (i + a)) q.len).toNat (by omega)
      refine ⟨by omega, ?_⟩
      refine ru.ldG m4 (by omega) ?_
      rw [m3, m6, show ((q.len : Int)).toNat = rows.length by omega, show ((v.len : Int)).toNat = wide rows by omega]
      refine pushI ot (by rw [tab1_len]; unfold lim; omega) fun t' h'' ot' bt ft' => ?_
      rw [w64_of (by omega) (by omega)]
      refine hY _ _ _ ⟨by omega, by omega, x'.but_ bt (fun o e => ft o e), ?_, ft' _ ft x'.len⟩ (by omega)
      rw [show (k + 1).toNat = k.toNat + 1 by omega, tab1_succ]
      exact ot'
    · have hk : k.toNat = wide rows := by omega
      rw [hk] at ot
      refine (n.ext x').push ot ft x.len ⟨h, n, Nat.le_refl _, x'⟩ (by rw [tab2_len]; unfold lim; omega) (Nat.le_trans x.len x'.len) fun s' h'' n' bt => ?_
      rw [w64_of (by omega) (by omega)]
      refine hX _ _ _ ⟨by omega, by omega, (x.trans x').but_ bt (fun o e => n.fr o e), ?_⟩ (by omega)
      rw [show (i + 1).toNat = i.toNat + 1 by omega, tab2_succ]
      exact n'
  · rw [show i.toNat = rows.length by omega] at n
    exact n
theorem l05Shift_c (rr : RdSS h0 q rows) (R : Rect rows) (a b : Int) (a0 : 0 ≤ a) (a1 : a < 1000) (b0 : 0 ≤ b) (b1 : b < 1000) : callS SP i_spec_l05Shift [.sl q, i64 a, i64 b] h0 fun s h' => NewSS h0.length h' s (shiftG rows a.toNat b.toNat) ∧ Ext h0 h' := by
  have hq := rr.len
  have R0 := R.h0; have R1 := R.h1; have W0 := R.w0; have W1 := R.w1
  apply spec_l05Shift_call
  unfold spec_l05Shift_main
  refine rr.ixC (by omega) (by omega) fun p v e3 rv lv => ⟨v, e3, ?_⟩
  have lv0 : v.len = wide rows := lv
  refine newS_ow (by rfl) fun s h1 os ls so e1 => ?_
  have x1 : Ext h0 h1 := by rw [e1]; exact Ext.app _ _
  refine ⟨x1.cellE e3, ?_⟩
  have ns : NewSS h0.length h1 s [] := NewSS.mk0 os (fun o e => by rw [so] at e; cases e; exact Nat.le_refl _)
  refine spec_l05Shift_rule0 _ _ _ _ _ _ _ (fun s i h => 0 ≤ i ∧ i ≤ rows.length ∧ Ext h0 h ∧ NewSS h0.length h s (tab2 i.toNat fun y => tab1 (wide rows) fun x => G rows ((y + a.toNat) % rows.length) ((x + b.toNat) % wide rows))) (fun _ i _ => (rows.length - i).toNat) ?_ _ _ ⟨by omega, by omega, x1, by simpa [tab2] using ns⟩
  rintro X s i h ⟨i0, i1, x, n⟩ hX
  unfold spec_l05Shift_b0 spec_l05Shift_C0
  refine bif_dec (fun hi => ?_) (fun hi => ⟨_, rfl, ?_, x⟩)
  · refine newS_ow (by rfl) fun t h2 ot lt to e2 => ?_
    have x2 : Ext h h2 := by rw [e2]; exact Ext.app _ _
    refine spec_l05Shift_rule2 _ _ X _ _ _ _ _ _ _ (fun t k h' => 0 ≤ k ∧ k ≤ wide rows ∧ Ext h h' ∧ Ow h' t 1 (ic (tab1 k.toNat fun x => G rows ((i.toNat + a.toNat) % rows.length) ((x + b.toNat) % wide rows))) ∧ Fr h.length t) (fun _ k _ => (wide rows - k).toNat) ?_ _ _ ⟨by omega, by omega, x2, by simpa [tab1, ic] using ot, fun o e => by rw [to] at e; cases e; exact Nat.le_refl _⟩
    rintro Y t k h' ⟨k0, k1, x', ot, ft⟩ hY
    unfold spec_l05Shift_b2 spec_l05Shift_C2 spec_l05Shift_C1
    refine bif_dec (fun hki => ?_) (fun hki => ?_)
    · obtain ⟨m1, m2, m3⟩ := wrapmod (n := q.len) i0 (by omega) a0 a1 (by omega)
      obtain ⟨m4, m5, m6⟩ := wrapmod (n := v.len) k0 (by omega) b0 b1 (by omega)
      refine ⟨by omega, ?_⟩
      refine (rr.ext (x.trans x')).ldG m1 (by omega) fun u ru lu => ?_
      have hw := R.w (Int.tmod (w64 (i + a)) q.len).toNat (by omega)
      refine ⟨by omega, ?_⟩
      refine ru.ldG m4 (by omega) ?_
      rw [m3, m6, show ((q.len : Int)).toNat = rows.length by omega, show ((v.len : Int)).toNat = wide rows by omega]
      refine pushI ot (by rw [tab1_len]; unfold lim; omega) fun t' h'' ot' bt ft' => ?_
      rw [w64_of (by omega) (by omega)]
      refine hY _ _ _ ⟨by omega, by omega, x'.but_ bt (fun o e => ft o e), ?_, ft' _ ft x'.len⟩ (by omega)
      rw [show (k + 1).toNat = k.toNat + 1 by omega, tab1_succ]
      exact ot'
    · have hk : k.toNat = wide rows := by omega
      rw [hk] at ot
      refine (n.ext x').push ot ft x.len ⟨h, n, Nat.le_refl _, x'⟩ (by rw [tab2_len]; unfold lim; omega) (Nat.le_trans x.len x'.len) fun s' h'' n' bt => ?_
      rw [w64_of (by omega) (by omega)]
      refine hX _ _ _ ⟨by omega, by omega, (x.trans x').but_ bt (fun o e => n.fr o e), ?_⟩ (by omega)
      rw [show (i + 1).toNat = i.toNat + 1 by omega, tab2_succ]
      exact n'
  · rw [show i.toNat = rows.length by omega] at n
    exact n
end
/-! ### comparing rows -/
def cmpLL : List (List Int) → List (List Int) → Int
  | [], [] => 0
  | [], _ :: _ => -1
  | _ :: _, [] => 1
  | a :: l, b :: m => if cmpL a b ≠ 0 then cmpL a b else cmpLL l m
theorem cmpL_anti : ∀ a b, cmpL b a = - cmpL a b
  | [], [] => rfl
  | [], _ :: _ => rfl
  | _ :: _, [] => rfl
  | a :: l, b :: m => by
    simp only [cmpL]
    rw [cmpL_anti l m]
    split <;> split <;> first | omega | (split <;> first | omega | rfl) | skip
theorem cmpLL_anti : ∀ a b, cmpLL b a = - cmpLL a b
  | [], [] => rfl
  | [], _ :: _ => rfl
  | _ :: _, [] => rfl
  | a :: l, b :: m => by
    simp only [cmpLL]
    rw [cmpLL_anti l m, cmpL_anti a b]
    split <;> split <;> first | omega | rfl
theorem cmpL_self : ∀ a, cmpL a a = 0
  | [] => rfl
  | a :: l => by simp [cmpL, cmpL_self l]
theorem cmpLL_self : ∀ a, cmpLL a a = 0
  | [] => rfl
  | a :: l => by simp [cmpLL, cmpL_self a, cmpLL_self l]
section
variable {h0 : H} {q q' : Sl} {A B : List (List Int)}
theorem compareRows_c (ra : RdSS h0 q A) (rb : RdSS h0 q' B) (ha : A.length < 1000000) (hb : B.length < 1000000) (hal : ∀ l ∈ A, l.length < 1000000) : callI SP .i64 i_impl_compareRows [.sl q, .sl q'] h0 fun n h' => n = cmpLL A B ∧ h' = h0 := by
  have hq := ra.len
  have hq' := rb.len
  apply impl_compareRows_call
  unfold impl_compareRows_main
  have main : callI SP .i64 i_slices_CompareFunc_ss_int64_s_s_int64_s_int64_s_int64_ [.sl q, .sl q', .func i_impl_compareRows_1 []] h0 fun n h' => n = cmpLL A B ∧ h' = h0 := by
    apply slices_CompareFunc_ss_int64_s_s_int64_s_int64_s_int64__call
    unfold slices_CompareFunc_ss_int64_s_s_int64_s_int64_s_int64__main
    refine slices_CompareFunc_ss_int64_s_s_int64_s_int64_s_int64__rule0 _ _ _ _ _ _ _ (fun i h => 0 ≤ i ∧ i ≤ A.length ∧ i ≤ B.length ∧ h = h0 ∧ cmpLL A B = cmpLL (A.drop i.toNat) (B.drop i.toNat)) (fun i _ => (A.length - i).toNat) ?_ _ ⟨by omega, by omega, by omega, rfl, rfl⟩
    rintro X i h ⟨i0, i1, i2, e, hc⟩ hX
    rw [e]
    unfold slices_CompareFunc_ss_int64_s_s_int64_s_int64_s_int64__b0 slices_CompareFunc_ss_int64_s_s_int64_s_int64_s_int64__C0
    refine bif_dec (fun hi => ?_) (fun hi => ?_)
    · refine ra.ldG i0 (by omega) fun u ru lu => ?_
      rw [drop_cons (at_rw (rows := A) (y := i.toNat) (by omega))] at hc
      refine bif_dec (fun hj => ⟨_, rfl, ?_, rfl⟩) (fun hj => ?_)
      · rw [hc, show B.drop i.toNat = [] from List.drop_eq_nil_of_le (by omega)]; rfl
      refine rb.ldG i0 (by omega) fun w rw1 lw => ?_
      rw [drop_cons (at_rw (rows := B) (y := i.toNat) (by omega))] at hc
      refine via_func ?_
      have hl : (rw_ A i.toNat).length < 1000000 := hal _ (List.mem_of_getElem? (at_rw (rows := A) (y := i.toNat) (by omega)))
      have c1 : callI SP .i64 i_impl_compareRows_1 [.sl u, .sl w] h0 fun n h' => n = cmpL (rw_ A i.toNat) (rw_ B i.toNat) ∧ h' = h0 := by
        apply impl_compareRows_1_call
        unfold impl_compareRows_1_main
        refine (sCompare_c ru rw1 (by omega)).to ?_
        rintro _ _ ⟨rfl, rfl⟩
        exact ⟨_, rfl, rfl, rfl⟩
      refine c1.to ?_
      rintro n _ ⟨en, eh⟩
      rw [en, eh]
      simp only [cmpLL] at hc
      refine bif_ne (fun hn => ⟨_, rfl, ?_, rfl⟩) (fun hn => ?_)
      · rw [hc, if_pos hn]
      · rw [if_neg (by simpa using hn)] at hc
        rw [w64_of (by omega) (by omega)]
        refine hX _ _ ⟨by omega, by omega, by omega, rfl, ?_⟩ (by omega)
        rw [show (i + 1).toNat = i.toNat + 1 by omega]; exact hc
    · rw [show A.drop i.toNat = [] from List.drop_eq_nil_of_le (by omega)] at hc
      refine bif_dec (fun hj => ⟨_, rfl, ?_, rfl⟩) (fun hj => ⟨_, rfl, ?_, rfl⟩)
      · rw [hc, drop_cons (at_rw (rows := B) (y := i.toNat) (by omega))]; rfl
      · rw [hc, show B.drop i.toNat = [] from List.drop_eq_nil_of_le (by omega)]; rfl
  refine main.to ?_
  rintro _ _ ⟨rfl, rfl⟩
  exact ⟨_, rfl, rfl, rfl⟩
theorem l05Less_c (ra : RdSS h0 q A) (rb : RdSS h0 q' B) (hs : A.length = B.length) (hw : ∀ y, y < A.length → (rw_ A y).length = (rw_ B y).length) (ha : A.length < 1000000) (hal : ∀ y, y < A.length → (rw_ A y).length < 1000000) : callB SP i_spec_l05Less [.sl q, .sl q'] h0 fun b h' => b = decide (cmpLL A B < 0) ∧ h' = h0 := by
  have hq := ra.len
  have hq' := rb.len
  apply spec_l05Less_call
  unfold spec_l05Less_main
  refine spec_l05Less_rule0 _ _ _ _ (fun i h => 0 ≤ i ∧ i ≤ A.length ∧ h = h0 ∧ cmpLL A B = cmpLL (A.drop i.toNat) (B.drop i.toNat)) (fun i _ => (A.length - i).toNat) ?_ _ ⟨by omega, by omega, rfl, rfl⟩
  rintro X i h ⟨i0, i1, e, hc⟩ hX
  rw [e]
  unfold spec_l05Less_b0 spec_l05Less_C0
  refine bif_dec (fun hi => ?_) (fun hi => ⟨_, rfl, ?_, rfl⟩)
  · have hwi := hw i.toNat (by omega)
    have hli := hal i.toNat (by omega)
    rw [drop_cons (at_rw (rows := A) (y := i.toNat) (by omega)), drop_cons (at_rw (rows := B) (y := i.toNat) (by omega))] at hc
    simp only [cmpLL] at hc
    refine spec_l05Less_rule2 _ _ X _ _ _ (fun k h => 0 ≤ k ∧ k ≤ (rw_ A i.toNat).length ∧ h = h0 ∧ cmpL (rw_ A i.toNat) (rw_ B i.toNat) = cmpL ((rw_ A i.toNat).drop k.toNat) ((rw_ B i.toNat).drop k.toNat)) (fun k _ => ((rw_ A i.toNat).length - k).toNat) ?_ _ ⟨by omega, by omega, rfl, rfl⟩
    rintro Y k h' ⟨k0, k1, e', hk⟩ hY
    rw [e']
    unfold spec_l05Less_b2 spec_l05Less_C2 spec_l05Less_C1
    refine ra.ldG i0 (by omega) fun u ru lu => ?_
    refine bif_dec (fun hki => ?_) (fun hki => ?_)
    · refine ra.ldG i0 (by omega) fun u1 ru1 lu1 => ?_
      refine ru1.ldG k0 (by omega) ?_
      refine rb.ldG i0 (by omega) fun u2 ru2 lu2 => ?_
      refine ru2.ldG k0 (by omega) ?_
      have d1 : (rw_ A i.toNat)[k.toNat]? = some ((rw_ A i.toNat).getD k.toNat 0) := by rw [List.getD_eq_getElem?_getD, List.getElem?_eq_getElem (by omega)]; rfl
      have d2 : (rw_ B i.toNat)[k.toNat]? = some ((rw_ B i.toNat).getD k.toNat 0) := by rw [List.getD_eq_getElem?_getD, List.getElem?_eq_getElem (by omega)]; rfl
      rw [drop_cons d1, drop_cons d2] at hk
      simp only [cmpL] at hk
      refine bif_ne (fun hn => ?_) (fun hn => ?_)
      · refine ra.ldG i0 (by omega) fun u3 ru3 lu3 => ?_
        refine ru3.ldG k0 (by omega) ?_
        refine rb.ldG i0 (by omega) fun u4 ru4 lu4 => ?_
        refine ru4.ldG k0 (by omega) ⟨_, rfl, ?_, rfl⟩
        rw [hc]
        by_cases hlt : (rw_ A i.toNat).getD k.toNat 0 < (rw_ B i.toNat).getD k.toNat 0
        · rw [if_pos hlt] at hk; rw [if_pos (by omega), hk, decide_eq_true hlt]; rfl
        · rw [if_neg hlt, if_pos (by omega)] at hk; rw [if_pos (by omega), hk, decide_eq_false hlt]; rfl
      · rw [if_neg (by omega), if_neg (by omega)] at hk
        rw [w64_of (by omega) (by omega)]
        refine hY _ _ ⟨by omega, by omega, rfl, ?_⟩ (by omega)
        rw [show (k + 1).toNat = k.toNat + 1 by omega]; exact hk
    · rw [List.drop_eq_nil_of_le (by omega), List.drop_eq_nil_of_le (by omega)] at hk
      have hk0 : cmpL (rw_ A i.toNat) (rw_ B i.toNat) = 0 := hk
      rw [if_neg (by simpa using hk0)] at hc
      rw [w64_of (by omega) (by omega)]
      refine hX _ _ ⟨by omega, by omega, rfl, ?_⟩ (by omega)
      rw [show (i + 1).toNat = i.toNat + 1 by omega]; exact hc
  · rw [List.drop_eq_nil_of_le (by omega), List.drop_eq_nil_of_le (by omega)] at hc
    rw [hc]; rfl
theorem compareRows_k (ra : RdSS h0 q A) (rb : RdSS h0 q' B) (ha : A.length < 1000000) (hb : B.length < 1000000) (hal : ∀ l ∈ A, l.length < 1000000) {K : Int → H → Prop} (hk : K (cmpLL A B) h0) : callI SP .i64 i_impl_compareRows [.sl q, .sl q'] h0 K :=
  (compareRows_c ra rb ha hb hal).to (by rintro _ _ ⟨rfl, rfl⟩; exact hk)
theorem l05Less_k (ra : RdSS h0 q A) (rb : RdSS h0 q' B) (hs : A.length = B.length) (hw : ∀ y, y < A.length → (rw_ A y).length = (rw_ B y).length) (ha : A.length < 1000000) (hal : ∀ y, y < A.length → (rw_ A y).length < 1000000) {K : Bool → H → Prop} (hk : K (decide (cmpLL A B < 0)) h0) : callB SP i_spec_l05Less [.sl q, .sl q'] h0 K :=
  (l05Less_c ra rb hs hw ha hal).to (by rintro _ _ ⟨rfl, rfl⟩; exact hk)
end
end Go.Proofs.YtcoampecbpiecaaGreat.Cl
