/- Contracts of functions, joined. No claim is stated here. -/
import Derived.Test.YtdmhchgaeepdmaaFa1
import Derived.Test.YtdmhchgaeepdmaaFG0
import Derived.Test.YtdmhchgaeepdmaaFG1
/- The clean machine: places of their own, variables in the heap. No claim is stated here. -/
set_option linter.unusedVariables false
set_option linter.unusedSimpArgs false
namespace Go.Proofs.Ytdmhchgaeepdmaa.Cl
open Go
/-! ### places of their own -/
theorem slotK_in {k : Nat} {h : H} {K : H → Prop} (hk : ∀ h1, Ext h h1 → h1.length = h.length + k → K h1) : slotK k h K :=
  hk _ (Ext.app _ _) (by simp)
theorem newSat_ow {h : H} {len z n : Nat} {cs : List AVal} (hn : n < h.length) (hc : cs.length = len * z) {K : Sl → H → Prop}
    (hk : ∀ s' h', Ow h' s' z cs → s'.len = len → s'.o = some n → But (some n) h h' → h'.length = h.length → K s' h') : newSat len z cs h n K :=
  hk _ _ ⟨hc, .inr ⟨n, rfl, rfl, rfl, rfl, by simp [hn]⟩⟩ rfl rfl ⟨by simp, fun i hi hne => by rw [List.getElem?_set, if_neg (fun e => hne (by rw [e]))]⟩ (by simp)
theorem mkSat_ow {h : H} {m : Int} {z : List AVal} {n : Nat} (hn : n < h.length) (h0 : 0 ≤ m) (h1 : m ≤ lim) {K : Sl → H → Prop}
    (hk : ∀ s' h', Ow h' s' z.length (List.replicate m.toNat z).flatten → s'.len = m.toNat → s'.o = some n → But (some n) h h' → h'.length = h.length → K s' h') : mkSat m z h n K :=
  ⟨⟨h0, h1⟩, hk _ _ ⟨by simp, .inr ⟨n, rfl, rfl, rfl, by simp, by simp [hn]⟩⟩ rfl rfl ⟨by simp, fun i hi hne => by rw [List.getElem?_set, if_neg (fun e => hne (by rw [e]))]⟩ (by simp)⟩
/-! ### variables -/
abbrev pt (o : Nat) : Pt := ⟨some o, 1, 0⟩
/-- The variable at o has the value v. -/
def Var (h : H) (o : Nat) (v : AVal) : Prop := h[o]? = some (.own [v])
theorem Var.lt {h o v} (x : Var h o v) : o < h.length := (List.getElem?_eq_some_iff.1 x).1
theorem Var.cell {h o v} (x : Var h o v) : Cl.cell h (pt o) = some v := by
  have x' : h[o]? = some (.own [v]) := x
  simp [Cl.cell, cells, x']
theorem Var.ext {h h' o v} (x : Var h o v) (e : Ext h h') : Var h' o v := e.own x
theorem Var.but {h h' o v} {p : Option Nat} (x : Var h o v) (b : But p h h') (hn : p ≠ some o) : Var h' o v := b.get x hn
theorem Var.ldI {h o n} {k : IntKind} (x : Var h o (.int k n)) {K : Int → Prop} (hk : K n) : Cl.ldI k (pt o) h K := ⟨n, x.cell, hk⟩
theorem Var.ldB {h o n} (x : Var h o (.bool n)) {K : Bool → Prop} (hk : K n) : Cl.ldB (pt o) h K := ⟨n, x.cell, hk⟩
theorem Var.ldS {h o n} (x : Var h o (.sl n)) {K : Sl → Prop} (hk : K n) : Cl.ldS (pt o) h K := ⟨n, x.cell, hk⟩
theorem Var.ldP {h o n} (x : Var h o (.ptr n)) {K : Pt → Prop} (hk : K n) : Cl.ldP (pt o) h K := ⟨n, x.cell, hk⟩
theorem Var.ldV {h o n} (x : Var h o n) {K : AVal → Prop} (hk : K n) : Cl.ldV (pt o) h K := ⟨n, x.cell, hk⟩
theorem Var.st {h o v} (x : Var h o v) (u : AVal) {K : H → Prop} (hk : ∀ h', Var h' o u → But (some o) h h' → h'.length = h.length → K h') : Cl.st1 (pt o) u h K := by
  have hl := x.lt
  refine ⟨h.set o (.own [u]), ?_, hk _ (by unfold Var; simp [hl]) ⟨by simp, fun i hi hne => by rw [List.getElem?_set, if_neg (fun e => hne (by rw [e]))]⟩ (by simp)⟩
  have x' : h[o]? = some (.own [v]) := x
  simp [put1, owned, x']
theorem newO_var {v : AVal} {h : H} {K : Pt → H → Prop} (hk : ∀ h', Var h' h.length v → Ext h h' → h'.length = h.length + 1 → K (pt h.length) h') : newO [v] h K :=
  hk _ (by unfold Var; simp) (Ext.app _ _) (by simp)
theorem newOat_var {v : AVal} {h : H} {n : Nat} (hn : n < h.length) {K : Pt → H → Prop} (hk : ∀ h', Var h' n v → But (some n) h h' → h'.length = h.length → K (pt n) h') : newOat [v] h n K :=
  hk _ (by unfold Var; simp [hn]) ⟨by simp, fun i hi hne => by rw [List.getElem?_set, if_neg (fun e => hne (by rw [e]))]⟩ (by simp)
/-- What is read at a place that is not changed. -/
theorem But.cellE {o : Option Nat} {h h' : H} {p : Pt} {v : AVal} (b : But o h h') (e : cell h p = some v) (hn : o ≠ p.o ∨ o = none) : cell h' p = cell h p := by
  unfold cell at *
  cases hp : p.o with
  | none => rfl
  | some i =>
    rw [hp] at e hn
    simp only at e ⊢
    obtain ⟨c, h1, h2⟩ := Option.bind_eq_some_iff.1 e
    have hl := cells_lt h1
    have : h'[i]? = h[i]? := b.2 i hl (by rcases hn with hn | hn; exact hn; rw [hn]; simp)
    have hc : cells h' i p.n = cells h i p.n := by unfold cells; rw [this]
    rw [hc]
theorem Ext.cellE {h h' : H} {p : Pt} {v : AVal} (b : Ext h h') (e : Cl.cell h p = some v) : Cl.cell h' p = Cl.cell h p := (b.but none).cellE e (.inr rfl)
/-! ### several changes -/
/-- h' is h, but for objects from n on. -/
def Till (n : Nat) (h h' : H) : Prop := h.length ≤ h'.length ∧ ∀ i, i < n → i < h.length → h'[i]? = h[i]?
theorem Till.refl (n h) : Till n h h := ⟨Nat.le_refl _, fun _ _ _ => rfl⟩
theorem Till.trans {n a b c} (x : Till n a b) (y : Till n b c) : Till n a c := ⟨Nat.le_trans x.1 y.1, fun i h1 h2 => by rw [y.2 i h1 (by have := x.1; omega), x.2 i h1 h2]⟩
theorem Ext.till {a b : H} (x : Ext a b) (n) : Till n a b := ⟨x.len, fun i _ h => x.get h⟩
theorem But.till {a b : H} {o : Option Nat} (x : But o a b) {n : Nat} (hn : ∀ i, o = some i → n ≤ i) : Till n a b := ⟨x.1, fun i h1 h2 => x.2 i h2 fun e => by have := hn i e; omega⟩
theorem Till.ext {n : Nat} {a b : H} (x : Till n a b) (hn : a.length ≤ n) : Ext a b := Ext.of x.1 fun i hi => x.2 i (by omega) hi
theorem Till.le {n m : Nat} {a b : H} (x : Till n a b) (h : m ≤ n) : Till m a b := ⟨x.1, fun i h1 h2 => x.2 i (by omega) h2⟩
theorem Till.get {n : Nat} {h h' : H} (x : Till n h h') {o : Nat} {v : AObj} (e : h[o]? = some v) (ho : o < n) : h'[o]? = some v := by rw [x.2 o ho (List.getElem?_eq_some_iff.1 e).1]; exact e
theorem Var.till {h h' o v n} (x : Var h o v) (b : Till n h h') (hn : o < n) : Var h' o v := b.get x hn
theorem Ext.till_ {h a b : H} {n : Nat} (x : Ext h a) (y : Till n a b) (hn : h.length ≤ n) : Ext h b :=
  Ext.of (Nat.le_trans x.len y.1) fun i hi => by rw [y.2 i (by omega) (by have := x.len; omega), x.get hi]
end Go.Proofs.Ytdmhchgaeepdmaa.Cl

/- The clean machine: objects, slices of slices, changes of several objects. No claim is stated here. -/
set_option linter.unusedVariables false
set_option linter.unusedSimpArgs false
namespace Go.Proofs.Ytdmhchgaeepdmaa.Cl
open Go
/-! ### objects -/
def Obj (h : H) (o : Nat) (cs : List AVal) : Prop := h[o]? = some (.own cs)
theorem Obj.lt {h o cs} (x : Obj h o cs) : o < h.length := (List.getElem?_eq_some_iff.1 x).1
theorem Obj.ext {h h' o cs} (x : Obj h o cs) (e : Ext h h') : Obj h' o cs := e.own x
theorem Obj.but {h h' o cs} {p : Option Nat} (x : Obj h o cs) (b : But p h h') (hn : p ≠ some o) : Obj h' o cs := b.get x hn
theorem newK_obj {k : Nat} {cs : List AVal} {h : H} {K : Pt → H → Prop} (hk : ∀ h', Obj h' h.length cs → Ext h h' → h'.length = h.length + 1 → K ⟨some h.length, k, 0⟩ h') (hc : cs.length = k := by rfl) : newK k cs h K :=
  ⟨hc, hk _ (by unfold Obj; simp) (Ext.app _ _) (by simp)⟩
theorem newO_obj {cs : List AVal} {h : H} {K : Pt → H → Prop} (hk : ∀ h', Obj h' h.length cs → Ext h h' → h'.length = h.length + 1 → K ⟨some h.length, cs.length, 0⟩ h') : newO cs h K :=
  hk _ (by unfold Obj; simp) (Ext.app _ _) (by simp)
theorem isPt_in {o : Nat} {n off : Nat} {K : Prop} (hk : K) : isPt ⟨some o, n, off⟩ K := ⟨rfl, hk⟩
theorem Obj.cellE {h o cs} (x : Obj h o cs) {n i : Nat} (hn : cs.length = n) : Cl.cell h (Pt.add ⟨some o, n, 0⟩ i) = cs[i]? := by
  have x' : h[o]? = some (.own cs) := x
  simp [Cl.cell, Pt.add, cells, x', hn]
theorem Obj.ldI {h o cs} (x : Obj h o cs) {n i : Nat} {k : IntKind} {m : Int} (hn : cs.length = n) (e : cs[i]? = some (.int k m)) {K : Int → Prop} (hk : K m) : Cl.ldI k (Pt.add ⟨some o, n, 0⟩ i) h K := ⟨m, by rw [x.cellE hn, e], hk⟩
theorem Obj.ldB {h o cs} (x : Obj h o cs) {n i : Nat} {m : Bool} (hn : cs.length = n) (e : cs[i]? = some (.bool m)) {K : Bool → Prop} (hk : K m) : Cl.ldB (Pt.add ⟨some o, n, 0⟩ i) h K := ⟨m, by rw [x.cellE hn, e], hk⟩
theorem Obj.ldS {h o cs} (x : Obj h o cs) {n i : Nat} {m : Sl} (hn : cs.length = n) (e : cs[i]? = some (.sl m)) {K : Sl → Prop} (hk : K m) : Cl.ldS (Pt.add ⟨some o, n, 0⟩ i) h K := ⟨m, by rw [x.cellE hn, e], hk⟩
theorem Obj.ldA {h o cs} (x : Obj h o cs) {n : Nat} (hn : cs.length = n) {K : List AVal → Prop} (hk : K cs) : Cl.ldA ⟨some o, n, 0⟩ n h K := ld_own x hn hk
theorem Obj.stA {h o cs} (x : Obj h o cs) {n m : Nat} {vs : List AVal} {K : H → Prop} (hk : ∀ h', Obj h' o vs → But (some o) h h' → h'.length = h.length → K h') (hn : cs.length = n := by rfl) (hv : vs.length = m := by rfl) (hm : m = n := by rfl) : Cl.stN ⟨some o, n, 0⟩ m vs h K := by
  subst hm
  exact st_own x hn hv fun b e => hk _ e b (by simp)
theorem Obj.st1 {h o cs} (x : Obj h o cs) {n i : Nat} (hn : cs.length = n) (hi : i < n) (v : AVal) {K : H → Prop} (hk : ∀ h', Obj h' o (cs.set i v) → But (some o) h h' → h'.length = h.length → K h') : Cl.st1 (Pt.add ⟨some o, n, 0⟩ i) v h K := by
  have x' : h[o]? = some (.own cs) := x
  have hl := x.lt
  refine ⟨h.set o (.own (cs.set i v)), ?_, hk _ (by unfold Obj; simp [hl]) ⟨by simp, fun j hj hne => by rw [List.getElem?_set, if_neg (fun e => hne (by rw [e]))]⟩ (by simp)⟩
  unfold put1 owned Pt.add
  simp [x', hn, hi]
/-! ### changes of several objects -/
/-- h' is h but for objects of P, and for what is new. -/
def Chg (P : Nat → Prop) (h h' : H) : Prop := h.length ≤ h'.length ∧ ∀ i, i < h.length → ¬ P i → h'[i]? = h[i]?
theorem Chg.refl (P h) : Chg P h h := ⟨Nat.le_refl _, fun _ _ _ => rfl⟩
theorem Chg.trans {P a b c} (x : Chg P a b) (y : Chg P b c) : Chg P a c := ⟨Nat.le_trans x.1 y.1, fun i hi hn => by rw [y.2 i (by have := x.1; omega) hn, x.2 i hi hn]⟩
theorem Chg.to {P Q : Nat → Prop} {a b : H} (x : Chg P a b) (hq : ∀ i, i < a.length → P i → Q i) : Chg Q a b := ⟨x.1, fun i hi hn => x.2 i hi fun hp => hn (hq i hi hp)⟩
theorem Ext.chg {a b : H} (x : Ext a b) (P) : Chg P a b := ⟨x.len, fun i hi _ => x.get hi⟩
theorem But.chg {a b : H} {o : Option Nat} (x : But o a b) {P : Nat → Prop} (hp : ∀ i, o = some i → P i) : Chg P a b := ⟨x.1, fun i hi hn => x.2 i hi fun e => hn (hp i e)⟩
theorem Chg.get {P} {h h' : H} (b : Chg P h h') {i : Nat} {v : AObj} (e : h[i]? = some v) (hn : ¬ P i) : h'[i]? = some v := by
  rw [b.2 i (List.getElem?_eq_some_iff.1 e).1 hn, e]
theorem Chg.ext {P} {h h' : H} (b : Chg P h h') (hn : ∀ i, P i → h.length ≤ i) : Ext h h' := Ext.of b.1 fun i hi => b.2 i hi fun p => by have := hn i p; omega
theorem Ext.chg_ {P} {h a b : H} (x : Ext h a) (y : Chg P a b) (hn : ∀ i, P i → h.length ≤ i) : Ext h b :=
  Ext.of (Nat.le_trans x.len y.1) fun i hi => by
    rw [y.2 i (by have := x.len; omega) (fun p => by have := hn i p; omega), x.get hi]
theorem Chg.range {P} {h h' : H} (b : Chg P h h') {o n off k cs} (e : range h o n off k = some cs) (hn : ∀ i, o = some i → ¬ P i) : range h' o n off k = some cs := by
  obtain ⟨i, xs, rfl, hc, hl, rfl⟩ := range_some e
  refine range_of ?_ hl
  have := cells_lt hc
  unfold Cl.cells at hc ⊢
  rw [b.2 i this (hn i rfl)]; exact hc
theorem Rd.chg {P} {h h' : H} {s z cs} (r : Rd h s z cs) (b : Chg P h h') (hn : ∀ i, s.o = some i → ¬ P i) : Rd h' s z cs :=
  ⟨r.len, r.at_.imp id fun ⟨x, y, e⟩ => ⟨x, y, b.range e hn⟩⟩
theorem Ow.chg {P} {h h' : H} {s z cs} (r : Ow h s z cs) (b : Chg P h h') (hn : ∀ i, s.o = some i → ¬ P i) : Ow h' s z cs :=
  ⟨r.len, r.at_.imp id fun ⟨i, a, x, c, d, e⟩ => ⟨i, a, x, c, d, b.get e (hn i a)⟩⟩
theorem Var.chg {P} {h h' o v} (x : Var h o v) (b : Chg P h h') (hn : ¬ P o) : Var h' o v := b.get x hn
theorem Obj.chg {P} {h h' o v} (x : Obj h o v) (b : Chg P h h') (hn : ¬ P o) : Obj h' o v := b.get x hn
/-! ### slices of slices of integers -/
def RdSS (h : H) (s : Sl) (ls : List (List Int)) : Prop :=
  ∃ vs : List Sl, vs.length = ls.length ∧ Rd h s 1 (vs.map .sl) ∧ ∀ (i : Nat) v l, vs[i]? = some v → ls[i]? = some l → Rd h v 1 (ic l)
theorem RdSS.len {h s ls} (r : RdSS h s ls) : s.len = ls.length := by
  obtain ⟨vs, h1, h2, _⟩ := r
  have := h2.len
  simp at this
  omega
theorem RdSS.ext {h h' s ls} (r : RdSS h s ls) (x : Ext h h') : RdSS h' s ls := by
  obtain ⟨vs, h1, h2, h3⟩ := r
  exact ⟨vs, h1, h2.ext x, fun i v l a b => (h3 i v l a b).ext x⟩
theorem Rd.ilen {h : H} {s : Sl} {l : List Int} (r : Rd h s 1 (ic l)) : s.len = l.length := by have := r.len; rw [ic_len] at this; omega
theorem RdSS.ld {h s ls} (r : RdSS h s ls) {i : Int} (h0 : 0 ≤ i) (h1 : i < ls.length) {K : Sl → Prop} (hk : ∀ v l, ls[i.toNat]? = some l → Rd h v 1 (ic l) → v.len = l.length → K v) : ixS s 1 i fun p => Cl.ldS p h K := by
  obtain ⟨vs, e1, e2, e3⟩ := r
  refine e2.ldS h0 (by omega) fun v hv => ?_
  have hl : ls[i.toNat]? = some ls[i.toNat] := List.getElem?_eq_getElem (by omega)
  have := e3 i.toNat v _ hv hl
  exact hk v _ hl this this.ilen
/-- s lies in new memory of its own, from n on. -/
def NewSS (n : Nat) (h : H) (s : Sl) (ls : List (List Int)) : Prop :=
  ∃ vs : List Sl, vs.length = ls.length ∧ Ow h s 1 (vs.map .sl) ∧ Fr n s ∧ (∀ (i : Nat) v l, vs[i]? = some v → ls[i]? = some l → Ow h v 1 (ic l) ∧ Fr n v) ∧
    (∀ (i j : Nat) v w, i ≠ j → vs[i]? = some v → vs[j]? = some w → ∀ o, v.o = some o → w.o ≠ some o) ∧ ∀ (i : Nat) v, vs[i]? = some v → ∀ o, v.o = some o → s.o ≠ some o
theorem NewSS.rd {n h s ls} (r : NewSS n h s ls) : RdSS h s ls := by
  obtain ⟨vs, h1, h2, _, h3, _⟩ := r
  exact ⟨vs, h1, h2.rd, fun i v l a b => (h3 i v l a b).1.rd⟩
theorem NewSS.le {n m h s ls} (r : NewSS n h s ls) (hm : m ≤ n) : NewSS m h s ls := by
  obtain ⟨vs, h1, h2, h3, h4, h5⟩ := r
  exact ⟨vs, h1, h2, h3.le hm, fun i v l a b => (h4 i v l a b).imp id fun f => f.le hm, h5⟩
theorem NewSS.nil (n h) : NewSS n h Sl.nil [] := ⟨[], rfl, Ow.nil _ _, Fr.nil _, fun i v l a => by simp at a, fun i j v w _ a => by simp at a, fun i v a => by simp at a⟩
theorem NewSS.mk0 {n h s} (o : Ow h s 1 []) (f : Fr n s) : NewSS n h s [] := ⟨[], rfl, o, f, fun i v l a => by simp at a, fun i j v w _ a => by simp at a, fun i v a => by simp at a⟩
theorem mem_idx {α β : Type} {l : List α} {m : List β} (e : l.length = m.length) {i : Nat} {a : α} (h : l[i]? = some a) : ∃ b, m[i]? = some b :=
  ⟨m[i]'(by have := (List.getElem?_eq_some_iff.1 h).1; omega), List.getElem?_eq_getElem (by have := (List.getElem?_eq_some_iff.1 h).1; omega)⟩
theorem NewSS.chg {P n h h' s ls} (r : NewSS n h s ls) (b : Chg P h h') (hn : ∀ i, n ≤ i → i < h.length → ¬ P i) : NewSS n h' s ls := by
  obtain ⟨vs, h1, h2, h3, h4, h5⟩ := r
  refine ⟨vs, h1, h2.chg b fun o e => hn o (h3 o e) (h2.lt e), h3, fun i v l a c => ?_, h5⟩
  obtain ⟨x, y⟩ := h4 i v l a c
  exact ⟨x.chg b fun o e => hn o (y o e) (x.lt e), y⟩
theorem NewSS.ext {n h h' s ls} (r : NewSS n h s ls) (x : Ext h h') : NewSS n h' s ls := r.chg (x.chg fun _ => False) fun _ _ _ f => f
theorem RdSS.chg {P h h' s ls} (r : RdSS h s ls) (b : Chg P h h') (hn : ∀ i, i < h.length → ¬ P i) : RdSS h' s ls := r.ext (Ext.of b.1 fun i hi => b.2 i hi (hn i hi))
/-- append of a new view to a new slice of views -/
theorem NewSS.app {n h s ls} (r : NewSS n h s ls) {v : Sl} {l : List Int} (ov : Ow h v 1 (ic l)) (fv : Fr n v) (hap : ∀ o, v.o = some o → s.o ≠ some o ∧ ∀ vs : List Sl, Ow h s 1 (vs.map .sl) → ∀ w ∈ vs, w.o ≠ some o)
    {x : Sl} (rx : Rd h x 1 [.sl v]) (hl : (ls.length : Int) + 1 ≤ lim) (hnh : n ≤ h.length) {K : Sl → H → Prop} (hk : ∀ s' h', NewSS n h' s' (ls ++ [l]) → But s.o h h' → (∀ o, s.o = some o → s'.o = some o) → (s.o = none → ∀ o, s'.o = some o → h.length ≤ o) → K s' h') : Cl.app s x 1 h K := by
  obtain ⟨vs, h1, h2, h3, h4, h5, h6⟩ := r
  have hx : x.len = 1 := by have := rx.len; simp at this; omega
  have hs : s.len = ls.length := by have := h2.len; simp at this; omega
  refine app_ow (by omega) h2 rx (by rw [hs, hx]; exact_mod_cast hl) fun s' h' o' ln b k1 k2 => ?_
  have hso : ∀ o, s'.o = some o → s.o = some o ∨ h.length ≤ o := fun o e => by
    cases hq : s.o with
    | none => exact .inr (k2 hq o e)
    | some p => rw [k1 p hq] at e; exact .inl e
  refine hk s' h' ⟨vs ++ [v], by simp [h1], by simpa using o', ?_, ?_, ?_, ?_⟩ b k1 k2
  · intro o e
    rcases hso o e with e | e
    · exact h3 o e
    · omega
  · intro i w l' a c
    rw [List.getElem?_append] at a c
    rw [h1] at a
    split at a
    · next hi =>
      rw [if_pos hi] at c
      obtain ⟨p, q⟩ := h4 i w l' a c
      refine ⟨p.but b ?_, q⟩
      cases hw : w.o with
      | none => 
        cases hq : s.o with
        | none => exact .inr rfl
        | some _ => exact .inl (by simp)
      | some o => exact .inl (by rw [← hw]; intro e; exact h6 i w a o hw (by rw [e, hw]))
    · next hi =>
      rw [if_neg hi] at c
      have : i = ls.length := by
        have := (List.getElem?_eq_some_iff.1 c).1
        simp at this; omega
      subst this
      simp at a c
      subst a c
      refine ⟨ov.but b ?_, fv⟩
      cases hw : v.o with
      | none =>
        cases hq : s.o with
        | none => exact .inr rfl
        | some _ => exact .inl (by simp)
      | some o => exact .inl (by intro e; exact (hap o hw).1 e)
  · intro i j w u hne a c o e
    have hwl : ∀ {k : Nat} {y : Sl}, (vs ++ [v])[k]? = some y → vs[k]? = some y ∨ (k = vs.length ∧ y = v) := fun {k y} e => by
      rw [List.getElem?_append] at e
      split at e
      · exact .inl e
      · have : k = vs.length := by
          have := (List.getElem?_eq_some_iff.1 e).1
          simp at this; omega
        subst this
        simp at e
        exact .inr ⟨rfl, e.symm⟩
    rcases hwl a with a1 | ⟨rfl, rfl⟩
    · rcases hwl c with c1 | ⟨rfl, rfl⟩
      · exact h5 i j w u hne a1 c1 o e
      · intro e2
        exact (hap o e2).2 vs h2 w (List.mem_of_getElem? a1) e
    · rcases hwl c with c1 | ⟨rfl, rfl⟩
      · exact (hap o e).2 vs h2 u (List.mem_of_getElem? c1)
      · exact absurd rfl hne
  · intro i w a o e
    have hlt : o < h.length ∧ s.o ≠ some o := by
      rw [List.getElem?_append] at a
      split at a
      · obtain ⟨l', hl'⟩ := mem_idx h1 a
        exact ⟨(h4 i w l' a hl').1.lt e, h6 i w a o e⟩
      · have : w = v := by
          have := List.mem_of_getElem? a
          simpa using this
        subst this
        exact ⟨ov.lt e, (hap o e).1⟩
    intro e2
    rcases hso o e2 with e3 | e3
    · exact hlt.2 e3
    · omega
/-- the same, the view newer than all -/
theorem NewSS.app_new {n m h s ls} (r : NewSS n h s ls) {v : Sl} {l : List Int} (ov : Ow h v 1 (ic l)) (fv : Fr m v) (hnm : n ≤ m) (hm : ∃ h0 : H, NewSS n h0 s ls ∧ h0.length ≤ m ∧ Ext h0 h)
    {x : Sl} (rx : Rd h x 1 [.sl v]) (hl : (ls.length : Int) + 1 ≤ lim) (hnh : n ≤ h.length) {K : Sl → H → Prop} (hk : ∀ s' h', NewSS n h' s' (ls ++ [l]) → But s.o h h' → (∀ o, s.o = some o → s'.o = some o) → (s.o = none → ∀ o, s'.o = some o → h.length ≤ o) → K s' h') : Cl.app s x 1 h K := by
  obtain ⟨h0, r0, hlen, ex⟩ := hm
  refine r.app ov (fv.le hnm) (fun o e => ?_) rx hl hnh hk
  obtain ⟨vs, h1, h2, h3, h4, h5, h6⟩ := r0
  have ho := fv o e
  refine ⟨fun e2 => by have := h2.lt e2; omega, fun us hu w hw => ?_⟩
  intro e2
  have hq : us = vs := by
    have a := hu.rd.sread (by omega)
    have b := (h2.ext ex).rd.sread (by omega)
    rw [a] at b
    have : us.map AVal.sl = vs.map AVal.sl := Option.some.inj b
    exact List.map_inj_right (fun a b e => by simpa using e) |>.1 this
  subst hq
  obtain ⟨i, hi⟩ := List.getElem?_of_mem hw
  obtain ⟨l', hl'⟩ := mem_idx h1 hi
  have := (h4 i w l' hi hl').1.lt e2
  omega
/-- The same, of objects of P. -/
def NewP (P : Nat → Prop) (h : H) (s : Sl) (ls : List (List Int)) : Prop :=
  ∃ vs : List Sl, vs.length = ls.length ∧ Ow h s 1 (vs.map .sl) ∧ (∀ o, s.o = some o → P o) ∧ (∀ (i : Nat) v l, vs[i]? = some v → ls[i]? = some l → Ow h v 1 (ic l) ∧ ∀ o, v.o = some o → P o) ∧
    (∀ (i j : Nat) v w, i ≠ j → vs[i]? = some v → vs[j]? = some w → ∀ o, v.o = some o → w.o ≠ some o) ∧ ∀ (i : Nat) v, vs[i]? = some v → ∀ o, v.o = some o → s.o ≠ some o
theorem NewSS.p {n h s ls} (r : NewSS n h s ls) {P : Nat → Prop} (hp : ∀ i, n ≤ i → i < h.length → P i) : NewP P h s ls := by
  obtain ⟨vs, h1, h2, h3, h4, h5⟩ := r
  exact ⟨vs, h1, h2, fun o e => hp o (h3 o e) (h2.lt e), fun i v l a b => ⟨(h4 i v l a b).1, fun o e => hp o ((h4 i v l a b).2 o e) ((h4 i v l a b).1.lt e)⟩, h5⟩
theorem NewP.ss {P h s ls} (r : NewP P h s ls) {n : Nat} (hp : ∀ i, P i → n ≤ i) : NewSS n h s ls := by
  obtain ⟨vs, h1, h2, h3, h4, h5⟩ := r
  exact ⟨vs, h1, h2, fun o e => hp o (h3 o e), fun i v l a b => (h4 i v l a b).imp id fun f o e => hp o (f o e), h5⟩
theorem NewP.chg {P Q h h' s ls} (r : NewP P h s ls) (b : Chg Q h h') (hn : ∀ i, P i → i < h.length → ¬ Q i) : NewP P h' s ls := by
  obtain ⟨vs, h1, h2, h3, h4, h5⟩ := r
  refine ⟨vs, h1, h2.chg b fun o e => hn o (h3 o e) (h2.lt e), h3, fun i v l a c => ?_, h5⟩
  obtain ⟨x, y⟩ := h4 i v l a c
  exact ⟨x.chg b fun o e => hn o (y o e) (x.lt e), y⟩
theorem NewP.ext {P h h' s ls} (r : NewP P h s ls) (x : Ext h h') : NewP P h' s ls := r.chg (x.chg fun _ => False) fun _ _ _ f => f
theorem NewP.rd {P h s ls} (r : NewP P h s ls) : RdSS h s ls := by
  obtain ⟨vs, h1, h2, _, h3, _⟩ := r
  exact ⟨vs, h1, h2.rd, fun i v l a b => (h3 i v l a b).1.rd⟩
end Go.Proofs.Ytdmhchgaeepdmaa.Cl

/- Contracts of the functions on tiles, of the search in slices and of the laws' helpers. No claim is stated here. -/
set_option linter.unusedVariables false
set_option linter.unusedSimpArgs false
namespace Go.Proofs.Ytdmhchgaeepdmaa.Cl
open Go
abbrev SP : SatT := Sat Try.prog
abbrev Tile := Int × Int × Int × Int
def tc (t : Tile) : List AVal := [i64 t.1, i64 t.2.1, i64 t.2.2.1, i64 t.2.2.2]
def tcs (ts : List Tile) : List AVal := (ts.map tc).flatten
theorem tc_len (t : Tile) : (tc t).length = 4 := rfl
theorem tcs_len : ∀ ts : List Tile, (tcs ts).length = ts.length * 4
  | [] => rfl
  | t :: ts => by
    have := tcs_len ts
    unfold tcs at *
    simp only [List.map_cons, List.flatten_cons, List.length_append, tc_len, List.length_cons]
    omega
theorem tcs_app (a b : List Tile) : tcs (a ++ b) = tcs a ++ tcs b := by simp [tcs]
theorem tcs_cons (a : Tile) (b : List Tile) : tcs (a :: b) = tc a ++ tcs b := by simp [tcs]
theorem tcs_at : ∀ (ts : List Tile) (i : Nat) (t : Tile), ts[i]? = some t → ((tcs ts).drop (i * 4)).take 4 = tc t
  | [], i, t, e => by simp at e
  | a :: ts, 0, t, e => by
    simp at e; subst e
    rw [tcs_cons]; simp [List.take_append, tc_len]
    rw [List.take_of_length_le (by simp [tc_len])]
  | a :: ts, i + 1, t, e => by
    rw [tcs_cons, show (i + 1) * 4 = (tc a).length + i * 4 by rw [tc_len]; omega, ← List.drop_drop, List.drop_left]
    exact tcs_at ts i t (by simpa using e)
/-- A slice of tiles. -/
theorem Rd.ldT {h : H} {s : Sl} {ts : List Tile} (r : Rd h s 4 (tcs ts)) {i : Int} (h0 : 0 ≤ i) (h1 : i < ts.length) {K : List AVal → Prop} (hk : ∀ t, ts[i.toNat]? = some t → K (tc t)) : ixS s 4 i fun p => Cl.ldA p 4 h K := by
  have hlen : ts.length = s.len := by have := r.len; rw [tcs_len] at this; omega
  have hx : ts[i.toNat]? = some ts[i.toNat] := List.getElem?_eq_getElem (by omega)
  exact r.ldA h0 (by omega) (by rw [tcs_at ts _ _ hx]; exact hk _ hx)
theorem Rd.tlen {h : H} {s : Sl} {ts : List Tile} (r : Rd h s 4 (tcs ts)) : s.len = ts.length := by have := r.len; rw [tcs_len] at this; omega

def turn (t : Tile) : Tile := (t.2.2.2, t.1, t.2.1, t.2.2.1)
def turnN : Nat → Tile → Tile
  | 0, t => t
  | n + 1, t => turnN n (turn t)
theorem turnN_succ : ∀ n t, turnN (n + 1) t = turn (turnN n t)
  | 0, t => rfl
  | n + 1, t => by rw [turnN, turnN_succ n (turn t), turnN]
def i64ok (n : Int) : Prop := -9223372036854775808 ≤ n ∧ n < 9223372036854775808
def tileok (c : Int) (t : Tile) : Bool := decide (0 ≤ t.1 ∧ t.1 ≤ c - 1) && decide (0 ≤ t.2.1 ∧ t.2.1 ≤ c - 1) && decide (0 ≤ t.2.2.1 ∧ t.2.2.1 ≤ c - 1) && decide (0 ≤ t.2.2.2 ∧ t.2.2.2 ≤ c - 1)
attribute [local simp] newK newO ixA ldI ldA stN st1 Cl.range cell Cl.cells putN put1 owned get_app get_app0 set_app set_app0 Pt.add splice Ext.app Ext.refl cutA isPt

theorem l01In_c (a b c : Int) (h : H) : callB SP i_spec_l01In [i64 a, i64 b, i64 c] h fun r h' => r = decide (b ≤ a ∧ a ≤ c) ∧ h' = h := by
  apply spec_l01In_call
  unfold spec_l01In_main
  refine bif_dec (fun h1 => ?_) (fun h1 => ?_)
  all_goals simp; try omega
theorem within_c (a b c : Int) (h : H) : callB SP i_impl_within [i64 a, i64 b, i64 c] h fun r h' => r = decide (b ≤ a ∧ a ≤ c) ∧ h' = h := by
  apply impl_within_call
  unfold impl_within_main
  refine bif_dec (fun h1 => ?_) (fun h1 => ?_)
  all_goals simp; try omega
/-! ### search -/
def findI {α : Type} (q : α → Bool) (l : List α) : Int := match l.findIdx? q with | some i => (i : Int) | none => -1
theorem findI_hit {α : Type} {q : α → Bool} {l : List α} {i : Nat} {x : α} (hx : l[i]? = some x) (hq : q x = true) (hn : ∀ j y, j < i → l[j]? = some y → q y = false) : findI q l = i := by
  unfold findI
  have : l.findIdx? q = some i := by
    rw [List.findIdx?_eq_some_iff_getElem]
    obtain ⟨h1, h2⟩ := List.getElem?_eq_some_iff.1 hx
    refine ⟨h1, by rw [h2]; exact hq, fun j hj => ?_⟩
    rw [hn j _ hj (List.getElem?_eq_getElem (by omega))]; simp
  rw [this]
theorem findI_none {α : Type} {q : α → Bool} {l : List α} (hn : ∀ y ∈ l, q y = false) : findI q l = -1 := by
  unfold findI
  have : l.findIdx? q = none := by
    rw [List.findIdx?_eq_none_iff]
    intro x hx; rw [hn x hx]
  rw [this]
theorem findI_ge {α : Type} (q : α → Bool) (l : List α) : decide (findI q l ≥ 0) = l.any q := by
  unfold findI
  cases h : l.findIdx? q with
  | none =>
    rw [List.findIdx?_eq_none_iff] at h
    have : l.any q = false := by rw [List.any_eq_false]; intro x hx; rw [h x hx]; simp
    rw [this]; simp
  | some i =>
    have h2 : l.any q = true := by
      rw [List.findIdx?_eq_some_iff_getElem] at h
      obtain ⟨h1, h2, _⟩ := h
      exact List.any_eq_true.2 ⟨_, List.getElem_mem h1, h2⟩
    rw [h2]; simp
theorem indexFunc_int_c {h0 : H} {s : Sl} {l : List Int} (r : Rd h0 s 1 (ic l)) (hl : l.length < 4000000000000000000) (g : Nat) (cap : List AVal) (q : Int → Bool)
    (hg : ∀ x ∈ l, ∀ h, Ext h0 h → callB SP g (i64 x :: cap) h fun b h' => b = q x ∧ Ext h h') : callI SP .i64 i_slices_IndexFunc_s_int64_int64_ [.sl s, .func g cap] h0 fun n h' => n = findI q l ∧ Ext h0 h' := by
  have hlen : s.len = l.length := by have := r.len; rw [ic_len] at this; omega
  apply slices_IndexFunc_s_int64_int64__call
  unfold slices_IndexFunc_s_int64_int64__main
  refine slices_IndexFunc_s_int64_int64__rule0 _ _ s _ _ (fun i h => 0 ≤ i ∧ i ≤ l.length ∧ Ext h0 h ∧ ∀ j y, j < i.toNat → l[j]? = some y → q y = false) (fun i _ => (l.length - i).toNat) ?_ _ ⟨by omega, by omega, Ext.refl _, fun j y hj => by omega⟩
  intro X i h ⟨i0, i1, hx, hn⟩ hX
  unfold slices_IndexFunc_s_int64_int64__b0
  refine bif_dec (fun hi => ?_) (fun hi => ?_)
  · refine (r.ext hx).ldI i0 (by omega) fun x hxe => via_func ?_
    refine (hg x (List.mem_of_getElem? hxe) h hx).to ?_
    rintro _ h' ⟨rfl, hx'⟩
    refine bif_b (fun hq => ?_) (fun hq => ?_)
    · refine ⟨i, rfl, ?_, hx.trans hx'⟩
      rw [findI_hit hxe hq hn]; omega
    · rw [w64_of (by omega) (by omega)]
      refine hX _ _ ⟨by omega, by omega, hx.trans hx', fun j y hj hy => ?_⟩ (by omega)
      by_cases hji : j = i.toNat
      · subst hji; rw [hxe] at hy; cases hy; exact hq
      · exact hn j y (by omega) hy
  · refine ⟨_, rfl, ?_, hx⟩
    rw [findI_none]
    intro y hy
    obtain ⟨j, hj, rfl⟩ := List.mem_iff_getElem.1 hy
    exact hn j _ (by omega) (List.getElem?_eq_getElem hj)
theorem containsFunc_int_c {h0 : H} {s : Sl} {l : List Int} (r : Rd h0 s 1 (ic l)) (hl : l.length < 4000000000000000000) (g : Nat) (cap : List AVal) (q : Int → Bool)
    (hg : ∀ x ∈ l, ∀ h, Ext h0 h → callB SP g (i64 x :: cap) h fun b h' => b = q x ∧ Ext h h') : callB SP i_slices_ContainsFunc_s_int64_int64_ [.sl s, .func g cap] h0 fun b h' => b = l.any q ∧ Ext h0 h' := by
  apply slices_ContainsFunc_s_int64_int64__call
  unfold slices_ContainsFunc_s_int64_int64__main
  refine (indexFunc_int_c r hl g cap q hg).to ?_
  rintro _ h' ⟨rfl, hx⟩
  exact ⟨_, rfl, findI_ge q l, hx⟩
/-! ### tiles -/
theorem isTile1_w (x c : Int) (o : Nat) (h : H) (ho : h[o]? = some (.own [i64 c])) : callB SP i_impl_isTile_1 [i64 x, .ptr ⟨some o, 1, 0⟩] h fun b h' => b = (!decide (0 ≤ x ∧ x ≤ w64 (c - 1))) ∧ h' = h := by
  apply impl_isTile_1_call
  unfold impl_isTile_1_main
  refine ⟨c, by simp [ho], ?_⟩
  dsimp only
  refine (within_c _ _ _ _).to ?_
  rintro _ _ ⟨rfl, rfl⟩
  exact ⟨_, rfl, rfl, rfl⟩
theorem isTile_w (t : Tile) (c : Int) (h : H) : callB SP i_impl_isTile [.agg (tc t), i64 c] h fun b h' => b = tileok (w64 (c - 1) + 1) t ∧ Ext h h' := by
  apply impl_isTile_call
  simp only [impl_isTile_main, newK, newO]
  refine ⟨rfl, ⟨by omega, by omega, by omega⟩, rfl, rfl, ?_⟩
  refine (containsFunc_int_c (l := [t.1, t.2.1, t.2.2.1, t.2.2.2]) ⟨rfl, .inr ⟨rfl, rfl, ?_⟩⟩ (by simp) i_impl_isTile_1 _ (fun x => !decide (0 ≤ x ∧ x ≤ w64 (c - 1))) ?_).to ?_
  · simp [tc, ic]
  · intro x _ h' hx
    refine (isTile1_w x c _ h' (hx.own (by simp))).to ?_
    rintro _ _ ⟨rfl, rfl⟩
    exact ⟨rfl, Ext.refl _⟩
  · rintro _ h' ⟨rfl, l, rfl⟩
    refine ⟨_, rfl, ?_, by simp⟩
    simp [tileok, Bool.and_assoc]
theorem isTile_c (t : Tile) (c : Int) (hc : i64ok (c - 1)) (h : H) : callB SP i_impl_isTile [.agg (tc t), i64 c] h fun b h' => b = tileok c t ∧ Ext h h' := by
  have := isTile_w t c h
  rw [w64_of hc.1 hc.2, Int.sub_add_cancel] at this
  exact this
theorem tcs_one (t : Tile) : tcs [t] = tc t := by simp [tcs]
theorem Rd.of_ow {h s z cs} (r : Ow h s z cs) : Rd h s z cs := r.rd
/-- The first n turns. -/
def turnsN : Nat → Tile → List Tile
  | 0, _ => []
  | n + 1, t => t :: turnsN n (turn t)
theorem turnsN_succ : ∀ n t, turnsN (n + 1) t = turnsN n t ++ [turnN n t]
  | 0, t => rfl
  | n + 1, t => by
    rw [turnsN, turnsN_succ n (turn t), turnsN]; rfl
theorem turnsN_len : ∀ n t, (turnsN n t).length = n
  | 0, t => rfl
  | n + 1, t => by rw [turnsN, List.length_cons, turnsN_len n]
theorem l01Tile_c (c : Int) (hc : i64ok (c - 1)) (t : Tile) (h : H) : callB SP i_spec_l01Tile [i64 c, .agg (tc t)] h fun b h' => b = tileok c t ∧ Ext h h' := by
  apply spec_l01Tile_call
  simp only [spec_l01Tile_main, newK]
  refine ⟨rfl, ?_⟩
  refine spec_l01Tile_rule0 _ _ _ _ (fun i h' => 0 ≤ i ∧ i ≤ 4 ∧ h' = h ++ [.own (tc t)] ∧ ∀ j y, j < i.toNat → [t.1, t.2.1, t.2.2.1, t.2.2.2][j]? = some y → 0 ≤ y ∧ y ≤ c - 1) (fun i _ => (4 - i).toNat) ?_ _ ⟨by omega, by omega, rfl, fun j y hj => by omega⟩
  rintro X i _ ⟨i0, i1, rfl, hn⟩ hX
  unfold spec_l01Tile_b0 spec_l01Tile_C0
  refine bif_dec (fun hi => ?_) (fun hi => ?_)
  · have hx : ∃ x, [t.1, t.2.1, t.2.2.1, t.2.2.2][i.toNat]? = some x := ⟨_, List.getElem?_eq_getElem (by simp; omega)⟩
    obtain ⟨x, hx⟩ := hx
    refine ⟨⟨i0, hi⟩, rfl, x, ?_, ?_⟩
    · have hg : (tc t)[i.toNat]? = some (i64 x) := by
        rw [show tc t = ic [t.1, t.2.1, t.2.2.1, t.2.2.2] from rfl]
        unfold ic
        rw [List.getElem?_map, hx]; rfl
      simp [hg, tc_len]
    · dsimp only
      rw [w64_of hc.1 hc.2, w64_of (by omega) (by omega)]
      refine (l01In_c _ _ _ _).to ?_
      rintro _ _ ⟨rfl, rfl⟩
      refine bif_not (fun hq => ?_) (fun hq => ?_)
      · refine ⟨_, rfl, ?_, by simp⟩
        rw [decide_eq_false_iff_not] at hq
        have hm := List.mem_of_getElem? hx
        simp only [List.mem_cons, List.not_mem_nil, or_false] at hm
        unfold tileok
        rcases hm with rfl | rfl | rfl | rfl <;> simp [hq]
      · refine hX _ _ ⟨by omega, by omega, rfl, fun j y hj hy => ?_⟩ (by omega)
        by_cases hji : j = i.toNat
        · subst hji; rw [hx] at hy; cases hy; exact of_decide_eq_true hq
        · exact hn j y (by omega) hy
  · refine ⟨_, rfl, ?_, by simp⟩
    unfold tileok
    have h4 : i.toNat = 4 := by omega
    rw [h4] at hn
    have a0 := hn 0 _ (by omega) rfl
    have a1 := hn 1 _ (by omega) rfl
    have a2 := hn 2 _ (by omega) rfl
    have a3 := hn 3 _ (by omega) rfl
    simp [a0, a1, a2, a3]
def tilesCode (l : List Tile) : Int := if l.all (tileok 6) then 0 else 2
/-! ### TurnsOf -/
def turnsOf (t : Tile) : List Tile × Int := if tileok 6 t then (turnsN 4 t, 0) else ([], 2)
/-! ### the laws' helpers -/
theorem toTile_c (t : Tile) (h : H) : callA SP i_laws_toTile [.agg (tc t)] h fun r h' => r = tc t ∧ Ext h h' := by
  apply laws_toTile_call
  simp only [laws_toTile_main, newK, newO]
  refine ⟨rfl, ?_⟩
  refine laws_toTile_unroll0 _ _ _ _ _ _ _ (bif_dec (fun _ => ?_) (fun hn => absurd (by omega) hn))
  have e1 : w64 (0 + 1) = 1 := w64_of (by omega) (by omega)
  have e2 : w64 (1 + 1) = 2 := w64_of (by omega) (by omega)
  have e3 : w64 (2 + 1) = 3 := w64_of (by omega) (by omega)
  have e4 : w64 (3 + 1) = 4 := w64_of (by omega) (by omega)
  rw [e1]
  simp [tc]
  refine laws_toTile_unroll0 _ _ _ _ _ _ _ (bif_dec (fun _ => ?_) (fun hn => absurd (by omega) hn))
  rw [e2]
  simp
  refine laws_toTile_unroll0 _ _ _ _ _ _ _ (bif_dec (fun _ => ?_) (fun hn => absurd (by omega) hn))
  rw [e3]
  simp
  refine laws_toTile_unroll0 _ _ _ _ _ _ _ (bif_dec (fun _ => ?_) (fun hn => absurd (by omega) hn))
  rw [e4]
  simp
  refine laws_toTile_unroll0 _ _ _ _ _ _ _ (bif_dec (fun hn => absurd hn (by omega)) (fun hn => ?_))
  simp [laws_toTile_C0]
def tl (t : Tile) : List Int := [t.1, t.2.1, t.2.2.1, t.2.2.2]
theorem tc_tl (t : Tile) : tc t = ic (tl t) := rfl
theorem tl_inj {a b : Tile} (h : tl a = tl b) : a = b := by
  obtain ⟨a1, a2, a3, a4⟩ := a
  obtain ⟨b1, b2, b3, b4⟩ := b
  simp [tl] at h
  simp [h]
theorem eqTile_c (a b : Tile) (h : H) : callB SP i_laws_eqTile [.agg (tc a), .agg (tc b)] h fun r h' => r = (a == b) ∧ Ext h h' := by
  apply laws_eqTile_call
  simp only [laws_eqTile_main, newK]
  refine ⟨rfl, rfl, ?_⟩
  refine laws_eqTile_rule0 _ _ _ _ (fun i h' => 0 ≤ i ∧ i ≤ 4 ∧ h' = h ++ [.own (tc a)] ++ [.own (tc b)] ∧ ∀ j, j < i.toNat → (tl a)[j]? = (tl b)[j]?) (fun i _ => (4 - i).toNat) ?_ _ ⟨by omega, by omega, rfl, fun j hj => by omega⟩
  rintro X i _ ⟨i0, i1, rfl, hn⟩ hX
  unfold laws_eqTile_b0 laws_eqTile_C0
  refine bif_dec (fun hi => ?_) (fun hi => ?_)
  · have hx : (tl a)[i.toNat]? = some _ := List.getElem?_eq_getElem (by simp [tl]; omega)
    have hy : (tl b)[i.toNat]? = some _ := List.getElem?_eq_getElem (by simp [tl]; omega)
    refine ixA_ldI (cs := tc a) (by simp) rfl i0 hi (ic_at hx) (ixA_ldI (cs := tc b) (by simp) rfl i0 hi (ic_at hy) (bif_ne (fun hq => ?_) (fun hq => ?_)))
    · refine ⟨_, rfl, ?_, by simp⟩
      symm
      rw [beq_eq_false_iff_ne]
      rintro rfl
      exact hq rfl
    · rw [w64_of (by omega) (by omega)]
      refine hX _ _ ⟨by omega, by omega, rfl, fun j hj => ?_⟩ (by omega)
      by_cases hji : j = i.toNat
      · subst hji; rw [hx, hy, hq]
      · exact hn j (by omega)
  · refine ⟨_, rfl, ?_, by simp⟩
    symm
    rw [beq_iff_eq]
    apply tl_inj
    apply List.ext_getElem?
    intro j
    by_cases hj : j < 4
    · exact hn j (by omega)
    · rw [List.getElem?_eq_none (by simp [tl]; omega), List.getElem?_eq_none (by simp [tl]; omega)]
theorem eqTileS_c {h0 : H} {s s' : Sl} {l l' : List Tile} (r : Rd h0 s 4 (tcs l)) (r' : Rd h0 s' 4 (tcs l')) (hl : l.length < 4000000000000000000) : callB SP i_laws_eqTileS [.sl s, .sl s'] h0 fun b h' => b = (l == l') ∧ Ext h0 h' := by
  have hlen : s.len = l.length := r.tlen
  have hlen' : s'.len = l'.length := r'.tlen
  apply laws_eqTileS_call
  unfold laws_eqTileS_main
  refine bif_ne (fun hq => ?_) (fun hq => ?_)
  · refine ⟨_, rfl, ?_, Ext.refl _⟩
    cases hb : l == l' with
    | false => rfl
    | true => rw [beq_iff_eq] at hb; subst hb; omega
  refine laws_eqTileS_rule0 _ _ _ _ (fun i h => 0 ≤ i ∧ i ≤ l.length ∧ Ext h0 h ∧ ∀ j, j < i.toNat → l[j]? = l'[j]?) (fun i _ => (l.length - i).toNat) ?_ _ ⟨by omega, by omega, Ext.refl _, fun j hj => by omega⟩
  intro X i h ⟨i0, i1, hx, hn⟩ hX
  unfold laws_eqTileS_b0 laws_eqTileS_C0
  refine bif_dec (fun hi => ?_) (fun hi => ?_)
  · refine (r.ext hx).ldT i0 (by omega) fun x hxe => (r'.ext hx).ldT i0 (by omega) fun y hye => ?_
    refine (eqTile_c x y h).to ?_
    rintro _ h' ⟨rfl, hx'⟩
    refine bif_not (fun hq => ?_) (fun hq => ?_)
    · refine ⟨_, rfl, ?_, hx.trans hx'⟩
      cases hb : l == l' with
      | false => rfl
      | true =>
        rw [beq_iff_eq] at hb; subst hb
        rw [hxe] at hye; cases hye
        simp at hq
    · rw [w64_of (by omega) (by omega)]
      refine hX _ _ ⟨by omega, by omega, hx.trans hx', fun j hj => ?_⟩ (by omega)
      by_cases hji : j = i.toNat
      · subst hji
        rw [beq_iff_eq] at hq
        rw [hxe, hye, hq]
      · exact hn j (by omega)
  · refine ⟨_, rfl, ?_, hx⟩
    symm
    rw [beq_iff_eq]
    apply List.ext_getElem?
    intro j
    by_cases hj : j < l.length
    · exact hn j (by omega)
    · rw [List.getElem?_eq_none (by omega), List.getElem?_eq_none (by omega)]
/-- k, k + 1, .. -/
def upto (k : Int) : Nat → List Int
  | 0 => []
  | n + 1 => k :: upto (k + 1) n
theorem upto_len : ∀ n k, (upto k n).length = n
  | 0, _ => rfl
  | n + 1, k => by simp [upto, upto_len n]
theorem upto_at : ∀ n k i, i < n → (upto k n)[i]? = some (k + i)
  | n + 1, k, 0, _ => by simp [upto]
  | n + 1, k, i + 1, h => by
    rw [upto, List.getElem?_cons_succ, upto_at n (k + 1) i (by omega)]
    congr 1; push_cast; omega
/-- a store into a view that is owned whole -/
theorem Ow.st1 {h : H} {s : Sl} {z : Nat} {l : List Int} (r : Ow h s z (ic l)) {i j : Int} (hz : 0 < z) (h0 : 0 ≤ i) (h1 : i < s.len) (j0 : 0 ≤ j) (j1 : j < z) (x : Int) {K : H → Prop}
    (hk : ∀ h', Ow h' s z (ic (l.set (i.toNat * z + j.toNat) x)) → But s.o h h' → h'.length = h.length → K h') : ixS s z i fun p => ixA p z 1 j fun q => Cl.st1 q (i64 x) h K := by
  obtain ⟨a, b⟩ | ⟨o, a, b, c, d, e⟩ := r.at_
  · omega
  · have hlen := r.len
    rw [ic_len] at hlen
    have hb : i.toNat * z + j.toNat < l.length := by
      have : (i.toNat + 1) * z ≤ s.len * z := Nat.mul_le_mul_right _ (by omega)
      rw [Nat.add_mul] at this; omega
    have ho : o < h.length := (List.getElem?_eq_some_iff.1 e).1
    refine ⟨⟨h0, h1⟩, b, by simp [a], ⟨j0, j1⟩, by simp [Pt.add, a], h.set o (.own (ic (l.set (i.toNat * z + j.toNat) x))), ?_, hk _ ⟨by rw [ic_len]; simpa using hlen, .inr ⟨o, a, b, c, d, by simp [List.getElem?_set, ho]⟩⟩ ?_ (by simp)⟩
    · unfold put1 owned Pt.add
      have : (ic l).set (i.toNat * z + j.toNat) (i64 x) = ic (l.set (i.toNat * z + j.toNat) x) := by unfold ic; rw [List.map_set]
      simp [a, c, d, e, ic_len, hlen, this]
      omega
    · rw [a]
      exact ⟨by simp, fun k hk hn => by rw [List.getElem?_set, if_neg (fun e => hn (by rw [e]))]⟩
theorem markTileS_k {h0 : H} {s : Sl} {l : List Int} (r : Ow h0 s 4 (ic l)) (k0 : Int) (hk0 : 0 ≤ k0) (hk1 : k0 ≤ 1000000000000000000) (hl : s.len < 1000000000000000000) : callI SP .i64 i_laws_markTileS [.sl s, i64 k0] h0 fun n h' => n = k0 + 4 * s.len ∧ Ow h' s 4 (ic (upto k0 (s.len * 4))) ∧ But s.o h0 h' ∧ h'.length = h0.length := by
  have hlen := r.len
  rw [ic_len] at hlen
  apply laws_markTileS_call
  unfold laws_markTileS_main
  refine laws_markTileS_rule0 _ _ _ (fun k i h => 0 ≤ i ∧ i ≤ s.len ∧ k = k0 + 4 * i ∧ ∃ l', Ow h s 4 (ic l') ∧ (∀ j : Nat, j < i.toNat * 4 → l'[j]? = some (k0 + (j : Int))) ∧ But s.o h0 h ∧ h.length = h0.length) (fun k i _ => (s.len - i).toNat) ?_ _ _ ⟨by omega, by omega, by omega, l, r, fun j hj => by omega, But.refl _ _, rfl⟩
  rintro X k i h ⟨i0, i1, rfl, l1, o1, e1, b1, n1⟩ hX
  unfold laws_markTileS_b0 laws_markTileS_C0
  refine bif_dec (fun hi => ?_) (fun hi => ?_)
  · refine laws_markTileS_rule2 _ _ X s i (fun k j h => 0 ≤ j ∧ j ≤ 4 ∧ k = k0 + 4 * i + j ∧ ∃ l', Ow h s 4 (ic l') ∧ (∀ j2 : Nat, j2 < i.toNat * 4 + j.toNat → l'[j2]? = some (k0 + (j2 : Int))) ∧ But s.o h0 h ∧ h.length = h0.length) (fun k j _ => (4 - j).toNat) ?_ _ _ ⟨by omega, by omega, by omega, l1, o1, fun j hj => e1 j (by omega), b1, n1⟩
    rintro Y k j h' ⟨j0, j1, rfl, l2, o2, e2, b2, n2⟩ hY
    unfold laws_markTileS_b2 laws_markTileS_C2 laws_markTileS_C1
    refine bif_dec (fun hj => ?_) (fun hj => ?_)
    · refine o2.st1 (by omega) i0 hi j0 hj _ fun h3 o3 b3 n3 => ?_
      rw [w64_of (by omega) (by omega), w64_of (by omega) (by omega)]
      refine hY _ _ _ ⟨by omega, by omega, by omega, _, o3, fun j2 hj2 => ?_, b2.trans b3, by omega⟩ (by omega)
      have hl2 := o2.len
      rw [ic_len] at hl2
      rw [List.getElem?_set]
      split
      · next e =>
        rw [if_pos (by omega)]
        congr 1; omega
      · exact e2 j2 (by omega)
    · rw [w64_of (by omega) (by omega)]
      have : j = 4 := by omega
      subst this
      refine hX _ _ _ ⟨by omega, by omega, by omega, l2, o2, fun j hj => e2 j (by omega), b2, n2⟩ (by omega)
  · have : i = s.len := by omega
    subst this
    refine ⟨_, rfl, by omega, ?_, b1, n1⟩
    have : l1 = upto k0 (s.len * 4) := by
      have hl1 := o1.len
      rw [ic_len] at hl1
      apply List.ext_getElem?
      intro j
      by_cases hj : j < s.len * 4
      · rw [e1 j (by omega), upto_at _ _ _ hj]
      · rw [List.getElem?_eq_none (by omega), List.getElem?_eq_none (by rw [upto_len]; omega)]
    rw [← this]; exact o1
theorem markTileS_c {h0 : H} {s : Sl} {l : List Int} (r : Ow h0 s 4 (ic l)) (hl : s.len < 1000000000000000000) : callI SP .i64 i_laws_markTileS [.sl s, i64 1] h0 fun n h' => n = 1 + 4 * s.len ∧ Ow h' s 4 (ic (upto 1 (s.len * 4))) ∧ But s.o h0 h' ∧ h'.length = h0.length := markTileS_k r 1 (by omega) (by omega) hl
attribute [local simp] newK newO ixA ldI ldA stN st1 Cl.range cell Cl.cells putN put1 owned get_app get_app0 set_app set_app0 Pt.add splice Ext.app Ext.refl cutA isPt
/-! ### comparing -/
def cmpL : List Int → List Int → Int
  | [], [] => 0
  | [], _ :: _ => -1
  | _ :: _, [] => 1
  | a :: l, b :: m => if a < b then -1 else if a > b then 1 else cmpL l m
theorem isNaN_c (x : Int) (h : H) : callB SP i_cmp_isNaN_int64_ [i64 x] h fun b h' => b = false ∧ h' = h := by
  apply cmp_isNaN_int64__call
  unfold cmp_isNaN_int64__main
  exact ⟨_, rfl, by simp, rfl⟩
theorem cmpCompare_c (x y : Int) (h : H) : callI SP .i64 i_cmp_Compare_int64_ [i64 x, i64 y] h fun n h' => n = (if x < y then -1 else if x > y then 1 else 0) ∧ h' = h := by
  apply cmp_Compare_int64__call
  unfold cmp_Compare_int64__main
  refine (isNaN_c x h).to ?_
  rintro _ _ ⟨rfl, rfl⟩
  refine (isNaN_c y _).to ?_
  rintro _ _ ⟨rfl, rfl⟩
  refine bif_dec (fun h1 => ⟨_, rfl, by simp [h1], rfl⟩) (fun h1 => bif_dec (fun h2 => ⟨_, rfl, by simp [h1, h2], rfl⟩) (fun h2 => ⟨_, rfl, by simp [h1, h2], rfl⟩))
theorem drop_cons {α : Type} {l : List α} {i : Nat} {x : α} (e : l[i]? = some x) : l.drop i = x :: l.drop (i + 1) := by
  obtain ⟨h, rfl⟩ := List.getElem?_eq_some_iff.1 e
  exact List.drop_eq_getElem_cons h
theorem sCompare_c {h0 : H} {s s' : Sl} {l l' : List Int} (r : Rd h0 s 1 (ic l)) (r' : Rd h0 s' 1 (ic l')) (hl : l.length < 4000000000000000000) : callI SP .i64 i_slices_Compare_s_int64_int64_ [.sl s, .sl s'] h0 fun n h' => n = cmpL l l' ∧ h' = h0 := by
  have hlen : s.len = l.length := by have := r.len; rw [ic_len] at this; omega
  have hlen' : s'.len = l'.length := by have := r'.len; rw [ic_len] at this; omega
  apply slices_Compare_s_int64_int64__call
  unfold slices_Compare_s_int64_int64__main
  refine slices_Compare_s_int64_int64__rule0 _ _ s s' s _ (fun i h => 0 ≤ i ∧ i ≤ l.length ∧ i ≤ l'.length ∧ h = h0 ∧ cmpL l l' = cmpL (l.drop i.toNat) (l'.drop i.toNat)) (fun i _ => (l.length - i).toNat) ?_ _ ⟨by omega, by omega, by omega, rfl, by simp⟩
  rintro X i _ ⟨i0, i1, i2, rfl, he⟩ hX
  unfold slices_Compare_s_int64_int64__b0 slices_Compare_s_int64_int64__C0
  refine bif_dec (fun hi => ?_) (fun hi => ?_)
  · refine r.ldI i0 (by omega) fun x hx => bif_dec (fun hj => ?_) (fun hj => ?_)
    · refine ⟨_, rfl, ?_, rfl⟩
      rw [he, drop_cons hx, List.drop_eq_nil_of_le (show l'.length ≤ i.toNat by omega)]; rfl
    · refine r'.ldI i0 (by omega) fun y hy => ?_
      refine (cmpCompare_c x y _).to ?_
      rintro _ _ ⟨rfl, rfl⟩
      rw [drop_cons hx, drop_cons hy, cmpL] at he
      refine bif_ne (fun hq => ⟨_, rfl, ?_, rfl⟩) (fun hq => ?_)
      · rw [he]
        split
        · rfl
        · split
          · rfl
          · next h1 h2 => simp [h1, h2] at hq
      · rw [w64_of (by omega) (by omega)]
        refine hX _ _ ⟨by omega, by omega, by omega, rfl, ?_⟩ (by omega)
        rw [he, show (i + 1).toNat = i.toNat + 1 by omega]
        split
        · next h1 => simp [h1] at hq
        · split
          · next h1 h2 => simp [h1, h2] at hq
          · rfl
  · have e1 : l.drop i.toNat = [] := List.drop_eq_nil_of_le (by omega)
    refine bif_dec (fun hj => ⟨_, rfl, ?_, rfl⟩) (fun hj => ⟨_, rfl, ?_, rfl⟩)
    · have hy : l'[i.toNat]? = some _ := List.getElem?_eq_getElem (by omega)
      rw [he, e1, drop_cons hy]; rfl
    · rw [he, e1, List.drop_eq_nil_of_le (show l'.length ≤ i.toNat by omega)]; rfl
def cmpT (a b : Tile) : Int := cmpL (tl a) (tl b)
theorem compare_c (a b : Tile) (h : H) : callI SP .i64 i_impl_compare [.agg (tc a), .agg (tc b)] h fun n h' => n = cmpT a b ∧ Ext h h' := by
  apply impl_compare_call
  simp only [impl_compare_main, newK]
  refine ⟨rfl, rfl, ⟨by omega, by omega, by omega⟩, rfl, rfl, ⟨by omega, by omega, by omega⟩, rfl, rfl, ?_⟩
  refine (sCompare_c (l := tl a) (l' := tl b) ⟨rfl, .inr ⟨rfl, rfl, ?_⟩⟩ ⟨rfl, .inr ⟨rfl, rfl, ?_⟩⟩ (by simp [tl])).to ?_
  · simp [tc, tl, ic]
  · simp [tc, tl, ic]
  · rintro _ _ ⟨rfl, rfl⟩
    exact ⟨_, rfl, rfl, by simp⟩
/-- The less of two tiles; the first, if they are alike. -/
def lessT (m x : Tile) : Tile := if cmpT x m < 0 then x else m
/-- The class: the least turn. -/
def cls (t : Tile) : Tile := (turnsN 3 (turn t)).foldl lessT t
theorem l01Before_c (a b : Tile) (h : H) : callB SP i_spec_l01Before [.agg (tc a), .agg (tc b)] h fun r h' => r = decide (cmpT a b < 0) ∧ Ext h h' := by
  apply spec_l01Before_call
  simp only [spec_l01Before_main, newK]
  refine ⟨rfl, rfl, ?_⟩
  refine spec_l01Before_rule0 _ _ _ _ (fun i h' => 0 ≤ i ∧ i ≤ 4 ∧ h' = h ++ [.own (tc a)] ++ [.own (tc b)] ∧ cmpT a b = cmpL ((tl a).drop i.toNat) ((tl b).drop i.toNat)) (fun i _ => (4 - i).toNat) ?_ _ ⟨by omega, by omega, rfl, by simp [cmpT]⟩
  rintro X i _ ⟨i0, i1, rfl, he⟩ hX
  unfold spec_l01Before_b0 spec_l01Before_C0
  refine bif_dec (fun hi => ?_) (fun hi => ?_)
  · have hx : (tl a)[i.toNat]? = some _ := List.getElem?_eq_getElem (by simp [tl]; omega)
    have hy : (tl b)[i.toNat]? = some _ := List.getElem?_eq_getElem (by simp [tl]; omega)
    rw [drop_cons hx, drop_cons hy, cmpL] at he
    have gx := ic_at hx
    have gy := ic_at hy
    refine ixA_ldI (cs := tc a) (by simp) rfl i0 hi gx (ixA_ldI (cs := tc b) (by simp) rfl i0 hi gy (bif_ne (fun hq => ?_) (fun hq => ?_)))
    · refine ixA_ldI (cs := tc a) (by simp) rfl i0 hi gx (ixA_ldI (cs := tc b) (by simp) rfl i0 hi gy ⟨_, rfl, ?_, by simp⟩)
      rw [he]
      by_cases h1 : (tl a)[i.toNat]'(by simp [tl]; omega) < (tl b)[i.toNat]'(by simp [tl]; omega)
      · simp [h1]
      · have h2 : (tl a)[i.toNat]'(by simp [tl]; omega) > (tl b)[i.toNat]'(by simp [tl]; omega) := by omega
        simp [h1, h2]
    · rw [w64_of (by omega) (by omega)]
      refine hX _ _ ⟨by omega, by omega, rfl, ?_⟩ (by omega)
      rw [he, if_neg (by omega), if_neg (by omega), show (i + 1).toNat = i.toNat + 1 by omega]
  · refine ⟨_, rfl, ?_, by simp⟩
    rw [he, List.drop_eq_nil_of_le (by simp [tl]; omega), List.drop_eq_nil_of_le (by simp [tl]; omega)]
    rfl
/-- a store of one cell into a view that is owned whole -/
theorem Ow.stC {h : H} {s : Sl} {cs : List AVal} (r : Ow h s 1 cs) {i : Int} (h0 : 0 ≤ i) (h1 : i < s.len) (v : AVal) {K : H → Prop}
    (hk : ∀ h', Ow h' s 1 (cs.set i.toNat v) → But s.o h h' → h'.length = h.length → K h') : ixS s 1 i fun p => Cl.st1 p v h K := by
  obtain ⟨a, b⟩ | ⟨o, a, b, c, d, e⟩ := r.at_
  · omega
  · have hlen := r.len
    have ho : o < h.length := (List.getElem?_eq_some_iff.1 e).1
    refine ⟨⟨h0, h1⟩, b, by simp [a], h.set o (.own (cs.set i.toNat v)), ?_, hk _ ⟨by simpa using hlen, .inr ⟨o, a, b, c, d, by simp [List.getElem?_set, ho]⟩⟩ ?_ (by simp)⟩
    · unfold put1 owned
      simp [a, c, d, e, hlen]
      omega
    · rw [a]
      exact ⟨by simp, fun k hk hn => by rw [List.getElem?_set, if_neg (fun e => hn (by rw [e]))]⟩
theorem Ow.stI {h : H} {s : Sl} {l : List Int} (r : Ow h s 1 (ic l)) {i : Int} (h0 : 0 ≤ i) (h1 : i < s.len) (x : Int) {K : H → Prop}
    (hk : ∀ h', Ow h' s 1 (ic (l.set i.toNat x)) → But s.o h h' → h'.length = h.length → K h') : ixS s 1 i fun p => Cl.st1 p (.int .i64 x) h K :=
  r.stC h0 h1 _ fun h' o b n => hk h' (by
    have : (ic l).set i.toNat (i64 x) = ic (l.set i.toNat x) := by unfold ic; rw [List.map_set]
    rw [← this]; exact o) b n
/-- a store of an element of several cells into a view that is owned whole -/
theorem Ow.stA {h : H} {s : Sl} {z : Nat} {cs : List AVal} (r : Ow h s z cs) {i : Int} (h0 : 0 ≤ i) (h1 : i < s.len) (vs : List AVal) (hv : vs.length = z) {K : H → Prop}
    (hk : ∀ h', Ow h' s z (splice cs (i.toNat * z) vs) → But s.o h h' → h'.length = h.length → K h') : ixS s z i fun p => Cl.stN p z vs h K := by
  obtain ⟨a, b⟩ | ⟨o, a, b, c, d, e⟩ := r.at_
  · omega
  · have hlen := r.len
    have ho : o < h.length := (List.getElem?_eq_some_iff.1 e).1
    have hb : i.toNat * z + z ≤ s.len * z := by
      have : (i.toNat + 1) * z ≤ s.len * z := Nat.mul_le_mul_right _ (by omega)
      rw [Nat.add_mul] at this; omega
    have hsl : (splice cs (i.toNat * z) vs).length = s.len * z := by
      unfold splice
      rw [List.length_append, List.length_append, List.length_take, List.length_drop, hlen, hv]; omega
    refine ⟨⟨h0, h1⟩, b, by simp [a], h.set o (.own (splice cs (i.toNat * z) vs)), hv, ?_, hk _ ⟨hsl, .inr ⟨o, a, b, c, d, by simp [List.getElem?_set, ho]⟩⟩ ?_ (by simp)⟩
    · unfold putN owned
      simp [a, c, d, e, hlen, hv]
      omega
    · rw [a]
      exact ⟨by simp, fun k hk hn => by rw [List.getElem?_set, if_neg (fun e => hn (by rw [e]))]⟩
theorem tcs_set : ∀ (l : List Tile) (i : Nat) (t : Tile), i < l.length → splice (tcs l) (i * 4) (tc t) = tcs (l.set i t)
  | [], i, t, h => by simp at h
  | a :: l, 0, t, h => by
    unfold splice
    simp [tcs_cons, tc]
  | a :: l, i + 1, t, h => by
    have ih := tcs_set l i t (by simpa using h)
    rw [List.set_cons_succ, tcs_cons, tcs_cons, ← ih]
    unfold splice
    rw [show (i + 1) * 4 = (tc a).length + i * 4 by rw [tc_len]; omega, show (tc a).length + i * 4 + (tc t).length = (tc a).length + (i * 4 + (tc t).length) by omega]
    rw [List.take_length_add_append, List.drop_length_add_append]
    simp
theorem toTileS_c {h0 : H} {s : Sl} {ts : List Tile} (r : Rd h0 s 4 (tcs ts)) (hl : ts.length ≤ 1048576) : callS SP i_laws_toTileS [.sl s] h0 fun s' h' => Ow h' s' 4 (tcs ts) ∧ Fr h0.length s' ∧ Ext h0 h' := by
  have hlen : s.len = ts.length := r.tlen
  apply laws_toTileS_call
  unfold laws_toTileS_main
  refine mkS_ow (by omega) (by unfold lim; omega) fun s' h1 ho hlen' hso he => ?_
  have hz : (List.replicate (s.len : Int).toNat [AVal.int .i64 0, .int .i64 0, .int .i64 0, .int .i64 0]).flatten = tcs (List.replicate ts.length ((0, 0, 0, 0) : Tile)) := by
    unfold tcs
    rw [List.map_replicate, ← hlen]; rfl
  rw [hz] at ho
  refine laws_toTileS_rule0 _ _ s s' (fun i h' => 0 ≤ i ∧ i ≤ ts.length ∧ Ext h0 h' ∧ ∃ l : List Tile, l.length = ts.length ∧ Ow h' s' 4 (tcs l) ∧ ∀ j, j < i.toNat → l[j]? = ts[j]?) (fun i _ => (ts.length - i).toNat) ?_ _ ⟨by omega, by omega, by rw [he]; exact Ext.app _ _, _, by simp, ho, fun j hj => by omega⟩
  rintro X i h' ⟨i0, i1, x, l, ll, ol, hj⟩ hX
  unfold laws_toTileS_b0 laws_toTileS_C0
  have hsl : s'.len = ts.length := by rw [hlen', ← hlen]; omega
  refine bif_dec (fun hi => ?_) (fun hi => ?_)
  · refine (r.ext x).ldT i0 (by omega) fun t ht => ?_
    refine (toTile_c t h').to ?_
    rintro _ h2 ⟨rfl, x2⟩
    refine (ol.ext x2).stA i0 (by omega) _ rfl fun h3 o3 b3 n3 => ?_
    rw [w64_of (by omega) (by omega)]
    rw [tcs_set l i.toNat t (by omega)] at o3
    refine hX _ _ ⟨by omega, by omega, (x.trans x2).but_ b3 (by rw [hso]; exact some_le (Nat.le_refl _)), _, by simpa using ll, o3, fun j hj2 => ?_⟩ (by omega)
    rw [List.getElem?_set]
    split
    · next e => subst e; rw [if_pos (by omega), ht]
    · exact hj j (by omega)
  · refine ⟨_, rfl, ?_, fun o e => by rw [hso] at e; cases e; exact Nat.le_refl _, x⟩
    have : l = ts := by
      apply List.ext_getElem?
      intro j
      by_cases h : j < ts.length
      · exact hj j (by omega)
      · rw [List.getElem?_eq_none (by omega), List.getElem?_eq_none (by omega)]
    rw [← this]; exact ol
theorem szTileS_c (s : Sl) (left : Int) (hl : s.len ≤ 9223372036854775807) (h1 : 0 ≤ left) (h2 : left ≤ 1048576) (h : H) : callI SP .i64 i_laws_szTileS [.sl s, i64 left] h fun n h' => n = (if left - s.len < 0 then -1 else left - s.len) ∧ h' = h := by
  apply laws_szTileS_call
  unfold laws_szTileS_main
  rw [w64_of (by omega) (by omega)]
  refine bif_dec (fun hi => ⟨_, rfl, by simp [hi], rfl⟩) (fun hi => ⟨_, rfl, by simp [hi], rfl⟩)
theorem eqInt64S_c {h0 : H} {s s' : Sl} {l l' : List Int} (r : Rd h0 s 1 (ic l)) (r' : Rd h0 s' 1 (ic l')) (hl : l.length < 4000000000000000000) : callB SP i_laws_eqInt64S [.sl s, .sl s'] h0 fun b h' => b = (l == l') ∧ h' = h0 := by
  have hlen : s.len = l.length := by have := r.len; rw [ic_len] at this; omega
  have hlen' : s'.len = l'.length := by have := r'.len; rw [ic_len] at this; omega
  apply laws_eqInt64S_call
  unfold laws_eqInt64S_main
  refine bif_ne (fun hq => ?_) (fun hq => ?_)
  · refine ⟨_, rfl, ?_, rfl⟩
    cases hb : l == l' with
    | false => rfl
    | true => rw [beq_iff_eq] at hb; subst hb; omega
  refine laws_eqInt64S_rule0 _ _ _ _ (fun i h => 0 ≤ i ∧ i ≤ l.length ∧ h = h0 ∧ ∀ j, j < i.toNat → l[j]? = l'[j]?) (fun i _ => (l.length - i).toNat) ?_ _ ⟨by omega, by omega, rfl, fun j hj => by omega⟩
  rintro X i _ ⟨i0, i1, rfl, hn⟩ hX
  unfold laws_eqInt64S_b0 laws_eqInt64S_C0
  refine bif_dec (fun hi => ?_) (fun hi => ?_)
  · refine r.ldI i0 (by omega) fun x hxe => r'.ldI i0 (by omega) fun y hye => ?_
    refine bif_ne (fun hq => ?_) (fun hq => ?_)
    · refine ⟨_, rfl, ?_, rfl⟩
      cases hb : l == l' with
      | false => rfl
      | true =>
        rw [beq_iff_eq] at hb; subst hb
        rw [hxe] at hye; cases hye
        exact absurd rfl hq
    · rw [w64_of (by omega) (by omega)]
      refine hX _ _ ⟨by omega, by omega, rfl, fun j hj => ?_⟩ (by omega)
      by_cases hji : j = i.toNat
      · subst hji
        rw [hxe, hye, hq]
      · exact hn j (by omega)
  · refine ⟨_, rfl, ?_, rfl⟩
    symm
    rw [beq_iff_eq]
    apply List.ext_getElem?
    intro j
    by_cases hj : j < l.length
    · exact hn j (by omega)
    · rw [List.getElem?_eq_none (by omega), List.getElem?_eq_none (by omega)]
theorem markInt64S_c {h0 : H} {s : Sl} {l : List Int} (r : Ow h0 s 1 (ic l)) (k0 : Int) (hk0 : 0 ≤ k0) (hk1 : k0 ≤ 1000000000000000000) (hl : s.len < 1000000000000000000) : callI SP .i64 i_laws_markInt64S [.sl s, i64 k0] h0 fun n h' => n = k0 + s.len ∧ Ow h' s 1 (ic (upto k0 s.len)) ∧ But s.o h0 h' ∧ h'.length = h0.length := by
  have hlen := r.len
  rw [ic_len] at hlen
  apply laws_markInt64S_call
  unfold laws_markInt64S_main
  refine laws_markInt64S_rule0 _ _ _ (fun k i h => 0 ≤ i ∧ i ≤ s.len ∧ k = k0 + i ∧ ∃ l', Ow h s 1 (ic l') ∧ (∀ j : Nat, j < i.toNat → l'[j]? = some (k0 + (j : Int))) ∧ But s.o h0 h ∧ h.length = h0.length) (fun k i _ => (s.len - i).toNat) ?_ _ _ ⟨by omega, by omega, by omega, l, r, fun j hj => by omega, But.refl _ _, rfl⟩
  rintro X k i h ⟨i0, i1, rfl, l1, o1, e1, b1, n1⟩ hX
  unfold laws_markInt64S_b0 laws_markInt64S_C0
  refine bif_dec (fun hi => ?_) (fun hi => ?_)
  · refine o1.stI i0 hi _ fun h3 o3 b3 n3 => ?_
    rw [w64_of (by omega) (by omega), w64_of (by omega) (by omega)]
    refine hX _ _ _ ⟨by omega, by omega, by omega, _, o3, fun j2 hj2 => ?_, b1.trans b3, by omega⟩ (by omega)
    have hl2 := o1.len
    rw [ic_len] at hl2
    rw [List.getElem?_set]
    split
    · next e =>
      rw [if_pos (by omega)]
      congr 1; omega
    · exact e1 j2 (by omega)
  · refine ⟨_, rfl, by omega, ?_, b1, n1⟩
    have : l1 = upto k0 s.len := by
      have hl1 := o1.len
      rw [ic_len] at hl1
      apply List.ext_getElem?
      intro j
      by_cases hj : j < s.len
      · rw [e1 j (by omega), upto_at _ _ _ hj]
      · rw [List.getElem?_eq_none (by omega), List.getElem?_eq_none (by rw [upto_len]; omega)]
    rw [← this]; exact o1
theorem heldInt64S_c {h0 : H} {s : Sl} (k0 : Int) (hk0 : 0 ≤ k0) (hk1 : k0 ≤ 1000000000000000000) (r : Rd h0 s 1 (ic (upto k0 s.len))) (hl : s.len < 1000000000000000000) : callI SP .i64 i_laws_heldInt64S [.sl s, i64 k0] h0 fun n h' => n = k0 + s.len ∧ h' = h0 := by
  apply laws_heldInt64S_call
  unfold laws_heldInt64S_main
  refine laws_heldInt64S_rule0 _ _ _ (fun k i h => 0 ≤ i ∧ i ≤ s.len ∧ k = k0 + i ∧ h = h0) (fun k i _ => (s.len - i).toNat) ?_ _ _ ⟨by omega, by omega, by omega, rfl⟩
  rintro X k i _ ⟨i0, i1, rfl, rfl⟩ hX
  unfold laws_heldInt64S_b0 laws_heldInt64S_C0
  refine bif_dec (fun hi => ?_) (fun hi => ?_)
  · refine r.ldI i0 (by rw [upto_len]; omega) fun x hx => ?_
    rw [upto_at _ _ _ (by omega)] at hx
    cases hx
    refine bif_ne (fun hq => absurd (by omega) hq) (fun _ => ?_)
    rw [w64_of (by omega) (by omega), w64_of (by omega) (by omega)]
    exact hX _ _ _ ⟨by omega, by omega, by omega, rfl⟩ (by omega)
  · exact ⟨_, rfl, by omega, rfl⟩
end Go.Proofs.Ytdmhchgaeepdmaa.Cl

/- Contracts of the laws' helpers for sets and for slices of slices, and of the functions that tell sets. No claim is stated here. -/
set_option linter.unusedVariables false
set_option linter.unusedSimpArgs false
namespace Go.Proofs.Ytdmhchgaeepdmaa.Cl
open Go
/-! ### sets -/
abbrev TSet := Int × List Tile
/-- The cells of a set. -/
def SetC (c : Int) (s : Sl) : List AVal := [i64 c, .sl s]
theorem szSet_c (c : Int) (s : Sl) (left : Int) (hl : s.len ≤ 9223372036854775807) (h1 : 0 ≤ left) (h2 : left ≤ 1048576) (h : H) : callI SP .i64 i_laws_szSet [.agg (SetC c s), i64 left] h fun n h' => n = (if left - s.len < 0 then -1 else left - s.len) ∧ Ext h h' := by
  apply laws_szSet_call
  unfold laws_szSet_main
  refine newK_obj fun h1 o1 x1 n1 => ?_
  refine isPt_in (o1.ldS rfl rfl ?_)
  refine (szTileS_c s left hl (by omega) (by omega) h1).to ?_
  rintro _ _ ⟨rfl, rfl⟩
  refine bif_dec (fun hq => ⟨_, rfl, ?_, x1⟩) (fun hq => ⟨_, rfl, rfl, x1⟩)
  split at hq
  · next e => rw [if_pos e]
  · next e => omega
theorem toSet_c {h0 : H} {c : Int} {s : Sl} {ts : List Tile} (r : Rd h0 s 4 (tcs ts)) (hl : ts.length ≤ 1048576) : callA SP i_laws_toSet [.agg (SetC c s)] h0 fun v h' => ∃ s', v = SetC c s' ∧ Ow h' s' 4 (tcs ts) ∧ Fr h0.length s' ∧ Ext h0 h' := by
  apply laws_toSet_call
  unfold laws_toSet_main
  refine newK_obj fun h1 o1 x1 n1 => ?_
  refine newO_obj fun h2 o2 x2 n2 => ?_
  refine newO_obj fun h3 o3 x3 n3 => ?_
  refine isPt_in ?_
  have x13 := x1.trans (x2.trans x3)
  have o1' := o1.ext (x2.trans x3)
  refine o1'.ldI rfl rfl (isPt_in ?_)
  refine o3.st1 rfl (by simp) _ fun h4 o4 b4 n4 => ?_
  refine isPt_in ?_
  have x4 : Ext h1 h4 := (x2.trans x3).but_ b4 (some_le (by omega))
  refine (o1.ext x4).ldS rfl rfl ?_
  refine (toTileS_c (r.ext (x1.trans x4)) hl).to ?_
  rintro s' h5 ⟨os, fs, x5⟩
  refine isPt_in ?_
  refine (o4.ext x5).st1 rfl (by simp) _ fun h6 o6 b6 n6 => ?_
  refine o6.ldA rfl ?_
  have o2' := ((o2.ext x3).but b4 (fun e => by have := Option.some.inj e; omega)).ext x5 |>.but b6 (fun e => by have := Option.some.inj e; omega)
  have hne : ∀ o, s'.o = some o → h4.length ≤ o := fun o e => fs o e
  refine o2'.stA fun h7 o7 b7 n7 => ?_
  refine o7.ldA rfl ⟨_, rfl, s', rfl, ?_, ?_, ?_⟩
  · refine (os.but b6 ?_).but b7 ?_
    · refine .inl fun e => ?_
      have := hne _ e.symm
      omega
    · refine .inl fun e => ?_
      have := hne _ e.symm
      omega
  · exact fs.le (by omega)
  · refine Ext.but_ (Ext.but_ ((x1.trans x4).trans x5) b6 (some_le (by omega))) b7 (some_le (by omega))
theorem eqSet_c {h0 : H} {c c' : Int} {s s' : Sl} {ts ts' : List Tile} (r : Rd h0 s 4 (tcs ts)) (r' : Rd h0 s' 4 (tcs ts')) (hl : ts.length < 4000000000000000000) : callB SP i_laws_eqSet [.agg (SetC c s), .agg (SetC c' s')] h0 fun b h' => b = (c == c' && ts == ts') ∧ Ext h0 h' := by
  apply laws_eqSet_call
  unfold laws_eqSet_main
  refine newK_obj fun h1 o1 x1 n1 => ?_
  refine newK_obj fun h2 o2 x2 n2 => ?_
  refine isPt_in ?_
  have x := x1.trans x2
  refine (o1.ext x2).ldI rfl rfl (isPt_in (o2.ldI rfl rfl ?_))
  refine bif_ne (fun hq => ⟨_, rfl, by simp [hq], x⟩) (fun hq => ?_)
  subst hq
  refine isPt_in ((o1.ext x2).ldS rfl rfl (isPt_in (o2.ldS rfl rfl ?_)))
  refine (eqTileS_c (r.ext x) (r'.ext x) hl).to ?_
  rintro _ h3 ⟨rfl, x3⟩
  refine bif_not (fun hq => ⟨_, rfl, by simp [hq], x.trans x3⟩) (fun hq => ⟨_, rfl, by simp [hq], x.trans x3⟩)
theorem markSet_c {h0 : H} {c : Int} {s : Sl} {l : List Int} (r : Ow h0 s 4 (ic l)) (k0 : Int) (hk0 : 0 ≤ k0) (hk1 : k0 ≤ 1000000000000000000) (hl : s.len < 1000000000000000000) : callI SP .i64 i_laws_markSet [.agg (SetC c s), i64 k0] h0 fun n h' => n = k0 + 4 * s.len ∧ Ow h' s 4 (ic (upto k0 (s.len * 4))) ∧ Chg (fun i => s.o = some i) h0 h' := by
  apply laws_markSet_call
  unfold laws_markSet_main
  refine newK_obj fun h1 o1 x1 n1 => ?_
  refine isPt_in (o1.ldS rfl rfl ?_)
  refine (markTileS_k (r.ext x1) k0 hk0 hk1 hl).to ?_
  rintro _ h2 ⟨rfl, o2, b2, n2⟩
  exact ⟨_, rfl, rfl, o2, (x1.chg _).trans (b2.chg fun i e => e)⟩
theorem tcs_ic' : ∀ ts : List Tile, ∃ l, tcs ts = ic l
  | [] => ⟨[], rfl⟩
  | t :: ts => by
    obtain ⟨l, e⟩ := tcs_ic' ts
    exact ⟨tl t ++ l, by rw [tcs_cons, e, ic_app, tc_tl]⟩
/-! ### slices of integers and of slices -/
/-- All lengths of a slice of slices, and its own. -/
def sumLen (ls : List (List Int)) : Nat := (ls.map List.length).sum
theorem sumLen_mem {ls : List (List Int)} {l : List Int} (h : l ∈ ls) : l.length ≤ sumLen ls := by
  unfold sumLen
  induction ls with
  | nil => simp at h
  | cons a ls ih =>
    simp only [List.map_cons, List.sum_cons]
    rcases List.mem_cons.1 h with rfl | h
    · omega
    · have := ih h; omega
theorem sumLen_take (ls : List (List Int)) (i : Nat) (l : List Int) (h : ls[i]? = some l) : sumLen (ls.take (i + 1)) = sumLen (ls.take i) + l.length := by
  unfold sumLen
  rw [List.take_add_one, h]
  simp
theorem sumLen_take_le (ls : List (List Int)) (i : Nat) : sumLen (ls.take i) ≤ sumLen ls := by
  unfold sumLen
  conv => rhs; rw [← List.take_append_drop i ls]
  rw [List.map_append, List.sum_append]
  omega
theorem eqInt64SS_c {h0 : H} {s s' : Sl} {ls ls' : List (List Int)} (r : RdSS h0 s ls) (r' : RdSS h0 s' ls') (hl : ls.length < 4000000000000000000) (hls : ∀ l ∈ ls, l.length < 4000000000000000000) : callB SP i_laws_eqInt64SS [.sl s, .sl s'] h0 fun b h' => b = (ls == ls') ∧ h' = h0 := by
  have hlen := r.len
  have hlen' := r'.len
  apply laws_eqInt64SS_call
  unfold laws_eqInt64SS_main
  refine bif_ne (fun hq => ?_) (fun hq => ?_)
  · refine ⟨_, rfl, ?_, rfl⟩
    cases hb : ls == ls' with
    | false => rfl
    | true => rw [beq_iff_eq] at hb; subst hb; omega
  refine laws_eqInt64SS_rule0 _ _ _ _ (fun i h => 0 ≤ i ∧ i ≤ ls.length ∧ h = h0 ∧ ∀ j, j < i.toNat → ls[j]? = ls'[j]?) (fun i _ => (ls.length - i).toNat) ?_ _ ⟨by omega, by omega, rfl, fun j hj => by omega⟩
  rintro X i _ ⟨i0, i1, rfl, hn⟩ hX
  unfold laws_eqInt64SS_b0 laws_eqInt64SS_C0
  refine bif_dec (fun hi => ?_) (fun hi => ?_)
  · refine r.ld i0 (by omega) fun v l hv rv lv => r'.ld i0 (by omega) fun v' l' hv' rv' lv' => ?_
    refine (eqInt64S_c rv rv' (hls l (List.mem_of_getElem? hv))).to ?_
    rintro _ _ ⟨rfl, rfl⟩
    refine bif_not (fun hq => ?_) (fun hq => ?_)
    · refine ⟨_, rfl, ?_, rfl⟩
      cases hb : ls == ls' with
      | false => rfl
      | true =>
        rw [beq_iff_eq] at hb; subst hb
        rw [hv] at hv'; cases hv'
        simp at hq
    · rw [w64_of (by omega) (by omega)]
      refine hX _ _ ⟨by omega, by omega, rfl, fun j hj => ?_⟩ (by omega)
      by_cases hji : j = i.toNat
      · subst hji
        rw [hv, hv']
        simp at hq
        rw [hq]
      · exact hn j (by omega)
  · refine ⟨_, rfl, ?_, rfl⟩
    symm
    rw [beq_iff_eq]
    apply List.ext_getElem?
    intro j
    by_cases hj : j < ls.length
    · exact hn j (by omega)
    · rw [List.getElem?_eq_none (by omega), List.getElem?_eq_none (by omega)]
/-- What marks make of the rows. -/
def marks (k : Int) : List (List Int) → List (List Int)
  | [] => []
  | l :: ls => upto k l.length :: marks (k + l.length) ls
theorem marks_len : ∀ (ls : List (List Int)) (k : Int), (marks k ls).length = ls.length
  | [], k => rfl
  | l :: ls, k => by simp [marks, marks_len ls]
theorem marks_at : ∀ (ls : List (List Int)) (k : Int) (i : Nat) (l : List Int), ls[i]? = some l → (marks k ls)[i]? = some (upto (k + sumLen (ls.take i)) l.length)
  | [], k, i, l, h => by simp at h
  | a :: ls, k, 0, l, h => by simp at h; subst h; simp [marks, sumLen]
  | a :: ls, k, i + 1, l, h => by
    simp at h
    simp only [marks, List.getElem?_cons_succ, List.take_succ_cons]
    rw [marks_at ls _ i l h]
    congr 2
    simp [sumLen]; omega
theorem NewSS.top {n : Nat} {hx h0 : H} {s : Sl} {ls : List (List Int)} (r : NewSS n hx s ls) {Q : Nat → Prop} (c : Chg Q hx h0) (hq : ∀ o, n ≤ o → ¬ Q o) (vs : List Sl) (hv : Ow h0 s 1 (vs.map .sl)) : ∀ v ∈ vs, ∀ o, v.o = some o → n ≤ o ∧ o < hx.length := by
  obtain ⟨us, h1, h2, h3, h4, _⟩ := r
  have hu := h2.chg c fun o e => hq o (h3 o e)
  have hq : vs = us := by
    have a := hu.rd.sread (by omega)
    have b := hv.rd.sread (by omega)
    rw [a] at b
    have : us.map AVal.sl = vs.map AVal.sl := Option.some.inj b
    exact (List.map_inj_right (fun a b e => by simpa using e) |>.1 this).symm
  subst hq
  intro v hm o e
  obtain ⟨i, hi⟩ := List.getElem?_of_mem hm
  obtain ⟨l, hl⟩ := mem_idx h1 hi
  obtain ⟨p, q⟩ := h4 i v l hi hl
  exact ⟨q o e, p.lt e⟩
theorem markInt64SS_c {n0 : Nat} {h0 : H} {s : Sl} {ls : List (List Int)} (r : NewSS n0 h0 s ls) {Q : Nat → Prop} (hP0 : ∀ vs : List Sl, Ow h0 s 1 (vs.map .sl) → ∀ v ∈ vs, ∀ o, v.o = some o → Q o) (k0 : Int) (hk0 : 0 ≤ k0) (hk1 : k0 ≤ 1000000000) (hl : ls.length < 1000000000) (hs : sumLen ls < 1000000000) :
    callI SP .i64 i_laws_markInt64SS [.sl s, i64 k0] h0 fun n h' => n = k0 + sumLen ls ∧ NewSS n0 h' s (marks k0 ls) ∧ Chg Q h0 h' ∧ h'.length = h0.length := by
  obtain ⟨vs, e1, e2, e3, e4, e5, e6⟩ := r
  have hlen : s.len = ls.length := by have := e2.len; simp at this; omega
  apply laws_markInt64SS_call
  unfold laws_markInt64SS_main
  refine laws_markInt64SS_rule0 _ _ _ (fun k i h => 0 ≤ i ∧ i ≤ ls.length ∧ k = k0 + sumLen (ls.take i.toNat) ∧ h.length = h0.length ∧ Chg Q h0 h ∧ Ow h s 1 (vs.map .sl) ∧
      (∀ (j : Nat) v l, vs[j]? = some v → ls[j]? = some l → Ow h v 1 (ic (if j < i.toNat then upto (k0 + sumLen (ls.take j)) l.length else l)))) (fun k i _ => (ls.length - i).toNat) ?_ _ _
      ⟨by omega, by omega, by simp [sumLen], rfl, Chg.refl _ _, e2, fun j v l a b => by rw [if_neg (by omega)]; exact (e4 j v l a b).1⟩
  rintro X k i h ⟨i0, i1, rfl, hh, c, os, ov⟩ hX
  unfold laws_markInt64SS_b0 laws_markInt64SS_C0
  refine bif_dec (fun hi => ?_) (fun hi => ?_)
  · refine os.rd.ldS i0 (by omega) fun v hv => ?_
    obtain ⟨l, hl'⟩ := mem_idx e1 hv
    have o1 := ov i.toNat v l hv hl'
    rw [if_neg (by omega)] at o1
    have hvl := o1.rd.ilen
    have hll := sumLen_mem (List.mem_of_getElem? hl')
    have htk := sumLen_take_le ls i.toNat
    refine (markInt64S_c o1 _ (by omega) (by omega) (by omega)).to ?_
    rintro _ h2 ⟨rfl, o2, b2, n2⟩
    rw [w64_of (by omega) (by omega)]
    have hP : ∀ o, v.o = some o → Q o := fun o e => hP0 vs e2 v (List.mem_of_getElem? hv) o e
    refine hX _ _ _ ⟨by omega, by omega, ?_, by omega, c.trans (b2.chg hP), ?_, fun j w l' hw hl2 => ?_⟩ (by omega)
    · rw [show (i + 1).toNat = i.toNat + 1 by omega, sumLen_take _ _ _ hl', hvl]; push_cast; omega
    · refine os.but b2 ?_
      cases hq : v.o with
      | none => exact .inr rfl
      | some o => exact .inl fun e => e6 _ v hv o hq e.symm
    · by_cases hj : j = i.toNat
      · subst hj
        rw [hv] at hw; cases hw
        rw [hl'] at hl2; cases hl2
        rw [if_pos (by omega), ← hvl]; exact o2
      · have := ov j w l' hw hl2
        refine Ow.but (o := v.o) ?_ b2 ?_
        · by_cases hc : j < i.toNat
          · rw [if_pos (by omega)]; rw [if_pos hc] at this; exact this
          · rw [if_neg (by omega)]; rw [if_neg hc] at this; exact this
        · cases hq : v.o with
          | none => exact .inr rfl
          | some o => exact .inl fun e => e5 _ _ v w (fun e => hj e.symm) hv hw o hq e.symm
  · have : i.toNat = ls.length := by omega
    refine ⟨_, rfl, by rw [this, List.take_length], ⟨vs, by rw [marks_len, e1], os, e3, fun j v l a b => ?_, e5, e6⟩, c, hh⟩
    obtain ⟨l', hl'⟩ := mem_idx e1 a
    rw [marks_at ls k0 j l' hl'] at b
    cases b
    have hj := (List.getElem?_eq_some_iff.1 hl').1
    have := ov j v l' a hl'
    rw [if_pos (by omega)] at this
    exact ⟨this, (e4 j v l' a hl').2⟩
theorem heldInt64SS_c {h0 : H} {s : Sl} {ls : List (List Int)} (k0 : Int) (hk0 : 0 ≤ k0) (hk1 : k0 ≤ 1000000000) (r : RdSS h0 s (marks k0 ls)) (hl : ls.length < 1000000000) (hs : sumLen ls < 1000000000) :
    callI SP .i64 i_laws_heldInt64SS [.sl s, i64 k0] h0 fun n h' => n = k0 + sumLen ls ∧ h' = h0 := by
  have hlen := r.len
  rw [marks_len] at hlen
  apply laws_heldInt64SS_call
  unfold laws_heldInt64SS_main
  refine laws_heldInt64SS_rule0 _ _ _ (fun k i h => 0 ≤ i ∧ i ≤ ls.length ∧ k = k0 + sumLen (ls.take i.toNat) ∧ h = h0) (fun k i _ => (ls.length - i).toNat) ?_ _ _ ⟨by omega, by omega, by simp [sumLen], rfl⟩
  rintro X k i _ ⟨i0, i1, rfl, rfl⟩ hX
  unfold laws_heldInt64SS_b0 laws_heldInt64SS_C0
  refine bif_dec (fun hi => ?_) (fun hi => ?_)
  · refine r.ld i0 (by rw [marks_len]; omega) fun v m hv rv lv => ?_
    obtain ⟨l, hl'⟩ : ∃ l, ls[i.toNat]? = some l := ⟨ls[i.toNat]'(by omega), List.getElem?_eq_getElem (by omega)⟩
    rw [marks_at ls k0 _ l hl'] at hv
    cases hv
    rw [upto_len] at lv
    have hll := sumLen_mem (List.mem_of_getElem? hl')
    have htk := sumLen_take_le ls i.toNat
    refine (heldInt64S_c _ (by omega) (by omega) (by rw [lv]; exact rv) (by omega)).to ?_
    rintro _ _ ⟨rfl, rfl⟩
    refine bif_dec (fun hq => by omega) (fun _ => ?_)
    rw [w64_of (by omega) (by omega)]
    refine hX _ _ _ ⟨by omega, by omega, ?_, rfl⟩ (by omega)
    rw [show (i + 1).toNat = i.toNat + 1 by omega, sumLen_take _ _ _ hl', lv]; push_cast; omega
  · have : i.toNat = ls.length := by omega
    exact ⟨_, rfl, by rw [this, List.take_length], rfl⟩
end Go.Proofs.Ytdmhchgaeepdmaa.Cl

/- Contracts of the functions that tell sets, rows of numbers of tiles, fillings, cylinders and tori. No claim is stated here. -/
set_option linter.unusedVariables false
set_option linter.unusedSimpArgs false
namespace Go.Proofs.Ytdmhchgaeepdmaa.Cl
open Go
/-! ### reading, by place -/
def sd (t : Tile) : Nat → Int | 0 => t.1 | 1 => t.2.1 | 2 => t.2.2.1 | _ => t.2.2.2
def tat (ts : List Tile) (n : Int) : Tile := ts.getD n.toNat (0, 0, 0, 0)
theorem tat_at {ts : List Tile} {n : Int} {t : Tile} (h : ts[n.toNat]? = some t) : tat ts n = t := by unfold tat; rw [List.getD_eq_getElem?_getD, h]; rfl
theorem at_tat {ts : List Tile} {n : Int} (h1 : n.toNat < ts.length) : ts[n.toNat]? = some (tat ts n) := by unfold tat; rw [List.getD_eq_getElem?_getD, List.getElem?_eq_getElem h1]; rfl
theorem tc_sd (t : Tile) {k : Nat} (hk : k < 4) : (tc t)[k]? = some (i64 (sd t k)) := by
  match k with
  | 0 => rfl
  | 1 => rfl
  | 2 => rfl
  | 3 => rfl
theorem Rd.sideG {h : H} {s : Sl} {ts : List Tile} (r : Rd h s 4 (tcs ts)) {n k : Int} (h0 : 0 ≤ n) (h1 : n < ts.length) (k0 : 0 ≤ k) (k1 : k < 4) {K : Int → Prop} (hk : K (sd (tat ts n) k.toNat)) : ixS s 4 n fun p => ixA p 4 1 k fun q => Cl.ldI .i64 q h K := by
  have hl := r.tlen
  refine r.ix h0 (by omega) fun p po pr => ⟨⟨k0, by omega⟩, po, _, ?_, hk⟩
  have := cell_of_range pr (i := k.toNat) (by omega)
  rw [Pt.add, Nat.mul_one, this, tcs_at ts n.toNat _ (at_tat (by omega)), tc_sd _ (by omega)]
theorem Rd.tileG {h : H} {s : Sl} {ts : List Tile} (r : Rd h s 4 (tcs ts)) {n : Int} (h0 : 0 ≤ n) (h1 : n < ts.length) {K : List AVal → Prop} (hk : K (tc (tat ts n))) : ixS s 4 n fun p => Cl.ldA p 4 h K :=
  r.ldT h0 h1 fun t ht => by rw [← tat_at ht]; exact hk
theorem Rd.ldG {h : H} {s : Sl} {l : List Int} (r : Rd h s 1 (ic l)) {i : Int} (h0 : 0 ≤ i) (h1 : i < l.length) {K : Int → Prop} (hk : K (l.getD i.toNat 0)) : ixS s 1 i fun p => Cl.ldI .i64 p h K :=
  r.ldI h0 h1 fun x hx => by rw [List.getD_eq_getElem?_getD, hx] at hk; exact hk
theorem Rd.ixC {h : H} {s : Sl} {l : List Int} (r : Rd h s 1 (ic l)) {i : Int} (h0 : 0 ≤ i) (h1 : i < l.length) {K : Pt → Prop} (hk : ∀ p : Pt, cell h p = some (i64 (l.getD i.toNat 0)) → K p) : ixS s 1 i K := by
  have hlen := r.ilen
  obtain hl | ⟨a, b, c⟩ := r.at_
  · omega
  · refine ⟨⟨h0, by omega⟩, a, b, hk _ ?_⟩
    have := cell_of_range c (i := i.toNat) (by omega)
    rw [Nat.mul_one, this]
    unfold ic
    rw [List.getElem?_map, List.getElem?_eq_getElem (by omega), List.getD_eq_getElem?_getD, List.getElem?_eq_getElem (by omega)]
    rfl
theorem Rd.ixT {h : H} {s : Sl} {ts : List Tile} (r : Rd h s 4 (tcs ts)) {n : Int} (h0 : 0 ≤ n) (h1 : n < ts.length) {K : Pt → Prop} (hk : ∀ p : Pt, p.o.isSome = true → range h p.o p.n p.off 4 = some (tc (tat ts n)) → K p) : ixS s 4 n K := by
  have hl := r.tlen
  refine r.ix h0 (by omega) fun p po pr => hk p po ?_
  rw [pr, tcs_at ts n.toNat _ (at_tat (by omega))]
theorem Ext.rangeE {h h' : H} (x : Ext h h') {o n off k cs} (e : Cl.range h o n off k = some cs) : Cl.range h' o n off k = Cl.range h o n off k := by rw [x.range e, e]
theorem Obj.sdI {h : H} {o : Nat} {t : Tile} (x : Obj h o (tc t)) {k : Int} (k0 : 0 ≤ k) (k1 : k < 4) {K : Int → Prop} (hk : K (sd t k.toNat)) : ixA ⟨some o, 4, 0⟩ 4 1 k fun p => Cl.ldI .i64 p h K :=
  ixA_ldI x rfl k0 (by omega) (tc_sd t (by omega)) hk
def rw_ (rows : List (List Int)) (y : Nat) : List Int := rows.getD y []
def G (rows : List (List Int)) (y x : Nat) : Int := (rw_ rows y).getD x 0
theorem rw_at {rows : List (List Int)} {y : Nat} {l : List Int} (h : rows[y]? = some l) : rw_ rows y = l := by unfold rw_; rw [List.getD_eq_getElem?_getD, h]; rfl
theorem at_rw {rows : List (List Int)} {y : Nat} (h : y < rows.length) : rows[y]? = some (rw_ rows y) := by unfold rw_; rw [List.getD_eq_getElem?_getD, List.getElem?_eq_getElem h]; rfl
theorem RdSS.ldG {h s ls} (r : RdSS h s ls) {i : Int} (h0 : 0 ≤ i) (h1 : i < ls.length) {K : Sl → Prop} (hk : ∀ v, Rd h v 1 (ic (rw_ ls i.toNat)) → v.len = (rw_ ls i.toNat).length → K v) : ixS s 1 i fun p => Cl.ldS p h K :=
  r.ld h0 h1 fun v l hv rv lv => by rw [← rw_at hv] at rv lv; exact hk v rv lv
theorem RdSS.ixC {h s ls} (r : RdSS h s ls) {i : Int} (h0 : 0 ≤ i) (h1 : i < ls.length) {K : Pt → Prop} (hk : ∀ (p : Pt) v, cell h p = some (.sl v) → Rd h v 1 (ic (rw_ ls i.toNat)) → v.len = (rw_ ls i.toNat).length → K p) : ixS s 1 i K := by
  have hlen := r.len
  obtain ⟨vs, e1, e2, e3⟩ := r
  have hv : vs[i.toNat]? = some vs[i.toNat] := List.getElem?_eq_getElem (by omega)
  have hr := e3 _ _ _ hv (at_rw (by omega))
  obtain hl | ⟨a, b, c⟩ := e2.at_
  · omega
  · refine ⟨⟨h0, by omega⟩, a, b, hk _ _ ?_ hr hr.ilen⟩
    have := cell_of_range c (i := i.toNat) (by omega)
    rw [Nat.mul_one, this, List.getElem?_map, hv]
    rfl
theorem within_k {a b c : Int} {h : H} {K : Bool → H → Prop} (hk : K (decide (b ≤ a ∧ a ≤ c)) h) : callB SP i_impl_within [i64 a, i64 b, i64 c] h K :=
  (within_c a b c h).to (by rintro _ _ ⟨rfl, rfl⟩; exact hk)
theorem l01In_k {a b c : Int} {h : H} {K : Bool → H → Prop} (hk : K (decide (b ≤ a ∧ a ≤ c)) h) : callB SP i_spec_l01In [i64 a, i64 b, i64 c] h K :=
  (l01In_c a b c h).to (by rintro _ _ ⟨rfl, rfl⟩; exact hk)
/-! ### sets -/
def Qset (c : Int) (ts : List Tile) (j : Nat) : Prop := tileok c (tat ts j) = true ∧ (0 < j → cmpT (tat ts ((j : Int) - 1)) (tat ts j) < 0)
def setOK (c : Int) (ts : List Tile) : Prop := (1 ≤ c ∧ c ≤ 6) ∧ ts.length ≤ 16 ∧ ∀ j, j < ts.length → Qset c ts j
theorem l01Is_c {h0 : H} {c : Int} {s : Sl} {ts : List Tile} (r : Rd h0 s 4 (tcs ts)) : callB SP i_spec_l01Is [.agg (SetC c s)] h0 fun b h' => (b = true ↔ setOK c ts) ∧ Ext h0 h' := by
  have hl := r.tlen
  apply spec_l01Is_call
  unfold spec_l01Is_main
  refine newK_obj fun h1 o1 x1 n1 => ?_
  refine isPt_in (o1.ldI rfl rfl ?_)
  refine l01In_k ?_
  refine bif_not (fun hc => ⟨_, rfl, ?_, x1⟩) (fun hc => ?_)
  · simp only [Bool.false_eq_true, false_iff]
    intro hs
    simp at hc
    have := hs.1; omega
  have hc' : 1 ≤ c ∧ c ≤ 6 := by simpa using hc
  refine isPt_in (o1.ldS rfl rfl ?_)
  refine bif_dec (fun hq => ⟨_, rfl, ?_, x1⟩) (fun hq => ?_)
  · simp only [Bool.false_eq_true, false_iff]
    intro hs
    have := hs.2.1; omega
  refine spec_l01Is_rule0 _ _ _ (fun i h => 0 ≤ i ∧ i ≤ ts.length ∧ Ext h1 h ∧ ∀ j, j < i.toNat → Qset c ts j) (fun i _ => (ts.length - i).toNat) ?_ _ ⟨by omega, by omega, Ext.refl _, fun j hj => by omega⟩
  rintro X i h ⟨i0, i1, x, hj⟩ hX
  unfold spec_l01Is_b0 spec_l01Is_C0
  have o := o1.ext x
  refine isPt_in (o.ldS rfl rfl ?_)
  have no : ∀ {h'}, Ext h h' → ¬ Qset c ts i.toNat → i < ts.length → ∃ b, AVal.bool false = .bool b ∧ (b = true ↔ setOK c ts) ∧ Ext h0 h' := fun {h'} x' hn hi =>
    ⟨_, rfl, by simp only [Bool.false_eq_true, false_iff]; exact fun hs => hn (hs.2.2 _ (by omega)), (x1.trans x).trans x'⟩
  refine bif_dec (fun hi => ?_) (fun hi => ?_)
  · refine isPt_in (o.ldI rfl rfl ?_)
    refine isPt_in (o.ldS rfl rfl ?_)
    have hn : ((i.toNat : Nat) : Int) = i := by omega
    refine (r.ext (x1.trans x)).tileG i0 (by omega) ?_
    refine (l01Tile_c c ⟨by omega, by omega⟩ (tat ts i) h).to ?_
    rintro _ h2 ⟨rfl, x2⟩
    refine bif_not (fun hq => no x2 (fun q => ?_) (by omega)) (fun hq => ?_)
    · have := q.1; rw [hn, hq] at this; cases this
    refine bif_dec (fun hp => ?_) (fun hp => ?_)
    · have o2 := o.ext x2
      have r2 := r.ext ((x1.trans x).trans x2)
      refine isPt_in (o2.ldS rfl rfl ?_)
      rw [w64_of (by omega) (by omega)]
      refine r2.tileG (by omega) (by omega) ?_
      refine isPt_in (o2.ldS rfl rfl ?_)
      refine r2.tileG i0 (by omega) ?_
      refine (l01Before_c _ _ _).to ?_
      rintro _ h3 ⟨rfl, x3⟩
      refine bif_not (fun hb => no (x2.trans x3) (fun q => ?_) (by omega)) (fun hb => ?_)
      · have := q.2 (by omega); rw [hn] at this; simp at hb; omega
      · rw [w64_of (by omega) (by omega)]
        refine hX _ _ ⟨by omega, by omega, (x.trans x2).trans x3, fun j hjj => ?_⟩ (by omega)
        by_cases e : j = i.toNat
        · subst e; refine ⟨by rw [hn]; exact hq, fun _ => ?_⟩; rw [hn]; simpa using hb
        · exact hj j (by omega)
    · rw [w64_of (by omega) (by omega)]
      refine hX _ _ ⟨by omega, by omega, x.trans x2, fun j hjj => ?_⟩ (by omega)
      by_cases e : j = i.toNat
      · subst e; exact ⟨by rw [hn]; exact hq, fun h => by omega⟩
      · exact hj j (by omega)
  · exact ⟨_, rfl, ⟨fun _ => ⟨hc', by omega, fun j hjj => hj j (by omega)⟩, fun _ => rfl⟩, x1.trans x⟩
theorem IsSet_c {h0 : H} {c : Int} {s : Sl} {ts : List Tile} (r : Rd h0 s 4 (tcs ts)) (hbig : ts.length < 4000000000000000000) : callB SP i_impl_IsSet [.agg (SetC c s)] h0 fun b h' => (b = true ↔ setOK c ts) ∧ Ext h0 h' := by
  have hl := r.tlen
  apply impl_IsSet_call
  unfold impl_IsSet_main
  refine newK_obj fun h1 o1 x1 n1 => ?_
  refine isPt_in (o1.ldS rfl rfl ?_)
  have hw : 1 ≤ c ∧ c ≤ 6 → w64 (c - 1) + 1 = c := fun hc => by rw [w64_of (by omega) (by omega)]; omega
  refine impl_IsSet_rule0 _ _ _ _ _ (fun i h => 0 ≤ i ∧ i ≤ ts.length ∧ Ext h1 h ∧ (1 ≤ c ∧ c ≤ 6 → ∀ j, j < i.toNat → Qset c ts j)) (fun i _ => (ts.length - i).toNat) ?_ _ ⟨by omega, by omega, Ext.refl _, fun _ j hj => by omega⟩
  rintro X i h ⟨i0, i1, x, hj⟩ hX
  unfold impl_IsSet_b0 impl_IsSet_C0
  have o := o1.ext x
  have no : ∀ {h'}, Ext h h' → (1 ≤ c ∧ c ≤ 6 → ¬ Qset c ts i.toNat) → i < ts.length → ∃ b, AVal.bool false = .bool b ∧ (b = true ↔ setOK c ts) ∧ Ext h0 h' := fun {h'} x' hn hi =>
    ⟨_, rfl, by simp only [Bool.false_eq_true, false_iff]; exact fun hs => hn hs.1 (hs.2.2 _ (by omega)), (x1.trans x).trans x'⟩
  refine bif_dec (fun hi => ?_) (fun hi => ?_)
  · have hn : ((i.toNat : Nat) : Int) = i := by omega
    refine (r.ext (x1.trans x)).tileG i0 (by omega) ?_
    refine newO_obj fun h2 o2 x2 n2 => ?_
    refine o2.stA fun h3 o3 b3 n3 => ?_
    have x3 : Ext h h3 := x2.but_ b3 (some_le (Nat.le_refl _))
    refine o3.ldA rfl ?_
    refine isPt_in ((o.ext x3).ldI rfl rfl ?_)
    refine (isTile_w (tat ts i) c h3).to ?_
    rintro _ h4 ⟨rfl, x4⟩
    refine bif_not (fun hq => no (x3.trans x4) (fun hc q => ?_) (by omega)) (fun hq => ?_)
    · have := q.1; rw [hn] at this; rw [hw hc, this] at hq; cases hq
    refine bif_dec (fun hp => ?_) (fun hp => ?_)
    · have o4 := o.ext (x3.trans x4)
      have r4 := r.ext ((x1.trans x).trans (x3.trans x4))
      refine isPt_in (o4.ldS rfl rfl ?_)
      rw [w64_of (n := i - 1) (by omega) (by omega)]
      refine r4.tileG (by omega) (by omega) ?_
      refine (o3.ext x4).ldA rfl ?_
      refine (compare_c _ _ _).to ?_
      rintro _ h5 ⟨rfl, x5⟩
      refine bif_dec (fun hb => no ((x3.trans x4).trans x5) (fun hc q => ?_) (by omega)) (fun hb => ?_)
      · have := q.2 (by omega); rw [hn] at this; omega
      · rw [w64_of (n := i + 1) (by omega) (by omega)]
        refine hX _ _ ⟨by omega, by omega, x.trans ((x3.trans x4).trans x5), fun hc j hjj => ?_⟩ (by omega)
        by_cases e : j = i.toNat
        · subst e; refine ⟨by rw [hn, ← hw hc]; exact hq, fun _ => ?_⟩; rw [hn]; omega
        · exact hj hc j (by omega)
    · rw [w64_of (n := i + 1) (by omega) (by omega)]
      refine hX _ _ ⟨by omega, by omega, x.trans (x3.trans x4), fun hc j hjj => ?_⟩ (by omega)
      by_cases e : j = i.toNat
      · subst e; exact ⟨by rw [hn, ← hw hc]; exact hq, fun h => by omega⟩
      · exact hj hc j (by omega)
  · refine isPt_in (o.ldI rfl rfl ?_)
    refine within_k ?_
    refine bif_dec (fun hc => ?_) (fun hc => ⟨_, rfl, ?_, x1.trans x⟩)
    · refine isPt_in (o.ldS rfl rfl ⟨_, rfl, ?_, x1.trans x⟩)
      rw [decide_eq_true_eq]
      exact ⟨fun hs => ⟨hc, by omega, fun j hjj => hj hc j (by omega)⟩, fun hs => by have := hs.2.1; omega⟩
    · simp only [Bool.false_eq_true, false_iff]
      exact fun hs => hc hs.1
/-! ### codes -/
open Classical in
noncomputable def bP (A : Prop) : Bool := decide A
theorem bP_iff (A : Prop) : bP A = true ↔ A := by unfold bP; simp
theorem bP_of {b : Bool} {A : Prop} (h : b = true ↔ A) : b = bP A := by rw [Bool.eq_iff_iff, h, bP_iff]
theorem bP_yes {A : Prop} (h : A) : bP A = true := (bP_iff A).2 h
theorem bP_no {A : Prop} (h : ¬ A) : bP A = false := by
  cases hb : bP A with
  | false => rfl
  | true => exact absurd ((bP_iff A).1 hb) h
open Classical in
noncomputable def codeOf (A B : Prop) : Int := if A then (if B then 0 else 2) else 1
theorem codeOf_no {A B : Prop} (h : ¬ A) : codeOf A B = 1 := by unfold codeOf; rw [if_neg h]
theorem codeOf_range {A B : Prop} (h : A) (h2 : ¬ B) : codeOf A B = 2 := by unfold codeOf; rw [if_pos h, if_neg h2]
theorem codeOf_yes {A B : Prop} (h : A) (h2 : B) : codeOf A B = 0 := by unfold codeOf; rw [if_pos h, if_pos h2]
theorem codeOf_zero {A B : Prop} (h : codeOf A B = 0) : A ∧ B := by
  unfold codeOf at h
  split at h
  · split at h
    · exact ⟨by assumption, by assumption⟩
    · cases h
  · cases h
theorem codeOf_cond {A B : Prop} (h : codeOf A B ≠ 0) : ¬ (A ∧ B) := fun ⟨a, b⟩ => h (codeOf_yes a b)
theorem setCode_c {h0 : H} {c : Int} {s : Sl} {ts : List Tile} (r : Rd h0 s 4 (tcs ts)) (hbig : ts.length < 4000000000000000000) (g : Nat) (cap : List AVal) (Q : Prop)
    (hg : setOK c ts → ∀ h, Ext h0 h → callB SP g cap h fun b h' => (b = true ↔ Q) ∧ Ext h h') : callI SP .i64 i_impl_setCode [.agg (SetC c s), .func g cap] h0 fun n h' => n = codeOf (setOK c ts) Q ∧ Ext h0 h' := by
  apply impl_setCode_call
  unfold impl_setCode_main
  refine newK_obj fun h1 o1 x1 n1 => ?_
  refine o1.ldA rfl ?_
  refine (IsSet_c (r.ext x1) hbig).to ?_
  rintro b h2 ⟨hb, x2⟩
  refine bif_not (fun hq => ⟨_, rfl, (codeOf_no fun hs => ?_).symm, x1.trans x2⟩) (fun hq => ?_)
  · rw [hb.2 hs] at hq; cases hq
  have hs := hb.1 hq
  refine via_func ?_
  rw [List.nil_append]
  refine (hg hs h2 (x1.trans x2)).to ?_
  rintro b h3 ⟨hb3, x3⟩
  refine bif_not (fun hq => ⟨_, rfl, (codeOf_range hs fun q => ?_).symm, (x1.trans x2).trans x3⟩) (fun hq => ⟨_, rfl, (codeOf_yes hs (hb3.1 hq)).symm, (x1.trans x2).trans x3⟩)
  rw [hb3.2 q] at hq; cases hq
/-! ### rows of numbers -/
def Tabl (rows : List (List Int)) (most : Int) : Prop := (1 ≤ rows.length ∧ (rows.length : Int) ≤ most) ∧ ∀ y, y < rows.length → (rw_ rows y).length = (rw_ rows 0).length ∧ 1 ≤ (rw_ rows y).length ∧ ((rw_ rows y).length : Int) ≤ most
def Nums (n : Nat) (rows : List (List Int)) : Prop := (∀ y x, y < rows.length → x < (rw_ rows y).length → 0 ≤ G rows y x ∧ G rows y x < n) ∧ Tabl rows 8
end Go.Proofs.Ytdmhchgaeepdmaa.Cl

/- Contracts of the functions that tell fillings, cylinders and tori. No claim is stated here. -/
set_option linter.unusedVariables false
set_option linter.unusedSimpArgs false
namespace Go.Proofs.Ytdmhchgaeepdmaa.Cl
open Go
section
variable {h : H} {a : Nat} {c : Int} {s q : Sl} {ts : List Tile} {rows : List (List Int)}
theorem side_of (o : Obj h a (SetC c s)) (r : Rd h s 4 (tcs ts)) {n k : Int} (n0 : 0 ≤ n) (n1 : n < ts.length) (k0 : 0 ≤ k) (k1 : k < 4) {K : Int → Prop} (hk : K (sd (tat ts n) k.toNat)) :
    isPt ⟨some a, 2, 0⟩ (ldS (Pt.add ⟨some a, 2, 0⟩ 1) h fun s2 => ixS s2 4 n fun p => ixA p 4 1 k fun p => ldI .i64 p h K) :=
  isPt_in (o.ldS rfl rfl (r.sideG n0 n1 k0 k1 hk))
theorem side_in (o : Obj h a (SetC c s)) (r : Rd h s 4 (tcs ts)) {v : Sl} {y : Nat} (rv : Rd h v 1 (ic (rw_ rows y))) {x k : Int} (x0 : 0 ≤ x) (x1 : x < (rw_ rows y).length) (hn : 0 ≤ G rows y x.toNat ∧ G rows y x.toNat < ts.length) (k0 : 0 ≤ k) (k1 : k < 4) {K : Int → Prop} (hk : K (sd (tat ts (G rows y x.toNat)) k.toNat)) :
    isPt ⟨some a, 2, 0⟩ (ldS (Pt.add ⟨some a, 2, 0⟩ 1) h fun s2 => ixS v 1 x fun p => ldI .i64 p h fun n => ixS s2 4 n fun p => ixA p 4 1 k fun p => ldI .i64 p h K) :=
  isPt_in (o.ldS rfl rfl (rv.ldG x0 x1 (r.sideG hn.1 hn.2 k0 k1 hk)))
theorem side_at (o : Obj h a (SetC c s)) (r : Rd h s 4 (tcs ts)) (rr : RdSS h q rows) {y x k : Int} (y0 : 0 ≤ y) (y1 : y < rows.length) (x0 : 0 ≤ x) (x1 : x < (rw_ rows y.toNat).length) (hn : 0 ≤ G rows y.toNat x.toNat ∧ G rows y.toNat x.toNat < ts.length) (k0 : 0 ≤ k) (k1 : k < 4) {K : Int → Prop} (hk : K (sd (tat ts (G rows y.toNat x.toNat)) k.toNat)) :
    isPt ⟨some a, 2, 0⟩ (ldS (Pt.add ⟨some a, 2, 0⟩ 1) h fun s2 => ixS q 1 y fun p => ldS p h fun v => ixS v 1 x fun p => ldI .i64 p h fun n => ixS s2 4 n fun p => ixA p 4 1 k fun p => ldI .i64 p h K) :=
  isPt_in (o.ldS rfl rfl (rr.ldG y0 y1 fun v rv lv => rv.ldG x0 x1 (r.sideG hn.1 hn.2 k0 k1 hk)))
end
/-- The side k of the tile at a place. -/
abbrev S_ (ts : List Tile) (rows : List (List Int)) (y x k : Nat) : Int := sd (tat ts (G rows y x)) k
def CellOK (ts : List Tile) (rows : List (List Int)) (y x : Nat) : Prop := (0 < x → S_ ts rows y (x - 1) 2 = S_ ts rows y x 0) ∧ (0 < y → S_ ts rows (y - 1) x 3 = S_ ts rows y x 1)
def Filling (ts : List Tile) (rows : List (List Int)) : Prop := ∀ y x, y < rows.length → x < (rw_ rows y).length → CellOK ts rows y x
def CylEnds (ts : List Tile) (rows : List (List Int)) : Prop := ∀ y, y < rows.length → S_ ts rows y ((rw_ rows y).length - 1) 2 = S_ ts rows y 0 0
def TorEnds (ts : List Tile) (rows : List (List Int)) : Prop := ∀ x, x < (rw_ rows 0).length → S_ ts rows (rows.length - 1) x 3 = S_ ts rows 0 x 1
section
variable {h0 : H} {c : Int} {s q : Sl} {ts : List Tile} {rows : List (List Int)}
end
end Go.Proofs.Ytdmhchgaeepdmaa.Cl

/- Contracts of IsCylinder and IsTorus. No claim is stated here. -/
set_option linter.unusedVariables false
set_option linter.unusedSimpArgs false
namespace Go.Proofs.Ytdmhchgaeepdmaa.Cl
open Go
noncomputable def F_IsCylinder_0 (c : Int) (ts : List Tile) (rows : List (List Int)) : Bool := bP ((setOK c ts ∧ Nums ts.length rows) ∧ Filling ts rows ∧ CylEnds ts rows)
noncomputable def F_IsTorus_0 (c : Int) (ts : List Tile) (rows : List (List Int)) : Bool := bP ((setOK c ts ∧ Nums ts.length rows) ∧ Filling ts rows ∧ CylEnds ts rows ∧ TorEnds ts rows)
section
variable {h0 : H} {c : Int} {s q : Sl} {ts : List Tile} {rows : List (List Int)}
end
end Go.Proofs.Ytdmhchgaeepdmaa.Cl

/- Contracts of shifted tori: shifts, comparing, least forms, shifts that keep. No claim is stated here. -/
set_option linter.unusedVariables false
set_option linter.unusedSimpArgs false
namespace Go.Proofs.Ytdmhchgaeepdmaa.Cl
open Go
/-! ### one element more -/
theorem push_c {h : H} {s : Sl} {l : List AVal} {x : AVal} (r : Ow h s 1 l) (hl : (s.len : Int) + 1 ≤ lim) {K : Sl → H → Prop}
    (hk : ∀ s' h', Ow h' s' 1 (l ++ [x]) → s'.len = s.len + 1 → But s.o h h' → (∀ n, Fr n s → n ≤ h.length → Fr n s') → K s' h') : newS 1 1 [x] h fun t h1 => app s t 1 h1 K := by
  refine newS_ow (by rfl) fun t h1 ot tl to e1 => ?_
  subst e1
  refine app_ow (by omega) (r.ext (Ext.app _ _)) ot.rd (by rw [tl]; exact_mod_cast hl) fun s' h' o' ln b k1 k2 => hk s' h' o' (by omega) ?_ fun n fn hn o e => ?_
  · exact ((Ext.app h _).but _).trans b
  · cases hq : s.o with
    | none => have := k2 hq o e; simp at this; omega
    | some p => rw [k1 p hq] at e; cases e; exact fn _ hq
theorem pushI {h : H} {s : Sl} {l : List Int} {x : Int} (r : Ow h s 1 (ic l)) (hl : (l.length : Int) + 1 ≤ lim) {K : Sl → H → Prop}
    (hk : ∀ s' h', Ow h' s' 1 (ic (l ++ [x])) → But s.o h h' → (∀ n, Fr n s → n ≤ h.length → Fr n s') → K s' h') : newS 1 1 [.int .i64 x] h fun t h1 => app s t 1 h1 K := by
  refine push_c r (by have := r.rd.ilen; omega) fun s' h' o' _ b f => hk s' h' ?_ b f
  rw [ic_app]; exact o'
theorem NewSS.push {n m : Nat} {h : H} {s : Sl} {ls : List (List Int)} (r : NewSS n h s ls) {v : Sl} {l : List Int} (ov : Ow h v 1 (ic l)) (fv : Fr m v) (hnm : n ≤ m) (hm : ∃ h0 : H, NewSS n h0 s ls ∧ h0.length ≤ m ∧ Ext h0 h)
    (hl : (ls.length : Int) + 1 ≤ lim) (hnh : n ≤ h.length) {K : Sl → H → Prop} (hk : ∀ s' h', NewSS n h' s' (ls ++ [l]) → But s.o h h' → K s' h') : newS 1 1 [.sl v] h fun t h1 => Cl.app s t 1 h1 K := by
  refine newS_ow (by rfl) fun t h1 ot tl to e1 => ?_
  have e1' : Ext h h1 := by rw [e1]; exact Ext.app _ _
  obtain ⟨h0, r0, l0, x0⟩ := hm
  refine (r.ext e1').app_new (ov.ext e1') fv hnm ⟨h0, r0, l0, x0.trans e1'⟩ ot.rd hl (Nat.le_trans hnh e1'.len) fun s' h' n' b _ _ => hk s' h' n' ((e1'.but _).trans b)
theorem NewSS.fr {n h s ls} (r : NewSS n h s ls) : Fr n s := by obtain ⟨_, _, _, f, _⟩ := r; exact f
/-! ### tables of numbers -/
def tab1 (n : Nat) (f : Nat → Int) : List Int := (List.range n).map f
def tab2 (n : Nat) (f : Nat → List Int) : List (List Int) := (List.range n).map f
theorem tab1_len (n f) : (tab1 n f).length = n := by simp [tab1]
theorem tab2_len (n f) : (tab2 n f).length = n := by simp [tab2]
theorem tab1_succ (n f) : tab1 (n + 1) f = tab1 n f ++ [f n] := by simp [tab1, List.range_succ]
theorem tab2_succ (n f) : tab2 (n + 1) f = tab2 n f ++ [f n] := by simp [tab2, List.range_succ]
theorem tab2_row {n f y} (h : y < n) : rw_ (tab2 n f) y = f y := by
  unfold rw_ tab2
  rw [List.getD_eq_getElem?_getD, List.getElem?_map, List.getElem?_range h]; rfl
theorem tab1_at {n f y} (h : y < n) : (tab1 n f).getD y 0 = f y := by
  unfold tab1
  rw [List.getD_eq_getElem?_getD, List.getElem?_map, List.getElem?_range h]; rfl
theorem foldl_range_succ {α : Type} (g : α → Nat → α) (x : α) (n : Nat) : (List.range (n + 1)).foldl g x = g ((List.range n).foldl g x) n := by
  rw [List.range_succ, List.foldl_append]; rfl
/-! ### shifts -/
abbrev wide (rows : List (List Int)) : Nat := (rw_ rows 0).length
def shiftG (rows : List (List Int)) (a b : Nat) : List (List Int) := tab2 rows.length fun y => tab1 (wide rows) fun x => G rows ((y + a) % rows.length) ((x + b) % wide rows)
/-- Rows of one length, not too many. -/
structure Rect (rows : List (List Int)) : Prop where
  h0 : 1 ≤ rows.length
  h1 : rows.length ≤ 8
  w : ∀ y, y < rows.length → (rw_ rows y).length = wide rows
  w0 : 1 ≤ wide rows
  w1 : wide rows ≤ 8
theorem Nums.rect {n rows} (h : Nums n rows) : Rect rows := by
  have h2 := h.2.2
  have h1 := h.2.1
  have := h2 0 (by omega)
  exact ⟨by omega, by omega, fun y hy => (h2 y hy).1, this.2.1, by have := this.2.2; unfold wide; omega⟩
theorem shiftG_len (rows a b) : (shiftG rows a b).length = rows.length := tab2_len _ _
theorem shiftG_row {rows a b y} (h : y < rows.length) : (rw_ (shiftG rows a b) y).length = wide rows := by unfold shiftG; rw [tab2_row h, tab1_len]
theorem Rect.shift {rows} (r : Rect rows) (a b) : Rect (shiftG rows a b) := by
  have w : wide (shiftG rows a b) = wide rows := shiftG_row r.h0
  exact ⟨by rw [shiftG_len]; exact r.h0, by rw [shiftG_len]; exact r.h1, fun y hy => by rw [w]; rw [shiftG_len] at hy; exact shiftG_row hy, by rw [w]; exact r.w0, by rw [w]; exact r.w1⟩
theorem wrapmod {i a n : Int} (h0 : 0 ≤ i) (h1 : i < 1000) (a0 : 0 ≤ a) (a1 : a < 1000) (n0 : 0 < n) : 0 ≤ Int.tmod (w64 (i + a)) n ∧ Int.tmod (w64 (i + a)) n < n ∧ (Int.tmod (w64 (i + a)) n).toNat = (i.toNat + a.toNat) % n.toNat := by
  rw [w64_of (by omega) (by omega)]
  have e : Int.tmod (i + a) n = (i + a) % n := Int.tmod_eq_emod_of_nonneg (by omega)
  rw [e]
  have h2 := Int.emod_nonneg (i + a) (show n ≠ 0 by omega)
  have h3 := Int.emod_lt_of_pos (i + a) n0
  refine ⟨h2, h3, ?_⟩
  have : ((i.toNat + a.toNat : Nat) : Int) % ((n.toNat : Nat) : Int) = (i + a) % n := by
    rw [show ((i.toNat + a.toNat : Nat) : Int) = i + a by omega, show ((n.toNat : Nat) : Int) = n by omega]
  omega
section
variable {h0 : H} {q : Sl} {rows : List (List Int)}
end
/-! ### comparing rows -/
def cmpLL : List (List Int) → List (List Int) → Int
  | [], [] => 0
  | [], _ :: _ => -1
  | _ :: _, [] => 1
  | a :: l, b :: m => if cmpL a b ≠ 0 then cmpL a b else cmpLL l m
theorem cmpL_anti : ∀ a b, cmpL b a = - cmpL a b
  | [], [] => rfl
  | [], _ :: _ => rfl
  | _ :: _, [] => rfl
  | a :: l, b :: m => by
    simp only [cmpL]
    rw [cmpL_anti l m]
    split <;> split <;> first | omega | (split <;> first | omega | rfl) | skip
theorem cmpLL_anti : ∀ a b, cmpLL b a = - cmpLL a b
  | [], [] => rfl
  | [], _ :: _ => rfl
  | _ :: _, [] => rfl
  | a :: l, b :: m => by
    simp only [cmpLL]
    rw [cmpLL_anti l m, cmpL_anti a b]
    split <;> split <;> first | omega | rfl
theorem cmpL_self : ∀ a, cmpL a a = 0
  | [] => rfl
  | a :: l => by simp [cmpL, cmpL_self l]
theorem cmpLL_self : ∀ a, cmpLL a a = 0
  | [] => rfl
  | a :: l => by simp [cmpLL, cmpL_self a, cmpLL_self l]
theorem cmpL_bound : ∀ a b, -1 ≤ cmpL a b ∧ cmpL a b ≤ 1
  | [], [] => by simp [cmpL]
  | [], _ :: _ => by simp [cmpL]
  | _ :: _, [] => by simp [cmpL]
  | a :: l, b :: m => by
    have := cmpL_bound l m
    simp only [cmpL]
    split
    · omega
    · split
      · omega
      · exact this
section
variable {h0 : H} {q q' : Sl} {A B : List (List Int)}
end
end Go.Proofs.Ytdmhchgaeepdmaa.Cl

/- Contracts of ShiftTorus, LeastForm, ShiftsKept and ShiftNumber. No claim is stated here. -/
set_option linter.unusedVariables false
set_option linter.unusedSimpArgs false
namespace Go.Proofs.Ytdmhchgaeepdmaa.Cl
open Go
/-- append of a new view to a slice of views, of objects of P -/
theorem NewP.app {P : Nat → Prop} {h s ls} (r : NewP P h s ls) {v : Sl} {l : List Int} (ov : Ow h v 1 (ic l)) (fv : ∀ o, v.o = some o → P o) (hap : ∀ o, v.o = some o → s.o ≠ some o ∧ ∀ vs : List Sl, Ow h s 1 (vs.map .sl) → ∀ w ∈ vs, w.o ≠ some o)
    {x : Sl} (rx : Rd h x 1 [.sl v]) (hl : (ls.length : Int) + 1 ≤ lim) (hnh : ∀ i, h.length ≤ i → P i) {K : Sl → H → Prop} (hk : ∀ s' h', NewP P h' s' (ls ++ [l]) → But s.o h h' → (∀ o, s.o = some o → s'.o = some o) → (s.o = none → ∀ o, s'.o = some o → h.length ≤ o) → K s' h') : Cl.app s x 1 h K := by
  obtain ⟨vs, h1, h2, h3, h4, h5, h6⟩ := r
  have hx : x.len = 1 := by have := rx.len; simp at this; omega
  have hs : s.len = ls.length := by have := h2.len; simp at this; omega
  refine app_ow (by omega) h2 rx (by rw [hs, hx]; exact_mod_cast hl) fun s' h' o' ln b k1 k2 => ?_
  have hso : ∀ o, s'.o = some o → s.o = some o ∨ h.length ≤ o := fun o e => by
    cases hq : s.o with
    | none => exact .inr (k2 hq o e)
    | some p => rw [k1 p hq] at e; exact .inl e
  refine hk s' h' ⟨vs ++ [v], by simp [h1], by simpa using o', ?_, ?_, ?_, ?_⟩ b k1 k2
  · intro o e
    rcases hso o e with e | e
    · exact h3 o e
    · exact hnh o e
  · intro i w l' a c
    rw [List.getElem?_append] at a c
    rw [h1] at a
    split at a
    · next hi =>
      rw [if_pos hi] at c
      obtain ⟨p, q⟩ := h4 i w l' a c
      refine ⟨p.but b ?_, q⟩
      cases hw : w.o with
      | none => 
        cases hq : s.o with
        | none => exact .inr rfl
        | some _ => exact .inl (by simp)
      | some o => exact .inl (by rw [← hw]; intro e; exact h6 i w a o hw (by rw [e, hw]))
    · next hi =>
      rw [if_neg hi] at c
      have : i = ls.length := by
        have := (List.getElem?_eq_some_iff.1 c).1
        simp at this; omega
      subst this
      simp at a c
      subst a c
      refine ⟨ov.but b ?_, fv⟩
      cases hw : v.o with
      | none =>
        cases hq : s.o with
        | none => exact .inr rfl
        | some _ => exact .inl (by simp)
      | some o => exact .inl (by intro e; exact (hap o hw).1 e)
  · intro i j w u hne a c o e
    have hwl : ∀ {k : Nat} {y : Sl}, (vs ++ [v])[k]? = some y → vs[k]? = some y ∨ (k = vs.length ∧ y = v) := fun {k y} e => by
      rw [List.getElem?_append] at e
      split at e
      · exact .inl e
      · have : k = vs.length := by
          have := (List.getElem?_eq_some_iff.1 e).1
          simp at this; omega
        subst this
        simp at e
        exact .inr ⟨rfl, e.symm⟩
    rcases hwl a with a1 | ⟨rfl, rfl⟩
    · rcases hwl c with c1 | ⟨rfl, rfl⟩
      · exact h5 i j w u hne a1 c1 o e
      · intro e2
        exact (hap o e2).2 vs h2 w (List.mem_of_getElem? a1) e
    · rcases hwl c with c1 | ⟨rfl, rfl⟩
      · exact (hap o e).2 vs h2 u (List.mem_of_getElem? c1)
      · exact absurd rfl hne
  · intro i w a o e
    have hlt : o < h.length ∧ s.o ≠ some o := by
      rw [List.getElem?_append] at a
      split at a
      · obtain ⟨l', hl'⟩ := mem_idx h1 a
        exact ⟨(h4 i w l' a hl').1.lt e, h6 i w a o e⟩
      · have : w = v := by
          have := List.mem_of_getElem? a
          simpa using this
        subst this
        exact ⟨ov.lt e, (hap o e).1⟩
    intro e2
    rcases hso o e2 with e3 | e3
    · exact hlt.2 e3
    · omega
theorem NewP.push {P : Nat → Prop} {h : H} {s : Sl} {ls : List (List Int)} (r : NewP P h s ls) {v : Sl} {l : List Int} {h0 : H} (r0 : NewP P h0 s ls) (x0 : Ext h0 h) (ov : Ow h v 1 (ic l)) (fv : Fr h0.length v) (hP : ∀ i, h0.length ≤ i → P i)
    (hl : (ls.length : Int) + 1 ≤ lim) {K : Sl → H → Prop} (hk : ∀ s' h', NewP P h' s' (ls ++ [l]) → But s.o h h' → K s' h') : newS 1 1 [.sl v] h fun t h1 => Cl.app s t 1 h1 K := by
  refine newS_ow (by rfl) fun t h1 ot tl to e1 => ?_
  have e1' : Ext h h1 := by rw [e1]; exact Ext.app _ _
  have l0 := x0.len
  have l1 := e1'.len
  refine (r.ext e1').app (ov.ext e1') (fun o e => hP o (fv o e)) (fun o e => ?_) ot.rd hl (fun i hi => hP i (by omega)) fun s' h' n' b _ _ => hk s' h' n' ((e1'.but _).trans b)
  obtain ⟨vs, h1', h2, h3, h4, h5, h6⟩ := r0
  have ho := fv o e
  refine ⟨fun e2 => by have := h2.lt e2; omega, fun us hu w hw => ?_⟩
  intro e2
  have hq : us = vs := by
    have a := hu.rd.sread (by omega)
    have b := (h2.ext (x0.trans e1')).rd.sread (by omega)
    rw [a] at b
    have : us.map AVal.sl = vs.map AVal.sl := Option.some.inj b
    exact List.map_inj_right (fun a b e => by simpa using e) |>.1 this
  subst hq
  obtain ⟨i, hi⟩ := List.getElem?_of_mem hw
  obtain ⟨l', hl'⟩ := mem_idx h1' hi
  have := (h4 i w l' hi hl').1.lt e2
  omega
theorem NewP.notin {P : Nat → Prop} {h : H} {s : Sl} {ls : List (List Int)} (r : NewP P h s ls) {i : Nat} (hp : ¬ P i) : s.o ≠ some i := by
  obtain ⟨vs, _, _, a3, _⟩ := r
  exact fun e => hp (a3 _ e)
theorem cmpLL_nz (x : Int) : (¬ x < 0 ∧ ¬ -x < 0) ↔ x = 0 := by omega
/-- A function over all shifts, in order. -/
def nest {α : Type} (f : α → Nat → Nat → α) (init : α) (H W : Nat) : α := (List.range H).foldl (fun acc a => (List.range W).foldl (fun acc b => f acc a b) acc) init
def leastStep (rows best : List (List Int)) (a b : Nat) : List (List Int) := if cmpLL (shiftG rows a b) best < 0 then shiftG rows a b else best
def leastG (rows : List (List Int)) : List (List Int) := nest (leastStep rows) (shiftG rows 0 0) rows.length (wide rows)
def keptStep (rows acc : List (List Int)) (a b : Nat) : List (List Int) := if cmpLL (shiftG rows a b) rows = 0 then acc ++ [[(a : Int), (b : Int)]] else acc
def keptG (rows : List (List Int)) : List (List Int) := nest (keptStep rows) [] rows.length (wide rows)
/-- What the step keeps holds to the end. -/
theorem foldl_keeps {α β : Type} {I : α → Prop} {g : α → β → α} : ∀ (l : List β) (x : α), I x → (∀ x b, b ∈ l → I x → I (g x b)) → I (l.foldl g x)
  | [], x, h, _ => h
  | b :: l, x, h, hs => foldl_keeps l (g x b) (hs x b (by simp) h) fun x c hc => hs x c (by simp [hc])
theorem nest_keeps {α : Type} {I : α → Prop} {f : α → Nat → Nat → α} {x : α} {H W : Nat} (h : I x) (hs : ∀ x a b, a < H → b < W → I x → I (f x a b)) : I (nest f x H W) :=
  foldl_keeps _ _ h fun x a ha hx => foldl_keeps _ _ hx fun x b hb hx => hs x a b (List.mem_range.1 ha) (List.mem_range.1 hb) hx
/-- Of the form of the rows. -/
def Like (rows s : List (List Int)) : Prop := s.length = rows.length ∧ ∀ y, y < rows.length → (rw_ s y).length = wide rows
theorem shift_like (rows a b) : Like rows (shiftG rows a b) := ⟨shiftG_len _ _ _, fun y hy => shiftG_row hy⟩
theorem leastStep_like {rows best a b} (h : Like rows best) : Like rows (leastStep rows best a b) := by
  unfold leastStep
  split
  · exact shift_like _ _ _
  · exact h
theorem Like.mem {rows s} (h : Like rows s) {l} (hl : l ∈ s) : l.length = wide rows := by
  obtain ⟨i, hi⟩ := List.getElem?_of_mem hl
  have := (List.getElem?_eq_some_iff.1 hi).1
  rw [← rw_at hi]
  exact h.2 i (by have := h.1; omega)
theorem sumLen_le {ls : List (List Int)} {n : Nat} (h : ∀ l ∈ ls, l.length ≤ n) : sumLen ls ≤ ls.length * n := by
  unfold sumLen
  induction ls with
  | nil => simp
  | cons a ls ih =>
    have h1 := h a (by simp)
    have h2 := ih fun l hl => h l (by simp [hl])
    simp only [List.map_cons, List.sum_cons, List.length_cons, Nat.add_mul, Nat.one_mul]
    omega
theorem Like.small {rows s} (R : Rect rows) (h : Like rows s) : s.length < 1000000 ∧ sumLen s < 1000000 := by
  have := R.h1
  have hw := R.w1
  have h1 := sumLen_le (ls := s) (n := 8) fun l hl => by rw [h.mem hl]; exact hw
  have := h.1
  constructor <;> omega
theorem keptStep_kept {rows acc a b} {n : Nat} (h : acc.length ≤ n ∧ ∀ l ∈ acc, l.length = 2) : (keptStep rows acc a b).length ≤ n + 1 ∧ ∀ l ∈ keptStep rows acc a b, l.length = 2 := by
  unfold keptStep
  split
  · refine ⟨by simp; omega, fun l hl => ?_⟩
    rcases List.mem_append.1 hl with hl | hl
    · exact h.2 l hl
    · simp at hl; subst hl; rfl
  · exact ⟨by omega, h.2⟩
theorem foldl_count {α β : Type} {I : Nat → α → Prop} {g : α → β → α} (c : Nat) : ∀ (l : List β) (x : α) (n : Nat), I n x → (∀ x n b, I n x → I (n + c) (g x b)) → I (n + c * l.length) (l.foldl g x)
  | [], x, n, h, _ => by simpa using h
  | b :: l, x, n, h, hs => by
    have := foldl_count (I := I) c l (g x b) (n + c) (hs x n b h) hs
    simp only [List.foldl_cons, List.length_cons]
    rw [show n + c * (l.length + 1) = n + c + c * l.length by rw [Nat.mul_add]; omega]
    exact this
theorem kept_upto (rows : List (List Int)) (i k : Nat) : ((List.range k).foldl (fun acc b => keptStep rows acc i b) ((List.range i).foldl (fun acc a => (List.range (wide rows)).foldl (fun acc b => keptStep rows acc a b) acc) [])).length ≤ wide rows * i + k ∧
    ∀ l ∈ (List.range k).foldl (fun acc b => keptStep rows acc i b) ((List.range i).foldl (fun acc a => (List.range (wide rows)).foldl (fun acc b => keptStep rows acc a b) acc) []), l.length = 2 := by
  have h1 := foldl_count (I := fun n (x : List (List Int)) => x.length ≤ n ∧ ∀ l ∈ x, l.length = 2) (wide rows) (List.range i) [] 0 ⟨by simp, fun l h => by simp at h⟩ (g := fun acc a => (List.range (wide rows)).foldl (fun acc b => keptStep rows acc a b) acc)
    fun x n a hx => by
      have := foldl_count (I := fun n (x : List (List Int)) => x.length ≤ n ∧ ∀ l ∈ x, l.length = 2) 1 (List.range (wide rows)) x n hx (g := fun acc b => keptStep rows acc a b) fun x n b hx => keptStep_kept hx
      simpa using this
  have h2 := foldl_count (I := fun n (x : List (List Int)) => x.length ≤ n ∧ ∀ l ∈ x, l.length = 2) 1 (List.range k) _ _ h1 (g := fun acc b => keptStep rows acc i b) fun x n b hx => keptStep_kept hx
  simpa using h2
section
variable {h0 : H} {q : Sl} {rows : List (List Int)}
end
end Go.Proofs.Ytdmhchgaeepdmaa.Cl

/- Steps of the laws. No claim is stated here. -/
set_option linter.unusedVariables false
set_option linter.unusedSimpArgs false
namespace Go.Proofs.Ytdmhchgaeepdmaa.Cl
open Go
theorem szSet_k (c : Int) (s : Sl) (left : Int) (hl : s.len ≤ 9223372036854775807) (h1 : 0 ≤ left) (h2 : left ≤ 1048576) (h : H) : callI SP .i64 i_laws_szSet [.agg (SetC c s), i64 left] h fun n h' => Ext h h' ∧ (n < 0 ∨ (n = left - s.len ∧ 0 ≤ n)) := by
  refine (szSet_c c s left hl h1 h2 h).to ?_
  rintro _ h' ⟨rfl, x⟩
  refine ⟨x, ?_⟩
  by_cases hq : left - s.len < 0
  · rw [if_pos hq]; exact .inl (by omega)
  · rw [if_neg hq]; exact .inr ⟨rfl, by omega⟩
theorem szTileS_k (s : Sl) (left : Int) (hl : s.len ≤ 9223372036854775807) (h1 : 0 ≤ left) (h2 : left ≤ 1048576) (h : H) : callI SP .i64 i_laws_szTileS [.sl s, i64 left] h fun n h' => Ext h h' ∧ (n < 0 ∨ (n = left - s.len ∧ 0 ≤ n)) := by
  refine (szTileS_c s left hl h1 h2 h).to ?_
  rintro _ _ ⟨rfl, rfl⟩
  refine ⟨Ext.refl _, ?_⟩
  by_cases hq : left - s.len < 0
  · rw [if_pos hq]; exact .inl (by omega)
  · rw [if_neg hq]; exact .inr ⟨rfl, by omega⟩
theorem bif_neb {x y : Bool} {a b : Prop} (h1 : x ≠ y → a) (h2 : x = y → b) : bif x != y then a else b := by
  by_cases hp : x = y
  · rw [show (x != y) = false by simp [hp]]; exact h2 hp
  · rw [show (x != y) = true by simp [hp]]; exact h1 hp
theorem eqS_yes {h0 : H} {s s' : Sl} {l : List Int} (r : Rd h0 s 1 (ic l)) (r' : Rd h0 s' 1 (ic l)) (hl : l.length < 4000000000000000000) {A : H → Prop} {B : H → Prop} (hk : B h0) : callB SP i_laws_eqInt64S [.sl s, .sl s'] h0 fun b h' => bif !b then A h' else B h' := by
  refine (eqInt64S_c r r' hl).to ?_
  rintro _ _ ⟨rfl, rfl⟩
  exact bif_not (fun hq => by simp at hq) fun _ => hk
theorem eqSS_yes {h0 : H} {s s' : Sl} {ls : List (List Int)} (r : RdSS h0 s ls) (r' : RdSS h0 s' ls) (hl : ls.length < 4000000000000000000) (hls : ∀ l ∈ ls, l.length < 4000000000000000000) {A : H → Prop} {B : H → Prop} (hk : B h0) : callB SP i_laws_eqInt64SS [.sl s, .sl s'] h0 fun b h' => bif !b then A h' else B h' := by
  refine (eqInt64SS_c r r' hl hls).to ?_
  rintro _ _ ⟨rfl, rfl⟩
  exact bif_not (fun hq => by simp at hq) fun _ => hk
theorem eqSet_yes {h0 : H} {c : Int} {s s' : Sl} {ts : List Tile} (r : Rd h0 s 4 (tcs ts)) (r' : Rd h0 s' 4 (tcs ts)) (hl : ts.length < 4000000000000000000) {A : H → Prop} {B : H → Prop} (hk : ∀ h', Ext h0 h' → B h') : callB SP i_laws_eqSet [.agg (SetC c s), .agg (SetC c s')] h0 fun b h' => bif !b then A h' else B h' := by
  refine (eqSet_c r r' hl).to ?_
  rintro _ h' ⟨rfl, x⟩
  exact bif_not (fun hq => by simp at hq) fun _ => hk h' x
theorem eqTiles_yes {h0 : H} {s s' : Sl} {ts : List Tile} (r : Rd h0 s 4 (tcs ts)) (r' : Rd h0 s' 4 (tcs ts)) (hl : ts.length < 4000000000000000000) {A : H → Prop} {B : H → Prop} (hk : ∀ h', Ext h0 h' → B h') : callB SP i_laws_eqTileS [.sl s, .sl s'] h0 fun b h' => bif !b then A h' else B h' := by
  refine (eqTileS_c r r' hl).to ?_
  rintro _ h' ⟨rfl, x⟩
  exact bif_not (fun hq => by simp at hq) fun _ => hk h' x
theorem heldSS_yes {h0 : H} {s : Sl} {ls : List (List Int)} (k0 : Int) (hk0 : 0 ≤ k0) (hk1 : k0 ≤ 1000000000) (r : RdSS h0 s (marks k0 ls)) (hl : ls.length < 1000000000) (hs : sumLen ls < 1000000000) {A : H → Prop} {B : Int → H → Prop} (hk : B (k0 + sumLen ls) h0) :
    callI SP .i64 i_laws_heldInt64SS [.sl s, i64 k0] h0 fun n h' => bif decide (n < 0) then A h' else B n h' := by
  refine (heldInt64SS_c k0 hk0 hk1 r hl hs).to ?_
  rintro _ _ ⟨rfl, rfl⟩
  exact bif_dec (fun hq => by omega) fun _ => hk
theorem heldS_yes {h0 : H} {s : Sl} (k0 : Int) (hk0 : 0 ≤ k0) (hk1 : k0 ≤ 1000000000) (r : Rd h0 s 1 (ic (upto k0 s.len))) (hl : s.len < 1000000000) {A : H → Prop} {B : Int → H → Prop} (hk : B (k0 + s.len) h0) :
    callI SP .i64 i_laws_heldInt64S [.sl s, i64 k0] h0 fun n h' => bif decide (n < 0) then A h' else B n h' := by
  refine (heldInt64S_c k0 hk0 (by omega) r (by omega)).to ?_
  rintro _ _ ⟨rfl, rfl⟩
  exact bif_dec (fun hq => by omega) fun _ => hk
theorem Obj.rangeE {h o cs} (x : Obj h o cs) {n : Nat} (hn : cs.length = n) : Cl.range h (some o) n 0 n = some cs := by
  have x' : h[o]? = some (.own cs) := x
  subst hn
  rw [range_of (xs := cs) (by unfold cells; simp [x']) (by simp)]
  simp
theorem Obj.stays {h h' o cs} (x : Obj h o cs) {n : Nat} (hn : cs.length = n) (e : Ext h h') : Cl.range h' (some o) n 0 n = Cl.range h (some o) n 0 n := by rw [e.range (x.rangeE hn), x.rangeE hn]
end Go.Proofs.Ytdmhchgaeepdmaa.Cl

/- Lasting edges: the plain law (ways without end over finitely many colours). No claim is stated here. -/
set_option linter.unusedVariables false
set_option linter.unusedSimpArgs false
namespace Go.Proofs.Ytdmhchgaeepdmaa.Cl
/-- An edge leads from its first colour to its second one. -/
abbrev Edge := Nat × Nat
def stepB (es : List Edge) (A : Nat → Bool) (w : Nat) : Bool := es.any fun e => e.1 == w && A e.2
def itB (es : List Edge) : Nat → Nat → Bool
  | 0 => fun _ => true
  | k + 1 => stepB es (itB es k)
theorem stepB_iff {es : List Edge} {A : Nat → Bool} {w : Nat} : stepB es A w = true ↔ ∃ e ∈ es, e.1 = w ∧ A e.2 = true := by
  unfold stepB
  simp [List.any_eq_true]
theorem stepB_mono {es : List Edge} {A B : Nat → Bool} (h : ∀ w, A w = true → B w = true) (w : Nat) (a : stepB es A w = true) : stepB es B w = true := by
  obtain ⟨e, he, h1, h2⟩ := stepB_iff.1 a
  exact stepB_iff.2 ⟨e, he, h1, h _ h2⟩
theorem itB_dec (es : List Edge) : ∀ k w, itB es (k + 1) w = true → itB es k w = true
  | 0, w, _ => rfl
  | k + 1, w, h => stepB_mono (itB_dec es k) w h
theorem stepB_congr {es : List Edge} {n : Nat} (hn : ∀ e ∈ es, e.2 < n) {A B : Nat → Bool} (h : ∀ w, w < n → A w = B w) (w : Nat) : stepB es A w = stepB es B w := by
  have key : ∀ A B : Nat → Bool, (∀ w, w < n → A w = B w) → stepB es A w = true → stepB es B w = true := fun A B h a => by
    obtain ⟨e, he, h1, h2⟩ := stepB_iff.1 a
    exact stepB_iff.2 ⟨e, he, h1, by rw [← h _ (hn e he)]; exact h2⟩
  have a := key A B h
  have b := key B A fun w hw => (h w hw).symm
  revert a b
  cases stepB es A w <;> cases stepB es B w <;> simp
def cntB (n : Nat) (A : Nat → Bool) : Nat := (List.range n).countP A
theorem countP_lt {α : Type} {p q : α → Bool} : ∀ (l : List α), (∀ x ∈ l, q x = true → p x = true) → (∃ x ∈ l, p x = true ∧ q x = false) → l.countP q < l.countP p
  | [], _, h => by obtain ⟨x, hx, _⟩ := h; cases hx
  | a :: l, h, ⟨x, hx, h1, h2⟩ => by
    rw [List.countP_cons, List.countP_cons]
    have hle : l.countP q ≤ l.countP p := List.countP_mono_left fun y hy hq => h y (by simp [hy]) hq
    rcases List.mem_cons.1 hx with rfl | hx
    · rw [h1, h2]; simp; omega
    · have ih := countP_lt l (fun y hy => h y (by simp [hy])) ⟨x, hx, h1, h2⟩
      by_cases hq : q a = true
      · rw [hq, h a (by simp) hq]; omega
      · rw [if_neg hq]; split <;> omega
theorem cntB_lt {n : Nat} {A B : Nat → Bool} (h : ∀ w, w < n → B w = true → A w = true) (hne : ∃ w, w < n ∧ A w ≠ B w) : cntB n B < cntB n A := by
  obtain ⟨w, hw, hd⟩ := hne
  refine countP_lt _ (fun x hx => h x (List.mem_range.1 hx)) ⟨w, List.mem_range.2 hw, ?_⟩
  have := h w hw
  revert hd this
  cases A w <;> cases B w <;> simp
theorem itB_stable {es : List Edge} {n : Nat} (hn : ∀ e ∈ es, e.2 < n) {k : Nat} (h : ∀ w, w < n → itB es (k + 1) w = itB es k w) (w : Nat) : itB es (k + 2) w = itB es (k + 1) w := stepB_congr hn h w
theorem itB_fix {es : List Edge} {n : Nat} (hn : ∀ e ∈ es, e.2 < n) : ∀ k, (∀ w, w < n → itB es (k + 1) w = itB es k w) ∨ cntB n (itB es k) + k ≤ n
  | 0 => .inr (by unfold cntB; have := List.countP_le_length (p := itB es 0) (l := List.range n); rw [List.length_range] at this; omega)
  | k + 1 => by
    rcases itB_fix hn k with h | h
    · exact .inl fun w _ => itB_stable hn h w
    · by_cases e : ∀ w, w < n → itB es (k + 1) w = itB es k w
      · exact .inl fun w _ => itB_stable hn e w
      · have hex : ∃ w, w < n ∧ itB es k w ≠ itB es (k + 1) w := by
          refine Classical.byContradiction fun c => e fun w hw => ?_
          exact Classical.byContradiction fun d => c ⟨w, hw, fun q => d q.symm⟩
        have := cntB_lt (n := n) (A := itB es k) (B := itB es (k + 1)) (fun w _ => itB_dec es k w) hex
        exact .inr (by omega)
/-- After as many steps as there are colours, nothing changes any more. -/
theorem itB_end {es : List Edge} {n : Nat} (hn : ∀ e ∈ es, e.2 < n) (w : Nat) (hw : w < n) : itB es (n + 1) w = itB es n w := by
  rcases itB_fix hn n with h | h
  · exact h w hw
  · have h0 : cntB n (itB es n) = 0 := by omega
    have hf : itB es n w = false := by
      unfold cntB at h0
      rw [List.countP_eq_zero] at h0
      have := h0 w (List.mem_range.2 hw)
      simpa using this
    rw [hf]
    have := itB_dec es n w
    rw [hf] at this
    cases hq : itB es (n + 1) w
    · rfl
    · exact absurd (this hq) (by simp)
/-- A stable and greatest set of colours. -/
structure Endless (n : Nat) (es : List Edge) (A : Nat → Bool) : Prop where
  fix : ∀ w, w < n → stepB es A w = A w
  top : ∀ G : Nat → Bool, (∀ w, G w = true → stepB es G w = true) → ∀ w, G w = true → A w = true
theorem itB_top {es : List Edge} {G : Nat → Bool} (hG : ∀ w, G w = true → stepB es G w = true) : ∀ k w, G w = true → itB es k w = true
  | 0, _, _ => rfl
  | k + 1, w, h => stepB_mono (itB_top hG k) w (hG w h)
theorem endless_it {es : List Edge} {n k : Nat} (h : ∀ w, w < n → itB es (k + 1) w = itB es k w) : Endless n es (itB es k) := ⟨h, fun G hG w hw => itB_top hG k w hw⟩
def flipE (es : List Edge) : List Edge := es.map fun e => (e.2, e.1)
/-- Is an edge lasting? A: colours to which endless ways lead; B: colours from which endless ways lead on. -/
def lastE (A B : Nat → Bool) (e : Edge) : Bool := A e.1 && B e.2
structure Lst (n : Nat) (es : List Edge) (A B : Nat → Bool) : Prop where
  hn : ∀ e ∈ es, e.1 < n ∧ e.2 < n
  a : Endless n (flipE es) A
  b : Endless n es B
section
variable {n : Nat} {es : List Edge} {A B : Nat → Bool}
theorem Lst.pred (L : Lst n es A B) {e : Edge} (he : e ∈ es) (h : lastE A B e = true) : ∃ e' ∈ es, lastE A B e' = true ∧ e'.2 = e.1 := by
  unfold lastE at h ⊢
  rw [Bool.and_eq_true] at h
  have h1 := L.a.fix e.1 (L.hn e he).1
  rw [h.1] at h1
  obtain ⟨x, hx, x1, x2⟩ := stepB_iff.1 h1
  obtain ⟨y, hy, rfl⟩ := List.mem_map.1 hx
  refine ⟨y, hy, ?_, x1⟩
  rw [Bool.and_eq_true]
  refine ⟨x2, ?_⟩
  rw [show y.2 = e.1 from x1, ← L.b.fix e.1 (L.hn e he).1]
  exact stepB_iff.2 ⟨e, he, rfl, h.2⟩
theorem Lst.succ (L : Lst n es A B) {e : Edge} (he : e ∈ es) (h : lastE A B e = true) : ∃ e' ∈ es, lastE A B e' = true ∧ e'.1 = e.2 := by
  unfold lastE at h ⊢
  rw [Bool.and_eq_true] at h
  have h1 := L.b.fix e.2 (L.hn e he).2
  rw [h.2] at h1
  obtain ⟨y, hy, y1, y2⟩ := stepB_iff.1 h1
  refine ⟨y, hy, ?_, y1⟩
  rw [Bool.and_eq_true]
  refine ⟨?_, y2⟩
  rw [show y.1 = e.2 from y1, ← L.a.fix e.2 (L.hn e he).2]
  exact stepB_iff.2 ⟨(e.2, e.1), List.mem_map.2 ⟨e, he, rfl⟩, rfl, h.1⟩
/-- Each stable set of edges is lasting. -/
theorem Lst.top (L : Lst n es A B) {Q : Edge → Bool} (hp : ∀ e ∈ es, Q e = true → ∃ e' ∈ es, Q e' = true ∧ e'.2 = e.1) (hs : ∀ e ∈ es, Q e = true → ∃ e' ∈ es, Q e' = true ∧ e'.1 = e.2) {e : Edge} (he : e ∈ es) (h : Q e = true) : lastE A B e = true := by
  unfold lastE
  rw [Bool.and_eq_true]
  constructor
  · refine L.a.top (fun w => es.any fun e => Q e && e.1 == w) (fun w hw => ?_) e.1 (List.any_eq_true.2 ⟨e, he, by simp [h]⟩)
    obtain ⟨x, hx, h2⟩ := List.any_eq_true.1 hw
    simp at h2
    obtain ⟨y, hy, y1, y2⟩ := hp x hx h2.1
    refine stepB_iff.2 ⟨(y.2, y.1), List.mem_map.2 ⟨y, hy, rfl⟩, by simp [y2, h2.2], List.any_eq_true.2 ⟨y, hy, by simp [y1]⟩⟩
  · refine L.b.top (fun w => es.any fun e => Q e && e.2 == w) (fun w hw => ?_) e.2 (List.any_eq_true.2 ⟨e, he, by simp [h]⟩)
    obtain ⟨x, hx, h2⟩ := List.any_eq_true.1 hw
    simp at h2
    obtain ⟨y, hy, y1, y2⟩ := hs x hx h2.1
    refine stepB_iff.2 ⟨y, hy, by simp [y2, h2.2], List.any_eq_true.2 ⟨y, hy, by simp [y1]⟩⟩
/-- A colour that lies on an endless way in both directions is that of a lasting edge. -/
theorem Lst.word (L : Lst n es A B) {w : Nat} (hw : w < n) : (A w && B w) = true ↔ (∃ e ∈ es, lastE A B e = true ∧ (e.1 = w ∨ e.2 = w)) := by
  rw [Bool.and_eq_true]
  constructor
  · rintro ⟨h1, h2⟩
    have h3 := L.b.fix w hw
    rw [h2] at h3
    obtain ⟨y, hy, y1, y2⟩ := stepB_iff.1 h3
    refine ⟨y, hy, ?_, .inl y1⟩
    unfold lastE
    rw [y1, h1, y2]; rfl
  · rintro ⟨e, he, h, q⟩
    rcases q with rfl | rfl
    · have h' := h
      unfold lastE at h
      rw [Bool.and_eq_true] at h
      refine ⟨h.1, ?_⟩
      rw [← L.b.fix e.1 hw]
      exact stepB_iff.2 ⟨e, he, rfl, h.2⟩
    · unfold lastE at h
      rw [Bool.and_eq_true] at h
      refine ⟨?_, h.2⟩
      rw [← L.a.fix e.2 hw]
      exact stepB_iff.2 ⟨(e.2, e.1), List.mem_map.2 ⟨e, he, rfl⟩, rfl, h.1⟩
end
end Go.Proofs.Ytdmhchgaeepdmaa.Cl

/- Columns: the plain law (cell by cell, and layer by layer). No claim is stated here. -/
set_option linter.unusedVariables false
set_option linter.unusedSimpArgs false
namespace Go.Proofs.Ytdmhchgaeepdmaa.Cl
open Go
/-- All sides of the tiles are colours. -/
def TS (c : Int) (ts : List Tile) : Prop := 1 ≤ c ∧ ∀ t ∈ ts, ∀ k, k < 4 → 0 ≤ sd t k ∧ sd t k < c
theorem setOK.ts {c : Int} {ts : List Tile} (h : setOK c ts) : TS c ts := by
  refine ⟨h.1.1, fun t ht k hk => ?_⟩
  obtain ⟨i, hi, rfl⟩ := List.getElem_of_mem ht
  have := (h.2.2 i hi).1
  rw [tat_at (n := (i : Int)) (t := ts[i]) (by rw [Int.toNat_natCast]; exact List.getElem?_eq_getElem hi)] at this
  unfold tileok at this
  simp only [Bool.and_eq_true, decide_eq_true_eq] at this
  match k, hk with
  | 0, _ => show 0 ≤ ts[i].1 ∧ ts[i].1 < c; omega
  | 1, _ => show 0 ≤ ts[i].2.1 ∧ ts[i].2.1 < c; omega
  | 2, _ => show 0 ≤ ts[i].2.2.1 ∧ ts[i].2.2.1 < c; omega
  | 3, _ => show 0 ≤ ts[i].2.2.2 ∧ ts[i].2.2.2 < c; omega
section
variable (c : Int) (ts : List Tile)
def colP : Nat → Int → Int → Int → List (Int × Int)
  | 0, _, l, r => [(l, r)]
  | m + 1, s, l, r => ts.flatMap fun t => if 0 ≤ s ∧ s ≠ sd t 1 then [] else colP m (sd t 3) (l * c + sd t 0) (r * c + sd t 2)
/-- The program's columns: west word, east word, north colour. -/
def colI (h : Nat) : Nat → Int → Int → Int → Int → List (Int × Int × Int)
  | 0, top, _, l, r => [(l, r, top)]
  | m + 1, top, last, l, r => ts.flatMap fun t => if m + 1 < h ∧ sd t 1 ≠ last then [] else colI h m (if m + 1 = h then sd t 1 else top) (sd t 3) (l * c + sd t 0) (r * c + sd t 2)
def layS (x : Int × Int × Int) : List (Int × Int × Int) := ts.flatMap fun t => if 0 ≤ x.2.2 ∧ x.2.2 ≠ sd t 1 then [] else [(x.1 * c + sd t 0, x.2.1 * c + sd t 2, sd t 3)]
def lay (l : List (Int × Int × Int)) : List (Int × Int × Int) := l.flatMap (layS c ts)
def layN : Nat → List (Int × Int × Int) → List (Int × Int × Int)
  | 0, l => l
  | m + 1, l => layN m (lay c ts l)
def chain : Nat → Int × Int × Int → List (Int × Int × Int)
  | 0, x => [x]
  | m + 1, x => (layS c ts x).flatMap (chain m)
end
def pr (x : Int × Int × Int) : Int × Int := (x.1, x.2.1)
variable {c : Int} {ts : List Tile}
theorem fm_congr {α β : Type} {l : List α} {f g : α → List β} (h : ∀ x ∈ l, f x = g x) : l.flatMap f = l.flatMap g := by
  induction l with
  | nil => rfl
  | cons a l ih => rw [List.flatMap_cons, List.flatMap_cons, h a (by simp), ih fun x hx => h x (by simp [hx])]
theorem layN_chain : ∀ (m : Nat) (l : List (Int × Int × Int)), layN c ts m l = l.flatMap (chain c ts m)
  | 0, l => by
    rw [layN]
    induction l with
    | nil => rfl
    | cons a l ih => rw [List.flatMap_cons, ← ih]; rfl
  | m + 1, l => by
    rw [layN, layN_chain m, lay, List.flatMap_assoc]
    rfl
theorem layN_succ : ∀ (m : Nat) (l : List (Int × Int × Int)), layN c ts (m + 1) l = lay c ts (layN c ts m l)
  | 0, l => rfl
  | m + 1, l => by rw [layN, layN_succ m]; rfl
theorem chain_pr : ∀ (m : Nat) (x : Int × Int × Int), (chain c ts m x).map pr = colP c ts m x.2.2 x.1 x.2.1
  | 0, x => rfl
  | m + 1, x => by
    rw [chain, colP, layS, List.flatMap_assoc, List.map_flatMap]
    refine fm_congr fun t _ => ?_
    by_cases h : 0 ≤ x.2.2 ∧ x.2.2 ≠ sd t 1
    · rw [if_pos h, if_pos h]; rfl
    · rw [if_neg h, if_neg h, List.flatMap_cons, List.flatMap_nil, List.append_nil]
      exact chain_pr m _
theorem lay_pr (h : Nat) : (layN c ts h [(0, 0, -1)]).map pr = colP c ts h (-1) 0 0 := by
  rw [layN_chain, List.flatMap_cons, List.flatMap_nil, List.append_nil]
  exact chain_pr h _
theorem colI_pr (T : TS c ts) (h : Nat) : ∀ (m : Nat) (top last l r : Int), m ≤ h → (m < h → 0 ≤ last) → (colI c ts h m top last l r).map pr = colP c ts m (if m = h then -1 else last) l r
  | 0, top, last, l, r, _, _ => rfl
  | m + 1, top, last, l, r, hm, hl => by
    rw [colI, colP, List.map_flatMap]
    refine fm_congr fun t ht => ?_
    have h3 := T.2 t ht 3 (by omega)
    by_cases e : m + 1 = h
    · rw [if_neg (by omega), if_pos e, if_neg (by omega), colI_pr T h m _ _ _ _ (by omega) (fun _ => h3.1), if_neg (by omega)]
    · simp only [if_neg e]
      by_cases q : sd t 1 = last
      · rw [if_neg (by omega), if_neg (by omega), colI_pr T h m _ _ _ _ (by omega) (fun _ => h3.1), if_neg (by omega)]
      · rw [if_pos (by omega), if_pos ⟨hl (by omega), fun f => q f.symm⟩]; rfl
theorem colP_bound (T : TS c ts) : ∀ (m : Nat) (s l r b : Int), 0 ≤ l ∧ l < b → 0 ≤ r ∧ r < b → ∀ p ∈ colP c ts m s l r, (0 ≤ p.1 ∧ p.1 < b * c ^ m) ∧ 0 ≤ p.2 ∧ p.2 < b * c ^ m
  | 0, s, l, r, b, hl, hr, p, hp => by
    simp only [colP, List.mem_singleton] at hp
    subst hp
    simpa using ⟨hl, hr⟩
  | m + 1, s, l, r, b, hl, hr, p, hp => by
    rw [colP] at hp
    obtain ⟨t, ht, hp⟩ := List.mem_flatMap.1 hp
    split at hp
    · cases hp
    · have h0 := T.2 t ht 0 (by omega)
      have h2 := T.2 t ht 2 (by omega)
      have hc := T.1
      have key : ∀ x d : Int, 0 ≤ x ∧ x < b → 0 ≤ d ∧ d < c → 0 ≤ x * c + d ∧ x * c + d < b * c := fun x d hx hd => by
        have h1 : 0 ≤ x * c := Int.mul_nonneg hx.1 (by omega)
        have h2 : (x + 1) * c ≤ b * c := Int.mul_le_mul_of_nonneg_right (by omega) (by omega)
        rw [Int.add_mul, Int.one_mul] at h2
        omega
      have := colP_bound T m _ _ _ (b * c) (key _ _ hl h0) (key _ _ hr h2) p hp
      rw [Int.pow_succ, Int.mul_comm (c ^ m), ← Int.mul_assoc]
      exact this
theorem colP_len : ∀ (m : Nat) (s l r : Int), (colP c ts m s l r).length ≤ ts.length ^ m
  | 0, s, l, r => by simp [colP]
  | m + 1, s, l, r => by
    rw [colP, List.length_flatMap, Nat.pow_succ, Nat.mul_comm]
    have : ∀ (l' : List Tile), (l'.map fun t => (if 0 ≤ s ∧ s ≠ sd t 1 then [] else colP c ts m (sd t 3) (l * c + sd t 0) (r * c + sd t 2)).length).sum ≤ l'.length * ts.length ^ m := fun l' => by
      induction l' with
      | nil => simp
      | cons a l' ih =>
        rw [List.map_cons, List.sum_cons, List.length_cons, Nat.add_mul, Nat.one_mul]
        have : (if 0 ≤ s ∧ s ≠ sd a 1 then [] else colP c ts m (sd a 3) (l * c + sd a 0) (r * c + sd a 2)).length ≤ ts.length ^ m := by
          split
          · simp
          · exact colP_len m _ _ _
        omega
    exact this ts
theorem lay_len (h : Nat) : (layN c ts h [(0, 0, -1)]).length = (colP c ts h (-1) 0 0).length := by rw [← lay_pr, List.length_map]
/-- The columns of a height: west words and east words. -/
def colsOf (c : Int) (ts : List Tile) (h : Int) : List (Int × Int) := colP c ts h.toNat (-1) 0 0
end Go.Proofs.Ytdmhchgaeepdmaa.Cl

/- slices.Repeat of one element. No claim is stated here. -/
set_option linter.unusedVariables false
set_option linter.unusedSimpArgs false
namespace Go.Proofs.Ytdmhchgaeepdmaa.Cl
open Go
theorem wrapU_of {n : Int} (h1 : 0 ≤ n) (h2 : n < 18446744073709551616) : IntKind.wrap .u64 n = n := by
  unfold IntKind.wrap
  simp [IntKind.bits, IntKind.signed] <;> omega
theorem andLow {x : Int} (h0 : 0 ≤ x) (h1 : x < 4294967296) : bitsOp .and .u64 x 4294967295 = x := by
  obtain ⟨n, rfl⟩ : ∃ n : Nat, x = n := ⟨x.toNat, by omega⟩
  have hn : n < 4294967296 := by omega
  have e : (BitVec.ofInt 64 (n : Int) &&& BitVec.ofInt 64 4294967295).toNat = n := by
    rw [BitVec.toNat_and, BitVec.toNat_ofInt, BitVec.toNat_ofInt]
    have a : ((n : Int) % ((2 ^ 64 : Nat) : Int)).toNat = n := by
      have : ((2 ^ 64 : Nat) : Int) = 18446744073709551616 := by decide
      omega
    have b : ((4294967295 : Int) % ((2 ^ 64 : Nat) : Int)).toNat = 2 ^ 32 - 1 := by decide
    rw [a, b, Nat.and_two_pow_sub_one_eq_mod]
    exact Nat.mod_eq_of_lt hn
  unfold bitsOp
  show IntKind.wrap .u64 (((BitVec.ofInt 64 (n : Int) &&& BitVec.ofInt 64 4294967295).toNat : Nat) : Int) = n
  rw [e]
  exact wrapU_of (by omega) (by omega)
theorem shrU {x : Int} (h0 : 0 ≤ x) (h1 : x < 4294967296) : shrI .u64 x 32 = 0 := by
  unfold shrI
  have : (2 : Int) ^ (min (32 : Int).toNat IntKind.u64.bits) = 4294967296 := by decide
  rw [this, Int.fdiv_eq_ediv_of_nonneg _ (by omega)]
  exact Int.ediv_eq_zero_of_lt h0 h1
theorem mul64_c {x y : Int} (x0 : 0 ≤ x) (x1 : x ≤ 1) (y0 : 0 ≤ y) (y1 : y < 4294967296) {h : H} {K : AVal → H → Prop} (hk : K (.tuple [.int .u64 0, .int .u64 (x * y)]) h) : callV SP i_math_bits_Mul64 [.int .u64 x, .int .u64 y] h K := by
  have hp : 0 ≤ x * y ∧ x * y < 4294967296 := by
    rcases (show x = 0 ∨ x = 1 by omega) with rfl | rfl <;> omega
  refine (show callV SP i_math_bits_Mul64 [.int .u64 x, .int .u64 y] h fun v h' => v = .tuple [.int .u64 0, .int .u64 (x * y)] ∧ h' = h from ?_).to (by rintro _ _ ⟨rfl, rfl⟩; exact hk)
  apply math_bits_Mul64_call
  unfold math_bits_Mul64_main
  rw [shrU x0 (by omega), shrU y0 y1, andLow x0 (by omega), andLow y0 y1, Int.zero_mul, Int.zero_mul, Int.mul_zero, wrapU_of (n := x * y) hp.1 (by omega), wrapU_of (n := 0) (by omega) (by omega), shrU hp.1 hp.2, Int.add_zero, wrapU_of (n := 0) (by omega) (by omega), shrU (x := 0) (by omega) (by omega), andLow (x := 0) (by omega) (by omega), Int.add_zero, wrapU_of (n := 0) (by omega) (by omega), shrU (x := 0) (by omega) (by omega), Int.add_zero, wrapU_of (n := 0) (by omega) (by omega)]
  exact ⟨by decide, by decide, by decide, by decide, by decide, rfl, rfl⟩
theorem mul_c {x y : Int} (x0 : 0 ≤ x) (x1 : x ≤ 1) (y0 : 0 ≤ y) (y1 : y < 4294967296) {h : H} {K : AVal → H → Prop} (hk : K (.tuple [.int .u64 0, .int .u64 (x * y)]) h) : callV SP i_math_bits_Mul [.int .u64 x, .int .u64 y] h K := by
  refine (show callV SP i_math_bits_Mul [.int .u64 x, .int .u64 y] h fun v h' => v = .tuple [.int .u64 0, .int .u64 (x * y)] ∧ h' = h from ?_).to (by rintro _ _ ⟨rfl, rfl⟩; exact hk)
  apply math_bits_Mul_call
  unfold math_bits_Mul_main
  refine mul64_c x0 x1 y0 y1 ?_
  exact ⟨_, rfl, _, rfl, _, rfl, _, rfl, rfl, rfl⟩
/-- A part of a view that is owned whole. -/
theorem cut_own {h : H} {s : Sl} {z : Nat} {cs : List AVal} (r : Ow h s z cs) {o : Nat} (ho : s.o = some o) {lo hi : Int} (h0 : 0 ≤ lo) (h1 : lo ≤ hi) (h2 : hi ≤ s.len) {K : Sl → Prop} (hk : K ⟨some o, s.n, lo.toNat * z, (hi - lo).toNat, z⟩) : cut s z lo hi h K := by
  obtain ⟨a, b⟩ | ⟨o', a, b, c, d, e⟩ := r.at_
  · rw [a] at ho; cases ho
  · have : o' = o := by rw [a] at ho; exact Option.some.inj ho
    subst this
    refine ⟨⟨h0, h1⟩, ?_, (fun q => by rw [a] at q; cases q), fun _ => ⟨b, ?_⟩, ?_⟩
    · unfold okS
      rw [a]
      simp only
      unfold cells
      rw [e]
      simp [r.len, d]
    · rw [c, d]
      have : hi.toNat * z ≤ s.len * z := Nat.mul_le_mul_right _ (by omega)
      omega
    · rw [a, c]; simpa using hk
theorem copy_own {h : H} {s : Sl} {cs : List AVal} (r : Ow h s 1 cs) {o : Nat} (ho : s.o = some o) {a m : Nat} (ham : a + m ≤ s.len) {x : Sl} {xs : List AVal} (hx : x.sz = 1) (hr : range h x.o x.n x.off (min x.len m * 1) = some xs) {K : Int → H → Prop}
    (hk : ∀ h', Ow h' s 1 (splice cs a xs) → But (some o) h h' → h'.length = h.length → K (min x.len m : Nat) h') : copyS ⟨some o, s.n, a, m, 1⟩ x 1 h K := by
  obtain ⟨p, q⟩ | ⟨o', p, b, c, d, e⟩ := r.at_
  · rw [p] at ho; cases ho
  · have : o' = o := by rw [p] at ho; exact Option.some.inj ho
    subst this
    have hxl := range_len hr
    have hcl := r.len
    have hol : o' < h.length := (List.getElem?_eq_some_iff.1 e).1
    have hsl : (splice cs a xs).length = cs.length := by unfold splice; simp; omega
    refine ⟨xs, h.set o' (.own (splice cs a xs)), hr, rfl, hx, ?_, hk _ ⟨by rw [hsl, hcl], .inr ⟨o', p, b, c, d, by simp [List.getElem?_set, hol]⟩⟩ ⟨by simp, fun i hi hn => by rw [List.getElem?_set, if_neg (fun e => hn (by rw [e]))]⟩ (by simp)⟩
    unfold putN owned
    simp only [e, Option.bind_some]
    rw [if_pos (by omega)]
    simp only [Option.bind_some]
    rw [if_pos (by omega)]
theorem rep_splice (v w : AVal) (i n k : Nat) (h : i + k ≤ n) : splice (List.replicate i v ++ List.replicate (n - i) w) i (List.replicate k v) = List.replicate (i + k) v ++ List.replicate (n - (i + k)) w := by
  unfold splice
  rw [List.take_left' (by simp), List.length_replicate, List.drop_append]
  simp only [List.length_replicate, List.drop_replicate]
  rw [show i - (i + k) = 0 by omega, show i + k - i = k by omega, show n - i - k = n - (i + k) by omega]
  simp [List.replicate_append_replicate]
theorem rep_take (v w : AVal) (i n k : Nat) (h : k ≤ i) : (List.replicate i v ++ List.replicate (n - i) w).take k = List.replicate k v := by
  rw [List.take_append_of_le_length (by simpa using h), List.take_replicate, Nat.min_eq_left h]
theorem ow_range {h : H} {s : Sl} {cs : List AVal} (r : Ow h s 1 cs) {o : Nat} (ho : s.o = some o) {k : Nat} (hk : k ≤ s.len) : range h (some o) s.n 0 k = some (cs.take k) := by
  obtain ⟨p, q⟩ | ⟨o', p, b, c, d, e⟩ := r.at_
  · rw [p] at ho; cases ho
  · have : o' = o := by rw [p] at ho; exact Option.some.inj ho
    subst this
    have hcl := r.len
    rw [range_of (xs := cs) (by unfold cells; simp [e, d, hcl]) (by omega)]
    simp
section
variable {h0 : H} {x : Sl} {n : Int}
theorem repeatB_c {v : Bool} (r : Rd h0 x 1 [.bool v]) (n0 : 0 ≤ n) (n1 : n ≤ 1000000) : callS SP i_slices_Repeat_s_bool_bool_ [.sl x, i64 n] h0 fun s h' => Ow h' s 1 (List.replicate n.toNat (.bool v)) ∧ Fr h0.length s ∧ Ext h0 h' := by
  have hxl : x.len = 1 := by have := r.len; simp at this; omega
  have hx : x.sz = 1 ∧ range h0 x.o x.n x.off 1 = some [.bool v] := by
    obtain a | ⟨a, _, c⟩ := r.at_
    · omega
    · exact ⟨a, by rw [hxl] at c; exact c⟩
  apply slices_Repeat_s_bool_bool__call
  unfold slices_Repeat_s_bool_bool__main
  refine bif_dec (fun f => by omega) (fun _ => ?_)
  rw [wrapU_of (n := (x.len : Int)) (by omega) (by omega), wrapU_of n0 (by omega), hxl]
  refine mul_c (by decide) (by decide) n0 (by omega) ?_
  refine ⟨_, rfl, _, rfl, _, rfl, _, rfl, ?_⟩
  rw [show ((1 : Nat) : Int) * n = n by omega]
  refine bif_dec (fun f => by omega) (fun _ => ?_)
  refine bif_dec (fun f => by omega) (fun _ => ?_)
  rw [w64_of (by omega) (by omega)]
  refine mkS_ow n0 (by unfold lim; omega) fun s h7 os ls so e7 => ?_
  have x7 : Ext h0 h7 := by rw [e7]; exact Ext.app _ _
  have os' : Ow h7 s 1 (List.replicate n.toNat (.bool false)) := by simpa using os
  obtain ⟨N, rfl⟩ : ∃ N : Nat, n = N := ⟨n.toNat, by omega⟩
  rw [Int.toNat_natCast] at *
  have hsv : s = ⟨some h0.length, s.n, 0, s.len, 1⟩ := by
    obtain ⟨a, _⟩ | ⟨o, a, b, c, d, _⟩ := os'.at_
    · rw [a] at so; cases so
    · rw [show some h0.length = s.o from so.symm, show (0 : Nat) = s.off from c.symm, show (1 : Nat) = s.sz from b.symm]
  have hmin : min x.len s.len = min 1 N := by rw [hxl, ls]
  have rep0 : List.replicate N (AVal.bool false) = List.replicate 0 (.bool v) ++ List.replicate (N - 0) (.bool false) := by simp
  have step : copyS ⟨some h0.length, s.n, 0, s.len, 1⟩ x 1 h7 fun n8 h9 => slices_Repeat_s_bool_bool__L0 SP (fun v_1 h' => ∃ b, v_1 = AVal.sl b ∧ Ow h' b 1 (List.replicate N (.bool v)) ∧ Fr h0.length b ∧ Ext h0 h') s n8 h9 := by
    refine copy_own os' so (by omega) hx.1 (xs := List.replicate (min 1 N) (.bool v)) ?_ fun h9 o9 b9 l9 => ?_
    · rw [hmin]
      have := x7.range hx.2
      by_cases hN : N = 0
      · subst hN
        have := range_sub this (a := 0) (b := 0) (by omega)
        simpa using this
      · rw [show min 1 N = 1 by omega]; exact this
    · rw [rep0, show splice _ 0 _ = _ from rep_splice _ _ 0 N (min 1 N) (by omega)] at o9
      rw [hmin, Nat.zero_add] at *
      have E9 : Ext h0 h9 := x7.but_ b9 (some_le (Nat.le_refl _))
      refine slices_Repeat_s_bool_bool__rule0 _ _ _ (fun i h => ∃ j : Nat, i = j ∧ j ≤ N ∧ (0 < N → 0 < j) ∧ Ow h s 1 (List.replicate j (.bool v) ++ List.replicate (N - j) (.bool false)) ∧ Ext h0 h) (fun i _ => (N - i).toNat) ?_ _ ⟨min 1 N, rfl, by omega, by omega, o9, E9⟩
      rintro X _ h ⟨j, rfl, hj, hp, o, e⟩ hX
      unfold slices_Repeat_s_bool_bool__b0 slices_Repeat_s_bool_bool__C0
      refine bif_dec (fun hi => ?_) (fun hi => ⟨_, rfl, ?_, (fun o' e' => by rw [so] at e'; cases e'; exact Nat.le_refl _), e⟩)
      · refine cut_own o so (by omega) (by omega) (Int.le_refl _) ?_
        refine cut_own o so (by omega) (by omega) (by omega) ?_
        simp only [Int.toNat_natCast, Nat.mul_one, Int.toNat_zero]
        rw [show ((s.len : Int) - (j : Int)).toNat = s.len - j by omega, show ((j : Int) - 0).toNat = j by omega]
        refine copy_own o so (by omega) rfl (xs := List.replicate (min j (s.len - j)) (.bool v)) ?_ fun h3 o3 b3 l3 => ?_
        · simp only [Nat.mul_one]
          rw [ow_range o so (by omega), rep_take _ _ _ _ _ (by omega)]
        · rw [rep_splice _ _ j N _ (by omega)] at o3
          simp only
          rw [w64_of (by omega) (by omega)]
          refine hX _ _ ⟨j + min j (s.len - j), by push_cast; rfl, by omega, fun _ => by omega, o3, e.but_ b3 (some_le (Nat.le_refl _))⟩ (by omega)
      · have : j = N := by omega
        subst this
        simpa using o
  rw [← hsv] at step
  exact step
theorem repeatI_c {v : Int} (r : Rd h0 x 1 [i64 v]) (n0 : 0 ≤ n) (n1 : n ≤ 1000000) : callS SP i_slices_Repeat_s_int64_int64_ [.sl x, i64 n] h0 fun s h' => Ow h' s 1 (List.replicate n.toNat (i64 v)) ∧ Fr h0.length s ∧ Ext h0 h' := by
  have hxl : x.len = 1 := by have := r.len; simp at this; omega
  have hx : x.sz = 1 ∧ range h0 x.o x.n x.off 1 = some [i64 v] := by
    obtain a | ⟨a, _, c⟩ := r.at_
    · omega
    · exact ⟨a, by rw [hxl] at c; exact c⟩
  apply slices_Repeat_s_int64_int64__call
  unfold slices_Repeat_s_int64_int64__main
  refine bif_dec (fun f => by omega) (fun _ => ?_)
  rw [wrapU_of (n := (x.len : Int)) (by omega) (by omega), wrapU_of n0 (by omega), hxl]
  refine mul_c (by decide) (by decide) n0 (by omega) ?_
  refine ⟨_, rfl, _, rfl, _, rfl, _, rfl, ?_⟩
  rw [show ((1 : Nat) : Int) * n = n by omega]
  refine bif_dec (fun f => by omega) (fun _ => ?_)
  refine bif_dec (fun f => by omega) (fun _ => ?_)
  rw [w64_of (by omega) (by omega)]
  refine mkS_ow n0 (by unfold lim; omega) fun s h7 os ls so e7 => ?_
  have x7 : Ext h0 h7 := by rw [e7]; exact Ext.app _ _
  have os' : Ow h7 s 1 (List.replicate n.toNat (i64 0)) := by simpa using os
  obtain ⟨N, rfl⟩ : ∃ N : Nat, n = N := ⟨n.toNat, by omega⟩
  rw [Int.toNat_natCast] at *
  have hsv : s = ⟨some h0.length, s.n, 0, s.len, 1⟩ := by
    obtain ⟨a, _⟩ | ⟨o, a, b, c, d, _⟩ := os'.at_
    · rw [a] at so; cases so
    · rw [show some h0.length = s.o from so.symm, show (0 : Nat) = s.off from c.symm, show (1 : Nat) = s.sz from b.symm]
  have hmin : min x.len s.len = min 1 N := by rw [hxl, ls]
  have rep0 : List.replicate N (i64 0) = List.replicate 0 (i64 v) ++ List.replicate (N - 0) (i64 0) := by simp
  have step : copyS ⟨some h0.length, s.n, 0, s.len, 1⟩ x 1 h7 fun n8 h9 => slices_Repeat_s_int64_int64__L0 SP (fun v_1 h' => ∃ b, v_1 = AVal.sl b ∧ Ow h' b 1 (List.replicate N (i64 v)) ∧ Fr h0.length b ∧ Ext h0 h') s n8 h9 := by
    refine copy_own os' so (by omega) hx.1 (xs := List.replicate (min 1 N) (i64 v)) ?_ fun h9 o9 b9 l9 => ?_
    · rw [hmin]
      have := x7.range hx.2
      by_cases hN : N = 0
      · subst hN
        have := range_sub this (a := 0) (b := 0) (by omega)
        simpa using this
      · rw [show min 1 N = 1 by omega]; exact this
    · rw [rep0, show splice _ 0 _ = _ from rep_splice _ _ 0 N (min 1 N) (by omega)] at o9
      rw [hmin, Nat.zero_add] at *
      have E9 : Ext h0 h9 := x7.but_ b9 (some_le (Nat.le_refl _))
      refine slices_Repeat_s_int64_int64__rule0 _ _ _ (fun i h => ∃ j : Nat, i = j ∧ j ≤ N ∧ (0 < N → 0 < j) ∧ Ow h s 1 (List.replicate j (i64 v) ++ List.replicate (N - j) (i64 0)) ∧ Ext h0 h) (fun i _ => (N - i).toNat) ?_ _ ⟨min 1 N, rfl, by omega, by omega, o9, E9⟩
      rintro X _ h ⟨j, rfl, hj, hp, o, e⟩ hX
      unfold slices_Repeat_s_int64_int64__b0 slices_Repeat_s_int64_int64__C0
      refine bif_dec (fun hi => ?_) (fun hi => ⟨_, rfl, ?_, (fun o' e' => by rw [so] at e'; cases e'; exact Nat.le_refl _), e⟩)
      · refine cut_own o so (by omega) (by omega) (Int.le_refl _) ?_
        refine cut_own o so (by omega) (by omega) (by omega) ?_
        simp only [Int.toNat_natCast, Nat.mul_one, Int.toNat_zero]
        rw [show ((s.len : Int) - (j : Int)).toNat = s.len - j by omega, show ((j : Int) - 0).toNat = j by omega]
        refine copy_own o so (by omega) rfl (xs := List.replicate (min j (s.len - j)) (i64 v)) ?_ fun h3 o3 b3 l3 => ?_
        · simp only [Nat.mul_one]
          rw [ow_range o so (by omega), rep_take _ _ _ _ _ (by omega)]
        · rw [rep_splice _ _ j N _ (by omega)] at o3
          simp only
          rw [w64_of (by omega) (by omega)]
          refine hX _ _ ⟨j + min j (s.len - j), by push_cast; rfl, by omega, fun _ => by omega, o3, e.but_ b3 (some_le (Nat.le_refl _))⟩ (by omega)
      · have : j = N := by omega
        subst this
        simpa using o
  rw [← hsv] at step
  exact step
end
end Go.Proofs.Ytdmhchgaeepdmaa.Cl

/- Contracts of LastingTiles. No claim is stated here. -/
set_option linter.unusedVariables false
set_option linter.unusedSimpArgs false
namespace Go.Proofs.Ytdmhchgaeepdmaa.Cl
open Go
noncomputable def sel0 {α : Type} (A : Prop) (l : List α) : List α := open Classical in if A then l else []
theorem sel0_yes {α : Type} {A : Prop} {l : List α} (h : A) : sel0 A l = l := by unfold sel0; rw [if_pos h]
theorem sel0_no {α : Type} {A : Prop} {l : List α} (h : ¬ A) : sel0 A l = [] := by unfold sel0; rw [if_neg h]
theorem pushI2 {h : H} {s : Sl} {l : List Int} {x : Int} (r : Ow h s 1 (ic l)) (hl : (l.length : Int) + 1 ≤ lim) {K : Sl → H → Prop}
    (hk : ∀ s' h', Ow h' s' 1 (ic (l ++ [x])) → But s.o h h' → (∀ o, s'.o = some o → s.o = some o ∨ h.length ≤ o) → K s' h') : newS 1 1 [.int .i64 x] h fun t h1 => app s t 1 h1 K := by
  refine newS_ow (by rfl) fun t h1 ot tl to e1 => ?_
  have e1' : Ext h h1 := by rw [e1]; exact Ext.app _ _
  have := e1'.len
  have hsl := r.rd.ilen
  refine app_ow (by omega) (r.ext e1') ot.rd (by rw [tl, hsl]; exact_mod_cast hl) fun s' h' o' ln b k1 k2 => hk s' h' (by rw [ic_app]; exact o') ((e1'.but _).trans b) fun o e => ?_
  cases hq : s.o with
  | none => have := k2 hq o e; exact .inr (by omega)
  | some p => rw [k1 p hq] at e; exact .inl e
theorem Obj.same {h h' o cs} (x : Obj h o cs) (y : Obj h' o cs) {n : Nat} (hn : cs.length = n) : Cl.range h (some o) n 0 n = Cl.range h' (some o) n 0 n := (x.rangeE hn).trans (y.rangeE hn).symm
/-! ### lists of truth values -/
def bl (n : Nat) (A : Nat → Bool) : List Bool := (List.range n).map A
theorem bl_len (n A) : (bl n A).length = n := by simp [bl]
theorem bl_get {n : Nat} {A : Nat → Bool} {i : Nat} (h : i < n) : (bl n A)[i]? = some (A i) := by unfold bl; rw [List.getElem?_map, List.getElem?_range h]; rfl
theorem bl_congr {n : Nat} {A B : Nat → Bool} (h : ∀ w, w < n → A w = B w) : bl n A = bl n B := by
  unfold bl
  exact List.map_congr_left fun w hw => h w (List.mem_range.1 hw)
theorem bl_set {n : Nat} {A : Nat → Bool} {k : Nat} {v : Bool} : ((bl n A).map AVal.bool).set k (.bool v) = (bl n fun w => if w = k then v else A w).map .bool := by
  rw [← List.map_set]
  congr 1
  apply List.ext_getElem (by simp [bl])
  intro i h1 h2
  rw [List.getElem_set]
  simp only [bl, List.getElem_map, List.getElem_range]
  by_cases e : k = i
  · rw [if_pos e, if_pos e.symm]
  · rw [if_neg e, if_neg fun f => e f.symm]
theorem bl_false (n : Nat) : (List.replicate n [AVal.bool false]).flatten = (bl n fun _ => false).map .bool := by
  induction n with
  | zero => rfl
  | succ n ih =>
    unfold bl at *
    rw [List.replicate_succ', List.flatten_append, ih, List.range_succ, List.map_append, List.map_append]
    rfl
theorem bl_rep (n : Nat) (b : Bool) : List.replicate n (AVal.bool b) = (bl n fun _ => b).map .bool := by
  unfold bl
  apply List.ext_getElem (by simp)
  intro i h1 h2
  simp
theorem Rd.ldBl {h : H} {s : Sl} {n : Nat} {A : Nat → Bool} (r : Rd h s 1 ((bl n A).map .bool)) {i : Int} (h0 : 0 ≤ i) (h1 : i < n) {K : Bool → Prop} (hk : K (A i.toNat)) : ixS s 1 i fun p => Cl.ldB p h K :=
  r.ldB h0 (by rw [bl_len]; exact h1) fun x hx => by rw [bl_get (by omega)] at hx; cases hx; exact hk
theorem Ow.blen {h : H} {s : Sl} {n : Nat} {A : Nat → Bool} (r : Ow h s 1 ((bl n A).map .bool)) : s.len = n := by have := r.len; rw [List.length_map, bl_len] at this; omega
theorem Ow.stBl {h : H} {s : Sl} {n : Nat} {A : Nat → Bool} (r : Ow h s 1 ((bl n A).map .bool)) {i : Int} (h0 : 0 ≤ i) (h1 : i < n) (v : Bool) {K : H → Prop}
    (hk : ∀ h', Ow h' s 1 ((bl n fun w => if w = i.toNat then v else A w).map .bool) → But s.o h h' → h'.length = h.length → K h') : ixS s 1 i fun p => Cl.st1 p (.bool v) h K :=
  r.stC h0 (by rw [r.blen]; exact h1) _ fun h' o b l => hk h' (by rw [← bl_set]; exact o) b l
/-! ### ways without end over tiles -/
def edT (ts : List Tile) (f g : Nat) : List Edge := ts.map fun t => ((sd t f).toNat, (sd t g).toNat)
theorem stepB_take {es : List Edge} {A : Nat → Bool} {j : Nat} (h : j < es.length) (w : Nat) : stepB (es.take (j + 1)) A w = (stepB (es.take j) A w || (es[j].1 == w && A es[j].2)) := by
  unfold stepB
  rw [List.take_succ_eq_append_getElem h, List.any_append]
  simp
theorem edT_lt {c : Int} {ts : List Tile} (T : TS c ts) {f g : Nat} (hf : f < 4) (hg : g < 4) : ∀ e ∈ edT ts f g, e.1 < c.toNat ∧ e.2 < c.toNat := fun e he => by
  obtain ⟨t, ht, rfl⟩ := List.mem_map.1 he
  have h1 := T.2 t ht f hf
  have h2 := T.2 t ht g hg
  exact ⟨by simp only []; omega, by simp only []; omega⟩
section
variable {h0 : H} {c : Int} {s : Sl} {ts : List Tile}
theorem endlessT_c (r : Rd h0 s 4 (tcs ts)) (T : TS c ts) (hc : c ≤ 6) (hN : ts.length ≤ 16) {f g : Nat} (hf : f < 4) (hg : g < 4) :
    callS SP i_impl_Set_endless [.agg (SetC c s), i64 (f : Int), i64 (g : Int)] h0 fun u h' => Ow h' u 1 ((bl c.toNat (itB (edT ts f g) c.toNat)).map .bool) ∧ Fr h0.length u ∧ Ext h0 h' := by
  have hc1 := T.1
  have htl := r.tlen
  apply impl_Set_endless_call
  unfold impl_Set_endless_main
  refine newK_obj fun h1 o1 x1 n1 => ?_
  refine newS_ow (by rfl) fun q h3 oq lq qo e3 => ?_
  have x3 : Ext h1 h3 := by rw [e3]; exact Ext.app _ _
  have o3 := o1.ext x3
  refine isPt_in (o3.ldI rfl rfl ?_)
  refine (repeatB_c oq.rd (by omega) (by omega)).to ?_
  rintro u h5 ⟨ou, fu, x5⟩
  refine isPt_in ((o3.ext x5).ldI rfl rfl ?_)
  rw [bl_rep] at ou
  have l3 := x3.len
  refine impl_Set_endless_rule0 _ _ _ _ _ _ (fun u i h => ∃ k : Nat, i = k ∧ k ≤ c.toNat ∧ Ow h u 1 ((bl c.toNat (itB (edT ts f g) k)).map .bool) ∧ Fr h1.length u ∧ Ext h1 h) (fun _ i _ => (c - i).toNat) ?_ _ _ ⟨0, rfl, by omega, ou, fu.le x3.len, x3.trans x5⟩
  rintro X u _ h ⟨k, rfl, hk, ou, fu, x⟩ hX
  unfold impl_Set_endless_b0 impl_Set_endless_C0
  refine bif_dec (fun hi => ?_) (fun hi => ⟨_, rfl, (by have e : c.toNat = k := (by omega); rw [e] at ou ⊢; exact ou), fu.le (by omega), x1.trans x⟩)
  have o := o1.ext x
  refine isPt_in (o.ldI rfl rfl ?_)
  refine mkS_ow (by omega) (by unfold lim; omega) fun v h2 ov lv vo e2 => ?_
  have x2 : Ext h h2 := by rw [e2]; exact Ext.app _ _
  rw [bl_false] at ov
  refine isPt_in ((o.ext x2).ldS rfl rfl ?_)
  have hel : (edT ts f g).length = ts.length := by simp [edT]
  have hhl := x.len
  refine impl_Set_endless_rule2 _ _ X _ _ _ _ _ _ _ _ _ (fun i g' => ∃ j : Nat, i = j ∧ j ≤ ts.length ∧ Ow g' v 1 ((bl c.toNat (stepB ((edT ts f g).take j) (itB (edT ts f g) k))).map .bool) ∧ Ext h g') (fun i _ => (ts.length - i).toNat) ?_ _ ⟨0, rfl, by omega, by rw [List.take_zero]; exact ov, x2⟩
  rintro Y _ g' ⟨j, rfl, hj, ov, e⟩ hY
  unfold impl_Set_endless_b2 impl_Set_endless_C2 impl_Set_endless_C1
  refine bif_dec (fun hi2 => ?_) (fun hi2 => ?_)
  rotate_left
  · rw [w64_of (by omega) (by omega)]
    refine hX _ _ _ ⟨k + 1, by push_cast; rfl, by omega, ?_, (fun o' e' => by rw [vo] at e'; cases e'; omega), x.trans e⟩ (by omega)
    rw [show j = ts.length by omega, ← hel, List.take_length] at ov
    exact ov
  have hj' : j < ts.length := by omega
  have E := (x1.trans x).trans e
  refine (r.ext E).ldT (by omega) (by omega) fun t ht => ?_
  rw [Int.toNat_natCast] at ht
  have htm : t ∈ ts := List.mem_of_getElem? ht
  have hedge : (edT ts f g)[j]'(by omega) = ((sd t f).toNat, (sd t g).toNat) := by
    have : ts[j] = t := (List.getElem?_eq_some_iff.1 ht).2
    simp only [edT, List.getElem_map, this]
  have bf := T.2 t htm f hf
  have bg := T.2 t htm g hg
  refine newO_obj fun g3 og3 y3 m3 => ?_
  refine og3.stA fun g4 og4 b4 m4 => ?_
  have y4 : Ext g' g4 := y3.but_ b4 (some_le (Nat.le_refl _))
  refine og4.sdI (by omega) (by omega) ?_
  refine og4.sdI (by omega) (by omega) ?_
  rw [Int.toNat_natCast]
  have ov4 := ov.ext y4
  have ou4 := ou.ext (e.trans y4)
  have hst := fun w => stepB_take (A := itB (edT ts f g) k) (j := j) (by omega : j < (edT ts f g).length) w
  rw [hedge] at hst
  simp only at hst
  have hv : v.o = some h.length := vo
  have next : ∀ (b : Bool), b = stepB ((edT ts f g).take (j + 1)) (itB (edT ts f g) k) (sd t f).toNat → ixS v 1 (sd t f) fun p => Cl.st1 p (.bool b) g4 fun h12 => Y (impl_Set_endless_e2 (f : Int) (g : Int) ⟨some h0.length, 2, 0⟩ u v c (k : Int) s (s.len : Int) (w64 ((j : Int) + 1))) h12 := fun b hb => by
    refine ov4.stBl bf.1 (by omega) b fun g5 o5 b5 l5 => ?_
    rw [w64_of (by omega) (by omega)]
    refine hY _ _ ⟨j + 1, by push_cast; rfl, by omega, ?_, (e.trans y4).but_ b5 (fun i hi => by rw [hv] at hi; cases hi; exact Nat.le_refl _)⟩ (by omega)
    rw [show bl c.toNat (stepB ((edT ts f g).take (j + 1)) (itB (edT ts f g) k)) = bl c.toNat (fun w => if w = (sd t f).toNat then b else stepB ((edT ts f g).take j) (itB (edT ts f g) k) w) from bl_congr fun w _ => ?_]
    · exact o5
    · split
      · next e => rw [hb, e]
      · next e => rw [hst w, show ((sd t f).toNat == w) = false by simp; exact fun f => e f.symm]; simp
  refine ov4.rd.ldBl bf.1 (by omega) ?_
  refine bif_b (fun hb => ?_) (fun hb => ?_)
  · refine next _ ?_
    rw [hst, hb]; rfl
  · refine og4.sdI (by omega) (by omega) ?_
    rw [Int.toNat_natCast]
    refine ou4.rd.ldBl bg.1 (by omega) ?_
    refine next _ ?_
    rw [hst, hb]
    simp
/-! ### the lasting tiles -/
def lastT (c : Int) (ts : List Tile) (i : Nat) : Bool := lastE (itB (edT ts 2 0) c.toNat) (itB (edT ts 0 2) c.toNat) ((sd (tat ts i) 0).toNat, (sd (tat ts i) 2).toNat)
def lastL (c : Int) (ts : List Tile) (n : Nat) : List Int := ((List.range n).filter (lastT c ts)).map fun (i : Nat) => (i : Int)
theorem flip_edT (ts : List Tile) : flipE (edT ts 0 2) = edT ts 2 0 := by unfold flipE edT; rw [List.map_map]; rfl
theorem lst_tiles (T : TS c ts) : Lst c.toNat (edT ts 0 2) (itB (edT ts 2 0) c.toNat) (itB (edT ts 0 2) c.toNat) := by
  have a := edT_lt T (f := 0) (g := 2) (by omega) (by omega)
  have b := edT_lt T (f := 2) (g := 0) (by omega) (by omega)
  refine ⟨a, ?_, endless_it (fun w hw => itB_end (fun e he => (a e he).2) w hw)⟩
  rw [flip_edT]
  exact endless_it (fun w hw => itB_end (fun e he => (b e he).2) w hw)
theorem lastL_len (n : Nat) : (lastL c ts n).length ≤ n := by
  unfold lastL
  rw [List.length_map]
  have := List.length_filter_le (lastT c ts) (List.range n)
  rwa [List.length_range] at this
theorem lastL_succ (n : Nat) : lastL c ts (n + 1) = if lastT c ts n then lastL c ts n ++ [(n : Int)] else lastL c ts n := by
  unfold lastL
  rw [List.range_succ, List.filter_append, List.map_append]
  by_cases h : lastT c ts n = true
  · rw [if_pos h, List.filter_cons_of_pos h]; rfl
  · rw [if_neg h, List.filter_cons_of_neg h]; simp
noncomputable def F_LastingTiles_0 (c : Int) (ts : List Tile) : List Int := sel0 (setOK c ts) (lastL c ts ts.length)
theorem impl_LastingTiles_c (r : Rd h0 s 4 (tcs ts)) (sz : ts.length ≤ 1048576) :
    callV SP i_impl_LastingTiles [.agg (SetC c s)] h0 fun v h' => ∃ w, v = .tuple [.sl w, i64 (codeOf (setOK c ts) True)] ∧ Ow h' w 1 (ic (F_LastingTiles_0 c ts)) ∧ Fr h0.length w ∧ Ext h0 h' := by
  apply impl_LastingTiles_call
  unfold impl_LastingTiles_main
  refine newK_obj fun h1 o1 x1 n1 => ?_
  refine o1.ldA rfl ?_
  refine (IsSet_c (r.ext x1) (by omega)).to ?_
  rintro e h2 ⟨he, x2⟩
  have X := x1.trans x2
  refine bif_not (fun hq => ⟨Sl.nil, ?_, ?_, Fr.nil _, X⟩) (fun hq => ?_)
  · rw [codeOf_no fun hs => by rw [he.2 hs] at hq; cases hq]
  · rw [F_LastingTiles_0, sel0_no fun hs => by rw [he.2 hs] at hq; cases hq]; exact Ow.nil _ _
  have hs := he.1 hq
  have T := hs.ts
  have hN := hs.2.1
  have htl := r.tlen
  refine slotK_in fun h5 x5 l5 => ?_
  have o2 := o1.ext x2
  have o5 := o2.ext x5
  refine o5.ldA rfl ?_
  refine (endlessT_c (r.ext (X.trans x5)) T hs.1.2 hN (f := 2) (g := 0) (by omega) (by omega)).to ?_
  rintro a h7 ⟨oa, fa, x7⟩
  have o7 := o5.ext x7
  refine o7.ldA rfl ?_
  refine ⟨o5.same o7 rfl, ?_⟩
  refine (endlessT_c (r.ext ((X.trans x5).trans x7)) T hs.1.2 hN (f := 0) (g := 2) (by omega) (by omega)).to ?_
  rintro b h10 ⟨ob, fb, x10⟩
  have o10 := o7.ext x10
  have l7 := x7.len
  have l10 := x10.len
  refine newSat_ow (by omega) (by rfl) fun u h13 ou lu uo bu lu' => ?_
  have X10 := ((X.trans x5).trans x7).trans x10
  have x13 : Ext h2 h13 := ((x5.trans x7).trans x10).but_ bu (some_le (by omega))
  have o13 := o2.ext x13
  refine ⟨o10.same o7 rfl, o10.same o5 rfl, o13.same o7 rfl, o13.same o5 rfl, ?_⟩
  refine isPt_in (o13.ldS rfl rfl ?_)
  have oa13 : Ow h13 a 1 _ := (oa.ext x10).but bu (.inl fun e => by have := fa _ e.symm; omega)
  have ob13 : Ow h13 b 1 _ := ob.but bu (.inl fun e => by have := fb _ e.symm; omega)
  have l2 := X.len
  refine impl_LastingTiles_rule0 _ _ _ _ _ _ (fun u i h => ∃ k : Nat, i = k ∧ k ≤ ts.length ∧ Ow h u 1 (ic (lastL c ts k)) ∧ (∀ o, u.o = some o → o = h2.length ∨ h13.length ≤ o) ∧ Chg (fun i => i = h2.length) h13 h) (fun _ i _ => (ts.length - i).toNat) ?_ _ _ ⟨0, rfl, by omega, ou, (fun o e => by rw [uo] at e; cases e; exact .inl (by omega)), Chg.refl _ _⟩
  rintro Y u _ h ⟨k, rfl, hk, ou, fu, cg⟩ hY
  have hX : Ext h2 h := x13.chg_ cg fun i e => by omega
  have clen := cg.1
  have l13 := x13.len
  unfold impl_LastingTiles_b0 impl_LastingTiles_C0
  refine bif_dec (fun hi => ?_) (fun hi => ⟨u, by rw [codeOf_yes hs trivial], ?_, (fun o e => by rcases fu o e with h | h <;> omega), X.trans hX⟩)
  rotate_left
  · rw [F_LastingTiles_0, sel0_yes hs, show ts.length = k by omega]; exact ou
  have hk' : k < ts.length := by omega
  refine (r.ext (X.trans hX)).ldT (by omega) (by omega) fun t ht => ?_
  rw [Int.toNat_natCast] at ht
  have htm : t ∈ ts := List.mem_of_getElem? ht
  have hta : tat ts (k : Int) = t := tat_at (by rw [Int.toNat_natCast]; exact ht)
  have b0 := T.2 t htm 0 (by omega)
  have b2 := T.2 t htm 2 (by omega)
  refine newO_obj fun g3 og3 y3 m3 => ?_
  refine og3.stA fun g4 og4 b4 m4 => ?_
  have y4 : Ext h g4 := y3.but_ b4 (some_le (Nat.le_refl _))
  have hsuc := lastL_succ (c := c) (ts := ts) k
  have hlt : lastT c ts k = (itB (edT ts 2 0) c.toNat (sd t 0).toNat && itB (edT ts 0 2) c.toNat (sd t 2).toNat) := by unfold lastT lastE; rw [hta]
  have skip : lastT c ts k = false → Y (impl_LastingTiles_e0 u a b s (s.len : Int) (w64 ((k : Int) + 1))) g4 := fun hq => by
    rw [w64_of (by omega) (by omega)]
    refine hY _ _ _ ⟨k + 1, by push_cast; rfl, by omega, ?_, fu, cg.trans (y4.chg _)⟩ (by omega)
    rw [hsuc, hq]
    exact ou.ext y4
  have oa4 : Ow g4 a 1 _ := (oa13.chg cg fun i e f => by have := fa i e; omega).ext y4
  have ob4 : Ow g4 b 1 _ := (ob13.chg cg fun i e f => by have := fb i e; omega).ext y4
  refine og4.sdI (by omega) (by omega) ?_
  refine oa4.rd.ldBl b0.1 (by show sd t 0 < _; omega) ?_
  refine bif_b (fun hb => ?_) (fun hb => skip (by rw [hlt, show itB (edT ts 2 0) c.toNat (sd t 0).toNat = false from hb]; rfl))
  refine og4.sdI (by omega) (by omega) ?_
  refine ob4.rd.ldBl b2.1 (by show sd t 2 < _; omega) ?_
  refine bif_b (fun hb2 => ?_) (fun hb2 => skip (by rw [hlt, show itB (edT ts 0 2) c.toNat (sd t 2).toNat = false from hb2]; simp))
  have hll := lastL_len (c := c) (ts := ts) k
  have y4l := y4.len
  refine pushI2 (ou.ext y4) (by unfold lim; omega) fun u' g16 ou' bu' fu' => ?_
  rw [w64_of (by omega) (by omega)]
  refine hY _ _ _ ⟨k + 1, by push_cast; rfl, by omega, ?_, (fun o e => ?_), ?_⟩ (by omega)
  · rw [hsuc, hlt, show itB (edT ts 2 0) c.toNat (sd t 0).toNat = true from hb, show itB (edT ts 0 2) c.toNat (sd t 2).toNat = true from hb2]
    exact ou'
  · rcases fu' o e with h | h
    · exact fu o h
    · exact .inr (by omega)
  · have hne : Chg (fun i => u.o = some i) g4 g16 := bu'.chg fun i e => e
    have cg4 := cg.trans (y4.chg (fun i => i = h2.length))
    refine ⟨Nat.le_trans cg4.1 hne.1, fun i hi hn => ?_⟩
    rw [hne.2 i (by omega) fun e => by rcases fu i e with h | h <;> omega]
    exact cg4.2 i hi hn
end
end Go.Proofs.Ytdmhchgaeepdmaa.Cl

/- The program's strips: what the search of columns does. No claim is stated here. -/
set_option linter.unusedVariables false
set_option linter.unusedSimpArgs false
namespace Go.Proofs.Ytdmhchgaeepdmaa.Cl
open Go
def c3 (l : List (Int × Int × Int)) : List AVal := (l.map fun x => [i64 x.1, i64 x.2.1, i64 x.2.2]).flatten
theorem c3_app (l m) : c3 (l ++ m) = c3 l ++ c3 m := by simp [c3]
theorem c3_len : ∀ l, (c3 l).length = l.length * 3
  | [] => rfl
  | a :: l => by
    have := c3_len l
    unfold c3 at *
    rw [List.map_cons, List.flatten_cons, List.length_append, this, List.length_cons]
    simp; omega
def StripC (c : Int) (s : Sl) (H w : Int) (q : Sl) : List AVal := [i64 c, .sl s, i64 H, i64 w, .sl q]
theorem pow_small4 {c : Int} {n : Nat} (h0 : 1 ≤ c) (h1 : c ≤ 6) (hn : n ≤ 4) : 1 ≤ c ^ n ∧ c ^ n ≤ 1296 := by
  have hc : c = 1 ∨ c = 2 ∨ c = 3 ∨ c = 4 ∨ c = 5 ∨ c = 6 := by omega
  have hm : n = 0 ∨ n = 1 ∨ n = 2 ∨ n = 3 ∨ n = 4 := by omega
  rcases hc with rfl | rfl | rfl | rfl | rfl | rfl <;> rcases hm with rfl | rfl | rfl | rfl | rfl <;> decide
theorem pow_step {c l d : Int} {j : Nat} (hc : 1 ≤ c) (hl : 0 ≤ l ∧ l < c ^ j) (hd : 0 ≤ d ∧ d < c) : 0 ≤ l * c + d ∧ l * c + d < c ^ (j + 1) := by
  have h1 : 0 ≤ l * c := Int.mul_nonneg hl.1 (by omega)
  have h2 : (l + 1) * c ≤ c ^ j * c := Int.mul_le_mul_of_nonneg_right (by omega) (by omega)
  rw [Int.add_mul, Int.one_mul] at h2
  rw [Int.pow_succ]
  omega
structure SEnv (h : H) (op ot oh oe os : Nat) (c : Int) (s : Sl) (H_ : Nat) : Prop where
  vp : Var h op (.ptr ⟨some os, 5, 0⟩)
  vt : Obj h ot (SetC c s)
  vh : Var h oh (i64 H_)
  ve : Var h oe (.func i_impl_newStrip_1 [.ptr (pt op), .ptr ⟨some ot, 2, 0⟩, .ptr (pt oh), .ptr (pt oe)])
theorem SEnv.chg {P : Nat → Prop} {h h' : H} {op ot oh oe os : Nat} {c : Int} {s : Sl} {H_ : Nat} (e : SEnv h op ot oh oe os c s H_) (x : Chg P h h') (hn : ¬ P op ∧ ¬ P ot ∧ ¬ P oh ∧ ¬ P oe) : SEnv h' op ot oh oe os c s H_ :=
  ⟨e.vp.chg x hn.1, e.vt.chg x hn.2.1, e.vh.chg x hn.2.2.1, e.ve.chg x hn.2.2.2⟩
section
variable {hb : H} {c w : Int} {s : Sl} {ts : List Tile} {H_ : Nat} {op ot oh oe os n1 : Nat}
theorem extRec (r : Rd hb s 4 (tcs ts)) (T : TS c ts) (hc : c ≤ 6) (hN : ts.length ≤ 16) (hH : 1 ≤ H_ ∧ H_ ≤ 4) (hn : op < n1 ∧ ot < n1 ∧ oh < n1 ∧ oe < n1 ∧ os < n1) (hd : op ≠ os ∧ ot ≠ os ∧ oh ≠ os ∧ oe ≠ os) (hbs : hb.length ≤ os) :
    ∀ (m : Nat) (top last l rr : Int) (cols : List (Int × Int × Int)) (q : Sl) (h : H), m ≤ H_ → (0 ≤ l ∧ l < c ^ (H_ - m)) → (0 ≤ rr ∧ rr < c ^ (H_ - m)) → SEnv h op ot oh oe os c s H_ → Obj h os (StripC c s H_ w q) → Ow h q 3 (c3 cols) → Fr n1 q → n1 ≤ h.length → cols.length ≤ 5000 → Ext hb h →
    callB SP i_impl_newStrip_1 [i64 top, i64 last, i64 l, i64 rr, i64 m, .ptr (pt op), .ptr ⟨some ot, 2, 0⟩, .ptr (pt oh), .ptr (pt oe)] h fun b h' =>
      b = decide ((cols ++ colI c ts H_ m top last l rr).length ≤ 5000) ∧ (b = true → ∃ q', Obj h' os (StripC c s H_ w q') ∧ Ow h' q' 3 (c3 (cols ++ colI c ts H_ m top last l rr)) ∧ Fr n1 q') ∧ Chg (fun i => i = os ∨ n1 ≤ i) h h'
  | 0, top, last, l, rr, cols, q, h, hm, hl, hr, e, o, oq, fq, hn1, hcl, x => by
    apply impl_newStrip_1_call
    unfold impl_newStrip_1_main
    refine bif_eq (fun _ => ?_) (fun f => absurd rfl f)
    refine e.vp.ldP ?_
    refine e.vp.ldP ⟨rfl, isPt_in (o.ldS rfl rfl ⟨rfl, ?_⟩)⟩
    refine newS_ow (by rfl) fun u h4 ou lu uo e4 => ?_
    have x4 : Ext h h4 := by rw [e4]; exact Ext.app _ _
    have l4 : h4.length = h.length + 1 := by rw [e4]; simp
    have ho := o.lt
    refine ⟨((o.ext x4).cellE (n := 5) (i := 4) rfl).trans (o.cellE (n := 5) (i := 4) rfl).symm, x4.cellE e.vp.cell, x4.cellE e.vp.cell, ?_⟩
    have hql : q.len = cols.length := by have := oq.len; rw [c3_len] at this; omega
    refine app_ow (by omega) (oq.ext x4) ou.rd (by rw [lu, hql]; unfold lim; omega) fun q' h6 oq' lq' b6 k1 k2 => ?_
    have hqn : ∀ i, i < n1 → q.o ≠ some i := fun i hi f => by have := fq i f; omega
    have vp6 : Var h6 op _ := (e.vp.ext x4).but b6 (hqn _ hn.1)
    have o6 : Obj h6 os _ := (o.ext x4).but b6 (hqn _ hn.2.2.2.2)
    have l6 := b6.1
    refine ⟨by rw [vp6.cell, e.vp.cell], rfl, isPt_in ?_⟩
    refine o6.st1 (n := 5) (i := 4) rfl (by omega) _ fun h7 o7 b7 l7 => ?_
    have vp7 : Var h7 op _ := vp6.but b7 (fun f => hd.1 (Option.some.inj f).symm)
    refine vp7.ldP ⟨rfl, isPt_in (o7.ldS rfl rfl ⟨_, rfl, ?_, fun _ => ⟨q', o7, ?_, ?_⟩, ?_⟩)⟩
    · have hcol : colI c ts H_ 0 top last l rr = [(l, rr, top)] := rfl
      rw [hcol, List.length_append, List.length_singleton, lq', lu, hql]
      congr 1
      apply propext
      constructor <;> intro f <;> omega
    · refine Ow.but ?_ b7 (.inl fun f => ?_)
      · rw [show colI c ts H_ 0 top last l rr = [(l, rr, top)] from rfl, c3_app]; exact oq'
      · cases hq : q.o with
        | none => have := k2 hq os f.symm; omega
        | some p => rw [k1 p hq] at f; exact hqn os hn.2.2.2.2 (by rw [hq, f])
    · intro i f
      cases hq : q.o with
      | none => have := k2 hq i f; omega
      | some p => rw [k1 p hq] at f; exact fq i (by rw [hq, f])
    · refine ((x4.chg _).trans (b6.chg fun i f => .inr (fq i f))).trans (b7.chg fun i f => .inl (Option.some.inj f).symm)
  | m + 1, top, last, l, rr, cols, q, h, hm, hl, hr, e, o, oq, fq, hn1, hcl, x => by
    have htl := r.tlen
    have hsn : s.len ≤ 16 := by omega
    have hcp := T.1
    apply impl_newStrip_1_call
    unfold impl_newStrip_1_main
    refine bif_eq (fun f => by omega) (fun _ => ?_)
    refine isPt_in (e.vt.ldS rfl rfl ?_)
    generalize hpc : (fun t : Tile => if m + 1 < H_ ∧ sd t 1 ≠ last then [] else colI c ts H_ m (if m + 1 = H_ then sd t 1 else top) (sd t 3) (l * c + sd t 0) (rr * c + sd t 2)) = pc
    have hall : colI c ts H_ (m + 1) top last l rr = ts.flatMap pc := by rw [← hpc]; rfl
    rw [hall]
    refine impl_newStrip_1_rule0 _ _ _ _ _ _ _ _ _ _ _ (fun i0 j g => ∃ k : Nat, j = k ∧ k ≤ ts.length ∧ (m + 1 ≠ H_ → i0 = top) ∧ (cols ++ (ts.take k).flatMap pc).length ≤ 5000 ∧ (∃ q', Obj g os (StripC c s H_ w q') ∧ Ow g q' 3 (c3 (cols ++ (ts.take k).flatMap pc)) ∧ Fr n1 q') ∧ Chg (fun i => i = os ∨ n1 ≤ i) h g) (fun _ j _ => (ts.length - j).toNat) ?_ _ _ ⟨0, rfl, by omega, fun _ => rfl, by simpa using hcl, ⟨q, o, by simpa using oq, fq⟩, Chg.refl _ _⟩
    rintro X i0 _ g ⟨k, rfl, hk, hi0, hlen, ⟨q', o', oq', fq'⟩, cg⟩ hX
    unfold impl_newStrip_1_b0 impl_newStrip_1_C0
    have hnp : ∀ i, i < n1 → i ≠ os → ¬ (i = os ∨ n1 ≤ i) := fun i h1 h2 f => by omega
    have eg := e.chg cg ⟨hnp _ hn.1 hd.1, hnp _ hn.2.1 hd.2.1, hnp _ hn.2.2.1 hd.2.2.1, hnp _ hn.2.2.2.1 hd.2.2.2⟩
    have xg : Ext hb g := x.chg_ cg fun i f => by omega
    have cgl := cg.1
    refine bif_dec (fun hi => ?_) (fun hi => ?_)
    rotate_left
    · rw [show k = ts.length by omega, List.take_length] at oq' hlen
      exact ⟨_, rfl, (decide_eq_true hlen).symm, fun _ => ⟨q', o', oq', fq'⟩, cg⟩
    have hk' : k < ts.length := by omega
    refine (r.ext xg).ldT (by omega) (by omega) fun t ht => ?_
    rw [Int.toNat_natCast] at ht
    have htm : t ∈ ts := List.mem_of_getElem? ht
    have htk : ts[k] = t := (List.getElem?_eq_some_iff.1 ht).2
    have hflat : (ts.take (k + 1)).flatMap pc = (ts.take k).flatMap pc ++ pc t := by
      rw [List.take_succ_eq_append_getElem hk', List.flatMap_append, htk]; simp
    have hrest : ts.flatMap pc = (ts.take k).flatMap pc ++ (pc t ++ (ts.drop (k + 1)).flatMap pc) := by
      have : ts = ts.take k ++ (t :: ts.drop (k + 1)) := by rw [← htk, ← List.drop_eq_getElem_cons hk', List.take_append_drop]
      conv => lhs; rw [this]
      rw [List.flatMap_append, List.flatMap_cons]
    refine newO_obj fun g3 og3 y3 m3 => ?_
    refine og3.stA fun g4 og4 b4 m4 => ?_
    have y4 : Ext g g4 := y3.but_ b4 (some_le (Nat.le_refl _))
    have y4l := y4.len
    have e4 := eg.chg (y4.chg fun _ => False) ⟨id, id, id, id⟩
    have o4 := o'.ext y4
    have oq4 := oq'.ext y4
    have b0 := T.2 t htm 0 (by omega)
    have b1 := T.2 t htm 1 (by omega)
    have b2 := T.2 t htm 2 (by omega)
    have b3 := T.2 t htm 3 (by omega)
    have hpow := pow_small4 (n := H_ - (m + 1)) hcp hc (by omega)
    have hpow2 := pow_small4 (n := H_ - (m + 1) + 1) hcp hc (by omega)
    have eH : H_ - m = H_ - (m + 1) + 1 := by omega
    have bl' := pow_step hcp hl b0
    have br' := pow_step hcp hr b2
    have bl0 : 0 ≤ l * c := Int.mul_nonneg hl.1 (by omega)
    have br0 : 0 ≤ rr * c := Int.mul_nonneg hr.1 (by omega)
    have ew1 : w64 (w64 (l * c) + sd t 0) = l * c + sd t 0 := by rw [w64_of (n := l * c) (by omega) (by omega), w64_of (by omega) (by omega)]
    have ew2 : w64 (w64 (rr * c) + sd t 2) = rr * c + sd t 2 := by rw [w64_of (n := rr * c) (by omega) (by omega), w64_of (by omega) (by omega)]
    -- one tile more
    have call : ∀ (tp : Int), tp = (if m + 1 = H_ then sd t 1 else top) → ¬ (m + 1 < H_ ∧ sd t 1 ≠ last) → viaF (.func i_impl_newStrip_1 [.ptr (pt op), .ptr ⟨some ot, 2, 0⟩, .ptr (pt oh), .ptr (pt oe)]) [i64 tp, i64 (sd t 3), i64 (w64 (w64 (l * c) + sd t 0)), i64 (w64 (w64 (rr * c) + sd t 2)), i64 (w64 (((m + 1 : Nat) : Int) - 1))] fun g20 ys21 => callB SP g20 ys21 g4 fun b h' =>
        bif !b then (∃ b', AVal.bool false = .bool b' ∧ b' = decide ((cols ++ ts.flatMap pc).length ≤ 5000) ∧ (b' = true → ∃ q', Obj h' os (StripC c s H_ w q') ∧ Ow h' q' 3 (c3 (cols ++ ts.flatMap pc)) ∧ Fr n1 q') ∧ Chg (fun i => i = os ∨ n1 ≤ i) h h')
        else X (impl_newStrip_1_e0 tp last l rr ((m + 1 : Nat) : Int) ⟨some ot, 2, 0⟩ (pt oh) (pt oe) s (s.len : Int) (w64 ((k : Int) + 1))) h' := fun tp htp hno => by
      refine via_func ?_
      have hpt : pc t = colI c ts H_ m tp (sd t 3) (l * c + sd t 0) (rr * c + sd t 2) := by rw [← hpc]; simp only; rw [if_neg hno, htp]
      rw [ew1, ew2, w64_of (by omega) (by omega), show ((m + 1 : Nat) : Int) - 1 = (m : Int) by omega]
      refine (extRec r T hc hN hH hn hd hbs m tp (sd t 3) (l * c + sd t 0) (rr * c + sd t 2) (cols ++ (ts.take k).flatMap pc) q' g4 (by omega) (by rw [eH]; exact bl') (by rw [eH]; exact br') e4 o4 oq4 fq' (by omega) hlen (xg.trans y4)).to ?_
      rintro b g5 ⟨hb5, hq5, cg5⟩
      rw [← hpt] at hb5 hq5
      have CG : Chg (fun i => i = os ∨ n1 ≤ i) h g5 := (cg.trans (y4.chg _)).trans cg5
      refine bif_not (fun hf => ⟨false, rfl, ?_, (fun f => by cases f), CG⟩) (fun hf => ?_)
      · rw [hf] at hb5
        have := of_decide_eq_false hb5.symm
        symm
        refine decide_eq_false fun f => this ?_
        rw [hrest] at f
        simp only [List.length_append] at f ⊢
        omega
      · rw [hf] at hb5
        have hle := of_decide_eq_true hb5.symm
        rw [w64_of (by omega) (by omega)]
        refine hX _ _ _ ⟨k + 1, by push_cast; rfl, by omega, fun f => by rw [htp, if_neg f], ?_, ?_, CG⟩ (by omega)
        · rw [hflat, ← List.append_assoc]; exact hle
        · rw [hflat, ← List.append_assoc]; exact hq5 hf
    have skip : m + 1 < H_ ∧ sd t 1 ≠ last → X (impl_newStrip_1_e0 i0 last l rr ((m + 1 : Nat) : Int) ⟨some ot, 2, 0⟩ (pt oh) (pt oe) s (s.len : Int) (w64 ((k : Int) + 1))) g4 := fun hs => by
      have hpt : pc t = [] := by rw [← hpc]; simp only; rw [if_pos hs]
      rw [w64_of (by omega) (by omega)]
      refine hX _ _ _ ⟨k + 1, by push_cast; rfl, by omega, hi0, ?_, ⟨q', o4, ?_, fq'⟩, cg.trans (y4.chg _)⟩ (by omega)
      · rw [hflat, hpt, List.append_nil]; exact hlen
      · rw [hflat, hpt, List.append_nil]; exact oq4
    refine e4.vh.ldI ?_
    refine bif_dec (fun hmh => ?_) (fun hmh => ?_)
    · refine og4.sdI (by omega) (by omega) ?_
      refine bif_ne (fun hq => skip ⟨by omega, hq⟩) (fun hq => ?_)
      refine e4.vh.ldI ?_
      refine bif_eq (fun f => by omega) (fun hne => ?_)
      refine e4.ve.ldV ?_
      refine og4.sdI (by omega) (by omega) ?_
      refine isPt_in (e4.vt.ldI rfl rfl ?_)
      refine og4.sdI (by omega) (by omega) ?_
      refine isPt_in (e4.vt.ldI rfl rfl ?_)
      refine og4.sdI (by omega) (by omega) ?_
      exact call i0 (by rw [if_neg (by omega)]; exact hi0 (by omega)) (fun f => f.2 hq)
    · refine e4.vh.ldI ?_
      refine bif_eq (fun hee => ?_) (fun f => by omega)
      refine og4.sdI (by omega) (by omega) ?_
      refine e4.ve.ldV ?_
      refine og4.sdI (by omega) (by omega) ?_
      refine isPt_in (e4.vt.ldI rfl rfl ?_)
      refine og4.sdI (by omega) (by omega) ?_
      refine isPt_in (e4.vt.ldI rfl rfl ?_)
      refine og4.sdI (by omega) (by omega) ?_
      exact call (sd t 1) (by rw [if_pos (by omega)]) (fun f => by omega)
end
end Go.Proofs.Ytdmhchgaeepdmaa.Cl

/- Contracts of the program's strips and of CountColumns. No claim is stated here. -/
set_option linter.unusedVariables false
set_option linter.unusedSimpArgs false
namespace Go.Proofs.Ytdmhchgaeepdmaa.Cl
open Go
def colsI (c : Int) (ts : List Tile) (H_ : Nat) : List (Int × Int × Int) := colI c ts H_ H_ 0 0 0 0
theorem colsI_pr {c : Int} {ts : List Tile} (T : TS c ts) (H_ : Nat) : (colsI c ts H_).map pr = colP c ts H_ (-1) 0 0 := by
  unfold colsI
  rw [colI_pr T H_ H_ 0 0 0 0 (Nat.le_refl _) (fun f => by omega), if_pos rfl]
theorem colsI_len {c : Int} {ts : List Tile} (T : TS c ts) (H_ : Nat) : (colsI c ts H_).length = (colP c ts H_ (-1) 0 0).length := by rw [← colsI_pr T, List.length_map]
open Classical in
noncomputable def codeS (c : Int) (ts : List Tile) (h : Int) : Int := if codeOf (setOK c ts) (1 ≤ h ∧ h ≤ 4) = 0 then (if c ^ h.toNat > 700 ∨ 5000 < (colsOf c ts h).length then 3 else 0) else codeOf (setOK c ts) (1 ≤ h ∧ h ≤ 4)
theorem codeS_no {c : Int} {ts : List Tile} {h : Int} (q : codeOf (setOK c ts) (1 ≤ h ∧ h ≤ 4) ≠ 0) : codeS c ts h = codeOf (setOK c ts) (1 ≤ h ∧ h ≤ 4) := by unfold codeS; rw [if_neg q]
theorem codeS_3 {c : Int} {ts : List Tile} {h : Int} (q : codeOf (setOK c ts) (1 ≤ h ∧ h ≤ 4) = 0) (t : c ^ h.toNat > 700 ∨ 5000 < (colsOf c ts h).length) : codeS c ts h = 3 := by unfold codeS; rw [if_pos q, if_pos t]
theorem codeS_0 {c : Int} {ts : List Tile} {h : Int} (q : codeOf (setOK c ts) (1 ≤ h ∧ h ≤ 4) = 0) (t : ¬ (c ^ h.toNat > 700 ∨ 5000 < (colsOf c ts h).length)) : codeS c ts h = 0 := by unfold codeS; rw [if_pos q, if_neg t]
/-- What holds of a set and a height without an error. -/
structure StripOK (c : Int) (ts : List Tile) (h : Int) : Prop where
  set : setOK c ts
  hh : 1 ≤ h ∧ h ≤ 4
  pw : c ^ h.toNat ≤ 700
  ln : (colsOf c ts h).length ≤ 5000
theorem codeS_ok {c : Int} {ts : List Tile} {h : Int} (q : codeS c ts h = 0) : StripOK c ts h := by
  by_cases a : codeOf (setOK c ts) (1 ≤ h ∧ h ≤ 4) = 0
  · have b := codeOf_zero a
    by_cases d : c ^ h.toNat > 700 ∨ 5000 < (colsOf c ts h).length
    · rw [codeS_3 a d] at q; cases q
    · exact ⟨b.1, b.2, by omega, by omega⟩
  · rw [codeS_no a] at q; exact absurd q a
theorem StripOK.code {c : Int} {ts : List Tile} {h : Int} (k : StripOK c ts h) : codeS c ts h = 0 := codeS_0 (codeOf_yes k.set k.hh) fun f => by
  have := k.pw
  have := k.ln
  omega
/-- A strip in the heap. -/
structure Strip (h : H) (n : Nat) (c : Int) (s : Sl) (ts : List Tile) (H_ : Nat) (os : Nat) (q : Sl) : Prop where
  o : Obj h os (StripC c s H_ (c ^ H_) q)
  cols : Ow h q 3 (c3 (colsI c ts H_))
  fr : Fr n q
  os_ : n ≤ os
  ne : q.o ≠ some os
theorem Strip.ext {h h' : H} {n : Nat} {c : Int} {s : Sl} {ts : List Tile} {H_ os : Nat} {q : Sl} (k : Strip h n c s ts H_ os q) (x : Ext h h') : Strip h' n c s ts H_ os q := ⟨k.o.ext x, k.cols.ext x, k.fr, k.os_, k.ne⟩
theorem Strip.le {h : H} {n m : Nat} {c : Int} {s : Sl} {ts : List Tile} {H_ os : Nat} {q : Sl} (k : Strip h n c s ts H_ os q) (hm : m ≤ n) : Strip h m c s ts H_ os q := ⟨k.o, k.cols, k.fr.le hm, Nat.le_trans hm k.os_, k.ne⟩
theorem Strip.len {h : H} {n : Nat} {c : Int} {s : Sl} {ts : List Tile} {H_ os : Nat} {q : Sl} (k : Strip h n c s ts H_ os q) : q.len = (colsI c ts H_).length := by have := k.cols.len; rw [c3_len] at this; omega
section
variable {h0 : H} {c : Int} {s : Sl} {ts : List Tile} {H_ : Nat}
theorem newStrip_c (r : Rd h0 s 4 (tcs ts)) (T : TS c ts) (hc : c ≤ 6) (hN : ts.length ≤ 16) (hH : 1 ≤ H_ ∧ H_ ≤ 4) :
    callV SP i_impl_newStrip [.agg (SetC c s), i64 H_] h0 fun v h' => ∃ p b, v = .tuple [.ptr p, .bool b] ∧ (b = true ↔ c ^ H_ ≤ 700 ∧ (colsI c ts H_).length ≤ 5000) ∧ (b = true → ∃ os q, p = ⟨some os, 5, 0⟩ ∧ Strip h' h0.length c s ts H_ os q) ∧ Ext h0 h' := by
  apply impl_newStrip_call
  unfold impl_newStrip_main
  refine newK_obj fun h1 o1 x1 l1 => ?_
  refine newO_var fun h3 v3 x3 l3 => ?_
  refine (o1.ext x3).ldA rfl ?_
  refine v3.ldI ⟨rfl, ?_⟩
  refine newK_obj fun h7 o7 x7 l7 => ?_
  refine newO_var fun h9 v9 x9 l9 => ?_
  refine v9.st _ fun h10 v10 b10 l10 => ?_
  have o7' : Obj h7 h3.length (StripC c s H_ 1 Sl.nil) := o7
  clear o7
  have X7 : Ext h0 h7 := (x1.trans x3).trans x7
  have x10 : Ext h7 h10 := x9.but_ b10 (some_le (by omega))
  have X10 := X7.trans x10
  have v3' := v3.ext (x7.trans x10)
  have o1' := o1.ext (x3.trans (x7.trans x10))
  refine v3'.ldI ?_
  refine impl_newStrip_rule0 _ _ _ _ _ _ (fun i h => ∃ k : Nat, i = k ∧ k ≤ H_ ∧ Obj h h3.length (StripC c s H_ (c ^ k) Sl.nil) ∧ Chg (fun i => i = h3.length) h10 h) (fun i _ => (H_ - i).toNat) ?_ _ ⟨0, rfl, by omega, by rw [Int.pow_zero]; exact o7'.ext x10, Chg.refl _ _⟩
  rintro X _ h ⟨k, rfl, hk, o, cg⟩ hX
  unfold impl_newStrip_b0 impl_newStrip_C0
  have hcp := T.1
  have vp := v10.chg cg (by omega)
  have vh := v3'.chg cg (by omega)
  have ot := o1'.chg cg (by omega)
  have xh : Ext h0 h := X10.chg_ cg fun i e => by omega
  have hl := cg.1
  refine bif_dec (fun hi => ?_) (fun hi => ?_)
  · refine vp.ldP ⟨rfl, isPt_in (o.ldI (i := 3) rfl rfl ?_)⟩
    refine isPt_in (ot.ldI rfl rfl ⟨rfl, isPt_in ?_⟩)
    refine o.st1 (n := 5) (i := 3) rfl (by omega) _ fun h' o' b' l' => ?_
    have hp := pow_small4 (n := k) hcp hc (by omega)
    have hp2 := pow_small4 (n := k + 1) hcp hc (by omega)
    rw [w64_of (n := (k : Int) + 1) (by omega) (by omega)]
    refine hX _ _ ⟨k + 1, by push_cast; rfl, by omega, ?_, cg.trans (b'.chg fun i e => (Option.some.inj e).symm)⟩ (by omega)
    have e : w64 (c ^ k * c) = c ^ (k + 1) := by
      have e2 : c ^ k * c = c ^ (k + 1) := (Int.pow_succ c k).symm
      rw [e2]
      exact w64_of (by omega) (by omega)
    rw [e] at o'
    exact o'
  have hkH : k = H_ := by omega
  subst hkH
  refine vp.ldP ⟨rfl, isPt_in (o.ldI (i := 3) rfl rfl ?_)⟩
  refine bif_dec (fun hg => ⟨_, _, rfl, ⟨fun f => by (cases f), fun f => by omega⟩, (fun f => by cases f), xh⟩) (fun hg => ?_)
  refine newO_var fun g3 ve xe le => ?_
  refine ve.st _ fun g4 ve4 be l4 => ?_
  have y4 : Ext h g4 := xe.but_ be (some_le (Nat.le_refl _))
  have vp4 := vp.ext y4
  refine vp4.ldP ?_
  refine ve4.ldV ?_
  refine (vh.ext y4).ldI ?_
  refine via_func ?_
  have y4l := y4.len
  refine (extRec (w := c ^ k) (n1 := g4.length) r T hc hN hH (op := h7.length) (ot := h0.length) (oh := h1.length) (oe := h.length) (os := h3.length) ⟨by omega, by omega, by omega, by omega, by omega⟩ ⟨by omega, by omega, by omega, by omega⟩ (by omega) k 0 0 0 0 [] Sl.nil g4 (Nat.le_refl _) (by rw [Nat.sub_self, Int.pow_zero]; decide) (by rw [Nat.sub_self, Int.pow_zero]; decide) ⟨vp4, ot.ext y4, vh.ext y4, ve4⟩ (o.ext y4) (Ow.nil _ _) (Fr.nil _) (Nat.le_refl _) (by simp) (xh.trans y4)).to ?_
  rintro b h10' ⟨hb, hq, cg'⟩
  rw [List.nil_append] at hb hq
  refine ⟨?_, ?_⟩
  · rw [(vp4.chg cg' (by omega)).cell, vp4.cell]
  · refine ⟨_, _, rfl, ?_, fun hbt => ?_, (xh.trans y4).chg_ cg' fun i e => by omega⟩
    · rw [hb, decide_eq_true_eq]
      exact ⟨fun f => ⟨by omega, f⟩, fun f => f.2⟩
    · obtain ⟨q', oq, wq, fq⟩ := hq hbt
      exact ⟨_, q', rfl, oq, wq, fq.le (by omega), by omega, fun e => by have := fq _ e; omega⟩
theorem stripOf_c (r : Rd h0 s 4 (tcs ts)) (sz : ts.length ≤ 1048576) {n : Int} :
    callV SP i_impl_stripOf [.agg (SetC c s), i64 n] h0 fun v h' => ∃ p, v = .tuple [.ptr p, i64 (codeS c ts n)] ∧ (codeS c ts n = 0 → ∃ os q, p = ⟨some os, 5, 0⟩ ∧ Strip h' h0.length c s ts n.toNat os q) ∧ Ext h0 h' := by
  apply impl_stripOf_call
  unfold impl_stripOf_main
  refine newK_obj fun h1 o1 x1 l1 => ?_
  refine newO_var fun h3 v3 x3 l3 => ?_
  have X3 := x1.trans x3
  have o3 := o1.ext x3
  refine o3.ldA rfl ?_
  refine (setCode_c (r.ext X3) (by omega) _ _ (1 ≤ n ∧ n ≤ 4) fun _ h x => ?_).to ?_
  · apply impl_stripOf_1_call
    unfold impl_stripOf_1_main
    refine (v3.ext x).ldI ?_
    refine within_k ?_
    exact ⟨_, rfl, by simp, Ext.refl _⟩
  rintro _ h5 ⟨rfl, x5⟩
  have X5 := X3.trans x5
  refine bif_ne (fun hq => ⟨_, by rw [codeS_no hq], (fun f => by rw [codeS_no hq] at f; exact absurd f hq), X5⟩) (fun hq => ?_)
  have hs := codeOf_zero hq
  have T := hs.1.ts
  obtain ⟨H_, rfl⟩ : ∃ H_ : Nat, n = H_ := ⟨n.toNat, by omega⟩
  refine (o3.ext x5).ldA rfl ?_
  refine (v3.ext x5).ldI ?_
  refine (newStrip_c (H_ := H_) (r.ext X5) T hs.1.1.2 hs.1.2.1 (by omega)).to ?_
  rintro _ h9 ⟨p, b, rfl, hb, hp, x9⟩
  refine ⟨_, rfl, _, rfl, _, rfl, _, rfl, ?_⟩
  have hlen := colsI_len T H_
  have hof : colsOf c ts (H_ : Int) = colP c ts H_ (-1) 0 0 := by unfold colsOf; rw [Int.toNat_natCast]
  refine bif_not (fun hf => ?_) (fun hf => ?_)
  · have h3 : codeS c ts (H_ : Int) = 3 := codeS_3 hq (by
      rw [Int.toNat_natCast, hof, ← hlen]
      refine Classical.byContradiction fun f => ?_
      have : b = true := hb.2 (by omega)
      rw [hf] at this; cases this)
    exact ⟨_, by rw [h3], (fun f => by rw [h3] at f; cases f), X5.trans x9⟩
  · have hh := hb.1 hf
    have h0' : codeS c ts (H_ : Int) = 0 := codeS_0 hq (by rw [Int.toNat_natCast, hof, ← hlen]; omega)
    refine ⟨_, by rw [h0'], fun _ => ?_, X5.trans x9⟩
    obtain ⟨os, q, e, k⟩ := hp hf
    exact ⟨os, q, e, by rw [Int.toNat_natCast]; exact k.le X5.len⟩
noncomputable def F_CountColumns_0 (c : Int) (ts : List Tile) (n : Int) : Int := open Classical in if codeS c ts n = 0 then ((colsOf c ts n).length : Int) else 0
theorem impl_CountColumns_c (r : Rd h0 s 4 (tcs ts)) (sz : ts.length ≤ 1048576) {n : Int} (bn : i64ok n) :
    callV SP i_impl_CountColumns [.agg (SetC c s), i64 n] h0 fun v h' => v = .tuple [i64 (F_CountColumns_0 c ts n), i64 (codeS c ts n)] ∧ Ext h0 h' := by
  apply impl_CountColumns_call
  unfold impl_CountColumns_main
  refine newK_obj fun h1 o1 x1 l1 => ?_
  refine o1.ldA rfl ?_
  refine (stripOf_c (n := n) (r.ext x1) sz).to ?_
  rintro _ h3 ⟨p, rfl, hp, x3⟩
  refine ⟨_, rfl, _, rfl, _, rfl, _, rfl, ?_⟩
  refine bif_ne (fun hq => ⟨by rw [F_CountColumns_0, if_neg hq], x1.trans x3⟩) (fun hq => ?_)
  obtain ⟨os, q, rfl, k⟩ := hp hq
  have ok := codeS_ok hq
  refine ⟨rfl, isPt_in (k.o.ldS (i := 4) rfl rfl ⟨?_, x1.trans x3⟩)⟩
  rw [k.len, F_CountColumns_0, if_pos hq, hq, colsI_len ok.set.ts]
  rfl
end
end Go.Proofs.Ytdmhchgaeepdmaa.Cl

/- Contracts of the reference's columns. No claim is stated here. -/
set_option linter.unusedVariables false
set_option linter.unusedSimpArgs false
namespace Go.Proofs.Ytdmhchgaeepdmaa.Cl
open Go
def col3 (l : List (Int × Int × Int)) : List (List Int) := l.map fun x => [x.1, x.2.1, x.2.2]
theorem col3_len (l) : (col3 l).length = l.length := by simp [col3]
theorem col3_app (l m) : col3 (l ++ m) = col3 l ++ col3 m := by simp [col3]
theorem col3_row {l : List (Int × Int × Int)} {i : Nat} (h : i < l.length) : rw_ (col3 l) i = [l[i].1, l[i].2.1, l[i].2.2] := by
  unfold rw_ col3
  rw [List.getD_eq_getElem?_getD, List.getElem?_map, List.getElem?_eq_getElem h]; rfl
theorem NewSS.one {n : Nat} {h h' : H} {v u : Sl} {l : List Int} (ov : Ow h v 1 (ic l)) (fv : Fr n v) (x : Ext h h') (ou : Ow h' u 1 [.sl v]) (fu : ∀ o, u.o = some o → h.length ≤ o) (hn : n ≤ h.length) : NewSS n h' u [l] := by
  refine ⟨[v], rfl, ou, (fun o e => Nat.le_trans hn (fu o e)), fun i w l' a b => ?_, fun i j w w' hne a b => ?_, fun i w a o e e2 => ?_⟩
  · have hi : i = 0 := by have := (List.getElem?_eq_some_iff.1 a).1; simpa using this
    subst hi
    simp at a b
    subst a b
    exact ⟨ov.ext x, fv⟩
  · have hi : i = 0 := by have := (List.getElem?_eq_some_iff.1 a).1; simpa using this
    have hj : j = 0 := by have := (List.getElem?_eq_some_iff.1 b).1; simpa using this
    omega
  · have hi : i = 0 := by have := (List.getElem?_eq_some_iff.1 a).1; simpa using this
    subst hi
    simp at a
    subst a
    have := ov.lt e
    have := fu o e2
    omega
theorem fm_piece {α β : Type} (l : List α) (f : α → List β) {i : Nat} (hi : i < l.length) : l.flatMap f = (l.take i).flatMap f ++ (f l[i] ++ (l.drop (i + 1)).flatMap f) := by
  have e : l = l.take i ++ (l[i] :: l.drop (i + 1)) := by rw [← List.drop_eq_getElem_cons hi, List.take_append_drop]
  conv => lhs; rw [e]
  rw [List.flatMap_append, List.flatMap_cons]
theorem fm_take {α β : Type} (l : List α) (f : α → List β) {i : Nat} (hi : i < l.length) : (l.take (i + 1)).flatMap f = (l.take i).flatMap f ++ f l[i] := by
  rw [List.take_succ_eq_append_getElem hi, List.flatMap_append]; simp
abbrev lay0 : List (Int × Int × Int) := [(0, 0, -1)]
theorem lay_bound {c : Int} {ts : List Tile} (T : TS c ts) (k : Nat) : ∀ x ∈ layN c ts k lay0, (0 ≤ x.1 ∧ x.1 < c ^ k) ∧ 0 ≤ x.2.1 ∧ x.2.1 < c ^ k := fun x hx => by
  have : pr x ∈ colP c ts k (-1) 0 0 := by rw [← lay_pr]; exact List.mem_map.2 ⟨x, hx, rfl⟩
  have := colP_bound T k (-1) 0 0 1 (by omega) (by omega) _ this
  rw [Int.one_mul] at this
  exact this
section
variable {h0 : H} {c : Int} {s : Sl} {ts : List Tile} {H_ : Nat}
theorem l06Size_c (hc : 1 ≤ c) (hc6 : c ≤ 6) (hH : H_ ≤ 4) : callI SP .i64 i_spec_l06Size [.agg (SetC c s), i64 H_] h0 fun n h' => n = c ^ H_ ∧ Ext h0 h' := by
  apply spec_l06Size_call
  unfold spec_l06Size_main
  refine newK_obj fun h1 o1 x1 l1 => ?_
  refine spec_l06Size_rule0 _ _ _ _ (fun a i h => ∃ k : Nat, i = k ∧ k ≤ H_ ∧ a = c ^ k ∧ h1 = h) (fun _ i _ => (H_ - i).toNat) ?_ _ _ ⟨0, rfl, by omega, by simp, rfl⟩
  rintro X _ _ _ ⟨k, rfl, hk, rfl, rfl⟩ hX
  unfold spec_l06Size_b0 spec_l06Size_C0
  refine bif_dec (fun hi => ?_) (fun hi => ⟨_, rfl, by rw [show k = H_ by omega], x1⟩)
  refine isPt_in (o1.ldI rfl rfl ?_)
  have hp2 := pow_small4 (n := k + 1) hc hc6 (by omega)
  have e2 : c ^ k * c = c ^ (k + 1) := (Int.pow_succ c k).symm
  rw [w64_of (n := (k : Int) + 1) (by omega) (by omega)]
  refine hX _ _ _ ⟨k + 1, by push_cast; rfl, by omega, by rw [e2]; exact w64_of (by omega) (by omega), rfl⟩ (by omega)
theorem l06Columns_c (r : Rd h0 s 4 (tcs ts)) (T : TS c ts) (hc : c ≤ 6) (hN : ts.length ≤ 16) (hH : 1 ≤ H_ ∧ H_ ≤ 4) :
    callV SP i_spec_l06Columns [.agg (SetC c s), i64 H_] h0 fun v h' => ∃ u b, v = .tuple [.sl u, .bool b] ∧ (b = true ↔ (layN c ts H_ lay0).length ≤ 5000) ∧ (b = true → RdSS h' u (col3 (layN c ts H_ lay0))) ∧ Ext h0 h' := by
  have htl := r.tlen
  apply spec_l06Columns_call
  unfold spec_l06Columns_main
  refine newK_obj fun h1 o1 x1 l1 => ?_
  refine newS_ow (by rfl) fun v h3 ov lv vo e3 => ?_
  have x3 : Ext h1 h3 := by rw [e3]; exact Ext.app _ _
  have l3 : h3.length = h1.length + 1 := by rw [e3]; simp
  refine newS_ow (by rfl) fun u h5 ou lu uo e5 => ?_
  have x5 : Ext h3 h5 := by rw [e5]; exact Ext.app _ _
  have rd0 : RdSS h5 u (col3 lay0) := (NewSS.one (n := 0) (l := [0, 0, -1]) ov (fun o _ => Nat.zero_le _) x5 ou (fun o e => by rw [uo] at e; cases e; exact Nat.le_refl _) (Nat.zero_le _)).rd
  refine spec_l06Columns_rule0 _ _ _ _ (fun u i h => ∃ k : Nat, i = k ∧ k ≤ H_ ∧ RdSS h u (col3 (layN c ts k lay0)) ∧ (k = H_ → (layN c ts k lay0).length ≤ 5000) ∧ Ext h1 h) (fun _ i _ => (H_ - i).toNat) ?_ _ _ ⟨0, rfl, by omega, rd0, (fun _ => by simp [layN]), x3.trans x5⟩
  rintro X u _ h ⟨k, rfl, hk, rd, hkl, x⟩ hX
  unfold spec_l06Columns_b0 spec_l06Columns_C0
  refine bif_dec (fun hi => ?_) (fun hi => ?_)
  rotate_left
  · have : k = H_ := by omega
    subst this
    exact ⟨_, _, rfl, ⟨fun _ => hkl rfl, fun _ => rfl⟩, fun _ => rd, x1.trans x⟩
  have hul := rd.len
  rw [col3_len] at hul
  have hB := lay_bound T k
  have hpk := pow_small4 (n := k) T.1 hc (by omega)
  have hlk : (layN c ts k lay0).length ≤ 4096 := by
    rw [lay_len]
    refine Nat.le_trans (colP_len _ _ _ _) (Nat.le_trans (Nat.pow_le_pow_left hN _) (Nat.le_trans (Nat.pow_le_pow_right (by omega) (show k ≤ 3 by omega)) (by decide)))
  have hlk1 : k + 1 ≠ H_ → (layN c ts (k + 1) lay0).length ≤ 4096 := fun f => by
    rw [lay_len]
    refine Nat.le_trans (colP_len _ _ _ _) (Nat.le_trans (Nat.pow_le_pow_left hN _) (Nat.le_trans (Nat.pow_le_pow_right (by omega) (show k + 1 ≤ 3 by omega)) (by decide)))
  have hsucc : layN c ts (k + 1) lay0 = (layN c ts k lay0).flatMap (layS c ts) := layN_succ k lay0
  generalize hnow : layN c ts k lay0 = now at *
  have fail : 5000 < (layN c ts (k + 1) lay0).length → ∀ {h' : H}, Ext h0 h' → ∃ u b, AVal.tuple [.sl Sl.nil, .bool false] = .tuple [.sl u, .bool b] ∧ (b = true ↔ (layN c ts H_ lay0).length ≤ 5000) ∧ (b = true → RdSS h' u (col3 (layN c ts H_ lay0))) ∧ Ext h0 h' := fun f {h'} e => by
    have hkH : k + 1 = H_ := by
      refine Classical.byContradiction fun g => ?_
      have := hlk1 g
      omega
    refine ⟨_, _, rfl, ⟨(fun f => by cases f), fun g => ?_⟩, (fun f => by cases f), e⟩
    rw [hkH] at f
    omega
  refine newS_ow (by rfl) fun z h6 oz lz zo e6 => ?_
  have x6 : Ext h h6 := by rw [e6]; exact Ext.app _ _
  refine spec_l06Columns_rule2 _ _ X _ _ _ _ (fun z i g => ∃ p : Nat, i = p ∧ p ≤ now.length ∧ NewSS h.length g z (col3 ((now.take p).flatMap (layS c ts))) ∧ ((now.take p).flatMap (layS c ts)).length ≤ 5000 ∧ Ext h g) (fun _ i _ => (now.length - i).toNat) ?_ _ _ ⟨0, rfl, by omega, NewSS.mk0 oz (fun o e => by rw [zo] at e; cases e; exact Nat.le_refl _), by simp, x6⟩
  rintro Y z _ g ⟨p, rfl, hp, nz, hpl, xg⟩ hY
  unfold spec_l06Columns_b2 spec_l06Columns_C2 spec_l06Columns_C1
  refine bif_dec (fun hpi => ?_) (fun hpi => ?_)
  rotate_left
  · rw [show p = now.length by omega, List.take_length] at nz hpl
    rw [← hsucc] at nz hpl
    rw [w64_of (by omega) (by omega)]
    exact hX _ _ _ ⟨k + 1, by push_cast; rfl, by omega, nz.rd, fun _ => hpl, x.trans xg⟩ (by omega)
  have hp' : p < now.length := by omega
  have hx := hB now[p] (List.getElem_mem hp')
  obtain ⟨a, b, d, hxe⟩ : ∃ a b d, now[p] = (a, b, d) := ⟨_, _, _, rfl⟩
  rw [hxe] at hx
  simp only at hx
  have hpiece := fm_piece now (layS c ts) hp'
  have htake := fm_take now (layS c ts) hp'
  rw [hxe] at hpiece htake
  have hlayS : layS c ts (a, b, d) = ts.flatMap fun t => if 0 ≤ d ∧ d ≠ sd t 1 then [] else [(a * c + sd t 0, b * c + sd t 2, sd t 3)] := rfl
  generalize hgs : (fun t : Tile => if 0 ≤ d ∧ d ≠ sd t 1 then [] else [(a * c + sd t 0, b * c + sd t 2, sd t 3)]) = gs at *
  have hgv : ∀ t, gs t = if 0 ≤ d ∧ d ≠ sd t 1 then [] else [(a * c + sd t 0, b * c + sd t 2, sd t 3)] := fun t => by rw [← hgs]
  rw [hlayS] at hpiece htake
  refine spec_l06Columns_rule4 _ _ X Y _ _ _ _ _ (fun z i g' => ∃ j : Nat, i = j ∧ j ≤ ts.length ∧ NewSS h.length g' z (col3 ((now.take p).flatMap (layS c ts) ++ (ts.take j).flatMap gs)) ∧ ((now.take p).flatMap (layS c ts) ++ (ts.take j).flatMap gs).length ≤ 5000 ∧ Ext h g') (fun _ i _ => (ts.length - i).toNat) ?_ _ _ ⟨0, rfl, by omega, by simpa using nz, by simpa using hpl, xg⟩
  rintro Z z _ g' ⟨j, rfl, hj, nz, hpl, xg'⟩ hZ
  unfold spec_l06Columns_b4 spec_l06Columns_C4 spec_l06Columns_C3
  have o := o1.ext (x.trans xg')
  refine isPt_in (o.ldS rfl rfl ?_)
  refine bif_dec (fun hji => ?_) (fun hji => ?_)
  rotate_left
  · rw [show j = ts.length by omega, List.take_length, ← htake] at nz hpl
    rw [w64_of (by omega) (by omega)]
    exact hY _ _ _ ⟨p + 1, by push_cast; rfl, by omega, nz, hpl, xg'⟩ (by omega)
  have hj' : j < ts.length := by omega
  have E : Ext h0 g' := (x1.trans x).trans xg'
  refine isPt_in (o.ldS rfl rfl ?_)
  refine (r.ext E).ldT (by omega) (by omega) fun t ht => ?_
  rw [Int.toNat_natCast] at ht
  have htm : t ∈ ts := List.mem_of_getElem? ht
  have htk : ts[j] = t := (List.getElem?_eq_some_iff.1 ht).2
  have hpiece2 := fm_piece ts gs hj'
  have htake2 := fm_take ts gs hj'
  rw [htk] at hpiece2 htake2
  have b0 := T.2 t htm 0 (by omega)
  have b2 := T.2 t htm 2 (by omega)
  refine newO_obj fun g3 og3 y3 m3 => ?_
  refine og3.stA fun g4 og4 bb4 m4 => ?_
  have y4 : Ext g' g4 := y3.but_ bb4 (some_le (Nat.le_refl _))
  have o4 := o.ext y4
  have rd4 := rd.ext (xg'.trans y4)
  have rd3 : ∀ {q : Nat} {K : Int → Prop}, q < 3 → K ([a, b, d].getD q 0) → ixS u 1 (p : Int) fun p => Cl.ldS p g4 fun v => ixS v 1 (q : Int) fun p => Cl.ldI .i64 p g4 K := fun {q K} hq hk => by
    refine rd4.ldG (by omega) (by rw [col3_len]; omega) fun v rv lv => ?_
    rw [Int.toNat_natCast, col3_row hp', hxe] at rv
    exact rv.ldG (by omega) (by simp; omega) (by rw [Int.toNat_natCast]; exact hk)
  have nz4 := nz.ext y4
  have hzl := nz.rd.len
  rw [col3_len] at hzl
  have skip : 0 ≤ d ∧ d ≠ sd t 1 → Z (spec_l06Columns_e4 (H_ : Int) ⟨some h0.length, 2, 0⟩ u (k : Int) z (p : Int) (w64 ((j : Int) + 1))) g4 := fun hs => by
    have hg : gs t = [] := by rw [hgv, if_pos hs]
    rw [hg, List.append_nil] at htake2
    rw [w64_of (by omega) (by omega)]
    refine hZ _ _ _ ⟨j + 1, by push_cast; rfl, by omega, ?_, ?_, xg'.trans y4⟩ (by omega)
    · rw [htake2]; exact nz4
    · rw [htake2]; exact hpl
  have a0 : 0 ≤ a * c := Int.mul_nonneg hx.1.1 (by have := T.1; omega)
  have a1 : (a + 1) * c ≤ 1296 * 6 := Int.mul_le_mul (by omega) hc (by have := T.1; omega) (by decide)
  have c0 : 0 ≤ b * c := Int.mul_nonneg hx.2.1 (by have := T.1; omega)
  have c1 : (b + 1) * c ≤ 1296 * 6 := Int.mul_le_mul (by omega) hc (by have := T.1; omega) (by decide)
  rw [Int.add_mul, Int.one_mul] at a1 c1
  have hc1 := T.1
  have ew1 : w64 (w64 (a * c) + sd t 0) = a * c + sd t 0 := by rw [w64_of (n := a * c) (by omega) (by omega), w64_of (by omega) (by omega)]
  have ew2 : w64 (w64 (b * c) + sd t 2) = b * c + sd t 2 := by rw [w64_of (n := b * c) (by omega) (by omega), w64_of (by omega) (by omega)]
  have take : ¬ (0 ≤ d ∧ d ≠ sd t 1) → bif ((z.len : Int) == 5000) then (∃ u b, AVal.tuple [.sl Sl.nil, .bool false] = .tuple [.sl u, .bool b] ∧ (b = true ↔ (layN c ts H_ lay0).length ≤ 5000) ∧ (b = true → RdSS g4 u (col3 (layN c ts H_ lay0))) ∧ Ext h0 g4) else
      ixS u 1 (p : Int) fun p17 => Cl.ldS p17 g4 fun s18 => ixS s18 1 0 fun p19 => Cl.ldI .i64 p19 g4 fun n20 => isPt ⟨some h0.length, 2, 0⟩ (Cl.ldI .i64 (Pt.add ⟨some h0.length, 2, 0⟩ 0) g4 fun n21 => ixA ⟨some g'.length, 4, 0⟩ 4 1 0 fun p22 => Cl.ldI .i64 p22 g4 fun n23 =>
      ixS u 1 (p : Int) fun p24 => Cl.ldS p24 g4 fun s25 => ixS s25 1 1 fun p26 => Cl.ldI .i64 p26 g4 fun n27 => isPt ⟨some h0.length, 2, 0⟩ (Cl.ldI .i64 (Pt.add ⟨some h0.length, 2, 0⟩ 0) g4 fun n28 => ixA ⟨some g'.length, 4, 0⟩ 4 1 2 fun p29 => Cl.ldI .i64 p29 g4 fun n30 => ixA ⟨some g'.length, 4, 0⟩ 4 1 3 fun p31 => Cl.ldI .i64 p31 g4 fun n32 =>
      newS 3 1 [i64 (w64 (w64 (n20 * n21) + n23)), i64 (w64 (w64 (n27 * n28) + n30)), i64 n32] g4 fun s33 h34 => newS 1 1 [.sl s33] h34 fun s35 h36 => Cl.app z s35 1 h36 fun s37 h38 => Z (spec_l06Columns_e4 (H_ : Int) ⟨some h0.length, 2, 0⟩ u (k : Int) s37 (p : Int) (w64 ((j : Int) + 1))) h38)) := fun hno => by
    have hg : gs t = [(a * c + sd t 0, b * c + sd t 2, sd t 3)] := by rw [hgv, if_neg hno]
    refine bif_eq (fun hfull => fail ?_ (E.trans y4)) (fun hfull => ?_)
    · rw [hsucc, hpiece, hpiece2, hg]
      rw [hzl] at hfull
      simp only [List.length_append, List.length_cons, List.length_nil] at hfull ⊢
      omega
    refine rd3 (q := 0) (by omega) (isPt_in (o4.ldI rfl rfl ?_))
    refine og4.sdI (by omega) (by omega) ?_
    refine rd3 (q := 1) (by omega) (isPt_in (o4.ldI rfl rfl ?_))
    refine og4.sdI (by omega) (by omega) ?_
    refine og4.sdI (by omega) (by omega) ?_
    show newS 3 1 [i64 (w64 (w64 (a * c) + sd t 0)), i64 (w64 (w64 (b * c) + sd t 2)), i64 (sd t 3)] g4 _
    rw [ew1, ew2]
    refine newS_ow (by rfl) fun v g6 ov lv vo e6 => ?_
    have y6 : Ext g4 g6 := by rw [e6]; exact Ext.app _ _
    have gl := xg.len
    have gl' := xg'.len
    have gl4 := y4.len
    refine (nz4.ext y6).push (l := [a * c + sd t 0, b * c + sd t 2, sd t 3]) ov (m := g4.length) (fun o e => by rw [vo] at e; cases e; exact Nat.le_refl _) (by omega) ⟨g4, nz4, Nat.le_refl _, y6⟩ (by rw [col3_len]; unfold lim; omega) (by have := y6.len; omega) fun z' g8 nz' bz => ?_
    rw [w64_of (by omega) (by omega)]
    refine hZ _ _ _ ⟨j + 1, by push_cast; rfl, by omega, ?_, ?_, (xg'.trans (y4.trans y6)).but_ bz fun o e => nz.fr o e⟩ (by omega)
    · rw [htake2, hg, ← List.append_assoc, col3_app]; exact nz'
    · rw [htake2, hg, ← List.append_assoc, List.length_append, List.length_singleton]; rw [hzl] at hfull; omega
  refine rd3 (q := 2) (by omega) ?_
  refine bif_dec (fun hd0 => ?_) (fun hd0 => ?_)
  · refine rd3 (q := 2) (by omega) ?_
    refine og4.sdI (by omega) (by omega) ?_
    refine bif_ne (fun hq => skip ⟨hd0, hq⟩) (fun hq => take fun f => f.2 hq)
  · exact take fun f => hd0 f.1
end
end Go.Proofs.Ytdmhchgaeepdmaa.Cl

/- Contracts of the reference's code of columns and of CountColumns. No claim is stated here. -/
set_option linter.unusedVariables false
set_option linter.unusedSimpArgs false
namespace Go.Proofs.Ytdmhchgaeepdmaa.Cl
open Go
section
variable {h0 : H} {c : Int} {s : Sl} {ts : List Tile} {H_ : Nat}
theorem l06Code_c (r : Rd h0 s 4 (tcs ts)) (sz : ts.length ≤ 1048576) {n : Int} :
    callV SP i_spec_l06Code [.agg (SetC c s), i64 n] h0 fun v h' => ∃ u, v = .tuple [.sl u, i64 (codeS c ts n)] ∧ (codeS c ts n = 0 → RdSS h' u (col3 (layN c ts n.toNat lay0))) ∧ (codeS c ts n ≠ 0 → u = Sl.nil) ∧ Ext h0 h' := by
  apply spec_l06Code_call
  unfold spec_l06Code_main
  refine newK_obj fun h1 o1 x1 l1 => ?_
  refine o1.ldA rfl ?_
  refine (l01Is_c (r.ext x1)).to ?_
  rintro e h3 ⟨he, x3⟩
  have X3 := x1.trans x3
  have fin : ∀ {h' : H}, codeS c ts n ≠ 0 → Ext h0 h' → ∀ k : Int, k = codeS c ts n → ∃ u, AVal.tuple [.sl Sl.nil, i64 k] = .tuple [.sl u, i64 (codeS c ts n)] ∧ (codeS c ts n = 0 → RdSS h' u (col3 (layN c ts n.toNat lay0))) ∧ (codeS c ts n ≠ 0 → u = Sl.nil) ∧ Ext h0 h' := fun hq x k hk => ⟨_, by rw [hk], fun f => absurd f hq, fun _ => rfl, x⟩
  refine bif_not (fun hq => ?_) (fun hq => ?_)
  · have h1 : codeOf (setOK c ts) (1 ≤ n ∧ n ≤ 4) = 1 := codeOf_no fun hs => by rw [he.2 hs] at hq; cases hq
    have h2 : codeS c ts n = 1 := by rw [codeS_no (by rw [h1]; decide), h1]
    exact fin (by rw [h2]; decide) X3 1 h2.symm
  have hs := he.1 hq
  have T := hs.ts
  refine l01In_k ?_
  refine bif_not (fun hr => ?_) (fun hr => ?_)
  · have hr' : ¬ (1 ≤ n ∧ n ≤ 4) := of_decide_eq_false hr
    have h1 : codeOf (setOK c ts) (1 ≤ n ∧ n ≤ 4) = 2 := codeOf_range hs hr'
    have h2 : codeS c ts n = 2 := by rw [codeS_no (by rw [h1]; decide), h1]
    exact fin (by rw [h2]; decide) X3 2 h2.symm
  have hr' : 1 ≤ n ∧ n ≤ 4 := of_decide_eq_true hr
  have h00 : codeOf (setOK c ts) (1 ≤ n ∧ n ≤ 4) = 0 := codeOf_yes hs hr'
  obtain ⟨H_, rfl⟩ : ∃ H_ : Nat, n = H_ := ⟨n.toNat, by omega⟩
  have hof : colsOf c ts (H_ : Int) = colP c ts H_ (-1) 0 0 := by unfold colsOf; rw [Int.toNat_natCast]
  refine (o1.ext x3).ldA rfl ?_
  refine (l06Size_c (s := s) T.1 hs.1.2 (H_ := H_) (by omega)).to ?_
  rintro _ h8 ⟨rfl, x8⟩
  refine bif_dec (fun hg => ?_) (fun hg => ?_)
  · have h2 : codeS c ts (H_ : Int) = 3 := codeS_3 h00 (.inl (by rw [Int.toNat_natCast]; exact hg))
    exact fin (by rw [h2]; decide) (X3.trans x8) 3 h2.symm
  refine (o1.ext (x3.trans x8)).ldA rfl ?_
  refine (l06Columns_c (H_ := H_) (r.ext (X3.trans x8)) T hs.1.2 hs.2.1 (by omega)).to ?_
  rintro _ h11 ⟨u, b, rfl, hb, hu, x11⟩
  refine ⟨_, rfl, _, rfl, _, rfl, _, rfl, ?_⟩
  have hlen : (layN c ts H_ lay0).length = (colsOf c ts (H_ : Int)).length := by rw [hof]; exact lay_len H_
  refine bif_not (fun hf => ?_) (fun hf => ?_)
  · have h2 : codeS c ts (H_ : Int) = 3 := codeS_3 h00 (.inr (by
      rw [← hlen]
      refine Classical.byContradiction fun f => ?_
      have : b = true := hb.2 (by omega)
      rw [hf] at this; cases this))
    exact fin (by rw [h2]; decide) ((X3.trans x8).trans x11) 3 h2.symm
  · have h2 : codeS c ts (H_ : Int) = 0 := codeS_0 h00 (by
      rw [Int.toNat_natCast, ← hlen]
      have := hb.1 hf
      omega)
    exact ⟨u, by rw [h2], fun _ => by rw [Int.toNat_natCast]; exact hu hf, fun f => absurd h2 f, (X3.trans x8).trans x11⟩
theorem spec_CountColumns_c (r : Rd h0 s 4 (tcs ts)) (sz : ts.length ≤ 1048576) {n : Int} (bn : i64ok n) :
    callV SP i_spec_CountColumns [.agg (SetC c s), i64 n] h0 fun v h' => v = .tuple [i64 (F_CountColumns_0 c ts n), i64 (codeS c ts n)] ∧ Ext h0 h' := by
  apply spec_CountColumns_call
  unfold spec_CountColumns_main
  refine newK_obj fun h1 o1 x1 l1 => ?_
  refine o1.ldA rfl ?_
  refine (l06Code_c (n := n) (r.ext x1) sz).to ?_
  rintro _ h3 ⟨u, rfl, hu, _, x3⟩
  refine ⟨_, rfl, _, rfl, _, rfl, _, rfl, ?_⟩
  refine bif_ne (fun hq => ⟨by rw [F_CountColumns_0, if_neg hq], x1.trans x3⟩) (fun hq => ?_)
  refine ⟨?_, x1.trans x3⟩
  rw [(hu hq).len, col3_len, F_CountColumns_0, if_pos hq, hq, lay_len]
  rfl
end
end Go.Proofs.Ytdmhchgaeepdmaa.Cl

/- Strip sequences: numbers of ways, column by column, on both sides. No claim is stated here. -/
set_option linter.unusedVariables false
set_option linter.unusedSimpArgs false
namespace Go.Proofs.Ytdmhchgaeepdmaa.Cl
open Go
/-! ### the numbers -/
def stp (f : Int → Int) (now nx : List Int) (e : Int × Int) : List Int := nx.set e.2.toNat (f (nx.getD e.2.toNat 0 + now.getD e.1.toNat 0))
def stepL (f : Int → Int) (es : List (Int × Int)) (N : Nat) (now : List Int) : List Int := es.foldl (stp f now) (List.replicate N 0)
def totL (f : Int → Int) (l : List Int) : Int := l.foldl (fun s x => f (s + x)) 0
def seqL (f : Int → Int) (es : List (Int × Int)) (N : Nat) : Nat → List Int → List Int
  | 0, _ => []
  | k + 1, now => totL f (stepL f es N now) :: seqL f es N k (stepL f es N now)
def runQ {σ : Type} (f : Int → Int) (es : List (Int × Int)) (N : Nat) (g : σ → Int → σ × Bool) : Nat → σ → List Int → σ
  | 0, t, _ => t
  | k + 1, t, now => if (g t (totL f (stepL f es N now))).2 = true then runQ f es N g k (g t (totL f (stepL f es N now))).1 (stepL f es N now) else (g t (totL f (stepL f es N now))).1
def Bd (B : Int) (l : List Int) : Prop := ∀ i, 0 ≤ l.getD i 0 ∧ l.getD i 0 ≤ B
structure Fit (f : Int → Int) (B : Int) : Prop where
  b0 : 0 ≤ B
  b1 : B ≤ 1000000000000001
  f0 : ∀ x, 0 ≤ x → 0 ≤ f x ∧ f x ≤ B
theorem stp_len (f now nx e) : (stp f now nx e).length = nx.length := by simp [stp]
theorem stp_bd {f : Int → Int} {B : Int} (F : Fit f B) {now nx : List Int} {e : Int × Int} (hn : Bd B now) (hx : Bd B nx) : Bd B (stp f now nx e) := fun i => by
  unfold stp
  rw [List.getD_eq_getElem?_getD, List.getElem?_set]
  by_cases h : e.2.toNat = i
  · rw [if_pos h]
    split
    · have h1 := hx e.2.toNat
      have h2 := hn e.1.toNat
      exact F.f0 _ (by omega)
    · exact ⟨Int.le_refl _, F.b0⟩
  · rw [if_neg h, ← List.getD_eq_getElem?_getD]; exact hx i
theorem fold_stp {f : Int → Int} {B : Int} (F : Fit f B) {now : List Int} (hn : Bd B now) : ∀ (es : List (Int × Int)) (nx : List Int), Bd B nx → Bd B (es.foldl (stp f now) nx) ∧ (es.foldl (stp f now) nx).length = nx.length
  | [], nx, h => ⟨h, rfl⟩
  | e :: es, nx, h => by
    have := fold_stp F hn es (stp f now nx e) (stp_bd F hn h)
    exact ⟨this.1, by rw [List.foldl_cons, this.2, stp_len]⟩
theorem bd_zero {B : Int} (h : 0 ≤ B) (N : Nat) : Bd B (List.replicate N 0) := fun i => by
  rw [List.getD_eq_getElem?_getD, List.getElem?_replicate]
  split
  · exact ⟨Int.le_refl _, h⟩
  · exact ⟨Int.le_refl _, h⟩
theorem bd_one {B : Int} (h : 1 ≤ B) (N : Nat) : Bd B (List.replicate N 1) := fun i => by
  rw [List.getD_eq_getElem?_getD, List.getElem?_replicate]
  split
  · exact ⟨by decide, h⟩
  · exact ⟨Int.le_refl _, by show (0 : Int) ≤ B; omega⟩
theorem stepL_bd {f : Int → Int} {B : Int} (F : Fit f B) {es : List (Int × Int)} {N : Nat} {now : List Int} (hn : Bd B now) : Bd B (stepL f es N now) ∧ (stepL f es N now).length = N := by
  have := fold_stp F hn es (List.replicate N 0) (bd_zero F.b0 N)
  exact ⟨this.1, by unfold stepL; rw [this.2]; simp⟩
theorem foldl_take {α β : Type} (g : β → α → β) (x : β) {l : List α} {k : Nat} (h : k < l.length) : (l.take (k + 1)).foldl g x = g ((l.take k).foldl g x) l[k] := by
  rw [List.take_succ_eq_append_getElem h, List.foldl_append]; rfl
theorem totL_bd {f : Int → Int} {B : Int} (F : Fit f B) {l : List Int} (hl : Bd B l) : ∀ k, k ≤ l.length → 0 ≤ (l.take k).foldl (fun s x => f (s + x)) 0 ∧ (l.take k).foldl (fun s x => f (s + x)) 0 ≤ B
  | 0, _ => ⟨Int.le_refl _, F.b0⟩
  | k + 1, h => by
    have ih := totL_bd F hl k (by omega)
    rw [foldl_take _ _ (by omega)]
    have hk := hl k
    rw [List.getD_eq_getElem?_getD, List.getElem?_eq_getElem (by omega)] at hk
    have hk' : 0 ≤ l[k] ∧ l[k] ≤ B := hk
    exact F.f0 _ (by omega)
/-! ### reading columns -/
theorem c3_at : ∀ (l : List (Int × Int × Int)) (i : Nat) (x : Int × Int × Int), l[i]? = some x → ((c3 l).drop (i * 3)).take 3 = [i64 x.1, i64 x.2.1, i64 x.2.2]
  | [], i, x, h => by simp at h
  | a :: l, 0, x, h => by
    simp at h
    subst h
    unfold c3
    simp
  | a :: l, i + 1, x, h => by
    have ih := c3_at l i x (by simpa using h)
    unfold c3 at *
    rw [List.map_cons, List.flatten_cons, show (i + 1) * 3 = 3 + i * 3 by omega, ← List.drop_drop]
    exact ih
theorem Rd.ldC {h : H} {s : Sl} {l : List (Int × Int × Int)} (r : Rd h s 3 (c3 l)) {i : Nat} (h1 : i < l.length) {K : List AVal → Prop} (hk : K [i64 l[i].1, i64 l[i].2.1, i64 l[i].2.2]) : ixS s 3 (i : Int) fun p => Cl.ldA p 3 h K := by
  have hl := r.len
  rw [c3_len] at hl
  refine r.ldA (by omega) (by omega) ?_
  rw [Int.toNat_natCast, c3_at l i l[i] (List.getElem?_eq_getElem h1)]
  exact hk
theorem Obj.ixI {h : H} {o : Nat} {cs : List AVal} (x : Obj h o cs) {n i : Nat} (hn : cs.length = n) (hi : i < n) {K : Pt → Prop} (hk : ∀ p, cell h p = cs[i]? → K p) : ixA ⟨some o, n, 0⟩ n 1 (i : Int) K := by
  refine ⟨⟨by omega, by omega⟩, rfl, hk _ ?_⟩
  rw [Int.toNat_natCast, Nat.mul_one]
  exact x.cellE hn
theorem getD_map_pr {l : List (Int × Int × Int)} {k : Nat} (h : k < l.length) : (l.map pr)[k]'(by simpa using h) = (l[k].1, l[k].2.1) := by simp [pr]
/-! ### the program's sequences -/
section
variable {hb : H} {n N : Nat} {c : Int} {s : Sl} {ts : List Tile} {H_ os : Nat} {q : Sl} {f : Int → Int} {B : Int} {gf gv : Nat} {capf capv : List AVal} {σ : Type} {g : σ → Int → σ × Bool} {I : σ → H → Prop} {J : σ → Prop} {n1 : Nat}
theorem seqLoop (k : Strip hb n c s ts H_ os q) (T : TS c ts) (hc6 : c ≤ 6) (hH : H_ ≤ 4) (hN : (N : Int) = c ^ H_) (F : Fit f B) (hlen : (colsI c ts H_).length ≤ 5000)
    (hf : ∀ (x : Int) (h : H) (K : Int → H → Prop), 0 ≤ x → x ≤ 4000000000000000 → K (f x) h → callI SP .i64 gf ([i64 x] ++ capf) h K)
    (hI : ∀ t h h', I t h → Till n1 h h' → I t h') (hn1 : hb.length ≤ n1)
    (hJ : ∀ t y, (g t y).2 = true → J (g t y).1) (hv : ∀ (t : σ) (y : Int) (h' : H), J t → I t h' → 0 ≤ y → y ≤ B → Ext hb h' → n1 ≤ h'.length → callB SP gv ([i64 y] ++ capv) h' fun b h'' => b = (g t y).2 ∧ I (g t y).1 h'' ∧ Chg (fun i => hb.length ≤ i ∧ i < n1) h' h'')
    (μ : σ → Nat) (hμ : ∀ t y, (g t y).2 = true → μ (g t y).1 < μ t) {R : σ} {K : AVal → H → Prop} (hK : ∀ h', I R h' → Ext hb h' → K (.tuple []) h') :
    ∀ (m : Nat) (t : σ) (now : List Int) (u : Sl) (h : H), μ t < m → runQ f ((colsI c ts H_).map pr) N g m t now = R → Bd B now → now.length = N → Ow h u 1 (ic now) → Fr n1 u → J t → I t h → Ext hb h → n1 ≤ h.length →
      impl_strip_sequence_L0 SP K ⟨some os, 5, 0⟩ (.func gf capf) (.func gv capv) u h
  | 0, t, now, u, h, hm, _, _, _, _, _, _, _, _, _ => by omega
  | m + 1, t, now, u, h, hm, hR, hbd, hnl, ou, fu, jt, i, x, hh => by
    apply impl_strip_sequence_unroll0
    unfold impl_strip_sequence_b0
    have hp := pow_small4 (n := H_) T.1 hc6 hH
    have b1 := F.b1
    have ks := k.ext x
    refine ⟨rfl, isPt_in (ks.o.ldI (i := 3) rfl rfl ?_)⟩
    refine mkS_ow (by omega) (by unfold lim; omega) fun v h2 ov lv vo e2 => ?_
    have x2 : Ext h h2 := by rw [e2]; exact Ext.app _ _
    rw [show (List.replicate (c ^ H_).toNat [i64 0]).flatten = ic (List.replicate N 0) from by
      rw [show (c ^ H_).toNat = N by omega]
      induction N with
      | zero => rfl
      | succ z _ => simp [ic, List.map_replicate]] at ov
    refine ⟨rfl, isPt_in ((ks.ext x2).o.ldS (i := 4) rfl rfl ?_)⟩
    have hql := k.len
    have hcb : ∀ e ∈ (colsI c ts H_).map pr, (0 ≤ e.1 ∧ e.1 < N) ∧ 0 ≤ e.2 ∧ e.2 < N := fun e he => by
      rw [colsI_pr T] at he
      have := colP_bound T H_ (-1) 0 0 1 (by omega) (by omega) e he
      rw [Int.one_mul, ← hN] at this
      exact this
    have l2 := x2.len
    have hvf : Fr h.length v := fun o e => by rw [vo] at e; cases e; exact Nat.le_refl _
    generalize hes : (colsI c ts H_).map pr = es at *
    have hel : es.length = (colsI c ts H_).length := by rw [← hes]; simp
    refine impl_strip_sequence_rule2 _ _ _ _ _ _ _ _ _ _ _ (fun j g' => ∃ z : Nat, j = z ∧ z ≤ es.length ∧ Ow g' v 1 (ic ((es.take z).foldl (stp f now) (List.replicate N 0))) ∧ Ext h g') (fun j _ => (es.length - j).toNat) ?_ _ ⟨0, rfl, by omega, ov, x2⟩
    rintro Y _ g' ⟨z, rfl, hz, ov, e⟩ hY
    unfold impl_strip_sequence_b2 impl_strip_sequence_C2
    have hfold := fold_stp F hbd (es.take z) (List.replicate N 0) (bd_zero F.b0 N)
    refine bif_dec (fun hi => ?_) (fun hi => ?_)
    · have hz' : z < es.length := by omega
      have hzc : z < (colsI c ts H_).length := by omega
      have hez : es[z] = ((colsI c ts H_)[z].1, (colsI c ts H_)[z].2.1) := by
        have := getD_map_pr hzc
        simp only [← hes]
        exact this
      have hb' := hcb es[z] (List.getElem_mem hz')
      rw [hez] at hb'
      simp only at hb'
      refine (ks.ext e).cols.rd.ldC hzc ?_
      generalize (colsI c ts H_)[z] = x3 at *
      refine newO_obj fun g3 og3 y3 m3 => ?_
      refine og3.stA fun g4 og4 b4 m4 => ?_
      have y4 : Ext g' g4 := y3.but_ b4 (some_le (Nat.le_refl _))
      have ov4 := ov.ext y4
      have ou4 := ou.ext (e.trans y4)
      have rdc : ∀ {i : Nat} {K : Pt → Int → Prop} (hi : i < 3), (∀ p, K p ([x3.1, x3.2.1, x3.2.2].getD i 0)) → ixA ⟨some g'.length, 3, 0⟩ 3 1 (i : Int) fun p => Cl.ldI .i64 p g4 (K p) := fun {i K} hi hk => by
        refine og4.ixI rfl hi fun p hp => ⟨_, ?_, hk p⟩
        rw [hp]
        match i, hi with
        | 0, _ => rfl
        | 1, _ => rfl
        | 2, _ => rfl
      refine rdc (i := 1) (by omega) fun p5 => ?_
      refine rdc (i := 1) (by omega) fun p7 => ?_
      show ixS v 1 x3.2.1 _
      refine ov4.rd.ldG hb'.2.1 (by rw [hfold.2]; simp; omega) ?_
      refine rdc (i := 0) (by omega) fun p11 => ?_
      show ixS u 1 x3.1 _
      refine ou4.rd.ldG hb'.1.1 (by omega) ?_
      have q1 := hfold.1 x3.2.1.toNat
      have q2 := hbd x3.1.toNat
      refine via_func ?_
      rw [w64_of (by omega) (by omega)]
      refine hf _ _ _ (by omega) (by omega) ⟨rfl, ?_⟩
      refine ov4.stI hb'.2.1 (by have := ov4.rd.ilen; rw [hfold.2] at this; simp at this; omega) _ fun g5 o5 b5 l5 => ?_
      rw [w64_of (by omega) (by omega)]
      refine hY _ _ ⟨z + 1, by push_cast; rfl, by omega, ?_, (e.trans y4).but_ b5 fun o' e' => hvf o' e'⟩ (by omega)
      rw [foldl_take _ _ hz', hez]
      exact o5
    · rw [show z = es.length by omega, List.take_length] at ov
      have hst := stepL_bd F (es := es) (N := N) hbd
      change Ow g' v 1 (ic (stepL f es N now)) at ov
      have hvl := ov.rd.ilen
      clear hY hfold
      refine impl_strip_sequence_rule4 _ _ _ _ _ _ _ _ _ (fun a j g2 => ∃ z : Nat, j = z ∧ z ≤ (stepL f es N now).length ∧ a = ((stepL f es N now).take z).foldl (fun s x => f (s + x)) 0 ∧ g' = g2) (fun _ j _ => ((stepL f es N now).length - j).toNat) ?_ _ _ ⟨0, rfl, by omega, rfl, rfl⟩
      rintro Z _ _ _ ⟨z, rfl, hz, rfl, rfl⟩ hZ
      unfold impl_strip_sequence_b4 impl_strip_sequence_C4
      have ht := totL_bd F hst.1 z hz
      refine bif_dec (fun hi => ?_) (fun hi => ?_)
      · have hz' : z < (stepL f es N now).length := by omega
        have q1 := hst.1 z
        refine ov.rd.ldG (by omega) (by omega) ?_
        rw [Int.toNat_natCast]
        refine via_func ?_
        rw [w64_of (by omega) (by omega)]
        refine hf _ _ _ (by omega) (by omega) ?_
        rw [w64_of (by omega) (by omega)]
        refine hZ _ _ _ ⟨z + 1, by push_cast; rfl, by omega, ?_, rfl⟩ (by omega)
        rw [foldl_take _ _ hz', List.getD_eq_getElem?_getD, List.getElem?_eq_getElem hz']
        rfl
      · rw [show z = (stepL f es N now).length by omega, List.take_length] at ht ⊢
        change 0 ≤ totL f (stepL f es N now) ∧ totL f (stepL f es N now) ≤ B at ht
        refine via_func ?_
        have i2 : I t g' := hI t h g' i (e.till n1)
        have el := e.len
        refine (hv t (totL f (stepL f es N now)) g' jt i2 ht.1 ht.2 (x.trans e) (by omega)).to ?_
        rintro b g2 ⟨hb2, i3, cg⟩
        have hX : Ext hb g2 := (x.trans e).chg_ cg fun i hi => hi.1
        rw [runQ] at hR
        refine bif_not (fun hf' => ?_) (fun hf' => ?_)
        · rw [hf'] at hb2
          rw [if_neg (by rw [← hb2]; decide)] at hR
          rw [hR] at i3
          exact hK g2 i3 hX
        · rw [hf'] at hb2
          rw [if_pos hb2.symm] at hR
          have := cg.1
          have hm2 := hμ t _ hb2.symm
          exact seqLoop k T hc6 hH hN F hlen hf hI hn1 hJ hv μ hμ hK m _ _ v g2 (by omega) (by rw [hes]; exact hR) hst.1 hst.2 (ov.chg cg fun i ei f => by have := hvf i ei; omega) (fun o e => by have := hvf o e; omega) (hJ t _ hb2.symm) i3 hX (by omega)
end
end Go.Proofs.Ytdmhchgaeepdmaa.Cl
