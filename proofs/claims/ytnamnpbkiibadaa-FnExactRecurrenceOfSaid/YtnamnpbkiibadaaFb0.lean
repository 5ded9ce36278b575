/- Contracts of functions, joined. No claim is stated here. -/
import Derived.Test.YtnamnpbkiibadaaFa2
import Derived.Test.YtnamnpbkiibadaaFG0
/- The clean machine: places of their own, variables in the heap. No claim is stated here. -/
set_option linter.unusedVariables false
set_option linter.unusedSimpArgs false
namespace Go.Proofs.Ytnamnpbkiibadaa.Cl
open Go
/-! ### places of their own -/
theorem slotK_in {k : Nat} {h : H} {K : H → Prop} (hk : ∀ h1, Ext h h1 → h1.length = h.length + k → K h1) : slotK k h K :=
  hk _ (Ext.app _ _) (by simp)
theorem newSat_ow {h : H} {len z n : Nat} {cs : List AVal} (hn : n < h.length) (hc : cs.length = len * z) {K : Sl → H → Prop}
    (hk : ∀ s' h', Ow h' s' z cs → s'.len = len → s'.o = some n → But (some n) h h' → h'.length = h.length → K s' h') : newSat len z cs h n K :=
  hk _ _ ⟨hc, .inr ⟨n, rfl, rfl, rfl, rfl, by simp [hn]⟩⟩ rfl rfl ⟨by simp, fun i hi hne => by rw [List.getElem?_set, if_neg (fun e => hne (by rw [e]))]⟩ (by simp)
theorem mkSat_ow {h : H} {m : Int} {z : List AVal} {n : Nat} (hn : n < h.length) (h0 : 0 ≤ m) (h1 : m ≤ lim) {K : Sl → H → Prop}
    (hk : ∀ s' h', Ow h' s' z.length (List.replicate m.toNat z).flatten → s'.len = m.toNat → s'.o = some n → But (some n) h h' → h'.length = h.length → K s' h') : mkSat m z h n K :=
  ⟨⟨h0, h1⟩, hk _ _ ⟨by simp, .inr ⟨n, rfl, rfl, rfl, by simp, by simp [hn]⟩⟩ rfl rfl ⟨by simp, fun i hi hne => by rw [List.getElem?_set, if_neg (fun e => hne (by rw [e]))]⟩ (by simp)⟩
/-! ### variables -/
abbrev pt (o : Nat) : Pt := ⟨some o, 1, 0⟩
/-- The variable at o has the value v. -/
def Var (h : H) (o : Nat) (v : AVal) : Prop := h[o]? = some (.own [v])
theorem Var.lt {h o v} (x : Var h o v) : o < h.length := (List.getElem?_eq_some_iff.1 x).1
theorem Var.cell {h o v} (x : Var h o v) : Cl.cell h (pt o) = some v := by
  have x' : h[o]? = some (.own [v]) := x
  simp [Cl.cell, cells, x']
theorem Var.ext {h h' o v} (x : Var h o v) (e : Ext h h') : Var h' o v := e.own x
theorem Var.but {h h' o v} {p : Option Nat} (x : Var h o v) (b : But p h h') (hn : p ≠ some o) : Var h' o v := b.get x hn
theorem Var.ldI {h o n} {k : IntKind} (x : Var h o (.int k n)) {K : Int → Prop} (hk : K n) : Cl.ldI k (pt o) h K := ⟨n, x.cell, hk⟩
theorem Var.ldB {h o n} (x : Var h o (.bool n)) {K : Bool → Prop} (hk : K n) : Cl.ldB (pt o) h K := ⟨n, x.cell, hk⟩
theorem Var.ldS {h o n} (x : Var h o (.sl n)) {K : Sl → Prop} (hk : K n) : Cl.ldS (pt o) h K := ⟨n, x.cell, hk⟩
theorem Var.ldP {h o n} (x : Var h o (.ptr n)) {K : Pt → Prop} (hk : K n) : Cl.ldP (pt o) h K := ⟨n, x.cell, hk⟩
theorem Var.ldV {h o n} (x : Var h o n) {K : AVal → Prop} (hk : K n) : Cl.ldV (pt o) h K := ⟨n, x.cell, hk⟩
theorem Var.st {h o v} (x : Var h o v) (u : AVal) {K : H → Prop} (hk : ∀ h', Var h' o u → But (some o) h h' → h'.length = h.length → K h') : Cl.st1 (pt o) u h K := by
  have hl := x.lt
  refine ⟨h.set o (.own [u]), ?_, hk _ (by unfold Var; simp [hl]) ⟨by simp, fun i hi hne => by rw [List.getElem?_set, if_neg (fun e => hne (by rw [e]))]⟩ (by simp)⟩
  have x' : h[o]? = some (.own [v]) := x
  simp [put1, owned, x']
theorem newO_var {v : AVal} {h : H} {K : Pt → H → Prop} (hk : ∀ h', Var h' h.length v → Ext h h' → h'.length = h.length + 1 → K (pt h.length) h') : newO [v] h K :=
  hk _ (by unfold Var; simp) (Ext.app _ _) (by simp)
theorem newOat_var {v : AVal} {h : H} {n : Nat} (hn : n < h.length) {K : Pt → H → Prop} (hk : ∀ h', Var h' n v → But (some n) h h' → h'.length = h.length → K (pt n) h') : newOat [v] h n K :=
  hk _ (by unfold Var; simp [hn]) ⟨by simp, fun i hi hne => by rw [List.getElem?_set, if_neg (fun e => hne (by rw [e]))]⟩ (by simp)
/-- What is read at a place that is not changed. -/
theorem But.cellE {o : Option Nat} {h h' : H} {p : Pt} {v : AVal} (b : But o h h') (e : cell h p = some v) (hn : o ≠ p.o ∨ o = none) : cell h' p = cell h p := by
  unfold cell at *
  cases hp : p.o with
  | none => rfl
  | some i =>
    rw [hp] at e hn
    simp only at e ⊢
    obtain ⟨c, h1, h2⟩ := Option.bind_eq_some_iff.1 e
    have hl := cells_lt h1
    have : h'[i]? = h[i]? := b.2 i hl (by rcases hn with hn | hn; exact hn; rw [hn]; simp)
    have hc : cells h' i p.n = cells h i p.n := by unfold cells; rw [this]
    rw [hc]
theorem Ext.cellE {h h' : H} {p : Pt} {v : AVal} (b : Ext h h') (e : Cl.cell h p = some v) : Cl.cell h' p = Cl.cell h p := (b.but none).cellE e (.inr rfl)
/-! ### several changes -/
/-- h' is h, but for objects from n on. -/
def Till (n : Nat) (h h' : H) : Prop := h.length ≤ h'.length ∧ ∀ i, i < n → i < h.length → h'[i]? = h[i]?
theorem Till.refl (n h) : Till n h h := ⟨Nat.le_refl _, fun _ _ _ => rfl⟩
theorem Till.trans {n a b c} (x : Till n a b) (y : Till n b c) : Till n a c := ⟨Nat.le_trans x.1 y.1, fun i h1 h2 => by rw [y.2 i h1 (by have := x.1; omega), x.2 i h1 h2]⟩
theorem Ext.till {a b : H} (x : Ext a b) (n) : Till n a b := ⟨x.len, fun i _ h => x.get h⟩
theorem But.till {a b : H} {o : Option Nat} (x : But o a b) {n : Nat} (hn : ∀ i, o = some i → n ≤ i) : Till n a b := ⟨x.1, fun i h1 h2 => x.2 i h2 fun e => by have := hn i e; omega⟩
theorem Till.ext {n : Nat} {a b : H} (x : Till n a b) (hn : a.length ≤ n) : Ext a b := Ext.of x.1 fun i hi => x.2 i (by omega) hi
theorem Till.le {n m : Nat} {a b : H} (x : Till n a b) (h : m ≤ n) : Till m a b := ⟨x.1, fun i h1 h2 => x.2 i (by omega) h2⟩
theorem Till.get {n : Nat} {h h' : H} (x : Till n h h') {o : Nat} {v : AObj} (e : h[o]? = some v) (ho : o < n) : h'[o]? = some v := by rw [x.2 o ho (List.getElem?_eq_some_iff.1 e).1]; exact e
theorem Var.till {h h' o v n} (x : Var h o v) (b : Till n h h') (hn : o < n) : Var h' o v := b.get x hn
theorem Ext.till_ {h a b : H} {n : Nat} (x : Ext h a) (y : Till n a b) (hn : h.length ≤ n) : Ext h b :=
  Ext.of (Nat.le_trans x.len y.1) fun i hi => by rw [y.2 i (by omega) (by have := x.len; omega), x.get hi]
end Go.Proofs.Ytnamnpbkiibadaa.Cl

/- The clean machine: objects, slices of slices, changes of several objects. No claim is stated here. -/
set_option linter.unusedVariables false
set_option linter.unusedSimpArgs false
namespace Go.Proofs.Ytnamnpbkiibadaa.Cl
open Go
/-! ### objects -/
def Obj (h : H) (o : Nat) (cs : List AVal) : Prop := h[o]? = some (.own cs)
theorem Obj.lt {h o cs} (x : Obj h o cs) : o < h.length := (List.getElem?_eq_some_iff.1 x).1
theorem Obj.ext {h h' o cs} (x : Obj h o cs) (e : Ext h h') : Obj h' o cs := e.own x
theorem Obj.but {h h' o cs} {p : Option Nat} (x : Obj h o cs) (b : But p h h') (hn : p ≠ some o) : Obj h' o cs := b.get x hn
theorem newK_obj {k : Nat} {cs : List AVal} {h : H} {K : Pt → H → Prop} (hk : ∀ h', Obj h' h.length cs → Ext h h' → h'.length = h.length + 1 → K ⟨some h.length, k, 0⟩ h') (hc : cs.length = k := by rfl) : newK k cs h K :=
  ⟨hc, hk _ (by unfold Obj; simp) (Ext.app _ _) (by simp)⟩
theorem newO_obj {cs : List AVal} {h : H} {K : Pt → H → Prop} (hk : ∀ h', Obj h' h.length cs → Ext h h' → h'.length = h.length + 1 → K ⟨some h.length, cs.length, 0⟩ h') : newO cs h K :=
  hk _ (by unfold Obj; simp) (Ext.app _ _) (by simp)
theorem isPt_in {o : Nat} {n off : Nat} {K : Prop} (hk : K) : isPt ⟨some o, n, off⟩ K := ⟨rfl, hk⟩
theorem Obj.cellE {h o cs} (x : Obj h o cs) {n i : Nat} (hn : cs.length = n) : Cl.cell h (Pt.add ⟨some o, n, 0⟩ i) = cs[i]? := by
  have x' : h[o]? = some (.own cs) := x
  simp [Cl.cell, Pt.add, cells, x', hn]
theorem Obj.ldI {h o cs} (x : Obj h o cs) {n i : Nat} {k : IntKind} {m : Int} (hn : cs.length = n) (e : cs[i]? = some (.int k m)) {K : Int → Prop} (hk : K m) : Cl.ldI k (Pt.add ⟨some o, n, 0⟩ i) h K := ⟨m, by rw [x.cellE hn, e], hk⟩
theorem Obj.ldB {h o cs} (x : Obj h o cs) {n i : Nat} {m : Bool} (hn : cs.length = n) (e : cs[i]? = some (.bool m)) {K : Bool → Prop} (hk : K m) : Cl.ldB (Pt.add ⟨some o, n, 0⟩ i) h K := ⟨m, by rw [x.cellE hn, e], hk⟩
theorem Obj.ldS {h o cs} (x : Obj h o cs) {n i : Nat} {m : Sl} (hn : cs.length = n) (e : cs[i]? = some (.sl m)) {K : Sl → Prop} (hk : K m) : Cl.ldS (Pt.add ⟨some o, n, 0⟩ i) h K := ⟨m, by rw [x.cellE hn, e], hk⟩
theorem Obj.ldA {h o cs} (x : Obj h o cs) {n : Nat} (hn : cs.length = n) {K : List AVal → Prop} (hk : K cs) : Cl.ldA ⟨some o, n, 0⟩ n h K := ld_own x hn hk
theorem Obj.stA {h o cs} (x : Obj h o cs) {n m : Nat} {vs : List AVal} {K : H → Prop} (hk : ∀ h', Obj h' o vs → But (some o) h h' → h'.length = h.length → K h') (hn : cs.length = n := by rfl) (hv : vs.length = m := by rfl) (hm : m = n := by rfl) : Cl.stN ⟨some o, n, 0⟩ m vs h K := by
  subst hm
  exact st_own x hn hv fun b e => hk _ e b (by simp)
theorem Obj.st1 {h o cs} (x : Obj h o cs) {n i : Nat} (hn : cs.length = n) (hi : i < n) (v : AVal) {K : H → Prop} (hk : ∀ h', Obj h' o (cs.set i v) → But (some o) h h' → h'.length = h.length → K h') : Cl.st1 (Pt.add ⟨some o, n, 0⟩ i) v h K := by
  have x' : h[o]? = some (.own cs) := x
  have hl := x.lt
  refine ⟨h.set o (.own (cs.set i v)), ?_, hk _ (by unfold Obj; simp [hl]) ⟨by simp, fun j hj hne => by rw [List.getElem?_set, if_neg (fun e => hne (by rw [e]))]⟩ (by simp)⟩
  unfold put1 owned Pt.add
  simp [x', hn, hi]
/-! ### changes of several objects -/
/-- h' is h but for objects of P, and for what is new. -/
def Chg (P : Nat → Prop) (h h' : H) : Prop := h.length ≤ h'.length ∧ ∀ i, i < h.length → ¬ P i → h'[i]? = h[i]?
theorem Chg.refl (P h) : Chg P h h := ⟨Nat.le_refl _, fun _ _ _ => rfl⟩
theorem Chg.trans {P a b c} (x : Chg P a b) (y : Chg P b c) : Chg P a c := ⟨Nat.le_trans x.1 y.1, fun i hi hn => by rw [y.2 i (by have := x.1; omega) hn, x.2 i hi hn]⟩
theorem Chg.to {P Q : Nat → Prop} {a b : H} (x : Chg P a b) (hq : ∀ i, i < a.length → P i → Q i) : Chg Q a b := ⟨x.1, fun i hi hn => x.2 i hi fun hp => hn (hq i hi hp)⟩
theorem Ext.chg {a b : H} (x : Ext a b) (P) : Chg P a b := ⟨x.len, fun i hi _ => x.get hi⟩
theorem But.chg {a b : H} {o : Option Nat} (x : But o a b) {P : Nat → Prop} (hp : ∀ i, o = some i → P i) : Chg P a b := ⟨x.1, fun i hi hn => x.2 i hi fun e => hn (hp i e)⟩
theorem Chg.get {P} {h h' : H} (b : Chg P h h') {i : Nat} {v : AObj} (e : h[i]? = some v) (hn : ¬ P i) : h'[i]? = some v := by
  rw [b.2 i (List.getElem?_eq_some_iff.1 e).1 hn, e]
theorem Chg.ext {P} {h h' : H} (b : Chg P h h') (hn : ∀ i, P i → h.length ≤ i) : Ext h h' := Ext.of b.1 fun i hi => b.2 i hi fun p => by have := hn i p; omega
theorem Ext.chg_ {P} {h a b : H} (x : Ext h a) (y : Chg P a b) (hn : ∀ i, P i → h.length ≤ i) : Ext h b :=
  Ext.of (Nat.le_trans x.len y.1) fun i hi => by
    rw [y.2 i (by have := x.len; omega) (fun p => by have := hn i p; omega), x.get hi]
theorem Chg.range {P} {h h' : H} (b : Chg P h h') {o n off k cs} (e : range h o n off k = some cs) (hn : ∀ i, o = some i → ¬ P i) : range h' o n off k = some cs := by
  obtain ⟨i, xs, rfl, hc, hl, rfl⟩ := range_some e
  refine range_of ?_ hl
  have := cells_lt hc
  unfold Cl.cells at hc ⊢
  rw [b.2 i this (hn i rfl)]; exact hc
theorem Rd.chg {P} {h h' : H} {s z cs} (r : Rd h s z cs) (b : Chg P h h') (hn : ∀ i, s.o = some i → ¬ P i) : Rd h' s z cs :=
  ⟨r.len, r.at_.imp id fun ⟨x, y, e⟩ => ⟨x, y, b.range e hn⟩⟩
theorem Ow.chg {P} {h h' : H} {s z cs} (r : Ow h s z cs) (b : Chg P h h') (hn : ∀ i, s.o = some i → ¬ P i) : Ow h' s z cs :=
  ⟨r.len, r.at_.imp id fun ⟨i, a, x, c, d, e⟩ => ⟨i, a, x, c, d, b.get e (hn i a)⟩⟩
theorem Var.chg {P} {h h' o v} (x : Var h o v) (b : Chg P h h') (hn : ¬ P o) : Var h' o v := b.get x hn
theorem Obj.chg {P} {h h' o v} (x : Obj h o v) (b : Chg P h h') (hn : ¬ P o) : Obj h' o v := b.get x hn
/-! ### slices of slices of integers -/
def RdSS (h : H) (s : Sl) (ls : List (List Int)) : Prop :=
  ∃ vs : List Sl, vs.length = ls.length ∧ Rd h s 1 (vs.map .sl) ∧ ∀ (i : Nat) v l, vs[i]? = some v → ls[i]? = some l → Rd h v 1 (ic l)
theorem RdSS.len {h s ls} (r : RdSS h s ls) : s.len = ls.length := by
  obtain ⟨vs, h1, h2, _⟩ := r
  have := h2.len
  simp at this
  omega
theorem RdSS.ext {h h' s ls} (r : RdSS h s ls) (x : Ext h h') : RdSS h' s ls := by
  obtain ⟨vs, h1, h2, h3⟩ := r
  exact ⟨vs, h1, h2.ext x, fun i v l a b => (h3 i v l a b).ext x⟩
theorem Rd.ilen {h : H} {s : Sl} {l : List Int} (r : Rd h s 1 (ic l)) : s.len = l.length := by have := r.len; rw [ic_len] at this; omega
theorem RdSS.ld {h s ls} (r : RdSS h s ls) {i : Int} (h0 : 0 ≤ i) (h1 : i < ls.length) {K : Sl → Prop} (hk : ∀ v l, ls[i.toNat]? = some l → Rd h v 1 (ic l) → v.len = l.length → K v) : ixS s 1 i fun p => Cl.ldS p h K := by
  obtain ⟨vs, e1, e2, e3⟩ := r
  refine e2.ldS h0 (by omega) fun v hv => ?_
  have hl : ls[i.toNat]? = some ls[i.toNat] := List.getElem?_eq_getElem (by omega)
  have := e3 i.toNat v _ hv hl
  exact hk v _ hl this this.ilen
/-- s lies in new memory of its own, from n on. -/
def NewSS (n : Nat) (h : H) (s : Sl) (ls : List (List Int)) : Prop :=
  ∃ vs : List Sl, vs.length = ls.length ∧ Ow h s 1 (vs.map .sl) ∧ Fr n s ∧ (∀ (i : Nat) v l, vs[i]? = some v → ls[i]? = some l → Ow h v 1 (ic l) ∧ Fr n v) ∧
    (∀ (i j : Nat) v w, i ≠ j → vs[i]? = some v → vs[j]? = some w → ∀ o, v.o = some o → w.o ≠ some o) ∧ ∀ (i : Nat) v, vs[i]? = some v → ∀ o, v.o = some o → s.o ≠ some o
theorem NewSS.rd {n h s ls} (r : NewSS n h s ls) : RdSS h s ls := by
  obtain ⟨vs, h1, h2, _, h3, _⟩ := r
  exact ⟨vs, h1, h2.rd, fun i v l a b => (h3 i v l a b).1.rd⟩
theorem NewSS.le {n m h s ls} (r : NewSS n h s ls) (hm : m ≤ n) : NewSS m h s ls := by
  obtain ⟨vs, h1, h2, h3, h4, h5⟩ := r
  exact ⟨vs, h1, h2, h3.le hm, fun i v l a b => (h4 i v l a b).imp id fun f => f.le hm, h5⟩
theorem NewSS.nil (n h) : NewSS n h Sl.nil [] := ⟨[], rfl, Ow.nil _ _, Fr.nil _, fun i v l a => by simp at a, fun i j v w _ a => by simp at a, fun i v a => by simp at a⟩
theorem NewSS.mk0 {n h s} (o : Ow h s 1 []) (f : Fr n s) : NewSS n h s [] := ⟨[], rfl, o, f, fun i v l a => by simp at a, fun i j v w _ a => by simp at a, fun i v a => by simp at a⟩
theorem mem_idx {α β : Type} {l : List α} {m : List β} (e : l.length = m.length) {i : Nat} {a : α} (h : l[i]? = some a) : ∃ b, m[i]? = some b :=
  ⟨m[i]'(by have := (List.getElem?_eq_some_iff.1 h).1; omega), List.getElem?_eq_getElem (by have := (List.getElem?_eq_some_iff.1 h).1; omega)⟩
theorem NewSS.chg {P n h h' s ls} (r : NewSS n h s ls) (b : Chg P h h') (hn : ∀ i, n ≤ i → i < h.length → ¬ P i) : NewSS n h' s ls := by
  obtain ⟨vs, h1, h2, h3, h4, h5⟩ := r
  refine ⟨vs, h1, h2.chg b fun o e => hn o (h3 o e) (h2.lt e), h3, fun i v l a c => ?_, h5⟩
  obtain ⟨x, y⟩ := h4 i v l a c
  exact ⟨x.chg b fun o e => hn o (y o e) (x.lt e), y⟩
theorem NewSS.ext {n h h' s ls} (r : NewSS n h s ls) (x : Ext h h') : NewSS n h' s ls := r.chg (x.chg fun _ => False) fun _ _ _ f => f
theorem RdSS.chg {P h h' s ls} (r : RdSS h s ls) (b : Chg P h h') (hn : ∀ i, i < h.length → ¬ P i) : RdSS h' s ls := r.ext (Ext.of b.1 fun i hi => b.2 i hi (hn i hi))
/-- append of a new view to a new slice of views -/
theorem NewSS.app {n h s ls} (r : NewSS n h s ls) {v : Sl} {l : List Int} (ov : Ow h v 1 (ic l)) (fv : Fr n v) (hap : ∀ o, v.o = some o → s.o ≠ some o ∧ ∀ vs : List Sl, Ow h s 1 (vs.map .sl) → ∀ w ∈ vs, w.o ≠ some o)
    {x : Sl} (rx : Rd h x 1 [.sl v]) (hl : (ls.length : Int) + 1 ≤ lim) (hnh : n ≤ h.length) {K : Sl → H → Prop} (hk : ∀ s' h', NewSS n h' s' (ls ++ [l]) → But s.o h h' → (∀ o, s.o = some o → s'.o = some o) → (s.o = none → ∀ o, s'.o = some o → h.length ≤ o) → K s' h') : Cl.app s x 1 h K := by
  obtain ⟨vs, h1, h2, h3, h4, h5, h6⟩ := r
  have hx : x.len = 1 := by have := rx.len; simp at this; omega
  have hs : s.len = ls.length := by have := h2.len; simp at this; omega
  refine app_ow (by omega) h2 rx (by rw [hs, hx]; exact_mod_cast hl) fun s' h' o' ln b k1 k2 => ?_
  have hso : ∀ o, s'.o = some o → s.o = some o ∨ h.length ≤ o := fun o e => by
    cases hq : s.o with
    | none => exact .inr (k2 hq o e)
    | some p => rw [k1 p hq] at e; exact .inl e
  refine hk s' h' ⟨vs ++ [v], by simp [h1], by simpa using o', ?_, ?_, ?_, ?_⟩ b k1 k2
  · intro o e
    rcases hso o e with e | e
    · exact h3 o e
    · omega
  · intro i w l' a c
    rw [List.getElem?_append] at a c
    rw [h1] at a
    split at a
    · next hi =>
      rw [if_pos hi] at c
      obtain ⟨p, q⟩ := h4 i w l' a c
      refine ⟨p.but b ?_, q⟩
      cases hw : w.o with
      | none => 
        cases hq : s.o with
        | none => exact .inr rfl
        | some _ => exact .inl (by simp)
      | some o => exact .inl (by rw [← hw]; intro e; exact h6 i w a o hw (by rw [e, hw]))
    · next hi =>
      rw [if_neg hi] at c
      have : i = ls.length := by
        have := (List.getElem?_eq_some_iff.1 c).1
        simp at this; omega
      subst this
      simp at a c
      subst a c
      refine ⟨ov.but b ?_, fv⟩
      cases hw : v.o with
      | none =>
        cases hq : s.o with
        | none => exact .inr rfl
        | some _ => exact .inl (by simp)
      | some o => exact .inl (by intro e; exact (hap o hw).1 e)
  · intro i j w u hne a c o e
    have hwl : ∀ {k : Nat} {y : Sl}, (vs ++ [v])[k]? = some y → vs[k]? = some y ∨ (k = vs.length ∧ y = v) := fun {k y} e => by
      rw [List.getElem?_append] at e
      split at e
      · exact .inl e
      · have : k = vs.length := by
          have := (List.getElem?_eq_some_iff.1 e).1
          simp at this; omega
        subst this
        simp at e
        exact .inr ⟨rfl, e.symm⟩
    rcases hwl a with a1 | ⟨rfl, rfl⟩
    · rcases hwl c with c1 | ⟨rfl, rfl⟩
      · exact h5 i j w u hne a1 c1 o e
      · intro e2
        exact (hap o e2).2 vs h2 w (List.mem_of_getElem? a1) e
    · rcases hwl c with c1 | ⟨rfl, rfl⟩
      · exact (hap o e).2 vs h2 u (List.mem_of_getElem? c1)
      · exact absurd rfl hne
  · intro i w a o e
    have hlt : o < h.length ∧ s.o ≠ some o := by
      rw [List.getElem?_append] at a
      split at a
      · obtain ⟨l', hl'⟩ := mem_idx h1 a
        exact ⟨(h4 i w l' a hl').1.lt e, h6 i w a o e⟩
      · have : w = v := by
          have := List.mem_of_getElem? a
          simpa using this
        subst this
        exact ⟨ov.lt e, (hap o e).1⟩
    intro e2
    rcases hso o e2 with e3 | e3
    · exact hlt.2 e3
    · omega
/-- the same, the view newer than all -/
theorem NewSS.app_new {n m h s ls} (r : NewSS n h s ls) {v : Sl} {l : List Int} (ov : Ow h v 1 (ic l)) (fv : Fr m v) (hnm : n ≤ m) (hm : ∃ h0 : H, NewSS n h0 s ls ∧ h0.length ≤ m ∧ Ext h0 h)
    {x : Sl} (rx : Rd h x 1 [.sl v]) (hl : (ls.length : Int) + 1 ≤ lim) (hnh : n ≤ h.length) {K : Sl → H → Prop} (hk : ∀ s' h', NewSS n h' s' (ls ++ [l]) → But s.o h h' → (∀ o, s.o = some o → s'.o = some o) → (s.o = none → ∀ o, s'.o = some o → h.length ≤ o) → K s' h') : Cl.app s x 1 h K := by
  obtain ⟨h0, r0, hlen, ex⟩ := hm
  refine r.app ov (fv.le hnm) (fun o e => ?_) rx hl hnh hk
  obtain ⟨vs, h1, h2, h3, h4, h5, h6⟩ := r0
  have ho := fv o e
  refine ⟨fun e2 => by have := h2.lt e2; omega, fun us hu w hw => ?_⟩
  intro e2
  have hq : us = vs := by
    have a := hu.rd.sread (by omega)
    have b := (h2.ext ex).rd.sread (by omega)
    rw [a] at b
    have : us.map AVal.sl = vs.map AVal.sl := Option.some.inj b
    exact List.map_inj_right (fun a b e => by simpa using e) |>.1 this
  subst hq
  obtain ⟨i, hi⟩ := List.getElem?_of_mem hw
  obtain ⟨l', hl'⟩ := mem_idx h1 hi
  have := (h4 i w l' hi hl').1.lt e2
  omega
/-- The same, of objects of P. -/
def NewP (P : Nat → Prop) (h : H) (s : Sl) (ls : List (List Int)) : Prop :=
  ∃ vs : List Sl, vs.length = ls.length ∧ Ow h s 1 (vs.map .sl) ∧ (∀ o, s.o = some o → P o) ∧ (∀ (i : Nat) v l, vs[i]? = some v → ls[i]? = some l → Ow h v 1 (ic l) ∧ ∀ o, v.o = some o → P o) ∧
    (∀ (i j : Nat) v w, i ≠ j → vs[i]? = some v → vs[j]? = some w → ∀ o, v.o = some o → w.o ≠ some o) ∧ ∀ (i : Nat) v, vs[i]? = some v → ∀ o, v.o = some o → s.o ≠ some o
theorem NewSS.p {n h s ls} (r : NewSS n h s ls) {P : Nat → Prop} (hp : ∀ i, n ≤ i → i < h.length → P i) : NewP P h s ls := by
  obtain ⟨vs, h1, h2, h3, h4, h5⟩ := r
  exact ⟨vs, h1, h2, fun o e => hp o (h3 o e) (h2.lt e), fun i v l a b => ⟨(h4 i v l a b).1, fun o e => hp o ((h4 i v l a b).2 o e) ((h4 i v l a b).1.lt e)⟩, h5⟩
theorem NewP.ss {P h s ls} (r : NewP P h s ls) {n : Nat} (hp : ∀ i, P i → n ≤ i) : NewSS n h s ls := by
  obtain ⟨vs, h1, h2, h3, h4, h5⟩ := r
  exact ⟨vs, h1, h2, fun o e => hp o (h3 o e), fun i v l a b => (h4 i v l a b).imp id fun f o e => hp o (f o e), h5⟩
theorem NewP.chg {P Q h h' s ls} (r : NewP P h s ls) (b : Chg Q h h') (hn : ∀ i, P i → i < h.length → ¬ Q i) : NewP P h' s ls := by
  obtain ⟨vs, h1, h2, h3, h4, h5⟩ := r
  refine ⟨vs, h1, h2.chg b fun o e => hn o (h3 o e) (h2.lt e), h3, fun i v l a c => ?_, h5⟩
  obtain ⟨x, y⟩ := h4 i v l a c
  exact ⟨x.chg b fun o e => hn o (y o e) (x.lt e), y⟩
theorem NewP.ext {P h h' s ls} (r : NewP P h s ls) (x : Ext h h') : NewP P h' s ls := r.chg (x.chg fun _ => False) fun _ _ _ f => f
theorem NewP.rd {P h s ls} (r : NewP P h s ls) : RdSS h s ls := by
  obtain ⟨vs, h1, h2, _, h3, _⟩ := r
  exact ⟨vs, h1, h2.rd, fun i v l a b => (h3 i v l a b).1.rd⟩
end Go.Proofs.Ytnamnpbkiibadaa.Cl

/- Contracts of the functions on tiles, of the search in slices and of the laws' helpers. No claim is stated here. -/
set_option linter.unusedVariables false
set_option linter.unusedSimpArgs false
namespace Go.Proofs.Ytnamnpbkiibadaa.Cl
open Go
abbrev SP : SatT := Sat Try.prog
abbrev Tile := Int × Int × Int × Int
def tc (t : Tile) : List AVal := [i64 t.1, i64 t.2.1, i64 t.2.2.1, i64 t.2.2.2]
def tcs (ts : List Tile) : List AVal := (ts.map tc).flatten
theorem tc_len (t : Tile) : (tc t).length = 4 := rfl
theorem tcs_len : ∀ ts : List Tile, (tcs ts).length = ts.length * 4
  | [] => rfl
  | t :: ts => by
    have := tcs_len ts
    unfold tcs at *
    simp only [List.map_cons, List.flatten_cons, List.length_append, tc_len, List.length_cons]
    omega
theorem tcs_app (a b : List Tile) : tcs (a ++ b) = tcs a ++ tcs b := by simp [tcs]
theorem tcs_cons (a : Tile) (b : List Tile) : tcs (a :: b) = tc a ++ tcs b := by simp [tcs]
theorem tcs_at : ∀ (ts : List Tile) (i : Nat) (t : Tile), ts[i]? = some t → ((tcs ts).drop (i * 4)).take 4 = tc t
  | [], i, t, e => by simp at e
  | a :: ts, 0, t, e => by
    simp at e; subst e
    rw [tcs_cons]; simp [List.take_append, tc_len]
    rw [List.take_of_length_le (by simp [tc_len])]
  | a :: ts, i + 1, t, e => by
    rw [tcs_cons, show (i + 1) * 4 = (tc a).length + i * 4 by rw [tc_len]; omega, ← List.drop_drop, List.drop_left]
    exact tcs_at ts i t (by simpa using e)
/-- A slice of tiles. -/
theorem Rd.ldT {h : H} {s : Sl} {ts : List Tile} (r : Rd h s 4 (tcs ts)) {i : Int} (h0 : 0 ≤ i) (h1 : i < ts.length) {K : List AVal → Prop} (hk : ∀ t, ts[i.toNat]? = some t → K (tc t)) : ixS s 4 i fun p => Cl.ldA p 4 h K := by
  have hlen : ts.length = s.len := by have := r.len; rw [tcs_len] at this; omega
  have hx : ts[i.toNat]? = some ts[i.toNat] := List.getElem?_eq_getElem (by omega)
  exact r.ldA h0 (by omega) (by rw [tcs_at ts _ _ hx]; exact hk _ hx)
theorem Rd.tlen {h : H} {s : Sl} {ts : List Tile} (r : Rd h s 4 (tcs ts)) : s.len = ts.length := by have := r.len; rw [tcs_len] at this; omega

def turn (t : Tile) : Tile := (t.2.2.2, t.1, t.2.1, t.2.2.1)
def turnN : Nat → Tile → Tile
  | 0, t => t
  | n + 1, t => turnN n (turn t)
theorem turnN_succ : ∀ n t, turnN (n + 1) t = turn (turnN n t)
  | 0, t => rfl
  | n + 1, t => by rw [turnN, turnN_succ n (turn t), turnN]
def i64ok (n : Int) : Prop := -9223372036854775808 ≤ n ∧ n < 9223372036854775808
def tileok (c : Int) (t : Tile) : Bool := decide (0 ≤ t.1 ∧ t.1 ≤ c - 1) && decide (0 ≤ t.2.1 ∧ t.2.1 ≤ c - 1) && decide (0 ≤ t.2.2.1 ∧ t.2.2.1 ≤ c - 1) && decide (0 ≤ t.2.2.2 ∧ t.2.2.2 ≤ c - 1)
attribute [local simp] newK newO ixA ldI ldA stN st1 Cl.range cell Cl.cells putN put1 owned get_app get_app0 set_app set_app0 Pt.add splice Ext.app Ext.refl cutA isPt

theorem l01In_c (a b c : Int) (h : H) : callB SP i_spec_l01In [i64 a, i64 b, i64 c] h fun r h' => r = decide (b ≤ a ∧ a ≤ c) ∧ h' = h := by
  apply spec_l01In_call
  unfold spec_l01In_main
  refine bif_dec (fun h1 => ?_) (fun h1 => ?_)
  all_goals simp; try omega
theorem within_c (a b c : Int) (h : H) : callB SP i_impl_within [i64 a, i64 b, i64 c] h fun r h' => r = decide (b ≤ a ∧ a ≤ c) ∧ h' = h := by
  apply impl_within_call
  unfold impl_within_main
  refine bif_dec (fun h1 => ?_) (fun h1 => ?_)
  all_goals simp; try omega
/-! ### search -/
def findI {α : Type} (q : α → Bool) (l : List α) : Int := match l.findIdx? q with | some i => (i : Int) | none => -1
theorem findI_hit {α : Type} {q : α → Bool} {l : List α} {i : Nat} {x : α} (hx : l[i]? = some x) (hq : q x = true) (hn : ∀ j y, j < i → l[j]? = some y → q y = false) : findI q l = i := by
  unfold findI
  have : l.findIdx? q = some i := by
    rw [List.findIdx?_eq_some_iff_getElem]
    obtain ⟨h1, h2⟩ := List.getElem?_eq_some_iff.1 hx
    refine ⟨h1, by rw [h2]; exact hq, fun j hj => ?_⟩
    rw [hn j _ hj (List.getElem?_eq_getElem (by omega))]; simp
  rw [this]
theorem findI_none {α : Type} {q : α → Bool} {l : List α} (hn : ∀ y ∈ l, q y = false) : findI q l = -1 := by
  unfold findI
  have : l.findIdx? q = none := by
    rw [List.findIdx?_eq_none_iff]
    intro x hx; rw [hn x hx]
  rw [this]
theorem findI_ge {α : Type} (q : α → Bool) (l : List α) : decide (findI q l ≥ 0) = l.any q := by
  unfold findI
  cases h : l.findIdx? q with
  | none =>
    rw [List.findIdx?_eq_none_iff] at h
    have : l.any q = false := by rw [List.any_eq_false]; intro x hx; rw [h x hx]; simp
    rw [this]; simp
  | some i =>
    have h2 : l.any q = true := by
      rw [List.findIdx?_eq_some_iff_getElem] at h
      obtain ⟨h1, h2, _⟩ := h
      exact List.any_eq_true.2 ⟨_, List.getElem_mem h1, h2⟩
    rw [h2]; simp
theorem indexFunc_int_c {h0 : H} {s : Sl} {l : List Int} (r : Rd h0 s 1 (ic l)) (hl : l.length < 4000000000000000000) (g : Nat) (cap : List AVal) (q : Int → Bool)
    (hg : ∀ x ∈ l, ∀ h, Ext h0 h → callB SP g (i64 x :: cap) h fun b h' => b = q x ∧ Ext h h') : callI SP .i64 i_slices_IndexFunc_s_int64_int64_ [.sl s, .func g cap] h0 fun n h' => n = findI q l ∧ Ext h0 h' := by
  have hlen : s.len = l.length := by have := r.len; rw [ic_len] at this; omega
  apply slices_IndexFunc_s_int64_int64__call
  unfold slices_IndexFunc_s_int64_int64__main
  refine slices_IndexFunc_s_int64_int64__rule0 _ _ s _ _ (fun i h => 0 ≤ i ∧ i ≤ l.length ∧ Ext h0 h ∧ ∀ j y, j < i.toNat → l[j]? = some y → q y = false) (fun i _ => (l.length - i).toNat) ?_ _ ⟨by omega, by omega, Ext.refl _, fun j y hj => by omega⟩
  intro X i h ⟨i0, i1, hx, hn⟩ hX
  unfold slices_IndexFunc_s_int64_int64__b0
  refine bif_dec (fun hi => ?_) (fun hi => ?_)
  · refine (r.ext hx).ldI i0 (by omega) fun x hxe => via_func ?_
    refine (hg x (List.mem_of_getElem? hxe) h hx).to ?_
    rintro _ h' ⟨rfl, hx'⟩
    refine bif_b (fun hq => ?_) (fun hq => ?_)
    · refine ⟨i, rfl, ?_, hx.trans hx'⟩
      rw [findI_hit hxe hq hn]; omega
    · rw [w64_of (by omega) (by omega)]
      refine hX _ _ ⟨by omega, by omega, hx.trans hx', fun j y hj hy => ?_⟩ (by omega)
      by_cases hji : j = i.toNat
      · subst hji; rw [hxe] at hy; cases hy; exact hq
      · exact hn j y (by omega) hy
  · refine ⟨_, rfl, ?_, hx⟩
    rw [findI_none]
    intro y hy
    obtain ⟨j, hj, rfl⟩ := List.mem_iff_getElem.1 hy
    exact hn j _ (by omega) (List.getElem?_eq_getElem hj)
theorem containsFunc_int_c {h0 : H} {s : Sl} {l : List Int} (r : Rd h0 s 1 (ic l)) (hl : l.length < 4000000000000000000) (g : Nat) (cap : List AVal) (q : Int → Bool)
    (hg : ∀ x ∈ l, ∀ h, Ext h0 h → callB SP g (i64 x :: cap) h fun b h' => b = q x ∧ Ext h h') : callB SP i_slices_ContainsFunc_s_int64_int64_ [.sl s, .func g cap] h0 fun b h' => b = l.any q ∧ Ext h0 h' := by
  apply slices_ContainsFunc_s_int64_int64__call
  unfold slices_ContainsFunc_s_int64_int64__main
  refine (indexFunc_int_c r hl g cap q hg).to ?_
  rintro _ h' ⟨rfl, hx⟩
  exact ⟨_, rfl, findI_ge q l, hx⟩
/-! ### tiles -/
theorem isTile1_w (x c : Int) (o : Nat) (h : H) (ho : h[o]? = some (.own [i64 c])) : callB SP i_impl_isTile_1 [i64 x, .ptr ⟨some o, 1, 0⟩] h fun b h' => b = (!decide (0 ≤ x ∧ x ≤ w64 (c - 1))) ∧ h' = h := by
  apply impl_isTile_1_call
  unfold impl_isTile_1_main
  refine ⟨c, by simp [ho], ?_⟩
  dsimp only
  refine (within_c _ _ _ _).to ?_
  rintro _ _ ⟨rfl, rfl⟩
  exact ⟨_, rfl, rfl, rfl⟩
theorem isTile_w (t : Tile) (c : Int) (h : H) : callB SP i_impl_isTile [.agg (tc t), i64 c] h fun b h' => b = tileok (w64 (c - 1) + 1) t ∧ Ext h h' := by
  apply impl_isTile_call
  simp only [impl_isTile_main, newK, newO]
  refine ⟨rfl, ⟨by omega, by omega, by omega⟩, rfl, rfl, ?_⟩
  refine (containsFunc_int_c (l := [t.1, t.2.1, t.2.2.1, t.2.2.2]) ⟨rfl, .inr ⟨rfl, rfl, ?_⟩⟩ (by simp) i_impl_isTile_1 _ (fun x => !decide (0 ≤ x ∧ x ≤ w64 (c - 1))) ?_).to ?_
  · simp [tc, ic]
  · intro x _ h' hx
    refine (isTile1_w x c _ h' (hx.own (by simp))).to ?_
    rintro _ _ ⟨rfl, rfl⟩
    exact ⟨rfl, Ext.refl _⟩
  · rintro _ h' ⟨rfl, l, rfl⟩
    refine ⟨_, rfl, ?_, by simp⟩
    simp [tileok, Bool.and_assoc]
theorem isTile_c (t : Tile) (c : Int) (hc : i64ok (c - 1)) (h : H) : callB SP i_impl_isTile [.agg (tc t), i64 c] h fun b h' => b = tileok c t ∧ Ext h h' := by
  have := isTile_w t c h
  rw [w64_of hc.1 hc.2, Int.sub_add_cancel] at this
  exact this
theorem tcs_one (t : Tile) : tcs [t] = tc t := by simp [tcs]
theorem Rd.of_ow {h s z cs} (r : Ow h s z cs) : Rd h s z cs := r.rd
/-- The first n turns. -/
def turnsN : Nat → Tile → List Tile
  | 0, _ => []
  | n + 1, t => t :: turnsN n (turn t)
theorem turnsN_succ : ∀ n t, turnsN (n + 1) t = turnsN n t ++ [turnN n t]
  | 0, t => rfl
  | n + 1, t => by
    rw [turnsN, turnsN_succ n (turn t), turnsN]; rfl
theorem turnsN_len : ∀ n t, (turnsN n t).length = n
  | 0, t => rfl
  | n + 1, t => by rw [turnsN, List.length_cons, turnsN_len n]
theorem l01Tile_c (c : Int) (hc : i64ok (c - 1)) (t : Tile) (h : H) : callB SP i_spec_l01Tile [i64 c, .agg (tc t)] h fun b h' => b = tileok c t ∧ Ext h h' := by
  apply spec_l01Tile_call
  simp only [spec_l01Tile_main, newK]
  refine ⟨rfl, ?_⟩
  refine spec_l01Tile_rule0 _ _ _ _ (fun i h' => 0 ≤ i ∧ i ≤ 4 ∧ h' = h ++ [.own (tc t)] ∧ ∀ j y, j < i.toNat → [t.1, t.2.1, t.2.2.1, t.2.2.2][j]? = some y → 0 ≤ y ∧ y ≤ c - 1) (fun i _ => (4 - i).toNat) ?_ _ ⟨by omega, by omega, rfl, fun j y hj => by omega⟩
  rintro X i _ ⟨i0, i1, rfl, hn⟩ hX
  unfold spec_l01Tile_b0 spec_l01Tile_C0
  refine bif_dec (fun hi => ?_) (fun hi => ?_)
  · have hx : ∃ x, [t.1, t.2.1, t.2.2.1, t.2.2.2][i.toNat]? = some x := ⟨_, List.getElem?_eq_getElem (by simp; omega)⟩
    obtain ⟨x, hx⟩ := hx
    refine ⟨⟨i0, hi⟩, rfl, x, ?_, ?_⟩
    · have hg : (tc t)[i.toNat]? = some (i64 x) := by
        rw [show tc t = ic [t.1, t.2.1, t.2.2.1, t.2.2.2] from rfl]
        unfold ic
        rw [List.getElem?_map, hx]; rfl
      simp [hg, tc_len]
    · dsimp only
      rw [w64_of hc.1 hc.2, w64_of (by omega) (by omega)]
      refine (l01In_c _ _ _ _).to ?_
      rintro _ _ ⟨rfl, rfl⟩
      refine bif_not (fun hq => ?_) (fun hq => ?_)
      · refine ⟨_, rfl, ?_, by simp⟩
        rw [decide_eq_false_iff_not] at hq
        have hm := List.mem_of_getElem? hx
        simp only [List.mem_cons, List.not_mem_nil, or_false] at hm
        unfold tileok
        rcases hm with rfl | rfl | rfl | rfl <;> simp [hq]
      · refine hX _ _ ⟨by omega, by omega, rfl, fun j y hj hy => ?_⟩ (by omega)
        by_cases hji : j = i.toNat
        · subst hji; rw [hx] at hy; cases hy; exact of_decide_eq_true hq
        · exact hn j y (by omega) hy
  · refine ⟨_, rfl, ?_, by simp⟩
    unfold tileok
    have h4 : i.toNat = 4 := by omega
    rw [h4] at hn
    have a0 := hn 0 _ (by omega) rfl
    have a1 := hn 1 _ (by omega) rfl
    have a2 := hn 2 _ (by omega) rfl
    have a3 := hn 3 _ (by omega) rfl
    simp [a0, a1, a2, a3]
def tilesCode (l : List Tile) : Int := if l.all (tileok 6) then 0 else 2
/-! ### TurnsOf -/
def turnsOf (t : Tile) : List Tile × Int := if tileok 6 t then (turnsN 4 t, 0) else ([], 2)
/-! ### the laws' helpers -/
theorem toTile_c (t : Tile) (h : H) : callA SP i_laws_toTile [.agg (tc t)] h fun r h' => r = tc t ∧ Ext h h' := by
  apply laws_toTile_call
  simp only [laws_toTile_main, newK, newO]
  refine ⟨rfl, ?_⟩
  refine laws_toTile_unroll0 _ _ _ _ _ _ _ (bif_dec (fun _ => ?_) (fun hn => absurd (by omega) hn))
  have e1 : w64 (0 + 1) = 1 := w64_of (by omega) (by omega)
  have e2 : w64 (1 + 1) = 2 := w64_of (by omega) (by omega)
  have e3 : w64 (2 + 1) = 3 := w64_of (by omega) (by omega)
  have e4 : w64 (3 + 1) = 4 := w64_of (by omega) (by omega)
  rw [e1]
  simp [tc]
  refine laws_toTile_unroll0 _ _ _ _ _ _ _ (bif_dec (fun _ => ?_) (fun hn => absurd (by omega) hn))
  rw [e2]
  simp
  refine laws_toTile_unroll0 _ _ _ _ _ _ _ (bif_dec (fun _ => ?_) (fun hn => absurd (by omega) hn))
  rw [e3]
  simp
  refine laws_toTile_unroll0 _ _ _ _ _ _ _ (bif_dec (fun _ => ?_) (fun hn => absurd (by omega) hn))
  rw [e4]
  simp
  refine laws_toTile_unroll0 _ _ _ _ _ _ _ (bif_dec (fun hn => absurd hn (by omega)) (fun hn => ?_))
  simp [laws_toTile_C0]
def tl (t : Tile) : List Int := [t.1, t.2.1, t.2.2.1, t.2.2.2]
theorem tc_tl (t : Tile) : tc t = ic (tl t) := rfl
theorem tl_inj {a b : Tile} (h : tl a = tl b) : a = b := by
  obtain ⟨a1, a2, a3, a4⟩ := a
  obtain ⟨b1, b2, b3, b4⟩ := b
  simp [tl] at h
  simp [h]
theorem eqTile_c (a b : Tile) (h : H) : callB SP i_laws_eqTile [.agg (tc a), .agg (tc b)] h fun r h' => r = (a == b) ∧ Ext h h' := by
  apply laws_eqTile_call
  simp only [laws_eqTile_main, newK]
  refine ⟨rfl, rfl, ?_⟩
  refine laws_eqTile_rule0 _ _ _ _ (fun i h' => 0 ≤ i ∧ i ≤ 4 ∧ h' = h ++ [.own (tc a)] ++ [.own (tc b)] ∧ ∀ j, j < i.toNat → (tl a)[j]? = (tl b)[j]?) (fun i _ => (4 - i).toNat) ?_ _ ⟨by omega, by omega, rfl, fun j hj => by omega⟩
  rintro X i _ ⟨i0, i1, rfl, hn⟩ hX
  unfold laws_eqTile_b0 laws_eqTile_C0
  refine bif_dec (fun hi => ?_) (fun hi => ?_)
  · have hx : (tl a)[i.toNat]? = some _ := List.getElem?_eq_getElem (by simp [tl]; omega)
    have hy : (tl b)[i.toNat]? = some _ := List.getElem?_eq_getElem (by simp [tl]; omega)
    refine ixA_ldI (cs := tc a) (by simp) rfl i0 hi (ic_at hx) (ixA_ldI (cs := tc b) (by simp) rfl i0 hi (ic_at hy) (bif_ne (fun hq => ?_) (fun hq => ?_)))
    · refine ⟨_, rfl, ?_, by simp⟩
      symm
      rw [beq_eq_false_iff_ne]
      rintro rfl
      exact hq rfl
    · rw [w64_of (by omega) (by omega)]
      refine hX _ _ ⟨by omega, by omega, rfl, fun j hj => ?_⟩ (by omega)
      by_cases hji : j = i.toNat
      · subst hji; rw [hx, hy, hq]
      · exact hn j (by omega)
  · refine ⟨_, rfl, ?_, by simp⟩
    symm
    rw [beq_iff_eq]
    apply tl_inj
    apply List.ext_getElem?
    intro j
    by_cases hj : j < 4
    · exact hn j (by omega)
    · rw [List.getElem?_eq_none (by simp [tl]; omega), List.getElem?_eq_none (by simp [tl]; omega)]
theorem eqTileS_c {h0 : H} {s s' : Sl} {l l' : List Tile} (r : Rd h0 s 4 (tcs l)) (r' : Rd h0 s' 4 (tcs l')) (hl : l.length < 4000000000000000000) : callB SP i_laws_eqTileS [.sl s, .sl s'] h0 fun b h' => b = (l == l') ∧ Ext h0 h' := by
  have hlen : s.len = l.length := r.tlen
  have hlen' : s'.len = l'.length := r'.tlen
  apply laws_eqTileS_call
  unfold laws_eqTileS_main
  refine bif_ne (fun hq => ?_) (fun hq => ?_)
  · refine ⟨_, rfl, ?_, Ext.refl _⟩
    cases hb : l == l' with
    | false => rfl
    | true => rw [beq_iff_eq] at hb; subst hb; omega
  refine laws_eqTileS_rule0 _ _ _ _ (fun i h => 0 ≤ i ∧ i ≤ l.length ∧ Ext h0 h ∧ ∀ j, j < i.toNat → l[j]? = l'[j]?) (fun i _ => (l.length - i).toNat) ?_ _ ⟨by omega, by omega, Ext.refl _, fun j hj => by omega⟩
  intro X i h ⟨i0, i1, hx, hn⟩ hX
  unfold laws_eqTileS_b0 laws_eqTileS_C0
  refine bif_dec (fun hi => ?_) (fun hi => ?_)
  · refine (r.ext hx).ldT i0 (by omega) fun x hxe => (r'.ext hx).ldT i0 (by omega) fun y hye => ?_
    refine (eqTile_c x y h).to ?_
    rintro _ h' ⟨rfl, hx'⟩
    refine bif_not (fun hq => ?_) (fun hq => ?_)
    · refine ⟨_, rfl, ?_, hx.trans hx'⟩
      cases hb : l == l' with
      | false => rfl
      | true =>
        rw [beq_iff_eq] at hb; subst hb
        rw [hxe] at hye; cases hye
        simp at hq
    · rw [w64_of (by omega) (by omega)]
      refine hX _ _ ⟨by omega, by omega, hx.trans hx', fun j hj => ?_⟩ (by omega)
      by_cases hji : j = i.toNat
      · subst hji
        rw [beq_iff_eq] at hq
        rw [hxe, hye, hq]
      · exact hn j (by omega)
  · refine ⟨_, rfl, ?_, hx⟩
    symm
    rw [beq_iff_eq]
    apply List.ext_getElem?
    intro j
    by_cases hj : j < l.length
    · exact hn j (by omega)
    · rw [List.getElem?_eq_none (by omega), List.getElem?_eq_none (by omega)]
/-- k, k + 1, .. -/
def upto (k : Int) : Nat → List Int
  | 0 => []
  | n + 1 => k :: upto (k + 1) n
theorem upto_len : ∀ n k, (upto k n).length = n
  | 0, _ => rfl
  | n + 1, k => by simp [upto, upto_len n]
theorem upto_at : ∀ n k i, i < n → (upto k n)[i]? = some (k + i)
  | n + 1, k, 0, _ => by simp [upto]
  | n + 1, k, i + 1, h => by
    rw [upto, List.getElem?_cons_succ, upto_at n (k + 1) i (by omega)]
    congr 1; push_cast; omega
/-- a store into a view that is owned whole -/
theorem Ow.st1 {h : H} {s : Sl} {z : Nat} {l : List Int} (r : Ow h s z (ic l)) {i j : Int} (hz : 0 < z) (h0 : 0 ≤ i) (h1 : i < s.len) (j0 : 0 ≤ j) (j1 : j < z) (x : Int) {K : H → Prop}
    (hk : ∀ h', Ow h' s z (ic (l.set (i.toNat * z + j.toNat) x)) → But s.o h h' → h'.length = h.length → K h') : ixS s z i fun p => ixA p z 1 j fun q => Cl.st1 q (i64 x) h K := by
  obtain ⟨a, b⟩ | ⟨o, a, b, c, d, e⟩ := r.at_
  · omega
  · have hlen := r.len
    rw [ic_len] at hlen
    have hb : i.toNat * z + j.toNat < l.length := by
      have : (i.toNat + 1) * z ≤ s.len * z := Nat.mul_le_mul_right _ (by omega)
      rw [Nat.add_mul] at this; omega
    have ho : o < h.length := (List.getElem?_eq_some_iff.1 e).1
    refine ⟨⟨h0, h1⟩, b, by simp [a], ⟨j0, j1⟩, by simp [Pt.add, a], h.set o (.own (ic (l.set (i.toNat * z + j.toNat) x))), ?_, hk _ ⟨by rw [ic_len]; simpa using hlen, .inr ⟨o, a, b, c, d, by simp [List.getElem?_set, ho]⟩⟩ ?_ (by simp)⟩
    · unfold put1 owned Pt.add
      have : (ic l).set (i.toNat * z + j.toNat) (i64 x) = ic (l.set (i.toNat * z + j.toNat) x) := by unfold ic; rw [List.map_set]
      simp [a, c, d, e, ic_len, hlen, this]
      omega
    · rw [a]
      exact ⟨by simp, fun k hk hn => by rw [List.getElem?_set, if_neg (fun e => hn (by rw [e]))]⟩
theorem markTileS_k {h0 : H} {s : Sl} {l : List Int} (r : Ow h0 s 4 (ic l)) (k0 : Int) (hk0 : 0 ≤ k0) (hk1 : k0 ≤ 1000000000000000000) (hl : s.len < 1000000000000000000) : callI SP .i64 i_laws_markTileS [.sl s, i64 k0] h0 fun n h' => n = k0 + 4 * s.len ∧ Ow h' s 4 (ic (upto k0 (s.len * 4))) ∧ But s.o h0 h' ∧ h'.length = h0.length := by
  have hlen := r.len
  rw [ic_len] at hlen
  apply laws_markTileS_call
  unfold laws_markTileS_main
  refine laws_markTileS_rule0 _ _ _ (fun k i h => 0 ≤ i ∧ i ≤ s.len ∧ k = k0 + 4 * i ∧ ∃ l', Ow h s 4 (ic l') ∧ (∀ j : Nat, j < i.toNat * 4 → l'[j]? = some (k0 + (j : Int))) ∧ But s.o h0 h ∧ h.length = h0.length) (fun k i _ => (s.len - i).toNat) ?_ _ _ ⟨by omega, by omega, by omega, l, r, fun j hj => by omega, But.refl _ _, rfl⟩
  rintro X k i h ⟨i0, i1, rfl, l1, o1, e1, b1, n1⟩ hX
  unfold laws_markTileS_b0 laws_markTileS_C0
  refine bif_dec (fun hi => ?_) (fun hi => ?_)
  · refine laws_markTileS_rule2 _ _ X s i (fun k j h => 0 ≤ j ∧ j ≤ 4 ∧ k = k0 + 4 * i + j ∧ ∃ l', Ow h s 4 (ic l') ∧ (∀ j2 : Nat, j2 < i.toNat * 4 + j.toNat → l'[j2]? = some (k0 + (j2 : Int))) ∧ But s.o h0 h ∧ h.length = h0.length) (fun k j _ => (4 - j).toNat) ?_ _ _ ⟨by omega, by omega, by omega, l1, o1, fun j hj => e1 j (by omega), b1, n1⟩
    rintro Y k j h' ⟨j0, j1, rfl, l2, o2, e2, b2, n2⟩ hY
    unfold laws_markTileS_b2 laws_markTileS_C2 laws_markTileS_C1
    refine bif_dec (fun hj => ?_) (fun hj => ?_)
    · refine o2.st1 (by omega) i0 hi j0 hj _ fun h3 o3 b3 n3 => ?_
      rw [w64_of (by omega) (by omega), w64_of (by omega) (by omega)]
      refine hY _ _ _ ⟨by omega, by omega, by omega, _, o3, fun j2 hj2 => ?_, b2.trans b3, by omega⟩ (by omega)
      have hl2 := o2.len
      rw [ic_len] at hl2
      rw [List.getElem?_set]
      split
      · next e =>
        rw [if_pos (by omega)]
        congr 1; omega
      · exact e2 j2 (by omega)
    · rw [w64_of (by omega) (by omega)]
      have : j = 4 := by omega
      subst this
      refine hX _ _ _ ⟨by omega, by omega, by omega, l2, o2, fun j hj => e2 j (by omega), b2, n2⟩ (by omega)
  · have : i = s.len := by omega
    subst this
    refine ⟨_, rfl, by omega, ?_, b1, n1⟩
    have : l1 = upto k0 (s.len * 4) := by
      have hl1 := o1.len
      rw [ic_len] at hl1
      apply List.ext_getElem?
      intro j
      by_cases hj : j < s.len * 4
      · rw [e1 j (by omega), upto_at _ _ _ hj]
      · rw [List.getElem?_eq_none (by omega), List.getElem?_eq_none (by rw [upto_len]; omega)]
    rw [← this]; exact o1
theorem markTileS_c {h0 : H} {s : Sl} {l : List Int} (r : Ow h0 s 4 (ic l)) (hl : s.len < 1000000000000000000) : callI SP .i64 i_laws_markTileS [.sl s, i64 1] h0 fun n h' => n = 1 + 4 * s.len ∧ Ow h' s 4 (ic (upto 1 (s.len * 4))) ∧ But s.o h0 h' ∧ h'.length = h0.length := markTileS_k r 1 (by omega) (by omega) hl
attribute [local simp] newK newO ixA ldI ldA stN st1 Cl.range cell Cl.cells putN put1 owned get_app get_app0 set_app set_app0 Pt.add splice Ext.app Ext.refl cutA isPt
/-! ### comparing -/
def cmpL : List Int → List Int → Int
  | [], [] => 0
  | [], _ :: _ => -1
  | _ :: _, [] => 1
  | a :: l, b :: m => if a < b then -1 else if a > b then 1 else cmpL l m
theorem isNaN_c (x : Int) (h : H) : callB SP i_cmp_isNaN_int64_ [i64 x] h fun b h' => b = false ∧ h' = h := by
  apply cmp_isNaN_int64__call
  unfold cmp_isNaN_int64__main
  exact ⟨_, rfl, by simp, rfl⟩
theorem cmpCompare_c (x y : Int) (h : H) : callI SP .i64 i_cmp_Compare_int64_ [i64 x, i64 y] h fun n h' => n = (if x < y then -1 else if x > y then 1 else 0) ∧ h' = h := by
  apply cmp_Compare_int64__call
  unfold cmp_Compare_int64__main
  refine (isNaN_c x h).to ?_
  rintro _ _ ⟨rfl, rfl⟩
  refine (isNaN_c y _).to ?_
  rintro _ _ ⟨rfl, rfl⟩
  refine bif_dec (fun h1 => ⟨_, rfl, by simp [h1], rfl⟩) (fun h1 => bif_dec (fun h2 => ⟨_, rfl, by simp [h1, h2], rfl⟩) (fun h2 => ⟨_, rfl, by simp [h1, h2], rfl⟩))
theorem drop_cons {α : Type} {l : List α} {i : Nat} {x : α} (e : l[i]? = some x) : l.drop i = x :: l.drop (i + 1) := by
  obtain ⟨h, rfl⟩ := List.getElem?_eq_some_iff.1 e
  exact List.drop_eq_getElem_cons h
theorem sCompare_c {h0 : H} {s s' : Sl} {l l' : List Int} (r : Rd h0 s 1 (ic l)) (r' : Rd h0 s' 1 (ic l')) (hl : l.length < 4000000000000000000) : callI SP .i64 i_slices_Compare_s_int64_int64_ [.sl s, .sl s'] h0 fun n h' => n = cmpL l l' ∧ h' = h0 := by
  have hlen : s.len = l.length := by have := r.len; rw [ic_len] at this; omega
  have hlen' : s'.len = l'.length := by have := r'.len; rw [ic_len] at this; omega
  apply slices_Compare_s_int64_int64__call
  unfold slices_Compare_s_int64_int64__main
  refine slices_Compare_s_int64_int64__rule0 _ _ s s' s _ (fun i h => 0 ≤ i ∧ i ≤ l.length ∧ i ≤ l'.length ∧ h = h0 ∧ cmpL l l' = cmpL (l.drop i.toNat) (l'.drop i.toNat)) (fun i _ => (l.length - i).toNat) ?_ _ ⟨by omega, by omega, by omega, rfl, by simp⟩
  rintro X i _ ⟨i0, i1, i2, rfl, he⟩ hX
  unfold slices_Compare_s_int64_int64__b0 slices_Compare_s_int64_int64__C0
  refine bif_dec (fun hi => ?_) (fun hi => ?_)
  · refine r.ldI i0 (by omega) fun x hx => bif_dec (fun hj => ?_) (fun hj => ?_)
    · refine ⟨_, rfl, ?_, rfl⟩
      rw [he, drop_cons hx, List.drop_eq_nil_of_le (show l'.length ≤ i.toNat by omega)]; rfl
    · refine r'.ldI i0 (by omega) fun y hy => ?_
      refine (cmpCompare_c x y _).to ?_
      rintro _ _ ⟨rfl, rfl⟩
      rw [drop_cons hx, drop_cons hy, cmpL] at he
      refine bif_ne (fun hq => ⟨_, rfl, ?_, rfl⟩) (fun hq => ?_)
      · rw [he]
        split
        · rfl
        · split
          · rfl
          · next h1 h2 => simp [h1, h2] at hq
      · rw [w64_of (by omega) (by omega)]
        refine hX _ _ ⟨by omega, by omega, by omega, rfl, ?_⟩ (by omega)
        rw [he, show (i + 1).toNat = i.toNat + 1 by omega]
        split
        · next h1 => simp [h1] at hq
        · split
          · next h1 h2 => simp [h1, h2] at hq
          · rfl
  · have e1 : l.drop i.toNat = [] := List.drop_eq_nil_of_le (by omega)
    refine bif_dec (fun hj => ⟨_, rfl, ?_, rfl⟩) (fun hj => ⟨_, rfl, ?_, rfl⟩)
    · have hy : l'[i.toNat]? = some _ := List.getElem?_eq_getElem (by omega)
      rw [he, e1, drop_cons hy]; rfl
    · rw [he, e1, List.drop_eq_nil_of_le (show l'.length ≤ i.toNat by omega)]; rfl
def cmpT (a b : Tile) : Int := cmpL (tl a) (tl b)
theorem compare_c (a b : Tile) (h : H) : callI SP .i64 i_impl_compare [.agg (tc a), .agg (tc b)] h fun n h' => n = cmpT a b ∧ Ext h h' := by
  apply impl_compare_call
  simp only [impl_compare_main, newK]
  refine ⟨rfl, rfl, ⟨by omega, by omega, by omega⟩, rfl, rfl, ⟨by omega, by omega, by omega⟩, rfl, rfl, ?_⟩
  refine (sCompare_c (l := tl a) (l' := tl b) ⟨rfl, .inr ⟨rfl, rfl, ?_⟩⟩ ⟨rfl, .inr ⟨rfl, rfl, ?_⟩⟩ (by simp [tl])).to ?_
  · simp [tc, tl, ic]
  · simp [tc, tl, ic]
  · rintro _ _ ⟨rfl, rfl⟩
    exact ⟨_, rfl, rfl, by simp⟩
/-- The less of two tiles; the first, if they are alike. -/
def lessT (m x : Tile) : Tile := if cmpT x m < 0 then x else m
/-- The class: the least turn. -/
def cls (t : Tile) : Tile := (turnsN 3 (turn t)).foldl lessT t
theorem l01Before_c (a b : Tile) (h : H) : callB SP i_spec_l01Before [.agg (tc a), .agg (tc b)] h fun r h' => r = decide (cmpT a b < 0) ∧ Ext h h' := by
  apply spec_l01Before_call
  simp only [spec_l01Before_main, newK]
  refine ⟨rfl, rfl, ?_⟩
  refine spec_l01Before_rule0 _ _ _ _ (fun i h' => 0 ≤ i ∧ i ≤ 4 ∧ h' = h ++ [.own (tc a)] ++ [.own (tc b)] ∧ cmpT a b = cmpL ((tl a).drop i.toNat) ((tl b).drop i.toNat)) (fun i _ => (4 - i).toNat) ?_ _ ⟨by omega, by omega, rfl, by simp [cmpT]⟩
  rintro X i _ ⟨i0, i1, rfl, he⟩ hX
  unfold spec_l01Before_b0 spec_l01Before_C0
  refine bif_dec (fun hi => ?_) (fun hi => ?_)
  · have hx : (tl a)[i.toNat]? = some _ := List.getElem?_eq_getElem (by simp [tl]; omega)
    have hy : (tl b)[i.toNat]? = some _ := List.getElem?_eq_getElem (by simp [tl]; omega)
    rw [drop_cons hx, drop_cons hy, cmpL] at he
    have gx := ic_at hx
    have gy := ic_at hy
    refine ixA_ldI (cs := tc a) (by simp) rfl i0 hi gx (ixA_ldI (cs := tc b) (by simp) rfl i0 hi gy (bif_ne (fun hq => ?_) (fun hq => ?_)))
    · refine ixA_ldI (cs := tc a) (by simp) rfl i0 hi gx (ixA_ldI (cs := tc b) (by simp) rfl i0 hi gy ⟨_, rfl, ?_, by simp⟩)
      rw [he]
      by_cases h1 : (tl a)[i.toNat]'(by simp [tl]; omega) < (tl b)[i.toNat]'(by simp [tl]; omega)
      · simp [h1]
      · have h2 : (tl a)[i.toNat]'(by simp [tl]; omega) > (tl b)[i.toNat]'(by simp [tl]; omega) := by omega
        simp [h1, h2]
    · rw [w64_of (by omega) (by omega)]
      refine hX _ _ ⟨by omega, by omega, rfl, ?_⟩ (by omega)
      rw [he, if_neg (by omega), if_neg (by omega), show (i + 1).toNat = i.toNat + 1 by omega]
  · refine ⟨_, rfl, ?_, by simp⟩
    rw [he, List.drop_eq_nil_of_le (by simp [tl]; omega), List.drop_eq_nil_of_le (by simp [tl]; omega)]
    rfl
/-- a store of one cell into a view that is owned whole -/
theorem Ow.stC {h : H} {s : Sl} {cs : List AVal} (r : Ow h s 1 cs) {i : Int} (h0 : 0 ≤ i) (h1 : i < s.len) (v : AVal) {K : H → Prop}
    (hk : ∀ h', Ow h' s 1 (cs.set i.toNat v) → But s.o h h' → h'.length = h.length → K h') : ixS s 1 i fun p => Cl.st1 p v h K := by
  obtain ⟨a, b⟩ | ⟨o, a, b, c, d, e⟩ := r.at_
  · omega
  · have hlen := r.len
    have ho : o < h.length := (List.getElem?_eq_some_iff.1 e).1
    refine ⟨⟨h0, h1⟩, b, by simp [a], h.set o (.own (cs.set i.toNat v)), ?_, hk _ ⟨by simpa using hlen, .inr ⟨o, a, b, c, d, by simp [List.getElem?_set, ho]⟩⟩ ?_ (by simp)⟩
    · unfold put1 owned
      simp [a, c, d, e, hlen]
      omega
    · rw [a]
      exact ⟨by simp, fun k hk hn => by rw [List.getElem?_set, if_neg (fun e => hn (by rw [e]))]⟩
theorem Ow.stI {h : H} {s : Sl} {l : List Int} (r : Ow h s 1 (ic l)) {i : Int} (h0 : 0 ≤ i) (h1 : i < s.len) (x : Int) {K : H → Prop}
    (hk : ∀ h', Ow h' s 1 (ic (l.set i.toNat x)) → But s.o h h' → h'.length = h.length → K h') : ixS s 1 i fun p => Cl.st1 p (.int .i64 x) h K :=
  r.stC h0 h1 _ fun h' o b n => hk h' (by
    have : (ic l).set i.toNat (i64 x) = ic (l.set i.toNat x) := by unfold ic; rw [List.map_set]
    rw [← this]; exact o) b n
/-- a store of an element of several cells into a view that is owned whole -/
theorem Ow.stA {h : H} {s : Sl} {z : Nat} {cs : List AVal} (r : Ow h s z cs) {i : Int} (h0 : 0 ≤ i) (h1 : i < s.len) (vs : List AVal) (hv : vs.length = z) {K : H → Prop}
    (hk : ∀ h', Ow h' s z (splice cs (i.toNat * z) vs) → But s.o h h' → h'.length = h.length → K h') : ixS s z i fun p => Cl.stN p z vs h K := by
  obtain ⟨a, b⟩ | ⟨o, a, b, c, d, e⟩ := r.at_
  · omega
  · have hlen := r.len
    have ho : o < h.length := (List.getElem?_eq_some_iff.1 e).1
    have hb : i.toNat * z + z ≤ s.len * z := by
      have : (i.toNat + 1) * z ≤ s.len * z := Nat.mul_le_mul_right _ (by omega)
      rw [Nat.add_mul] at this; omega
    have hsl : (splice cs (i.toNat * z) vs).length = s.len * z := by
      unfold splice
      rw [List.length_append, List.length_append, List.length_take, List.length_drop, hlen, hv]; omega
    refine ⟨⟨h0, h1⟩, b, by simp [a], h.set o (.own (splice cs (i.toNat * z) vs)), hv, ?_, hk _ ⟨hsl, .inr ⟨o, a, b, c, d, by simp [List.getElem?_set, ho]⟩⟩ ?_ (by simp)⟩
    · unfold putN owned
      simp [a, c, d, e, hlen, hv]
      omega
    · rw [a]
      exact ⟨by simp, fun k hk hn => by rw [List.getElem?_set, if_neg (fun e => hn (by rw [e]))]⟩
theorem tcs_set : ∀ (l : List Tile) (i : Nat) (t : Tile), i < l.length → splice (tcs l) (i * 4) (tc t) = tcs (l.set i t)
  | [], i, t, h => by simp at h
  | a :: l, 0, t, h => by
    unfold splice
    simp [tcs_cons, tc]
  | a :: l, i + 1, t, h => by
    have ih := tcs_set l i t (by simpa using h)
    rw [List.set_cons_succ, tcs_cons, tcs_cons, ← ih]
    unfold splice
    rw [show (i + 1) * 4 = (tc a).length + i * 4 by rw [tc_len]; omega, show (tc a).length + i * 4 + (tc t).length = (tc a).length + (i * 4 + (tc t).length) by omega]
    rw [List.take_length_add_append, List.drop_length_add_append]
    simp
theorem toTileS_c {h0 : H} {s : Sl} {ts : List Tile} (r : Rd h0 s 4 (tcs ts)) (hl : ts.length ≤ 1048576) : callS SP i_laws_toTileS [.sl s] h0 fun s' h' => Ow h' s' 4 (tcs ts) ∧ Fr h0.length s' ∧ Ext h0 h' := by
  have hlen : s.len = ts.length := r.tlen
  apply laws_toTileS_call
  unfold laws_toTileS_main
  refine mkS_ow (by omega) (by unfold lim; omega) fun s' h1 ho hlen' hso he => ?_
  have hz : (List.replicate (s.len : Int).toNat [AVal.int .i64 0, .int .i64 0, .int .i64 0, .int .i64 0]).flatten = tcs (List.replicate ts.length ((0, 0, 0, 0) : Tile)) := by
    unfold tcs
    rw [List.map_replicate, ← hlen]; rfl
  rw [hz] at ho
  refine laws_toTileS_rule0 _ _ s s' (fun i h' => 0 ≤ i ∧ i ≤ ts.length ∧ Ext h0 h' ∧ ∃ l : List Tile, l.length = ts.length ∧ Ow h' s' 4 (tcs l) ∧ ∀ j, j < i.toNat → l[j]? = ts[j]?) (fun i _ => (ts.length - i).toNat) ?_ _ ⟨by omega, by omega, by rw [he]; exact Ext.app _ _, _, by simp, ho, fun j hj => by omega⟩
  rintro X i h' ⟨i0, i1, x, l, ll, ol, hj⟩ hX
  unfold laws_toTileS_b0 laws_toTileS_C0
  have hsl : s'.len = ts.length := by rw [hlen', ← hlen]; omega
  refine bif_dec (fun hi => ?_) (fun hi => ?_)
  · refine (r.ext x).ldT i0 (by omega) fun t ht => ?_
    refine (toTile_c t h').to ?_
    rintro _ h2 ⟨rfl, x2⟩
    refine (ol.ext x2).stA i0 (by omega) _ rfl fun h3 o3 b3 n3 => ?_
    rw [w64_of (by omega) (by omega)]
    rw [tcs_set l i.toNat t (by omega)] at o3
    refine hX _ _ ⟨by omega, by omega, (x.trans x2).but_ b3 (by rw [hso]; exact some_le (Nat.le_refl _)), _, by simpa using ll, o3, fun j hj2 => ?_⟩ (by omega)
    rw [List.getElem?_set]
    split
    · next e => subst e; rw [if_pos (by omega), ht]
    · exact hj j (by omega)
  · refine ⟨_, rfl, ?_, fun o e => by rw [hso] at e; cases e; exact Nat.le_refl _, x⟩
    have : l = ts := by
      apply List.ext_getElem?
      intro j
      by_cases h : j < ts.length
      · exact hj j (by omega)
      · rw [List.getElem?_eq_none (by omega), List.getElem?_eq_none (by omega)]
    rw [← this]; exact ol
theorem szTileS_c (s : Sl) (left : Int) (hl : s.len ≤ 9223372036854775807) (h1 : 0 ≤ left) (h2 : left ≤ 1048576) (h : H) : callI SP .i64 i_laws_szTileS [.sl s, i64 left] h fun n h' => n = (if left - s.len < 0 then -1 else left - s.len) ∧ h' = h := by
  apply laws_szTileS_call
  unfold laws_szTileS_main
  rw [w64_of (by omega) (by omega)]
  refine bif_dec (fun hi => ⟨_, rfl, by simp [hi], rfl⟩) (fun hi => ⟨_, rfl, by simp [hi], rfl⟩)
theorem eqInt64S_c {h0 : H} {s s' : Sl} {l l' : List Int} (r : Rd h0 s 1 (ic l)) (r' : Rd h0 s' 1 (ic l')) (hl : l.length < 4000000000000000000) : callB SP i_laws_eqInt64S [.sl s, .sl s'] h0 fun b h' => b = (l == l') ∧ h' = h0 := by
  have hlen : s.len = l.length := by have := r.len; rw [ic_len] at this; omega
  have hlen' : s'.len = l'.length := by have := r'.len; rw [ic_len] at this; omega
  apply laws_eqInt64S_call
  unfold laws_eqInt64S_main
  refine bif_ne (fun hq => ?_) (fun hq => ?_)
  · refine ⟨_, rfl, ?_, rfl⟩
    cases hb : l == l' with
    | false => rfl
    | true => rw [beq_iff_eq] at hb; subst hb; omega
  refine laws_eqInt64S_rule0 _ _ _ _ (fun i h => 0 ≤ i ∧ i ≤ l.length ∧ h = h0 ∧ ∀ j, j < i.toNat → l[j]? = l'[j]?) (fun i _ => (l.length - i).toNat) ?_ _ ⟨by omega, by omega, rfl, fun j hj => by omega⟩
  rintro X i _ ⟨i0, i1, rfl, hn⟩ hX
  unfold laws_eqInt64S_b0 laws_eqInt64S_C0
  refine bif_dec (fun hi => ?_) (fun hi => ?_)
  · refine r.ldI i0 (by omega) fun x hxe => r'.ldI i0 (by omega) fun y hye => ?_
    refine bif_ne (fun hq => ?_) (fun hq => ?_)
    · refine ⟨_, rfl, ?_, rfl⟩
      cases hb : l == l' with
      | false => rfl
      | true =>
        rw [beq_iff_eq] at hb; subst hb
        rw [hxe] at hye; cases hye
        exact absurd rfl hq
    · rw [w64_of (by omega) (by omega)]
      refine hX _ _ ⟨by omega, by omega, rfl, fun j hj => ?_⟩ (by omega)
      by_cases hji : j = i.toNat
      · subst hji
        rw [hxe, hye, hq]
      · exact hn j (by omega)
  · refine ⟨_, rfl, ?_, rfl⟩
    symm
    rw [beq_iff_eq]
    apply List.ext_getElem?
    intro j
    by_cases hj : j < l.length
    · exact hn j (by omega)
    · rw [List.getElem?_eq_none (by omega), List.getElem?_eq_none (by omega)]
theorem markInt64S_c {h0 : H} {s : Sl} {l : List Int} (r : Ow h0 s 1 (ic l)) (k0 : Int) (hk0 : 0 ≤ k0) (hk1 : k0 ≤ 1000000000000000000) (hl : s.len < 1000000000000000000) : callI SP .i64 i_laws_markInt64S [.sl s, i64 k0] h0 fun n h' => n = k0 + s.len ∧ Ow h' s 1 (ic (upto k0 s.len)) ∧ But s.o h0 h' ∧ h'.length = h0.length := by
  have hlen := r.len
  rw [ic_len] at hlen
  apply laws_markInt64S_call
  unfold laws_markInt64S_main
  refine laws_markInt64S_rule0 _ _ _ (fun k i h => 0 ≤ i ∧ i ≤ s.len ∧ k = k0 + i ∧ ∃ l', Ow h s 1 (ic l') ∧ (∀ j : Nat, j < i.toNat → l'[j]? = some (k0 + (j : Int))) ∧ But s.o h0 h ∧ h.length = h0.length) (fun k i _ => (s.len - i).toNat) ?_ _ _ ⟨by omega, by omega, by omega, l, r, fun j hj => by omega, But.refl _ _, rfl⟩
  rintro X k i h ⟨i0, i1, rfl, l1, o1, e1, b1, n1⟩ hX
  unfold laws_markInt64S_b0 laws_markInt64S_C0
  refine bif_dec (fun hi => ?_) (fun hi => ?_)
  · refine o1.stI i0 hi _ fun h3 o3 b3 n3 => ?_
    rw [w64_of (by omega) (by omega), w64_of (by omega) (by omega)]
    refine hX _ _ _ ⟨by omega, by omega, by omega, _, o3, fun j2 hj2 => ?_, b1.trans b3, by omega⟩ (by omega)
    have hl2 := o1.len
    rw [ic_len] at hl2
    rw [List.getElem?_set]
    split
    · next e =>
      rw [if_pos (by omega)]
      congr 1; omega
    · exact e1 j2 (by omega)
  · refine ⟨_, rfl, by omega, ?_, b1, n1⟩
    have : l1 = upto k0 s.len := by
      have hl1 := o1.len
      rw [ic_len] at hl1
      apply List.ext_getElem?
      intro j
      by_cases hj : j < s.len
      · rw [e1 j (by omega), upto_at _ _ _ hj]
      · rw [List.getElem?_eq_none (by omega), List.getElem?_eq_none (by rw [upto_len]; omega)]
    rw [← this]; exact o1
theorem heldInt64S_c {h0 : H} {s : Sl} (k0 : Int) (hk0 : 0 ≤ k0) (hk1 : k0 ≤ 1000000000000000000) (r : Rd h0 s 1 (ic (upto k0 s.len))) (hl : s.len < 1000000000000000000) : callI SP .i64 i_laws_heldInt64S [.sl s, i64 k0] h0 fun n h' => n = k0 + s.len ∧ h' = h0 := by
  apply laws_heldInt64S_call
  unfold laws_heldInt64S_main
  refine laws_heldInt64S_rule0 _ _ _ (fun k i h => 0 ≤ i ∧ i ≤ s.len ∧ k = k0 + i ∧ h = h0) (fun k i _ => (s.len - i).toNat) ?_ _ _ ⟨by omega, by omega, by omega, rfl⟩
  rintro X k i _ ⟨i0, i1, rfl, rfl⟩ hX
  unfold laws_heldInt64S_b0 laws_heldInt64S_C0
  refine bif_dec (fun hi => ?_) (fun hi => ?_)
  · refine r.ldI i0 (by rw [upto_len]; omega) fun x hx => ?_
    rw [upto_at _ _ _ (by omega)] at hx
    cases hx
    refine bif_ne (fun hq => absurd (by omega) hq) (fun _ => ?_)
    rw [w64_of (by omega) (by omega), w64_of (by omega) (by omega)]
    exact hX _ _ _ ⟨by omega, by omega, by omega, rfl⟩ (by omega)
  · exact ⟨_, rfl, by omega, rfl⟩
end Go.Proofs.Ytnamnpbkiibadaa.Cl

/- Contracts of the laws' helpers for sets and for slices of slices, and of the functions that tell sets. No claim is stated here. -/
set_option linter.unusedVariables false
set_option linter.unusedSimpArgs false
namespace Go.Proofs.Ytnamnpbkiibadaa.Cl
open Go
/-! ### sets -/
abbrev TSet := Int × List Tile
/-- The cells of a set. -/
def SetC (c : Int) (s : Sl) : List AVal := [i64 c, .sl s]
theorem szSet_c (c : Int) (s : Sl) (left : Int) (hl : s.len ≤ 9223372036854775807) (h1 : 0 ≤ left) (h2 : left ≤ 1048576) (h : H) : callI SP .i64 i_laws_szSet [.agg (SetC c s), i64 left] h fun n h' => n = (if left - s.len < 0 then -1 else left - s.len) ∧ Ext h h' := by
  apply laws_szSet_call
  unfold laws_szSet_main
  refine newK_obj fun h1 o1 x1 n1 => ?_
  refine isPt_in (o1.ldS rfl rfl ?_)
  refine (szTileS_c s left hl (by omega) (by omega) h1).to ?_
  rintro _ _ ⟨rfl, rfl⟩
  refine bif_dec (fun hq => ⟨_, rfl, ?_, x1⟩) (fun hq => ⟨_, rfl, rfl, x1⟩)
  split at hq
  · next e => rw [if_pos e]
  · next e => omega
theorem toSet_c {h0 : H} {c : Int} {s : Sl} {ts : List Tile} (r : Rd h0 s 4 (tcs ts)) (hl : ts.length ≤ 1048576) : callA SP i_laws_toSet [.agg (SetC c s)] h0 fun v h' => ∃ s', v = SetC c s' ∧ Ow h' s' 4 (tcs ts) ∧ Fr h0.length s' ∧ Ext h0 h' := by
  apply laws_toSet_call
  unfold laws_toSet_main
  refine newK_obj fun h1 o1 x1 n1 => ?_
  refine newO_obj fun h2 o2 x2 n2 => ?_
  refine newO_obj fun h3 o3 x3 n3 => ?_
  refine isPt_in ?_
  have x13 := x1.trans (x2.trans x3)
  have o1' := o1.ext (x2.trans x3)
  refine o1'.ldI rfl rfl (isPt_in ?_)
  refine o3.st1 rfl (by simp) _ fun h4 o4 b4 n4 => ?_
  refine isPt_in ?_
  have x4 : Ext h1 h4 := (x2.trans x3).but_ b4 (some_le (by omega))
  refine (o1.ext x4).ldS rfl rfl ?_
  refine (toTileS_c (r.ext (x1.trans x4)) hl).to ?_
  rintro s' h5 ⟨os, fs, x5⟩
  refine isPt_in ?_
  refine (o4.ext x5).st1 rfl (by simp) _ fun h6 o6 b6 n6 => ?_
  refine o6.ldA rfl ?_
  have o2' := ((o2.ext x3).but b4 (fun e => by have := Option.some.inj e; omega)).ext x5 |>.but b6 (fun e => by have := Option.some.inj e; omega)
  have hne : ∀ o, s'.o = some o → h4.length ≤ o := fun o e => fs o e
  refine o2'.stA fun h7 o7 b7 n7 => ?_
  refine o7.ldA rfl ⟨_, rfl, s', rfl, ?_, ?_, ?_⟩
  · refine (os.but b6 ?_).but b7 ?_
    · refine .inl fun e => ?_
      have := hne _ e.symm
      omega
    · refine .inl fun e => ?_
      have := hne _ e.symm
      omega
  · exact fs.le (by omega)
  · refine Ext.but_ (Ext.but_ ((x1.trans x4).trans x5) b6 (some_le (by omega))) b7 (some_le (by omega))
theorem eqSet_c {h0 : H} {c c' : Int} {s s' : Sl} {ts ts' : List Tile} (r : Rd h0 s 4 (tcs ts)) (r' : Rd h0 s' 4 (tcs ts')) (hl : ts.length < 4000000000000000000) : callB SP i_laws_eqSet [.agg (SetC c s), .agg (SetC c' s')] h0 fun b h' => b = (c == c' && ts == ts') ∧ Ext h0 h' := by
  apply laws_eqSet_call
  unfold laws_eqSet_main
  refine newK_obj fun h1 o1 x1 n1 => ?_
  refine newK_obj fun h2 o2 x2 n2 => ?_
  refine isPt_in ?_
  have x := x1.trans x2
  refine (o1.ext x2).ldI rfl rfl (isPt_in (o2.ldI rfl rfl ?_))
  refine bif_ne (fun hq => ⟨_, rfl, by simp [hq], x⟩) (fun hq => ?_)
  subst hq
  refine isPt_in ((o1.ext x2).ldS rfl rfl (isPt_in (o2.ldS rfl rfl ?_)))
  refine (eqTileS_c (r.ext x) (r'.ext x) hl).to ?_
  rintro _ h3 ⟨rfl, x3⟩
  refine bif_not (fun hq => ⟨_, rfl, by simp [hq], x.trans x3⟩) (fun hq => ⟨_, rfl, by simp [hq], x.trans x3⟩)
theorem markSet_c {h0 : H} {c : Int} {s : Sl} {l : List Int} (r : Ow h0 s 4 (ic l)) (k0 : Int) (hk0 : 0 ≤ k0) (hk1 : k0 ≤ 1000000000000000000) (hl : s.len < 1000000000000000000) : callI SP .i64 i_laws_markSet [.agg (SetC c s), i64 k0] h0 fun n h' => n = k0 + 4 * s.len ∧ Ow h' s 4 (ic (upto k0 (s.len * 4))) ∧ Chg (fun i => s.o = some i) h0 h' := by
  apply laws_markSet_call
  unfold laws_markSet_main
  refine newK_obj fun h1 o1 x1 n1 => ?_
  refine isPt_in (o1.ldS rfl rfl ?_)
  refine (markTileS_k (r.ext x1) k0 hk0 hk1 hl).to ?_
  rintro _ h2 ⟨rfl, o2, b2, n2⟩
  exact ⟨_, rfl, rfl, o2, (x1.chg _).trans (b2.chg fun i e => e)⟩
theorem tcs_ic' : ∀ ts : List Tile, ∃ l, tcs ts = ic l
  | [] => ⟨[], rfl⟩
  | t :: ts => by
    obtain ⟨l, e⟩ := tcs_ic' ts
    exact ⟨tl t ++ l, by rw [tcs_cons, e, ic_app, tc_tl]⟩
/-! ### slices of integers and of slices -/
/-- All lengths of a slice of slices, and its own. -/
def sumLen (ls : List (List Int)) : Nat := (ls.map List.length).sum
theorem sumLen_mem {ls : List (List Int)} {l : List Int} (h : l ∈ ls) : l.length ≤ sumLen ls := by
  unfold sumLen
  induction ls with
  | nil => simp at h
  | cons a ls ih =>
    simp only [List.map_cons, List.sum_cons]
    rcases List.mem_cons.1 h with rfl | h
    · omega
    · have := ih h; omega
theorem sumLen_take (ls : List (List Int)) (i : Nat) (l : List Int) (h : ls[i]? = some l) : sumLen (ls.take (i + 1)) = sumLen (ls.take i) + l.length := by
  unfold sumLen
  rw [List.take_add_one, h]
  simp
theorem sumLen_take_le (ls : List (List Int)) (i : Nat) : sumLen (ls.take i) ≤ sumLen ls := by
  unfold sumLen
  conv => rhs; rw [← List.take_append_drop i ls]
  rw [List.map_append, List.sum_append]
  omega
/-- What marks make of the rows. -/
def marks (k : Int) : List (List Int) → List (List Int)
  | [] => []
  | l :: ls => upto k l.length :: marks (k + l.length) ls
theorem marks_len : ∀ (ls : List (List Int)) (k : Int), (marks k ls).length = ls.length
  | [], k => rfl
  | l :: ls, k => by simp [marks, marks_len ls]
theorem marks_at : ∀ (ls : List (List Int)) (k : Int) (i : Nat) (l : List Int), ls[i]? = some l → (marks k ls)[i]? = some (upto (k + sumLen (ls.take i)) l.length)
  | [], k, i, l, h => by simp at h
  | a :: ls, k, 0, l, h => by simp at h; subst h; simp [marks, sumLen]
  | a :: ls, k, i + 1, l, h => by
    simp at h
    simp only [marks, List.getElem?_cons_succ, List.take_succ_cons]
    rw [marks_at ls _ i l h]
    congr 2
    simp [sumLen]; omega
theorem NewSS.top {n : Nat} {hx h0 : H} {s : Sl} {ls : List (List Int)} (r : NewSS n hx s ls) {Q : Nat → Prop} (c : Chg Q hx h0) (hq : ∀ o, n ≤ o → ¬ Q o) (vs : List Sl) (hv : Ow h0 s 1 (vs.map .sl)) : ∀ v ∈ vs, ∀ o, v.o = some o → n ≤ o ∧ o < hx.length := by
  obtain ⟨us, h1, h2, h3, h4, _⟩ := r
  have hu := h2.chg c fun o e => hq o (h3 o e)
  have hq : vs = us := by
    have a := hu.rd.sread (by omega)
    have b := hv.rd.sread (by omega)
    rw [a] at b
    have : us.map AVal.sl = vs.map AVal.sl := Option.some.inj b
    exact (List.map_inj_right (fun a b e => by simpa using e) |>.1 this).symm
  subst hq
  intro v hm o e
  obtain ⟨i, hi⟩ := List.getElem?_of_mem hm
  obtain ⟨l, hl⟩ := mem_idx h1 hi
  obtain ⟨p, q⟩ := h4 i v l hi hl
  exact ⟨q o e, p.lt e⟩
end Go.Proofs.Ytnamnpbkiibadaa.Cl

/- Contracts of the functions that tell sets, rows of numbers of tiles, fillings, cylinders and tori. No claim is stated here. -/
set_option linter.unusedVariables false
set_option linter.unusedSimpArgs false
namespace Go.Proofs.Ytnamnpbkiibadaa.Cl
open Go
/-! ### reading, by place -/
def sd (t : Tile) : Nat → Int | 0 => t.1 | 1 => t.2.1 | 2 => t.2.2.1 | _ => t.2.2.2
def tat (ts : List Tile) (n : Int) : Tile := ts.getD n.toNat (0, 0, 0, 0)
theorem tat_at {ts : List Tile} {n : Int} {t : Tile} (h : ts[n.toNat]? = some t) : tat ts n = t := by unfold tat; rw [List.getD_eq_getElem?_getD, h]; rfl
theorem at_tat {ts : List Tile} {n : Int} (h1 : n.toNat < ts.length) : ts[n.toNat]? = some (tat ts n) := by unfold tat; rw [List.getD_eq_getElem?_getD, List.getElem?_eq_getElem h1]; rfl
theorem tc_sd (t : Tile) {k : Nat} (hk : k < 4) : (tc t)[k]? = some (i64 (sd t k)) := by
  match k with
  | 0 => rfl
  | 1 => rfl
  | 2 => rfl
  | 3 => rfl
theorem Rd.sideG {h : H} {s : Sl} {ts : List Tile} (r : Rd h s 4 (tcs ts)) {n k : Int} (h0 : 0 ≤ n) (h1 : n < ts.length) (k0 : 0 ≤ k) (k1 : k < 4) {K : Int → Prop} (hk : K (sd (tat ts n) k.toNat)) : ixS s 4 n fun p => ixA p 4 1 k fun q => Cl.ldI .i64 q h K := by
  have hl := r.tlen
  refine r.ix h0 (by omega) fun p po pr => ⟨⟨k0, by omega⟩, po, _, ?_, hk⟩
  have := cell_of_range pr (i := k.toNat) (by omega)
  rw [Pt.add, Nat.mul_one, this, tcs_at ts n.toNat _ (at_tat (by omega)), tc_sd _ (by omega)]
theorem Rd.tileG {h : H} {s : Sl} {ts : List Tile} (r : Rd h s 4 (tcs ts)) {n : Int} (h0 : 0 ≤ n) (h1 : n < ts.length) {K : List AVal → Prop} (hk : K (tc (tat ts n))) : ixS s 4 n fun p => Cl.ldA p 4 h K :=
  r.ldT h0 h1 fun t ht => by rw [← tat_at ht]; exact hk
theorem Rd.ldG {h : H} {s : Sl} {l : List Int} (r : Rd h s 1 (ic l)) {i : Int} (h0 : 0 ≤ i) (h1 : i < l.length) {K : Int → Prop} (hk : K (l.getD i.toNat 0)) : ixS s 1 i fun p => Cl.ldI .i64 p h K :=
  r.ldI h0 h1 fun x hx => by rw [List.getD_eq_getElem?_getD, hx] at hk; exact hk
theorem Rd.ixC {h : H} {s : Sl} {l : List Int} (r : Rd h s 1 (ic l)) {i : Int} (h0 : 0 ≤ i) (h1 : i < l.length) {K : Pt → Prop} (hk : ∀ p : Pt, cell h p = some (i64 (l.getD i.toNat 0)) → K p) : ixS s 1 i K := by
  have hlen := r.ilen
  obtain hl | ⟨a, b, c⟩ := r.at_
  · omega
  · refine ⟨⟨h0, by omega⟩, a, b, hk _ ?_⟩
    have := cell_of_range c (i := i.toNat) (by omega)
    rw [Nat.mul_one, this]
    unfold ic
    rw [List.getElem?_map, List.getElem?_eq_getElem (by omega), List.getD_eq_getElem?_getD, List.getElem?_eq_getElem (by omega)]
    rfl
theorem Rd.ixT {h : H} {s : Sl} {ts : List Tile} (r : Rd h s 4 (tcs ts)) {n : Int} (h0 : 0 ≤ n) (h1 : n < ts.length) {K : Pt → Prop} (hk : ∀ p : Pt, p.o.isSome = true → range h p.o p.n p.off 4 = some (tc (tat ts n)) → K p) : ixS s 4 n K := by
  have hl := r.tlen
  refine r.ix h0 (by omega) fun p po pr => hk p po ?_
  rw [pr, tcs_at ts n.toNat _ (at_tat (by omega))]
theorem Ext.rangeE {h h' : H} (x : Ext h h') {o n off k cs} (e : Cl.range h o n off k = some cs) : Cl.range h' o n off k = Cl.range h o n off k := by rw [x.range e, e]
theorem Obj.sdI {h : H} {o : Nat} {t : Tile} (x : Obj h o (tc t)) {k : Int} (k0 : 0 ≤ k) (k1 : k < 4) {K : Int → Prop} (hk : K (sd t k.toNat)) : ixA ⟨some o, 4, 0⟩ 4 1 k fun p => Cl.ldI .i64 p h K :=
  ixA_ldI x rfl k0 (by omega) (tc_sd t (by omega)) hk
def rw_ (rows : List (List Int)) (y : Nat) : List Int := rows.getD y []
def G (rows : List (List Int)) (y x : Nat) : Int := (rw_ rows y).getD x 0
theorem rw_at {rows : List (List Int)} {y : Nat} {l : List Int} (h : rows[y]? = some l) : rw_ rows y = l := by unfold rw_; rw [List.getD_eq_getElem?_getD, h]; rfl
theorem at_rw {rows : List (List Int)} {y : Nat} (h : y < rows.length) : rows[y]? = some (rw_ rows y) := by unfold rw_; rw [List.getD_eq_getElem?_getD, List.getElem?_eq_getElem h]; rfl
theorem RdSS.ldG {h s ls} (r : RdSS h s ls) {i : Int} (h0 : 0 ≤ i) (h1 : i < ls.length) {K : Sl → Prop} (hk : ∀ v, Rd h v 1 (ic (rw_ ls i.toNat)) → v.len = (rw_ ls i.toNat).length → K v) : ixS s 1 i fun p => Cl.ldS p h K :=
  r.ld h0 h1 fun v l hv rv lv => by rw [← rw_at hv] at rv lv; exact hk v rv lv
theorem RdSS.ixC {h s ls} (r : RdSS h s ls) {i : Int} (h0 : 0 ≤ i) (h1 : i < ls.length) {K : Pt → Prop} (hk : ∀ (p : Pt) v, cell h p = some (.sl v) → Rd h v 1 (ic (rw_ ls i.toNat)) → v.len = (rw_ ls i.toNat).length → K p) : ixS s 1 i K := by
  have hlen := r.len
  obtain ⟨vs, e1, e2, e3⟩ := r
  have hv : vs[i.toNat]? = some vs[i.toNat] := List.getElem?_eq_getElem (by omega)
  have hr := e3 _ _ _ hv (at_rw (by omega))
  obtain hl | ⟨a, b, c⟩ := e2.at_
  · omega
  · refine ⟨⟨h0, by omega⟩, a, b, hk _ _ ?_ hr hr.ilen⟩
    have := cell_of_range c (i := i.toNat) (by omega)
    rw [Nat.mul_one, this, List.getElem?_map, hv]
    rfl
theorem within_k {a b c : Int} {h : H} {K : Bool → H → Prop} (hk : K (decide (b ≤ a ∧ a ≤ c)) h) : callB SP i_impl_within [i64 a, i64 b, i64 c] h K :=
  (within_c a b c h).to (by rintro _ _ ⟨rfl, rfl⟩; exact hk)
theorem l01In_k {a b c : Int} {h : H} {K : Bool → H → Prop} (hk : K (decide (b ≤ a ∧ a ≤ c)) h) : callB SP i_spec_l01In [i64 a, i64 b, i64 c] h K :=
  (l01In_c a b c h).to (by rintro _ _ ⟨rfl, rfl⟩; exact hk)
/-! ### sets -/
def Qset (c : Int) (ts : List Tile) (j : Nat) : Prop := tileok c (tat ts j) = true ∧ (0 < j → cmpT (tat ts ((j : Int) - 1)) (tat ts j) < 0)
def setOK (c : Int) (ts : List Tile) : Prop := (1 ≤ c ∧ c ≤ 6) ∧ ts.length ≤ 16 ∧ ∀ j, j < ts.length → Qset c ts j
theorem l01Is_c {h0 : H} {c : Int} {s : Sl} {ts : List Tile} (r : Rd h0 s 4 (tcs ts)) : callB SP i_spec_l01Is [.agg (SetC c s)] h0 fun b h' => (b = true ↔ setOK c ts) ∧ Ext h0 h' := by
  have hl := r.tlen
  apply spec_l01Is_call
  unfold spec_l01Is_main
  refine newK_obj fun h1 o1 x1 n1 => ?_
  refine isPt_in (o1.ldI rfl rfl ?_)
  refine l01In_k ?_
  refine bif_not (fun hc => ⟨_, rfl, ?_, x1⟩) (fun hc => ?_)
  · simp only [Bool.false_eq_true, false_iff]
    intro hs
    simp at hc
    have := hs.1; omega
  have hc' : 1 ≤ c ∧ c ≤ 6 := by simpa using hc
  refine isPt_in (o1.ldS rfl rfl ?_)
  refine bif_dec (fun hq => ⟨_, rfl, ?_, x1⟩) (fun hq => ?_)
  · simp only [Bool.false_eq_true, false_iff]
    intro hs
    have := hs.2.1; omega
  refine spec_l01Is_rule0 _ _ _ (fun i h => 0 ≤ i ∧ i ≤ ts.length ∧ Ext h1 h ∧ ∀ j, j < i.toNat → Qset c ts j) (fun i _ => (ts.length - i).toNat) ?_ _ ⟨by omega, by omega, Ext.refl _, fun j hj => by omega⟩
  rintro X i h ⟨i0, i1, x, hj⟩ hX
  unfold spec_l01Is_b0 spec_l01Is_C0
  have o := o1.ext x
  refine isPt_in (o.ldS rfl rfl ?_)
  have no : ∀ {h'}, Ext h h' → ¬ Qset c ts i.toNat → i < ts.length → ∃ b, AVal.bool false = .bool b ∧ (b = true ↔ setOK c ts) ∧ Ext h0 h' := fun {h'} x' hn hi =>
    ⟨_, rfl, by simp only [Bool.false_eq_true, false_iff]; exact fun hs => hn (hs.2.2 _ (by omega)), (x1.trans x).trans x'⟩
  refine bif_dec (fun hi => ?_) (fun hi => ?_)
  · refine isPt_in (o.ldI rfl rfl ?_)
    refine isPt_in (o.ldS rfl rfl ?_)
    have hn : ((i.toNat : Nat) : Int) = i := by omega
    refine (r.ext (x1.trans x)).tileG i0 (by omega) ?_
    refine (l01Tile_c c ⟨by omega, by omega⟩ (tat ts i) h).to ?_
    rintro _ h2 ⟨rfl, x2⟩
    refine bif_not (fun hq => no x2 (fun q => ?_) (by omega)) (fun hq => ?_)
    · have := q.1; rw [hn, hq] at this; cases this
    refine bif_dec (fun hp => ?_) (fun hp => ?_)
    · have o2 := o.ext x2
      have r2 := r.ext ((x1.trans x).trans x2)
      refine isPt_in (o2.ldS rfl rfl ?_)
      rw [w64_of (by omega) (by omega)]
      refine r2.tileG (by omega) (by omega) ?_
      refine isPt_in (o2.ldS rfl rfl ?_)
      refine r2.tileG i0 (by omega) ?_
      refine (l01Before_c _ _ _).to ?_
      rintro _ h3 ⟨rfl, x3⟩
      refine bif_not (fun hb => no (x2.trans x3) (fun q => ?_) (by omega)) (fun hb => ?_)
      · have := q.2 (by omega); rw [hn] at this; simp at hb; omega
      · rw [w64_of (by omega) (by omega)]
        refine hX _ _ ⟨by omega, by omega, (x.trans x2).trans x3, fun j hjj => ?_⟩ (by omega)
        by_cases e : j = i.toNat
        · subst e; refine ⟨by rw [hn]; exact hq, fun _ => ?_⟩; rw [hn]; simpa using hb
        · exact hj j (by omega)
    · rw [w64_of (by omega) (by omega)]
      refine hX _ _ ⟨by omega, by omega, x.trans x2, fun j hjj => ?_⟩ (by omega)
      by_cases e : j = i.toNat
      · subst e; exact ⟨by rw [hn]; exact hq, fun h => by omega⟩
      · exact hj j (by omega)
  · exact ⟨_, rfl, ⟨fun _ => ⟨hc', by omega, fun j hjj => hj j (by omega)⟩, fun _ => rfl⟩, x1.trans x⟩
theorem IsSet_c {h0 : H} {c : Int} {s : Sl} {ts : List Tile} (r : Rd h0 s 4 (tcs ts)) (hbig : ts.length < 4000000000000000000) : callB SP i_impl_IsSet [.agg (SetC c s)] h0 fun b h' => (b = true ↔ setOK c ts) ∧ Ext h0 h' := by
  have hl := r.tlen
  apply impl_IsSet_call
  unfold impl_IsSet_main
  refine newK_obj fun h1 o1 x1 n1 => ?_
  refine isPt_in (o1.ldS rfl rfl ?_)
  have hw : 1 ≤ c ∧ c ≤ 6 → w64 (c - 1) + 1 = c := fun hc => by rw [w64_of (by omega) (by omega)]; omega
  refine impl_IsSet_rule0 _ _ _ _ _ (fun i h => 0 ≤ i ∧ i ≤ ts.length ∧ Ext h1 h ∧ (1 ≤ c ∧ c ≤ 6 → ∀ j, j < i.toNat → Qset c ts j)) (fun i _ => (ts.length - i).toNat) ?_ _ ⟨by omega, by omega, Ext.refl _, fun _ j hj => by omega⟩
  rintro X i h ⟨i0, i1, x, hj⟩ hX
  unfold impl_IsSet_b0 impl_IsSet_C0
  have o := o1.ext x
  have no : ∀ {h'}, Ext h h' → (1 ≤ c ∧ c ≤ 6 → ¬ Qset c ts i.toNat) → i < ts.length → ∃ b, AVal.bool false = .bool b ∧ (b = true ↔ setOK c ts) ∧ Ext h0 h' := fun {h'} x' hn hi =>
    ⟨_, rfl, by simp only [Bool.false_eq_true, false_iff]; exact fun hs => hn hs.1 (hs.2.2 _ (by omega)), (x1.trans x).trans x'⟩
  refine bif_dec (fun hi => ?_) (fun hi => ?_)
  · have hn : ((i.toNat : Nat) : Int) = i := by omega
    refine (r.ext (x1.trans x)).tileG i0 (by omega) ?_
    refine newO_obj fun h2 o2 x2 n2 => ?_
    refine o2.stA fun h3 o3 b3 n3 => ?_
    have x3 : Ext h h3 := x2.but_ b3 (some_le (Nat.le_refl _))
    refine o3.ldA rfl ?_
    refine isPt_in ((o.ext x3).ldI rfl rfl ?_)
    refine (isTile_w (tat ts i) c h3).to ?_
    rintro _ h4 ⟨rfl, x4⟩
    refine bif_not (fun hq => no (x3.trans x4) (fun hc q => ?_) (by omega)) (fun hq => ?_)
    · have := q.1; rw [hn] at this; rw [hw hc, this] at hq; cases hq
    refine bif_dec (fun hp => ?_) (fun hp => ?_)
    · have o4 := o.ext (x3.trans x4)
      have r4 := r.ext ((x1.trans x).trans (x3.trans x4))
      refine isPt_in (o4.ldS rfl rfl ?_)
      rw [w64_of (n := i - 1) (by omega) (by omega)]
      refine r4.tileG (by omega) (by omega) ?_
      refine (o3.ext x4).ldA rfl ?_
      refine (compare_c _ _ _).to ?_
      rintro _ h5 ⟨rfl, x5⟩
      refine bif_dec (fun hb => no ((x3.trans x4).trans x5) (fun hc q => ?_) (by omega)) (fun hb => ?_)
      · have := q.2 (by omega); rw [hn] at this; omega
      · rw [w64_of (n := i + 1) (by omega) (by omega)]
        refine hX _ _ ⟨by omega, by omega, x.trans ((x3.trans x4).trans x5), fun hc j hjj => ?_⟩ (by omega)
        by_cases e : j = i.toNat
        · subst e; refine ⟨by rw [hn, ← hw hc]; exact hq, fun _ => ?_⟩; rw [hn]; omega
        · exact hj hc j (by omega)
    · rw [w64_of (n := i + 1) (by omega) (by omega)]
      refine hX _ _ ⟨by omega, by omega, x.trans (x3.trans x4), fun hc j hjj => ?_⟩ (by omega)
      by_cases e : j = i.toNat
      · subst e; exact ⟨by rw [hn, ← hw hc]; exact hq, fun h => by omega⟩
      · exact hj hc j (by omega)
  · refine isPt_in (o.ldI rfl rfl ?_)
    refine within_k ?_
    refine bif_dec (fun hc => ?_) (fun hc => ⟨_, rfl, ?_, x1.trans x⟩)
    · refine isPt_in (o.ldS rfl rfl ⟨_, rfl, ?_, x1.trans x⟩)
      rw [decide_eq_true_eq]
      exact ⟨fun hs => ⟨hc, by omega, fun j hjj => hj hc j (by omega)⟩, fun hs => by have := hs.2.1; omega⟩
    · simp only [Bool.false_eq_true, false_iff]
      exact fun hs => hc hs.1
/-! ### codes -/
open Classical in
noncomputable def bP (A : Prop) : Bool := decide A
theorem bP_iff (A : Prop) : bP A = true ↔ A := by unfold bP; simp
theorem bP_of {b : Bool} {A : Prop} (h : b = true ↔ A) : b = bP A := by rw [Bool.eq_iff_iff, h, bP_iff]
theorem bP_yes {A : Prop} (h : A) : bP A = true := (bP_iff A).2 h
theorem bP_no {A : Prop} (h : ¬ A) : bP A = false := by
  cases hb : bP A with
  | false => rfl
  | true => exact absurd ((bP_iff A).1 hb) h
open Classical in
noncomputable def codeOf (A B : Prop) : Int := if A then (if B then 0 else 2) else 1
theorem codeOf_no {A B : Prop} (h : ¬ A) : codeOf A B = 1 := by unfold codeOf; rw [if_neg h]
theorem codeOf_range {A B : Prop} (h : A) (h2 : ¬ B) : codeOf A B = 2 := by unfold codeOf; rw [if_pos h, if_neg h2]
theorem codeOf_yes {A B : Prop} (h : A) (h2 : B) : codeOf A B = 0 := by unfold codeOf; rw [if_pos h, if_pos h2]
theorem codeOf_zero {A B : Prop} (h : codeOf A B = 0) : A ∧ B := by
  unfold codeOf at h
  split at h
  · split at h
    · exact ⟨by assumption, by assumption⟩
    · cases h
  · cases h
theorem codeOf_cond {A B : Prop} (h : codeOf A B ≠ 0) : ¬ (A ∧ B) := fun ⟨a, b⟩ => h (codeOf_yes a b)
theorem setCode_c {h0 : H} {c : Int} {s : Sl} {ts : List Tile} (r : Rd h0 s 4 (tcs ts)) (hbig : ts.length < 4000000000000000000) (g : Nat) (cap : List AVal) (Q : Prop)
    (hg : setOK c ts → ∀ h, Ext h0 h → callB SP g cap h fun b h' => (b = true ↔ Q) ∧ Ext h h') : callI SP .i64 i_impl_setCode [.agg (SetC c s), .func g cap] h0 fun n h' => n = codeOf (setOK c ts) Q ∧ Ext h0 h' := by
  apply impl_setCode_call
  unfold impl_setCode_main
  refine newK_obj fun h1 o1 x1 n1 => ?_
  refine o1.ldA rfl ?_
  refine (IsSet_c (r.ext x1) hbig).to ?_
  rintro b h2 ⟨hb, x2⟩
  refine bif_not (fun hq => ⟨_, rfl, (codeOf_no fun hs => ?_).symm, x1.trans x2⟩) (fun hq => ?_)
  · rw [hb.2 hs] at hq; cases hq
  have hs := hb.1 hq
  refine via_func ?_
  rw [List.nil_append]
  refine (hg hs h2 (x1.trans x2)).to ?_
  rintro b h3 ⟨hb3, x3⟩
  refine bif_not (fun hq => ⟨_, rfl, (codeOf_range hs fun q => ?_).symm, (x1.trans x2).trans x3⟩) (fun hq => ⟨_, rfl, (codeOf_yes hs (hb3.1 hq)).symm, (x1.trans x2).trans x3⟩)
  rw [hb3.2 q] at hq; cases hq
/-! ### rows of numbers -/
def Tabl (rows : List (List Int)) (most : Int) : Prop := (1 ≤ rows.length ∧ (rows.length : Int) ≤ most) ∧ ∀ y, y < rows.length → (rw_ rows y).length = (rw_ rows 0).length ∧ 1 ≤ (rw_ rows y).length ∧ ((rw_ rows y).length : Int) ≤ most
def Nums (n : Nat) (rows : List (List Int)) : Prop := (∀ y x, y < rows.length → x < (rw_ rows y).length → 0 ≤ G rows y x ∧ G rows y x < n) ∧ Tabl rows 8
end Go.Proofs.Ytnamnpbkiibadaa.Cl

/- The reference's sorting and searching. No claim is stated here. -/
set_option linter.unusedVariables false
set_option linter.unusedSimpArgs false
namespace Go.Proofs.Ytnamnpbkiibadaa.Cl
open Go
theorem pushI4 {h : H} {s : Sl} {l : List Int} {x : Int} (r : Ow h s 1 (ic l)) (hl : (l.length : Int) + 1 ≤ lim) {K : Sl → H → Prop}
    (hk : ∀ s' h', Ow h' s' 1 (ic (l ++ [x])) → But s.o h h' → (∀ o, s.o = some o → s'.o = some o) → K s' h') : newS 1 1 [.int .i64 x] h fun t h1 => app s t 1 h1 K := by
  refine newS_ow (by rfl) fun t h1 ot tl to e1 => ?_
  have e1' : Ext h h1 := by rw [e1]; exact Ext.app _ _
  have hsl := r.rd.ilen
  exact app_ow (by omega) (r.ext e1') ot.rd (by rw [tl, hsl]; exact_mod_cast hl) fun s' h' o' ln b k1 k2 => hk s' h' (by rw [ic_app]; exact o') ((e1'.but _).trans b) k1
/-! ### plain -/
abbrev Asc (l : List Int) : Prop := l.Pairwise (· < ·)
theorem asc_ext : ∀ {l m : List Int}, Asc l → Asc m → (∀ x, x ∈ l ↔ x ∈ m) → l = m
  | [], [], _, _, _ => rfl
  | [], b :: m, _, _, h => absurd ((h b).2 (by simp)) (by simp)
  | a :: l, [], _, _, h => absurd ((h a).1 (by simp)) (by simp)
  | a :: l, b :: m, ha, hb, h => by
    have h1 := List.pairwise_cons.1 ha
    have h2 := List.pairwise_cons.1 hb
    have e : a = b := by
      rcases List.mem_cons.1 ((h a).1 (by simp)) with e | e
      · exact e
      · rcases List.mem_cons.1 ((h b).2 (by simp)) with e2 | e2
        · exact e2.symm
        · have := h2.1 a e
          have := h1.1 b e2
          omega
    subst e
    rw [asc_ext h1.2 h2.2 fun x => ?_]
    have hx := h x
    constructor
    · intro hm
      rcases List.mem_cons.1 (hx.1 (by simp [hm])) with e | e
      · have := h1.1 x hm; omega
      · exact e
    · intro hm
      rcases List.mem_cons.1 (hx.2 (by simp [hm])) with e | e
      · have := h2.1 x hm; omega
      · exact e
theorem asc_at {l : List Int} (h : Asc l) {i j : Nat} (hij : i < j) (hj : j < l.length) : l[i] < l[j] := List.pairwise_iff_getElem.1 h i j (by omega) hj hij
theorem asc_inj {l : List Int} (h : Asc l) {i j : Nat} {x : Int} (hi : l[i]? = some x) (hj : l[j]? = some x) : i = j := by
  obtain ⟨a, rfl⟩ := List.getElem?_eq_some_iff.1 hi
  obtain ⟨b, e⟩ := List.getElem?_eq_some_iff.1 hj
  rcases Nat.lt_trichotomy i j with q | q | q
  · have := asc_at h q b; omega
  · exact q
  · have := asc_at h q a; omega
theorem drop_at {α : Type} {l : List α} {i : Nat} (h : i < l.length) : l.drop i = l[i] :: l.drop (i + 1) := List.drop_eq_getElem_cons h
/-! ### views -/
theorem cut_rd {h : H} {s : Sl} {z : Nat} {cs : List AVal} (r : Rd h s z cs) (hs : 0 < s.len) {lo hi : Int} (h0 : 0 ≤ lo) (h1 : lo ≤ hi) (h2 : hi ≤ s.len) {K : Sl → Prop} (hk : ∀ s', Rd h s' z ((cs.drop (lo.toNat * z)).take ((hi - lo).toNat * z)) → s'.o = s.o → s'.len = (hi - lo).toNat → K s') : cut s z lo hi h K := by
  obtain a | ⟨a, b, e⟩ := r.at_
  · omega
  · obtain ⟨o, xs, ho, hc, hl, rfl⟩ := range_some e
    have hn : xs.length = s.n := by
      unfold cells at hc
      split at hc
      · split at hc
        · next q => rw [← Option.some.inj hc]; exact q
        · cases hc
      · split at hc
        · next q => rw [← Option.some.inj hc]; exact q
        · cases hc
      · cases hc
    have hm : hi.toNat * z ≤ s.len * z := Nat.mul_le_mul_right _ (by omega)
    refine ⟨⟨h0, h1⟩, ?_, (fun q => by rw [ho] at q; cases q), fun _ => ⟨a, by omega⟩, hk _ ⟨?_, ?_⟩ rfl rfl⟩
    · unfold okS
      rw [ho]
      simp only
      rw [hc]; rfl
    · have hlm : (hi - lo).toNat * z + lo.toNat * z = hi.toNat * z := by rw [← Nat.add_mul]; congr 1; omega
      show _ = (hi - lo).toNat * z
      simp only [List.length_take, List.length_drop]
      omega
    · by_cases q : (hi - lo).toNat = 0
      · exact .inl q
      · refine .inr ⟨rfl, b, ?_⟩
        have hlm : (hi - lo).toNat * z + lo.toNat * z = hi.toNat * z := by rw [← Nat.add_mul]; congr 1; omega
        have hh : lo.toNat * z + (hi - lo).toNat * z ≤ s.len * z := by omega
        exact range_sub e hh
theorem ok_rd {h : H} {s : Sl} {z : Nat} {cs : List AVal} (r : Rd h s z cs) (hs : 0 < s.len) : okS h s := by
  obtain a | ⟨a, b, e⟩ := r.at_
  · omega
  · obtain ⟨o, xs, ho, hc, hl, rfl⟩ := range_some e
    unfold okS
    rw [ho]
    simp only
    rw [hc]; rfl
theorem rd_lt {h : H} {s : Sl} {z : Nat} {cs : List AVal} (r : Rd h s z cs) (hs : 0 < s.len) : ∀ o, s.o = some o → o < h.length := fun o e => by
  obtain a | ⟨a, b, e2⟩ := r.at_
  · omega
  · obtain ⟨o', xs, ho, hc, hl, rfl⟩ := range_some e2
    rw [ho] at e
    cases e
    exact cells_lt hc
theorem ic_drop (l : List Int) (k : Nat) : (ic l).drop k = ic (l.drop k) := by simp [ic]
theorem ic_take (l : List Int) (k : Nat) : (ic l).take k = ic (l.take k) := by simp [ic]
/-- A step of the merge. -/
structure Mrg (A B out : List Int) (i k : Nat) : Prop where
  i1 : i ≤ A.length
  k1 : k ≤ B.length
  asc : Asc out
  lt : ∀ x ∈ out, (∀ y ∈ A.drop i, x < y) ∧ ∀ y ∈ B.drop k, x < y
  mem : ∀ x, (x ∈ out ∨ x ∈ A.drop i ∨ x ∈ B.drop k) ↔ (x ∈ A ∨ x ∈ B)
  len : out.length ≤ i + k
theorem asc_push {out : List Int} (h : Asc out) {x : Int} (hx : ∀ y ∈ out, y < x) : Asc (out ++ [x]) :=
  List.pairwise_append.2 ⟨h, List.pairwise_singleton _ _, fun a ha b hb => by rw [List.mem_singleton.1 hb]; exact hx a ha⟩
theorem Mrg.symm {A B out : List Int} {i k : Nat} (m : Mrg A B out i k) : Mrg B A out k i :=
  ⟨m.k1, m.i1, m.asc, fun x hx => ⟨(m.lt x hx).2, (m.lt x hx).1⟩, fun x => by have := m.mem x; rw [or_comm (a := x ∈ B), ← this]; rw [or_comm (a := x ∈ B.drop k)], by have := m.len; omega⟩
theorem Mrg.left {A B out : List Int} {i k : Nat} (m : Mrg A B out i k) (ha : Asc A) (hi : i < A.length) (hlt : ∀ y ∈ B.drop k, A[i] < y) : Mrg A B (out ++ [A[i]]) (i + 1) k := by
  have hd := drop_at hi
  have hsub : Asc (A.drop i) := List.Pairwise.sublist (List.drop_sublist _ _) ha
  rw [hd] at hsub
  have hp := (List.pairwise_cons.1 hsub).1
  refine ⟨hi, m.k1, asc_push m.asc fun y hy => (m.lt y hy).1 _ (by rw [hd]; exact List.mem_cons_self), fun x hx => ?_, fun x => ?_, by have := m.len; simp; omega⟩
  · rcases List.mem_append.1 hx with h | h
    · exact ⟨fun y hy => (m.lt x h).1 y (by rw [hd]; exact List.mem_cons_of_mem _ hy), (m.lt x h).2⟩
    · rw [List.mem_singleton.1 h]; exact ⟨hp, hlt⟩
  · rw [← m.mem x, hd]
    simp only [List.mem_append, List.mem_cons, List.mem_singleton, List.not_mem_nil, or_false]
    constructor
    · rintro ((h | h) | h | h)
      · exact .inl h
      · exact .inr (.inl (.inl h))
      · exact .inr (.inl (.inr h))
      · exact .inr (.inr h)
    · rintro (h | (h | h) | h)
      · exact .inl (.inl h)
      · exact .inl (.inr h)
      · exact .inr (.inl h)
      · exact .inr (.inr h)
theorem Mrg.right {A B out : List Int} {i k : Nat} (m : Mrg A B out i k) (hb : Asc B) (hk : k < B.length) (hlt : ∀ y ∈ A.drop i, B[k] < y) : Mrg A B (out ++ [B[k]]) i (k + 1) := (m.symm.left hb hk hlt).symm
theorem Mrg.skip {A B out : List Int} {i k : Nat} (m : Mrg A B out i k) (hi : i < A.length) (hk : k < B.length) (e : A[i] = B[k]) : Mrg A B out (i + 1) k := by
  have hd := drop_at hi
  have hd2 := drop_at hk
  refine ⟨hi, m.k1, m.asc, fun x hx => ⟨fun y hy => (m.lt x hx).1 y (by rw [hd]; exact List.mem_cons_of_mem _ hy), (m.lt x hx).2⟩, fun x => ?_, by have := m.len; omega⟩
  rw [← m.mem x, hd, hd2]
  simp only [List.mem_cons]
  constructor
  · rintro (h | h | h)
    · exact .inl h
    · exact .inr (.inl (.inr h))
    · exact .inr (.inr h)
  · rintro (h | (h | h) | h)
    · exact .inl h
    · exact .inr (.inr (.inl (by rw [h, e])))
    · exact .inr (.inl h)
    · exact .inr (.inr h)
theorem sortedD_c : ∀ (n : Nat) (l : List Int) (u : Sl) (h : H), l.length ≤ n → l.length ≤ 1000000 → Rd h u 1 (ic l) →
    callS SP i_spec_l04Sorted [.sl u] h fun v h' => ∃ l', Rd h' v 1 (ic l') ∧ Asc l' ∧ (∀ x, x ∈ l' ↔ x ∈ l) ∧ l'.length ≤ l.length ∧ (∀ o, v.o = some o → u.o = some o ∨ h.length ≤ o) ∧ Ext h h' := by
  intro n
  induction n with
  | zero =>
    intro l u h hl _ r
    have hul := r.ilen
    have : l = [] := List.length_eq_zero_iff.1 (by omega)
    subst this
    apply spec_l04Sorted_call
    unfold spec_l04Sorted_main
    refine bif_dec (fun _ => ⟨_, rfl, [], r, List.Pairwise.nil, (fun x => Iff.rfl), Nat.le_refl _, (fun o e => .inl e), Ext.refl _⟩) (fun f => absurd (by rw [hul]; decide) f)
  | succ n ih =>
    intro l u h hl hb r
    have hul := r.ilen
    apply spec_l04Sorted_call
    unfold spec_l04Sorted_main
    refine bif_dec (fun f => ?_) (fun f => ?_)
    · refine ⟨_, rfl, l, r, ?_, (fun x => Iff.rfl), Nat.le_refl _, (fun o e => .inl e), Ext.refl _⟩
      match l, hul with
      | [], _ => exact List.Pairwise.nil
      | [a], _ => exact List.pairwise_singleton _ _
      | a :: b :: l, hul => rw [hul] at f; simp at f; omega
    refine ⟨by decide, ?_⟩
    have hpos : 0 < u.len := by omega
    have hult := rd_lt r hpos
    refine slotK_in fun g0 x0 l0 => ?_
    have hdiv : Int.tdiv (u.len : Int) 2 = ((u.len / 2 : Nat) : Int) := rfl
    rw [hdiv, w64_of (by omega) (by omega)]
    have r0 := r.ext x0
    refine cut_rd r0 hpos (by omega) (by omega) (by omega) fun s1 r1 o1 l1 => ?_
    rw [Nat.mul_one, Nat.mul_one, ic_drop, ic_take] at r1
    refine (ih _ s1 g0 (by simp; omega) (by simp; omega) r1).to ?_
    rintro s3 g2 ⟨A, rA, aA, mA, lA, oA, x2⟩
    have r2 := r0.ext x2
    refine cut_rd r2 hpos (by omega) (by omega) (by omega) fun s4 r4 o4 l4 => ?_
    rw [Nat.mul_one, Nat.mul_one, ic_drop, ic_take] at r4
    refine ⟨ok_rd r0 hpos, ?_⟩
    refine (ih _ s4 g2 (by simp; omega) (by simp; omega) r4).to ?_
    rintro s6 g5 ⟨B, rB, aB, mB, lB, oB, x5⟩
    have l2 := x2.len
    have l5 := x5.len
    refine newSat_ow (by omega) (by rfl) fun s7 g8 o7 l7 n7 b7 t7 => ?_
    have x8 : Ext h g8 := ((x0.trans x2).trans x5).but_ b7 (some_le (by omega))
    have hA7 : s3.o ≠ some (h.length + 8) := fun e => by
      rcases oA _ e with q | q
      · rw [o1] at q; have := hult _ q; omega
      · omega
    have hB7 : s6.o ≠ some (h.length + 8) := fun e => by
      rcases oB _ e with q | q
      · rw [o4] at q; have := hult _ q; omega
      · omega
    have rA8 := (rA.ext x5).but b7 (.inl fun e => hA7 e.symm)
    have rB8 := rB.but b7 (.inl fun e => hB7 e.symm)
    refine ⟨ok_rd (r2.ext x5) hpos, ok_rd (r2.ext x5) hpos, ok_rd (r.ext x8) hpos, ok_rd (r.ext x8) hpos, ?_⟩
    have hAl := rA.ilen
    have hBl := rB.ilen
    simp only [List.length_take, List.length_drop] at lA lB
    have hmem : ∀ x, (x ∈ A ∨ x ∈ B) ↔ x ∈ l := fun x => by
      rw [mA, mB]
      simp only [Int.toNat_natCast, Int.toNat_zero, List.drop_zero]
      have e : l = l.take (u.len / 2) ++ l.drop (u.len / 2) := (List.take_append_drop _ _).symm
      have e2 : (l.drop (u.len / 2)).take (((u.len : Int) - ((u.len / 2 : Nat) : Int)).toNat) = l.drop (u.len / 2) := List.take_of_length_le (by simp; omega)
      have e3 : ((((u.len / 2 : Nat) : Int)) - 0).toNat = u.len / 2 := by omega
      rw [e2, e3]
      conv => rhs; rw [e]
      rw [List.mem_append]
    refine spec_l04Sorted_rule0 _ _ _ _ (fun s7 i k g => ∃ (i' k' : Nat) (out : List Int), i = i' ∧ k = k' ∧ Mrg A B out i' k' ∧ Ow g s7 1 (ic out) ∧ s7.o = some (h.length + 8) ∧ Rd g s3 1 (ic A) ∧ Rd g s6 1 (ic B) ∧ Ext h g) (fun _ i k _ => (A.length + B.length - i - k).toNat) ?_ _ _ _ ⟨0, 0, [], rfl, rfl, ⟨Nat.zero_le _, Nat.zero_le _, List.Pairwise.nil, fun x hx => by simp at hx, fun x => by simp, by simp⟩, o7, n7, rA8, rB8, x8⟩
    rintro X s7 _ _ g ⟨i, k, out, rfl, rfl, m, o7, n7, rA, rB, x⟩ hX
    unfold spec_l04Sorted_b0 spec_l04Sorted_C0
    have i1 := m.i1
    have k1 := m.k1
    have ml := m.len
    have push : ∀ (x : Int) (i' k' : Nat), Mrg A B (out ++ [x]) i' k' → i' + k' = i + k + 1 → newS 1 1 [.int .i64 x] g fun t g1 => Cl.app s7 t 1 g1 fun s g2 => X (spec_l04Sorted_e0 s3 s6 s (i' : Int) (k' : Int)) g2 := fun x i' k' m' hik => by
      refine pushI4 o7 (by unfold lim; omega) fun s8 g6 o8 b8 k8 => ?_
      rw [n7] at b8
      refine hX _ _ _ _ ⟨i', k', _, rfl, rfl, m', o8, k8 _ n7, rA.but b8 (.inl fun e => hA7 e.symm), rB.but b8 (.inl fun e => hB7 e.symm), ‹Ext h g›.but_ b8 (some_le (by omega))⟩ (by have := m'.i1; have := m'.k1; omega)
    have ei : w64 ((i : Int) + 1) = ((i + 1 : Nat) : Int) := by rw [w64_of (by omega) (by omega)]; push_cast; rfl
    have ek : w64 ((k : Int) + 1) = ((k + 1 : Nat) : Int) := by rw [w64_of (by omega) (by omega)]; push_cast; rfl
    rw [ei, ek]
    have gA : ∀ (hi : i < A.length) {K : Int → Prop}, K A[i] → ixS s3 1 (i : Int) fun p => Cl.ldI .i64 p g K := fun hi {K} hk => rA.ldG (by omega) (by omega) (by rw [Int.toNat_natCast, List.getD_eq_getElem?_getD, List.getElem?_eq_getElem hi]; exact hk)
    have gB : ∀ (hk : k < B.length) {K : Int → Prop}, K B[k] → ixS s6 1 (k : Int) fun p => Cl.ldI .i64 p g K := fun hk {K} hkk => rB.ldG (by omega) (by omega) (by rw [Int.toNat_natCast, List.getD_eq_getElem?_getD, List.getElem?_eq_getElem hk]; exact hkk)
    by_cases hi : i < A.length
    · have c1 : decide ((i : Int) < (s3.len : Int)) = true := decide_eq_true (by omega)
      have c2 : ((i : Int) == (s3.len : Int)) = false := by rw [beq_eq_false_iff_ne]; omega
      have hdA := drop_at hi
      by_cases hk : k < B.length
      · have c3 : decide ((k : Int) < (s6.len : Int)) = true := decide_eq_true (by omega)
        have c4 : ((k : Int) == (s6.len : Int)) = false := by rw [beq_eq_false_iff_ne]; omega
        have hdB := drop_at hk
        simp only [c1, c2, c3, c4, cond_true, cond_false]
        have sA : Asc (A.drop i) := List.Pairwise.sublist (List.drop_sublist _ _) aA
        have sB : Asc (B.drop k) := List.Pairwise.sublist (List.drop_sublist _ _) aB
        rw [hdA] at sA
        rw [hdB] at sB
        refine gA hi (gB hk ?_)
        refine bif_dec (fun q => gA hi (push _ _ _ (m.left aA hi fun y hy => ?_) (by omega))) (fun q => gB hk (gA hi ?_))
        · rw [hdB] at hy
          rcases List.mem_cons.1 hy with e | e
          · rw [e]; exact q
          · have := (List.pairwise_cons.1 sB).1 y e; omega
        · refine bif_dec (fun q2 => gB hk (push _ _ _ (m.right aB hk fun y hy => ?_) (by omega))) (fun q2 => ?_)
          · rw [hdA] at hy
            rcases List.mem_cons.1 hy with e | e
            · rw [e]; exact q2
            · have := (List.pairwise_cons.1 sA).1 y e; omega
          · exact hX _ _ _ _ ⟨i + 1, k, out, rfl, rfl, m.skip hi hk (by omega), o7, n7, rA, rB, x⟩ (by omega)
      · have hkB : k = B.length := by omega
        have c3 : decide ((k : Int) < (s6.len : Int)) = false := decide_eq_false (by omega)
        have c4 : ((k : Int) == (s6.len : Int)) = true := by rw [beq_iff_eq]; omega
        simp only [c1, c2, c3, c4, cond_true, cond_false]
        exact gA hi (push _ _ _ (m.left aA hi fun y hy => by rw [hkB, List.drop_length] at hy; cases hy) (by omega))
    · have hiA : i = A.length := by omega
      have c1 : decide ((i : Int) < (s3.len : Int)) = false := decide_eq_false (by omega)
      have c2 : ((i : Int) == (s3.len : Int)) = true := by rw [beq_iff_eq]; omega
      by_cases hk : k < B.length
      · have c3 : decide ((k : Int) < (s6.len : Int)) = true := decide_eq_true (by omega)
        have c4 : ((k : Int) == (s6.len : Int)) = false := by rw [beq_eq_false_iff_ne]; omega
        simp only [c1, c2, c3, c4, cond_true, cond_false]
        exact gB hk (push _ _ _ (m.right aB hk fun y hy => by rw [hiA, List.drop_length] at hy; cases hy) (by omega))
      · have c3 : decide ((k : Int) < (s6.len : Int)) = false := decide_eq_false (by omega)
        simp only [c1, c3, cond_false]
        refine ⟨_, rfl, out, o7.rd, m.asc, fun x => ?_, by omega, (fun o e => by rw [n7] at e; have := Option.some.inj e; right; omega), x⟩
        rw [← hmem x, ← m.mem x, hiA, show k = B.length by omega, List.drop_length, List.drop_length]
        simp
end Go.Proofs.Ytnamnpbkiibadaa.Cl

/- The shortest recurrence: the plain law (two ways of keeping the same numbers). No claim is stated here. -/
set_option linter.unusedVariables false
set_option linter.unusedSimpArgs false
namespace Go.Proofs.Ytnamnpbkiibadaa.Cl
abbrev MD : Int := 10007
def invF : Nat → Nat → Int → Int → Int
  | 0, _, out, _ => out
  | f + 1, k, out, n => if k = 0 then out else invF f (k / 2) (if k % 2 = 1 then out * n % MD else out) (n * n % MD)
def invM (n : Int) : Int := invF 14 10005 1 n
theorem invF_zero : ∀ (f : Nat) (out n : Int), invF f 0 out n = out
  | 0, _, _ => rfl
  | f + 1, _, _ => by rw [invF, if_pos rfl]
theorem invF_bound : ∀ (f k : Nat) (out n : Int), 0 ≤ out ∧ out < MD → 0 ≤ invF f k out n ∧ invF f k out n < MD
  | 0, _, _, _, h => h
  | f + 1, k, out, n, h => by
    rw [invF]
    split
    · exact h
    · refine invF_bound f _ _ _ ?_
      split
      · exact ⟨Int.emod_nonneg _ (by decide), Int.emod_lt_of_pos _ (by decide)⟩
      · exact h
theorem invM_bound (n : Int) : 0 ≤ invM n ∧ invM n < MD := invF_bound _ _ _ _ (by decide)
/-- Each number that is not 0 times its inverse is 1. -/
def invChk : Nat → Nat → Bool
  | 0, a => a % 10007 == 0 || ((a : Int) * invM (a : Int)) % MD == 1
  | n + 1, a => invChk n (2 * a) && invChk n (2 * a + 1)
theorem invChk_spec : ∀ (n a : Nat), invChk n a = true → ∀ x, x / 2 ^ n = a → x % 10007 = 0 ∨ ((x : Int) * invM (x : Int)) % MD = 1
  | 0, a, h, x, e => by
    have : x = a := by simpa using e
    subst this
    unfold invChk at h
    simpa using h
  | n + 1, a, h, x, e => by
    unfold invChk at h
    rw [Bool.and_eq_true] at h
    have e2 : x / 2 ^ n / 2 = a := by rw [Nat.div_div_eq_div_mul, ← Nat.pow_succ]; exact e
    have : x / 2 ^ n = 2 * a ∨ x / 2 ^ n = 2 * a + 1 := by omega
    rcases this with q | q
    · exact invChk_spec n _ h.1 x q
    · exact invChk_spec n _ h.2 x q
theorem invChk_all : invChk 14 0 = true := by decide +kernel
theorem inv_mul {x : Int} (h0 : 1 ≤ x) (h1 : x < MD) : (x * invM x) % MD = 1 := by
  have h1' : x < 10007 := h1
  have := invChk_spec 14 0 invChk_all x.toNat (Nat.div_eq_of_lt (by omega))
  rw [show ((x.toNat : Nat) : Int) = x by omega] at this
  rcases this with h | h
  · omega
  · exact h
/-! ### the program's steps -/
structure SI where
  now : List Int
  before : List Int
  wrong : Int
  since : Nat
def faultK (a r : List Int) (i k : Nat) : Int := (List.range k).foldl (fun f k => (f - r.getD k 0 * a.getD (i - k - 1) 0) % MD) (a.getD i 0)
def faultI (a r : List Int) (i : Nat) : Int := faultK a r i r.length
def changeI (since : Nat) (fac : Int) (before : List Int) : List Int := List.replicate since 0 ++ fac :: before.map fun r => (-fac * r) % MD
def addI (now ch : List Int) : List Int := (List.range (max now.length ch.length)).map fun k => if k < ch.length then (now.getD k 0 + ch.getD k 0) % MD else now.getD k 0
def stepI (a : List Int) (i : Nat) (s : SI) : SI :=
  if faultI a s.now i = 0 then { s with since := s.since + 1 }
  else if s.now.length = 0 then ⟨List.replicate (i + 1) 0, [], faultI a s.now i, 0⟩
  else if s.now.length < (addI s.now (changeI s.since (faultI a s.now i * invM s.wrong % MD) s.before)).length then ⟨addI s.now (changeI s.since (faultI a s.now i * invM s.wrong % MD) s.before), s.now, faultI a s.now i, 0⟩
  else ⟨addI s.now (changeI s.since (faultI a s.now i * invM s.wrong % MD) s.before), s.before, s.wrong, s.since + 1⟩
def runI (a : List Int) : Nat → SI
  | 0 => ⟨[], [], 0, 0⟩
  | n + 1 => stepI a n (runI a n)
/-! ### the reference's steps -/
structure SS where
  now : List Int
  last : List Int
  since : Nat
  old : Int
  len : Nat
def gapK (a c : List Int) (n k : Nat) : Int := (List.range k).foldl (fun g i => (g + c.getD i 0 * a.getD (n - i) 0) % MD) 0
def gapS (a c : List Int) (len n : Nat) : Int := gapK a c n (len + 1)
def mendS (c last : List Int) (since : Nat) (times : Int) : List Int := (List.range (max c.length (last.length + since))).map fun j => if since ≤ j ∧ j - since < last.length then (c.getD j 0 + (MD - times) * last.getD (j - since) 0) % MD else c.getD j 0
def stepS (a : List Int) (n : Nat) (s : SS) : SS :=
  if gapS a s.now s.len n = 0 then { s with since := s.since + 1 }
  else if 2 * s.len ≤ n then ⟨mendS s.now s.last s.since (gapS a s.now s.len n * invM s.old % MD), s.now, 1, gapS a s.now s.len n, n + 1 - s.len⟩
  else ⟨mendS s.now s.last s.since (gapS a s.now s.len n * invM s.old % MD), s.last, s.since + 1, s.old, s.len⟩
def runS (a : List Int) : Nat → SS
  | 0 => ⟨[1], [1], 1, 1, 0⟩
  | n + 1 => stepS a n (runS a n)
def outS (s : SS) : List Int := (List.range s.len).map fun i => if i + 1 < s.now.length then (MD - s.now.getD (i + 1) 0) % MD else 0
/-! ### both tell the same -/
theorem mulmod (x y : Int) : (x % MD * y) % MD = (x * y) % MD := by rw [Int.mul_emod, Int.emod_emod, ← Int.mul_emod]
theorem getD_big {l : List Int} {i : Nat} (h : l.length ≤ i) : l.getD i 0 = 0 := by rw [List.getD_eq_getElem?_getD, List.getElem?_eq_none h]; rfl
theorem getD_map {n : Nat} {f : Nat → Int} {i : Nat} (h : i < n) : ((List.range n).map f).getD i 0 = f i := by
  rw [List.getD_eq_getElem?_getD, List.getElem?_map, List.getElem?_range h]; rfl
/-- A recurrence and a check tell the same. -/
structure Tell (r c : List Int) : Prop where
  c1 : c.getD 0 0 = 1
  l0 : 1 ≤ c.length
  l1 : c.length ≤ r.length + 1
  eq : ∀ i, i < r.length → r.getD i 0 = (-(c.getD (i + 1) 0)) % MD
theorem foldl_succ {α : Type} (g : α → Nat → α) (x : α) (n : Nat) : (List.range (n + 1)).foldl g x = g ((List.range n).foldl g x) n := by
  rw [List.range_succ, List.foldl_append]; rfl
theorem gapK_bound (a c : List Int) (n : Nat) : ∀ k, 0 ≤ gapK a c n k ∧ gapK a c n k < MD
  | 0 => by show (0 : Int) ≤ 0 ∧ (0 : Int) < MD; decide
  | k + 1 => by
    unfold gapK
    rw [foldl_succ]
    exact ⟨Int.emod_nonneg _ (by decide), Int.emod_lt_of_pos _ (by decide)⟩
theorem gapK_more {a c : List Int} {n : Nat} : ∀ (d k : Nat), c.length ≤ k → gapK a c n (k + d) = gapK a c n k
  | 0, k, h => rfl
  | d + 1, k, h => by
    rw [← gapK_more d k h, show k + (d + 1) = (k + d) + 1 by omega]
    have hb := gapK_bound a c n (k + d)
    rw [show gapK a c n (k + d + 1) = (gapK a c n (k + d) + c.getD (k + d) 0 * a.getD (n - (k + d)) 0) % MD by unfold gapK; rw [foldl_succ], getD_big (by omega), Int.zero_mul, Int.add_zero]
    exact Int.emod_eq_of_lt hb.1 hb.2
section
variable {a r c : List Int} {n : Nat}
theorem fault_gap (ha : ∀ i, 0 ≤ a.getD i 0 ∧ a.getD i 0 < MD) (t : Tell r c) : ∀ k, k ≤ r.length → faultK a r n k = gapK a c n (k + 1)
  | 0, _ => by
    have := ha n
    unfold faultK gapK
    rw [foldl_succ]
    simp only [List.range_zero, List.foldl_nil, Nat.sub_zero]
    rw [t.c1, Int.zero_add, Int.one_mul, Int.emod_eq_of_lt this.1 this.2]
  | k + 1, h => by
    have ih := fault_gap ha t k (by omega)
    unfold faultK at ih ⊢
    unfold gapK at ih ⊢
    rw [foldl_succ, foldl_succ (n := k + 1), ih, t.eq k (by omega)]
    have e := mulmod (-(c.getD (k + 1) 0)) (a.getD (n - k - 1) 0)
    rw [Int.neg_mul] at e
    rw [show n - (k + 1) = n - k - 1 by omega]
    generalize (-(c.getD (k + 1) 0)) % MD * a.getD (n - k - 1) 0 = p at *
    generalize c.getD (k + 1) 0 * a.getD (n - k - 1) 0 = q at *
    generalize (List.range (k + 1)).foldl (fun g i => (g + c.getD i 0 * a.getD (n - i) 0) % MD) 0 = g at *
    unfold MD at *
    omega
theorem tell_out (t : Tell r c) (hr : ∀ i, 0 ≤ r.getD i 0 ∧ r.getD i 0 < MD) : ((List.range r.length).map fun i => if i + 1 < c.length then (MD - c.getD (i + 1) 0) % MD else 0) = r := by
  apply List.ext_getElem (by simp)
  intro i h1 h2
  simp only [List.getElem_map, List.getElem_range]
  have e := t.eq i h2
  rw [List.getD_eq_getElem?_getD, List.getElem?_eq_getElem h2] at e
  have e' : r[i] = (-(c.getD (i + 1) 0)) % MD := e
  split
  · rw [e']; unfold MD; omega
  · next hn => rw [e', getD_big (by omega)]; rfl
end
/-- The numbers that both keep, ahead of the number n. -/
structure Both2 (n : Nat) (p : SI) (s : SS) : Prop where
  now : Tell p.now s.now
  bef : Tell p.before s.last
  wr : p.wrong = s.old
  sn : s.since = p.since + 1
  ln : p.now.length = s.len
  sum : p.since + 1 + p.before.length + p.now.length = n + 1
  le : p.now.length ≤ n
  pos : 0 < p.now.length
  rng : ∀ i, 0 ≤ p.now.getD i 0 ∧ p.now.getD i 0 < MD
theorem change_at {since : Nat} {fac : Int} {r c : List Int} (t : Tell r c) (hf : 0 ≤ fac ∧ fac < MD) (k : Nat) : (changeI since fac r).getD k 0 = if since ≤ k ∧ k - since < r.length + 1 then (fac * c.getD (k - since) 0) % MD else 0 := by
  unfold changeI
  rw [List.getD_eq_getElem?_getD]
  by_cases h : k < since
  · rw [List.getElem?_append_left (by simpa using h), if_neg (by omega)]
    simp [List.getElem?_replicate, h]
  · rw [List.getElem?_append_right (by simpa using h), List.length_replicate]
    by_cases h2 : k - since < r.length + 1
    · rw [if_pos ⟨by omega, h2⟩]
      cases hq : k - since with
      | zero => rw [t.c1, Int.mul_one, Int.emod_eq_of_lt hf.1 hf.2]; rfl
      | succ j =>
        rw [List.getElem?_cons_succ, List.getElem?_map, List.getElem?_eq_getElem (by omega)]
        have e := t.eq j (by omega)
        rw [List.getD_eq_getElem?_getD, List.getElem?_eq_getElem (show j < r.length by omega)] at e
        have e' : r[j] = (-(c.getD (j + 1) 0)) % MD := e
        simp only [Option.map_some, Option.getD_some]
        rw [e', Int.mul_comm, mulmod]
        congr 1
        rw [Int.neg_mul_neg, Int.mul_comm]
    · rw [if_neg (by omega), List.getElem?_eq_none (by simp; omega)]; rfl
theorem change_len (since : Nat) (fac : Int) (r : List Int) : (changeI since fac r).length = since + 1 + r.length := by unfold changeI; simp; omega
theorem addI_len (now ch : List Int) : (addI now ch).length = max now.length ch.length := by unfold addI; simp
theorem addI_at {now ch : List Int} {k : Nat} (h : k < max now.length ch.length) : (addI now ch).getD k 0 = if k < ch.length then (now.getD k 0 + ch.getD k 0) % MD else now.getD k 0 := by
  unfold addI; rw [getD_map h]
theorem mend_len (c last : List Int) (since : Nat) (times : Int) : (mendS c last since times).length = max c.length (last.length + since) := by unfold mendS; simp
theorem mend_at {c last : List Int} {since : Nat} {times : Int} {j : Nat} : (mendS c last since times).getD j 0 = if since ≤ j ∧ j - since < last.length then (c.getD j 0 + (MD - times) * last.getD (j - since) 0) % MD else c.getD j 0 := by
  by_cases h : j < max c.length (last.length + since)
  · unfold mendS; rw [getD_map h]
  · rw [getD_big (by rw [mend_len]; omega), if_neg (by omega), getD_big (by omega)]
theorem tell_mend {r c b last : List Int} {since : Nat} {f : Int} (t : Tell r c) (u : Tell b last) (hr : ∀ i, 0 ≤ r.getD i 0 ∧ r.getD i 0 < MD) (hf : 0 ≤ f ∧ f < MD) :
    Tell (addI r (changeI since f b)) (mendS c last (since + 1) f) ∧ ∀ i, 0 ≤ (addI r (changeI since f b)).getD i 0 ∧ (addI r (changeI since f b)).getD i 0 < MD := by
  have hbl := u.l1
  have hbl0 := u.l0
  have htl := t.l1
  have htl0 := t.l0
  refine ⟨⟨?_, ?_, ?_, fun i hi => ?_⟩, fun i => ?_⟩
  · rw [mend_at, if_neg (by omega)]; exact t.c1
  · rw [mend_len]; omega
  · rw [mend_len, addI_len, change_len]; omega
  · rw [addI_len] at hi
    rw [addI_at hi, mend_at, change_at u hf, change_len]
    rw [change_len] at hi
    have e0 : r.getD i 0 = (-(c.getD (i + 1) 0)) % MD := by
      by_cases h : i < r.length
      · exact t.eq i h
      · rw [getD_big (by omega), getD_big (by omega)]; rfl
    by_cases h : i < since + 1 + b.length
    · rw [if_pos h]
      by_cases h2 : since ≤ i
      · rw [if_pos ⟨h2, by omega⟩]
        by_cases h3 : i + 1 - (since + 1) < last.length
        · rw [if_pos ⟨by omega, h3⟩, e0, show i + 1 - (since + 1) = i - since by omega, Int.sub_mul]
          generalize f * last.getD (i - since) 0 = p
          generalize last.getD (i - since) 0 = q
          generalize c.getD (i + 1) 0 = x
          unfold MD; omega
        · rw [if_neg (by omega), e0, getD_big (l := last) (by omega), Int.mul_zero]
          generalize c.getD (i + 1) 0 = x
          unfold MD; omega
      · rw [if_neg (by omega), if_neg (by omega), e0]
        generalize c.getD (i + 1) 0 = x
        unfold MD; omega
    · rw [if_neg h, if_neg (by omega), e0]
  · by_cases hi : i < max r.length (changeI since f b).length
    · rw [addI_at hi]
      split
      · exact ⟨Int.emod_nonneg _ (by decide), Int.emod_lt_of_pos _ (by decide)⟩
      · exact hr i
    · rw [getD_big (by rw [addI_len]; omega)]; decide
theorem both_step {a : List Int} (ha : ∀ i, 0 ≤ a.getD i 0 ∧ a.getD i 0 < MD) {n : Nat} {p : SI} {s : SS} (h : Both2 n p s) : Both2 (n + 1) (stepI a n p) (stepS a n s) := by
  have hg : faultI a p.now n = gapS a s.now s.len n := by
    unfold faultI gapS
    rw [fault_gap ha h.now _ (Nat.le_refl _), h.ln]
  have hgb := gapK_bound a s.now n (s.len + 1)
  have hsum := h.sum
  have hle := h.le
  have hpos := h.pos
  have hln := h.ln
  have hsn := h.sn
  unfold stepI stepS
  rw [hg]
  by_cases h0 : gapS a s.now s.len n = 0
  · rw [if_pos h0, if_pos h0]
    exact ⟨h.now, h.bef, h.wr, by simp only []; omega, h.ln, by simp only []; omega, by simp only []; omega, h.pos, h.rng⟩
  · rw [if_neg h0, if_neg h0, if_neg (by omega), h.wr, hsn]
    have hf : 0 ≤ gapS a s.now s.len n * invM s.old % MD ∧ gapS a s.now s.len n * invM s.old % MD < MD := ⟨Int.emod_nonneg _ (by decide), Int.emod_lt_of_pos _ (by decide)⟩
    have ht := tell_mend (since := p.since) h.now h.bef h.rng hf
    have hal := addI_len p.now (changeI p.since (gapS a s.now s.len n * invM s.old % MD) p.before)
    rw [change_len] at hal
    by_cases h2 : 2 * s.len ≤ n
    · rw [if_pos (by omega), if_pos h2]
      exact ⟨ht.1, h.now, rfl, rfl, by simp only []; omega, by simp only []; omega, by simp only []; omega, by simp only []; omega, ht.2⟩
    · rw [if_neg (by omega), if_neg h2]
      exact ⟨ht.1, h.bef, rfl, rfl, by simp only []; omega, by simp only []; omega, by simp only []; omega, by simp only []; omega, ht.2⟩
theorem both_run {a : List Int} (ha : ∀ i, 0 ≤ a.getD i 0 ∧ a.getD i 0 < MD) (h2 : Both2 2 (runI a 2) (runS a 2)) : ∀ n, Both2 (n + 2) (runI a (n + 2)) (runS a (n + 2))
  | 0 => h2
  | n + 1 => both_step ha (both_run ha h2 n)
theorem zero_run {a : List Int} (hz : ∀ i, a.getD i 0 = 0) : ∀ n, (runI a n).now = [] ∧ (runS a n).len = 0 ∧ (runS a n).now = [1]
  | 0 => ⟨rfl, rfl, rfl⟩
  | n + 1 => by
    obtain ⟨h1, h2, h3⟩ := zero_run hz n
    have e1 : faultI a (runI a n).now n = 0 := by rw [h1]; unfold faultI faultK; simpa using hz n
    have e2 : gapS a (runS a n).now (runS a n).len n = 0 := by
      rw [h2, h3]
      unfold gapS gapK
      rw [foldl_succ]
      simp only [List.range_zero, List.foldl_nil, Nat.sub_zero]
      rw [hz n]; rfl
    refine ⟨?_, ?_, ?_⟩
    · rw [runI, stepI, if_pos e1]; exact h1
    · rw [runS, stepS, if_pos e2]; exact h2
    · rw [runS, stepS, if_pos e2]; exact h3
theorem inv_one : invM 1 = 1 := by decide +kernel
theorem both_two {a : List Int} (ha : ∀ i, 0 ≤ a.getD i 0 ∧ a.getD i 0 < MD) (h0 : a.getD 0 0 ≠ 0) : Both2 2 (runI a 2) (runS a 2) := by
  have a0 := ha 0
  have a1 := ha 1
  generalize e0 : a.getD 0 0 = x at *
  generalize e1 : a.getD 1 0 = y at *
  have hM : MD = 10007 := rfl
  have i1 : runI a 1 = ⟨[0], [], x, 0⟩ := by
    show stepI a 0 ⟨[], [], 0, 0⟩ = _
    have : faultI a [] 0 = x := e0
    unfold stepI
    simp only [this]
    rw [if_neg h0]
    rfl
  have hg0 : gapS a [1] 0 0 = x := by
    unfold gapS gapK
    rw [foldl_succ]
    simp only [List.range_zero, List.foldl_nil, Nat.sub_zero]
    rw [e0]
    show (0 + 1 * x) % MD = x
    rw [Int.zero_add, Int.one_mul, Int.emod_eq_of_lt a0.1 a0.2]
  have s1 : runS a 1 = ⟨[1, MD - x], [1], 1, x, 1⟩ := by
    show stepS a 0 ⟨[1], [1], 1, 1, 0⟩ = _
    unfold stepS
    simp only [hg0]
    rw [if_neg h0, if_pos (by omega), inv_one, Int.mul_one, Int.emod_eq_of_lt a0.1 a0.2]
    have : mendS [1] [1] 1 x = [1, (0 + (MD - x) * 1) % MD] := rfl
    rw [this, Int.zero_add, Int.mul_one, Int.emod_eq_of_lt (by omega) (by omega)]
  have hf : faultI a [0] 1 = y := by
    unfold faultI faultK
    show (a.getD 1 0 - 0 * a.getD 0 0) % MD = y
    rw [Int.zero_mul, Int.sub_zero, e1, Int.emod_eq_of_lt a1.1 a1.2]
  have hg : gapS a [1, MD - x] 1 1 = (y + (MD - x) * x) % MD := by
    unfold gapS gapK
    show ((0 + 1 * a.getD 1 0) % MD + (MD - x) * a.getD 0 0) % MD = _
    rw [Int.zero_add, Int.one_mul, e0, e1, Int.emod_eq_of_lt a1.1 a1.2]
  have hinv : (x * invM x) % MD = 1 := inv_mul (by omega) a0.2
  have i2 : runI a 2 = ⟨[y * invM x % MD], [], x, 1⟩ := by
    show stepI a 1 (runI a 1) = _
    rw [i1]
    unfold stepI
    simp only [hf]
    by_cases hy : y = 0
    · rw [if_pos hy, hy, Int.zero_mul]; rfl
    · rw [if_neg hy, if_neg (by simp)]
      have : addI [0] (changeI 0 (y * invM x % MD) []) = [(0 + y * invM x % MD) % MD] := rfl
      rw [this, Int.zero_add, Int.emod_emod, if_neg (by simp)]
  -- the reference
  obtain ⟨z, s2, hz⟩ : ∃ z, runS a 2 = ⟨[1, z], [1], 2, x, 1⟩ ∧ y * invM x % MD = (-z) % MD := by
    have key : (y + (MD - x) * x) % MD * invM x % MD = (y * invM x - x) % MD := by
      rw [mulmod, Int.add_mul, Int.sub_mul, Int.sub_mul]
      have h1 : (x * x * invM x) % MD = x % MD := by
        rw [Int.mul_assoc, Int.mul_comm, ← mulmod, hinv, Int.one_mul]
      generalize y * invM x = p
      rw [Int.mul_assoc MD x (invM x)]
      generalize x * invM x = q at *
      generalize x * x * invM x = r at *
      unfold MD at *
      omega
    by_cases hq : (y + (MD - x) * x) % MD = 0
    · refine ⟨MD - x, ?_, ?_⟩
      · show stepS a 1 (runS a 1) = _
        rw [s1]
        unfold stepS
        simp only [hg]
        rw [if_pos hq]
      · rw [hq, Int.zero_mul] at key
        generalize y * invM x = p at *
        unfold MD at *
        omega
    · refine ⟨(MD - x + (MD - (y + (MD - x) * x) % MD * invM x % MD) * 1) % MD, ?_, ?_⟩
      · show stepS a 1 (runS a 1) = _
        rw [s1]
        unfold stepS
        simp only [hg]
        rw [if_neg hq, if_neg (by omega)]
        rfl
      · rw [key]
        generalize y * invM x = p
        unfold MD
        omega
  rw [i2, s2]
  refine ⟨⟨rfl, by simp, by simp, fun i hi => ?_⟩, ⟨rfl, by simp, by simp, fun i hi => by simp at hi⟩, rfl, rfl, rfl, rfl, by simp, by simp, fun i => ?_⟩
  · have : i = 0 := by simpa using hi
    subst this
    exact hz
  · cases i with
    | zero => exact ⟨Int.emod_nonneg _ (by decide), Int.emod_lt_of_pos _ (by decide)⟩
    | succ i => rw [getD_big (by simp)]; decide
/-- Both shortest recurrences are the same: of numbers that are all 0, or of which the first one is not 0. -/
theorem shortest_eq {a : List Int} (ha : ∀ i, 0 ≤ a.getD i 0 ∧ a.getD i 0 < MD) (h0 : (∀ i, a.getD i 0 = 0) ∨ a.getD 0 0 ≠ 0) {n : Nat} (hn : 2 ≤ n) : outS (runS a n) = (runI a n).now := by
  rcases h0 with hz | hz
  · obtain ⟨h1, h2, h3⟩ := zero_run hz n
    unfold outS
    rw [h2, h1]; rfl
  · obtain ⟨m, rfl⟩ : ∃ m, n = m + 2 := ⟨n - 2, by omega⟩
    have h := both_run ha (both_two ha hz) m
    unfold outS
    rw [← h.ln]
    exact tell_out h.now h.rng
end Go.Proofs.Ytnamnpbkiibadaa.Cl

/- The program's shortest recurrence. No claim is stated here. -/
set_option linter.unusedVariables false
set_option linter.unusedSimpArgs false
namespace Go.Proofs.Ytnamnpbkiibadaa.Cl
open Go
theorem cloneS_c {h0 : H} {x : Sl} {l : List Int} (r : Rd h0 x 1 (ic l)) (hl : l.length ≤ 1048576) : callS SP i_slices_Clone_s_int64_int64_ [.sl x] h0 fun s h' => Ow h' s 1 (ic l) ∧ Fr h0.length s ∧ Ext h0 h' := by
  have hx := r.ilen
  apply slices_Clone_s_int64_int64__call
  unfold slices_Clone_s_int64_int64__main
  refine bif_b (fun hn => ⟨_, rfl, ?_, Fr.nil _, Ext.refl _⟩) (fun hn => ?_)
  · have : x.len = 0 := by
      rcases r.at_ with h | ⟨_, h, _⟩
      · exact h
      · unfold isNilS at hn
        cases ho : x.o <;> simp [ho] at hn h
    have : l = [] := List.length_eq_zero_iff.1 (by omega)
    subst this
    exact Ow.nil _ _
  · refine newS_ow (by rfl) fun s h1 os ls so e1 => ?_
    have x1 : Ext h0 h1 := by rw [e1]; exact Ext.app _ _
    refine app_ow (cs := []) (by omega) os (r.ext x1) (by unfold lim; omega) fun s' h' o' ln b k1 k2 => ⟨_, rfl, by simpa using o', fun o e => ?_, x1.but_ b fun o e => by rw [so] at e; cases e; exact Nat.le_refl _⟩
    have := k1 _ so
    rw [this] at e; cases e; exact Nat.le_refl _
theorem ownS_c {h0 : H} {x : Sl} {l : List Int} (r : Rd h0 x 1 (ic l)) (hl : l.length ≤ 1048576) : callS SP i_spec_l01Own [.sl x] h0 fun s h' => Ow h' s 1 (ic l) ∧ Fr h0.length s ∧ Ext h0 h' := by
  have hx := r.ilen
  apply spec_l01Own_call
  unfold spec_l01Own_main
  refine newS_ow (by rfl) fun s h1 os ls so e1 => ?_
  have x1 : Ext h0 h1 := by rw [e1]; exact Ext.app _ _
  refine app_ow (cs := []) (by omega) os (r.ext x1) (by unfold lim; omega) fun s' h' o' ln b k1 k2 => ⟨_, rfl, by simpa using o', fun o e => ?_, x1.but_ b fun o e => by rw [so] at e; cases e; exact Nat.le_refl _⟩
  have := k1 _ so
  rw [this] at e; cases e; exact Nat.le_refl _
theorem tmodM {x : Int} : Int.tmod (Int.tmod x 10007 + 10007) 10007 = x % MD := by
  rcases Int.le_total 0 x with h | h
  · rw [Int.tmod_eq_emod_of_nonneg h, Int.tmod_eq_emod_of_nonneg (by omega)]
    show (x % 10007 + 10007) % 10007 = x % 10007
    omega
  · have e : Int.tmod x 10007 = -((-x) % 10007) := by
      rw [show x = -(-x) by omega, Int.neg_tmod, Int.tmod_eq_emod_of_nonneg (by omega), Int.neg_neg]
    rw [e, Int.tmod_eq_emod_of_nonneg (by omega)]
    show (-((-x) % 10007) + 10007) % 10007 = x % 10007
    omega
theorem tmod_nn {x : Int} (h : 0 ≤ x) : Int.tmod x 10007 = x % MD := Int.tmod_eq_emod_of_nonneg h
theorem emodMD (x : Int) : 0 ≤ x % MD ∧ x % MD < MD := ⟨Int.emod_nonneg _ (by decide), Int.emod_lt_of_pos _ (by decide)⟩
theorem tmod_bd (x : Int) : -10007 < Int.tmod x 10007 ∧ Int.tmod x 10007 < 10007 := by
  rcases Int.le_total 0 x with h | h
  · rw [Int.tmod_eq_emod_of_nonneg h]; omega
  · rw [show x = -(-x) by omega, Int.neg_tmod, Int.tmod_eq_emod_of_nonneg (by omega)]; omega
theorem modulo_k {x : Int} {h : H} {K : Int → H → Prop} (hk : K (x % MD) h) : callI SP .i64 i_impl_modulo [i64 x] h K := by
  refine (show callI SP .i64 i_impl_modulo [i64 x] h fun n h' => n = x % MD ∧ h' = h from ?_).to (by rintro _ _ ⟨rfl, rfl⟩; exact hk)
  apply impl_modulo_call
  unfold impl_modulo_main
  have := tmod_bd x
  refine ⟨by decide, by decide, _, rfl, ?_, rfl⟩
  rw [w64_of (by omega) (by omega), tmodM]
theorem mulM {x y : Int} (hx : 0 ≤ x ∧ x < MD) (hy : 0 ≤ y ∧ y < MD) : 0 ≤ x * y ∧ x * y ≤ 100140049 := by
  have hx2 : x < 10007 := hx.2
  have hy2 : y < 10007 := hy.2
  have h1 := Int.mul_nonneg hx.1 hy.1
  have h2 : x * y ≤ 10007 * 10007 := Int.mul_le_mul (by omega) (by omega) hy.1 (by omega)
  exact ⟨h1, by omega⟩
theorem at_k {u : Sl} {a : List Int} {h : H} (r : Rd h u 1 (ic a)) {i : Nat} (hi : i < a.length) {K : Int → H → Prop} (hk : K (a.getD i 0) h) : callI SP .i64 i_impl_at [.sl u, i64 i] h K := by
  refine (show callI SP .i64 i_impl_at [.sl u, i64 i] h fun n h' => n = a.getD i 0 ∧ h' = h from ?_).to (by rintro _ _ ⟨rfl, rfl⟩; exact hk)
  apply impl_at_call
  unfold impl_at_main
  refine bif_dec (fun q => by omega) (fun _ => ?_)
  refine r.ldG (by omega) (by omega) ?_
  exact ⟨_, rfl, by rw [Int.toNat_natCast], rfl⟩
theorem tmod2 (k : Nat) : Int.tmod (k : Int) 2 = ((k % 2 : Nat) : Int) := rfl
theorem tdiv2 (k : Nat) : Int.tdiv (k : Int) 2 = ((k / 2 : Nat) : Int) := rfl
theorem inverse_k {x : Int} (hx : 0 ≤ x ∧ x < MD) {h : H} {K : Int → H → Prop} (hk : K (invM x) h) : callI SP .i64 i_impl_inverse [i64 x] h K := by
  refine (show callI SP .i64 i_impl_inverse [i64 x] h fun n h' => n = invM x ∧ h' = h from ?_).to (by rintro _ _ ⟨rfl, rfl⟩; exact hk)
  apply impl_inverse_call
  unfold impl_inverse_main
  refine impl_inverse_rule0 _ _ (fun n out k g => ∃ (f k' : Nat), k = k' ∧ k' ≤ 10005 ∧ k' < 2 ^ f ∧ (0 ≤ n ∧ n < MD) ∧ (0 ≤ out ∧ out < MD) ∧ invF f k' out n = invM x ∧ h = g) (fun _ _ k _ => k.toNat) ?_ _ _ _ ⟨14, 10005, rfl, by decide, by decide, hx, by decide, rfl, rfl⟩
  rintro X n out _ _ ⟨f, k, rfl, hk5, hk2, hn, ho, he, rfl⟩ hX
  unfold impl_inverse_b0 impl_inverse_C0
  refine bif_dec (fun q => ⟨by decide, ?_⟩) (fun q => ?_)
  · rw [tmod2, tdiv2]
    have b1 := mulM hn hn
    have b2 := mulM ho hn
    cases f with
    | zero => simp at hk2; omega
    | succ f =>
      rw [invF, if_neg (by omega)] at he
      have hk3 : k / 2 < 2 ^ f := by rw [Nat.pow_succ] at hk2; omega
      refine bif_eq (fun q2 => ?_) (fun q2 => ?_)
      · rw [if_pos (by omega)] at he
        refine ⟨by decide, by decide, by decide, ?_⟩
        rw [w64_of (n := out * n) (by omega) (by omega), w64_of (n := n * n) (by omega) (by omega), tmod_nn b1.1, tmod_nn b2.1, w64_of (n := ((k / 2 : Nat) : Int)) (by omega) (by omega)]
        exact hX _ _ _ _ ⟨f, k / 2, rfl, by omega, hk3, emodMD _, emodMD _, he, rfl⟩ (by omega)
      · rw [if_neg (by omega)] at he
        refine ⟨by decide, by decide, ?_⟩
        rw [w64_of (n := n * n) (by omega) (by omega), tmod_nn b1.1, w64_of (n := ((k / 2 : Nat) : Int)) (by omega) (by omega)]
        exact hX _ _ _ _ ⟨f, k / 2, rfl, by omega, hk3, emodMD _, ho, he, rfl⟩ (by omega)
  · have : k = 0 := by omega
    subst this
    rw [invF_zero] at he
    exact ⟨_, rfl, he, rfl⟩
end Go.Proofs.Ytnamnpbkiibadaa.Cl

/- The program's shortest recurrence: its walk. No claim is stated here. -/
set_option linter.unusedVariables false
set_option linter.unusedSimpArgs false
namespace Go.Proofs.Ytnamnpbkiibadaa.Cl
open Go
def Bm (l : List Int) : Prop := ∀ x ∈ l, 0 ≤ x ∧ x < MD
theorem Bm.at {l : List Int} (b : Bm l) (i : Nat) : 0 ≤ l.getD i 0 ∧ l.getD i 0 < MD := by
  rw [List.getD_eq_getElem?_getD]
  cases h : l[i]? with
  | none => exact ⟨by decide, by decide⟩
  | some x => exact b x (List.mem_of_getElem? h)
theorem Bm.nil : Bm [] := fun x h => by cases h
theorem Bm.zeros (n : Nat) : Bm (List.replicate n 0) := fun x h => by rw [List.eq_of_mem_replicate h]; exact ⟨by decide, by decide⟩
theorem ext_getD {l m : List Int} (hl : l.length = m.length) (h : ∀ i, i < l.length → l.getD i 0 = m.getD i 0) : l = m := by
  refine List.ext_getElem hl fun i h1 h2 => ?_
  have := h i h1
  rw [List.getD_eq_getElem?_getD, List.getD_eq_getElem?_getD, List.getElem?_eq_getElem h1, List.getElem?_eq_getElem h2] at this
  exact this
theorem faultK_bd {a r : List Int} (ha : Bm a) (i : Nat) : ∀ k, 0 ≤ faultK a r i k ∧ faultK a r i k < MD
  | 0 => by unfold faultK; exact ha.at i
  | k + 1 => by unfold faultK; rw [foldl_succ]; exact emodMD _
theorem faultK_succ (a r : List Int) (i k : Nat) : faultK a r i (k + 1) = (faultK a r i k - r.getD k 0 * a.getD (i - k - 1) 0) % MD := by unfold faultK; rw [foldl_succ]
theorem changeI_bm (since : Nat) {fac : Int} (hf : 0 ≤ fac ∧ fac < MD) (b : List Int) : Bm (changeI since fac b) := fun x h => by
  unfold changeI at h
  rcases List.mem_append.1 h with h | h
  · exact Bm.zeros _ x h
  · rcases List.mem_cons.1 h with rfl | h
    · exact hf
    · obtain ⟨y, _, rfl⟩ := List.mem_map.1 h; exact emodMD _
def addK (now ch : List Int) (n : Nat) : List Int := (List.range (max now.length n)).map fun k => if k < n then (now.getD k 0 + ch.getD k 0) % MD else now.getD k 0
theorem addK_len (now ch : List Int) (n : Nat) : (addK now ch n).length = max now.length n := by unfold addK; simp
theorem addK_at {now ch : List Int} {n k : Nat} (h : k < max now.length n) : (addK now ch n).getD k 0 = if k < n then (now.getD k 0 + ch.getD k 0) % MD else now.getD k 0 := by unfold addK; exact getD_map h
theorem addK_zero (now ch : List Int) : addK now ch 0 = now := ext_getD (by rw [addK_len]; omega) fun i hi => by
  rw [addK_len] at hi
  rw [addK_at hi, if_neg (by omega)]
theorem addK_all (now ch : List Int) : addK now ch ch.length = addI now ch := rfl
theorem getD_setI {l : List Int} {i : Nat} {x : Int} (hi : i < l.length) (j : Nat) : (l.set i x).getD j 0 = if i = j then x else l.getD j 0 := by
  rw [List.getD_eq_getElem?_getD, List.getElem?_set]
  by_cases h : i = j
  · rw [if_pos h, if_pos (by omega), if_pos h]; rfl
  · rw [if_neg h, if_neg h, List.getD_eq_getElem?_getD]
theorem addK_in {now ch : List Int} {k : Nat} (h : k < now.length) : (addK now ch k).set k (((addK now ch k).getD k 0 + ch.getD k 0) % MD) = addK now ch (k + 1) :=
  ext_getD (by rw [List.length_set, addK_len, addK_len]; omega) fun i hi => by
    rw [List.length_set, addK_len] at hi
    rw [getD_setI (by rw [addK_len]; omega)]
    by_cases e : k = i
    · subst e
      rw [if_pos rfl, addK_at (n := k) (k := k) (by omega), addK_at (n := k + 1) (k := k) (by omega), if_neg (by omega), if_pos (by omega)]
    · rw [if_neg e, addK_at (n := k) (k := i) (by omega), addK_at (n := k + 1) (k := i) (by omega)]
      by_cases h2 : i < k
      · rw [if_pos h2, if_pos (by omega)]
      · rw [if_neg h2, if_neg (by omega)]
theorem addK_out {now ch : List Int} {k : Nat} (h : now.length ≤ k) : (addK now ch k ++ [0]).set k (((addK now ch k ++ [0]).getD k 0 + ch.getD k 0) % MD) = addK now ch (k + 1) := by
  have hl := addK_len now ch k
  have h0 : (addK now ch k ++ [0]).getD k 0 = 0 := by rw [List.getD_eq_getElem?_getD, List.getElem?_append_right (by omega), show k - (addK now ch k).length = 0 by omega]; rfl
  refine ext_getD (by rw [List.length_set, List.length_append, hl, addK_len]; simp; omega) fun i hi => ?_
  rw [List.length_set, List.length_append, hl] at hi
  simp only [List.length_singleton] at hi
  rw [getD_setI (by rw [List.length_append, hl]; simp; omega), addK_at (n := k + 1) (k := i) (by omega), h0]
  by_cases e : k = i
  · subst e
    rw [if_pos rfl, if_pos (by omega), getD_big h]
  · rw [if_neg e, if_pos (by omega), List.getD_eq_getElem?_getD, List.getElem?_append_left (by omega), ← List.getD_eq_getElem?_getD, addK_at (by omega), if_pos (by omega)]
theorem addI_bm {now ch : List Int} (hn : Bm now) : Bm (addI now ch) := fun x h => by
  unfold addI at h
  obtain ⟨k, _, rfl⟩ := List.mem_map.1 h
  split
  · exact emodMD _
  · exact hn.at k
structure SIok (n : Nat) (s : SI) : Prop where
  ln : s.now.length ≤ n
  sn : s.since ≤ n
  nb : Bm s.now
  bb : Bm s.before
  wr : 0 ≤ s.wrong ∧ s.wrong < MD
  room : 0 < s.now.length → s.before.length + s.since + 1 ≤ n
theorem si_step {a : List Int} (ha : Bm a) {n : Nat} {s : SI} (h : SIok n s) : SIok (n + 1) (stepI a n s) := by
  have hf := faultK_bd (r := s.now) ha n s.now.length
  have hl := h.ln
  have hs := h.sn
  unfold stepI
  split
  · exact ⟨by show s.now.length ≤ n + 1; omega, by show s.since + 1 ≤ n + 1; omega, h.nb, h.bb, h.wr, fun q => by have := h.room q; show s.before.length + (s.since + 1) + 1 ≤ n + 1; omega⟩
  · split
    · exact ⟨by simp, by simp, Bm.zeros _, Bm.nil, hf, fun _ => by simp⟩
    · next q1 q2 =>
      have hr := h.room (by omega)
      have hfac : 0 ≤ faultI a s.now n * invM s.wrong % MD ∧ faultI a s.now n * invM s.wrong % MD < MD := emodMD _
      have hal := addI_len s.now (changeI s.since (faultI a s.now n * invM s.wrong % MD) s.before)
      have hcl := change_len s.since (faultI a s.now n * invM s.wrong % MD) s.before
      split
      · refine ⟨?_, by show 0 ≤ n + 1; omega, addI_bm h.nb, h.nb, hf, fun _ => by show s.now.length + 0 + 1 ≤ n + 1; omega⟩
        show (addI s.now (changeI s.since (faultI a s.now n * invM s.wrong % MD) s.before)).length ≤ n + 1
        omega
      · refine ⟨?_, by show s.since + 1 ≤ n + 1; omega, addI_bm h.nb, h.bb, h.wr, fun _ => by show s.before.length + (s.since + 1) + 1 ≤ n + 1; omega⟩
        show (addI s.now (changeI s.since (faultI a s.now n * invM s.wrong % MD) s.before)).length ≤ n + 1
        omega
theorem si_run {a : List Int} (ha : Bm a) : ∀ n, SIok n (runI a n)
  | 0 => ⟨by show 0 ≤ 0; omega, by show 0 ≤ 0; omega, Bm.nil, Bm.nil, ⟨Int.le_refl 0, by show (0 : Int) < 10007; decide⟩, fun h => by have : 0 < 0 := h; omega⟩
  | n + 1 => si_step ha (si_run ha n)
set_option maxHeartbeats 1000000 in
theorem impl_shortest_c {h : H} {u : Sl} {a : List Int} (ha : Bm a) (hal : a.length ≤ 100) (r : Rd h u 1 (ic a)) :
    callS SP i_impl_shortest [.sl u] h fun v h' => Ow h' v 1 (ic (runI a a.length).now) ∧ Fr h.length v ∧ Ext h h' := by
  have hul := r.ilen
  apply impl_shortest_call
  unfold impl_shortest_main
  refine newS_ow (by rfl) fun s0 h1 os0 ls0 so0 e1 => ?_
  have x1 : Ext h h1 := by rw [e1]; exact Ext.app _ _
  refine newS_ow (by rfl) fun s2 h3 os2 ls2 so2 e3 => ?_
  have x3 : Ext h1 h3 := by rw [e3]; exact Ext.app _ _
  rw [hul]
  refine impl_shortest_rule0 _ _ _ _ _ (fun s3 s4 wr sn i g => ∃ n : Nat, i = n ∧ n ≤ a.length ∧ Ow g s3 1 (ic (runI a n).now) ∧ Fr h.length s3 ∧ Rd g s4 1 (ic (runI a n).before) ∧ wr = (runI a n).wrong ∧ sn = ((runI a n).since : Int) ∧ Ext h g) (fun _ _ _ _ i _ => (a.length - i).toNat) ?_ _ _ _ _ _
    ⟨0, rfl, by omega, os0.ext x3, fun o e => by rw [so0] at e; cases e; exact Nat.le_refl _, os2.rd, rfl, rfl, x1.trans x3⟩
  rintro X s3 s4 _ _ _ g ⟨n, rfl, hn, o3, f3, r4, rfl, rfl, xg⟩ hX
  have sok := si_run ha n
  have sok' := si_run ha (n + 1)
  unfold impl_shortest_b0 impl_shortest_C0
  refine bif_dec (fun hi => ?_) (fun hi => ?_)
  rotate_left
  · have : n = a.length := by omega
    subst this
    exact ⟨_, rfl, o3, f3, xg⟩
  have hnl : n < a.length := by omega
  have hrun : runI a (n + 1) = stepI a n (runI a n) := rfl
  generalize runI a n = S at sok o3 r4 hX hrun
  have hS1 := sok.ln
  have hS2 := sok.sn
  have h3l := o3.rd.ilen
  have h4l := r4.ilen
  refine (r.ext xg).ldG (by omega) (by omega) ?_
  rw [Int.toNat_natCast]
  have en : w64 ((n : Int) + 1) = ((n + 1 : Nat) : Int) := by rw [w64_of (by omega) (by omega)]; push_cast; rfl
  have hwr : S.wrong < 10007 := sok.wr.2
  have hwr0 := sok.wr.1
  -- on to the next number
  have next : ∀ (s3' s4' : Sl) (wr : Int) (sn : Nat) (g' : H), Ow g' s3' 1 (ic (runI a (n + 1)).now) → Fr h.length s3' → Rd g' s4' 1 (ic (runI a (n + 1)).before) → wr = (runI a (n + 1)).wrong → sn = (runI a (n + 1)).since → Ext h g' → X (impl_shortest_e0 u s3' s4' wr (sn : Int) u (a.length : Int) (w64 ((n : Int) + 1))) g' := fun s3' s4' wr sn g' q1 q2 q3 q4 q5 q6 => by
    rw [en]
    exact hX _ _ _ _ _ _ ⟨n + 1, rfl, by omega, q1, q2, q3, q4, by rw [q5], q6⟩ (by omega)
  have hnow := sok.nb
  refine impl_shortest_rule2 _ _ X _ _ _ _ _ _ _ _ _ _ _ (fun f k g' => ∃ k' : Nat, k = k' ∧ k' ≤ S.now.length ∧ f = faultK a S.now n k' ∧ g' = g) (fun _ k _ => (S.now.length - k).toNat) ?_ _ _ ⟨0, rfl, by omega, rfl, rfl⟩
  rintro Y _ _ g' ⟨k, rfl, hk, rfl, eg⟩ hY
  rw [eg]
  unfold impl_shortest_b2 impl_shortest_C2 impl_shortest_C1
  have hfb := faultK_bd (r := S.now) ha n k
  have hfb2 : faultK a S.now n k < 10007 := hfb.2
  refine bif_dec (fun hk2 => ?_) (fun hk2 => ?_)
  · refine o3.rd.ldG (by omega) (by omega) ?_
    rw [Int.toNat_natCast, w64_of (n := (n : Int) - (k : Int)) (by omega) (by omega), w64_of (by omega) (by omega), show (n : Int) - (k : Int) - 1 = ((n - k - 1 : Nat) : Int) by omega]
    refine at_k (r.ext xg) (by omega) ?_
    have b1 := mulM (hnow.at k) (ha.at (n - k - 1))
    rw [w64_of (n := S.now.getD k 0 * a.getD (n - k - 1) 0) (by omega) (by omega), w64_of (n := faultK a S.now n k - S.now.getD k 0 * a.getD (n - k - 1) 0) (by omega) (by omega)]
    refine modulo_k ?_
    rw [w64_of (n := (k : Int) + 1) (by omega) (by omega)]
    exact hY _ _ _ ⟨k + 1, by push_cast; rfl, by omega, (faultK_succ a S.now n k).symm, rfl⟩ (by omega)
  have hkl : k = S.now.length := by omega
  subst hkl
  have hfI : faultK a S.now n S.now.length = faultI a S.now n := rfl
  rw [hfI] at hfb hfb2 ⊢
  refine bif_eq (fun q0 => ?_) (fun q0 => ?_)
  · have er : runI a (n + 1) = { S with since := S.since + 1 } := by rw [hrun]; unfold stepI; rw [if_pos q0]
    rw [w64_of (n := (S.since : Int) + 1) (by omega) (by omega), show (S.since : Int) + 1 = ((S.since + 1 : Nat) : Int) by push_cast; rfl]
    exact next _ _ _ _ _ (by rw [er]; exact o3) f3 (by rw [er]; exact r4) (by rw [er]) (by rw [er]) xg
  refine bif_eq (fun q1 => ?_) (fun q1 => ?_)
  · have er : runI a (n + 1) = ⟨List.replicate (n + 1) 0, [], faultI a S.now n, 0⟩ := by rw [hrun]; unfold stepI; rw [if_neg q0, if_pos (by omega)]
    rw [w64_of (n := (n : Int) + 1) (by omega) (by omega)] at next ⊢
    refine mkS_ow (by omega) (by unfold lim; omega) fun s5 h7 os5 ls5 so5 e7 => ?_
    have x7 : Ext g h7 := by rw [e7]; exact Ext.app _ _
    have hz : (List.replicate ((n : Int) + 1).toNat [AVal.int .i64 0]).flatten = ic (List.replicate (n + 1) 0) := by
      unfold ic
      rw [List.map_replicate, show ((n : Int) + 1).toNat = n + 1 by omega]; simp
    rw [hz] at os5
    exact next s5 Sl.nil _ 0 h7 (by rw [er]; exact os5) (fun o e => by rw [so5] at e; cases e; exact xg.len) (by rw [er]; exact Rd.nil _ _) (by rw [er]) (by rw [er]) (xg.trans x7)
  have hpos : 0 < S.now.length := by omega
  have hroom := sok.room hpos
  refine inverse_k sok.wr ⟨by decide, ?_⟩
  have hib := invM_bound S.wrong
  have b2 := mulM hfb hib
  rw [w64_of (n := faultI a S.now n * invM S.wrong) (by omega) (by omega), tmod_nn b2.1]
  have hfac := emodMD (faultI a S.now n * invM S.wrong)
  obtain ⟨fac, hfe⟩ : ∃ fac, faultI a S.now n * invM S.wrong % MD = fac := ⟨_, rfl⟩
  have hst : stepI a n S = if S.now.length < (addI S.now (changeI S.since fac S.before)).length then ⟨addI S.now (changeI S.since fac S.before), S.now, faultI a S.now n, 0⟩ else ⟨addI S.now (changeI S.since fac S.before), S.before, S.wrong, S.since + 1⟩ := by
    unfold stepI
    rw [if_neg q0, if_neg (by omega), hfe]
  rw [hfe] at hfac ⊢
  have hfac2 : fac < 10007 := hfac.2
  have hcl := change_len S.since fac S.before
  refine mkS_ow (by omega) (by unfold lim; omega) fun s5 h7 os5 ls5 so5 e7 => ?_
  have x7 : Ext g h7 := by rw [e7]; exact Ext.app _ _
  have hz : (List.replicate (S.since : Int).toNat [AVal.int .i64 0]).flatten = ic (List.replicate S.since 0) := by
    unfold ic
    rw [List.map_replicate, Int.toNat_natCast]; simp
  rw [hz] at os5
  refine pushI4 os5 (by simp; unfold lim; omega) fun s8 h9 os8 b9 k9 => ?_
  have so8 := k9 _ so5
  rw [so5] at b9
  have x9 : Ext g h9 := x7.but_ b9 (some_le (Nat.le_refl _))
  have hbef := sok.bb
  refine impl_shortest_rule5 _ _ X _ _ _ _ _ _ _ _ _ _ _ _ (fun s k g' => ∃ k' : Nat, k = k' ∧ k' ≤ S.before.length ∧ Ow g' s 1 (ic (List.replicate S.since 0 ++ fac :: (S.before.take k').map fun r => (-fac * r) % MD)) ∧ s.o = some g.length ∧ Ext g g') (fun _ k _ => (S.before.length - k).toNat) ?_ _ _ ⟨0, rfl, by omega, os8, so8, x9⟩
  rintro Z s13 _ g5 ⟨k, rfl, hk5, os13, so13, x5⟩ hZ
  unfold impl_shortest_b5 impl_shortest_C5
  refine bif_dec (fun hk6 => ?_) (fun hk6 => ?_)
  · have hkb : k < S.before.length := by omega
    refine (r4.ext x5).ldG (by omega) (by omega) ?_
    rw [Int.toNat_natCast]
    have b3 := mulM hfac (hbef.at k)
    rw [w64_of (n := 0 - fac) (by omega) (by omega), w64_of (n := (0 - fac) * S.before.getD k 0) (by rw [Int.sub_mul]; omega) (by rw [Int.sub_mul]; omega)]
    refine modulo_k ?_
    refine pushI4 os13 (by simp; unfold lim; omega) fun s' g6 o6 b6 k6 => ?_
    rw [so13] at b6
    rw [w64_of (n := (k : Int) + 1) (by omega) (by omega)]
    refine hZ _ _ _ ⟨k + 1, by push_cast; rfl, hkb, ?_, k6 _ so13, x5.but_ b6 (some_le (Nat.le_refl _))⟩ (by omega)
    rw [List.take_add_one, List.getElem?_eq_getElem hkb, List.map_append]
    have e : S.before.getD k 0 = S.before[k] := by rw [List.getD_eq_getElem?_getD, List.getElem?_eq_getElem hkb]; rfl
    rw [e, Int.zero_sub] at o6
    simpa using o6
  have hkb : k = S.before.length := by omega
  subst hkb
  rw [List.take_length, show List.replicate S.since 0 ++ fac :: (S.before.map fun r => (-fac * r) % MD) = changeI S.since fac S.before from rfl] at os13
  have hchb := changeI_bm S.since hfac S.before
  have hcl13 := os13.rd.ilen
  generalize changeI S.since fac S.before = ch at os13 hst hchb hcl hcl13
  refine (cloneS_c (o3.rd.ext x5) (by omega)).to ?_
  rintro s16 g8 ⟨o16, f16, x8⟩
  have r13 := os13.rd.ext x8
  have hg5 := x5.len
  refine impl_shortest_rule7 _ _ X _ _ _ _ _ _ _ _ _ _ _ (fun s k g' => ∃ k' : Nat, k = k' ∧ k' ≤ ch.length ∧ Ow g' s 1 (ic (addK S.now ch k')) ∧ Fr g5.length s ∧ Ext g5 g') (fun _ k _ => (ch.length - k).toNat) ?_ _ _ ⟨0, rfl, by omega, by rw [addK_zero]; exact o16, f16, x8⟩
  rintro W s _ g9 ⟨k, rfl, hk7, os, fs, x9'⟩ hW
  unfold impl_shortest_b7 impl_shortest_C7 impl_shortest_C1
  have hsl := os.rd.ilen
  have hakl := addK_len S.now ch k
  refine bif_dec (fun hk8 => ?_) (fun hk8 => ?_)
  · have hkc : k < ch.length := by omega
    refine (os13.rd.ext x9').ldG (by omega) (by omega) ?_
    rw [Int.toNat_natCast]
    have cb := hchb.at k
    have cb2 : ch.getD k 0 < 10007 := cb.2
    -- the number is added
    have put : ∀ (s : Sl) (l : List Int) (g10 : H), Ow g10 s 1 (ic l) → Fr g5.length s → Ext g5 g10 → k < l.length → Bm l → l.set k ((l.getD k 0 + ch.getD k 0) % MD) = addK S.now ch (k + 1) → ixS s 1 (k : Int) fun p => Cl.ldI .i64 p g10 fun n13 => callI SP .i64 i_impl_modulo [.int .i64 (w64 (n13 + ch.getD k 0))] g10 fun n15 h14 => ixS s 1 (k : Int) fun p16 => Cl.st1 p16 (.int .i64 n15) h14 fun h17 => W (impl_shortest_e7 u s3 s4 S.wrong (S.since : Int) (faultI a S.now n) s u (a.length : Int) (n : Int) s13 (s13.len : Int) (w64 ((k : Int) + 1))) h17 := fun s l g10 ol fl xl hkl hbl heq => by
      refine ol.rd.ldG (by omega) (by omega) ?_
      rw [Int.toNat_natCast]
      have lb := hbl.at k
      have lb2 : l.getD k 0 < 10007 := lb.2
      have hll := ol.rd.ilen
      rw [w64_of (n := l.getD k 0 + ch.getD k 0) (by omega) (by omega)]
      refine modulo_k ?_
      refine ol.stI (by omega) (by omega) _ fun g11 o11 b11 n11 => ?_
      rw [Int.toNat_natCast, heq] at o11
      rw [w64_of (n := (k : Int) + 1) (by omega) (by omega)]
      exact hW _ _ _ ⟨k + 1, by push_cast; rfl, hkc, o11, fl, xl.but_ b11 fun o e => fl o e⟩ (by omega)
    have hbak : ∀ q, Bm (addK S.now ch q) := fun q x hx => by
      unfold addK at hx
      obtain ⟨j, _, rfl⟩ := List.mem_map.1 hx
      split
      · exact emodMD _
      · exact hnow.at j
    refine bif_eq (fun q => ?_) (fun q => ?_)
    · have hle : S.now.length ≤ k := by omega
      refine pushI4 os (by unfold lim; omega) fun s' g10 o10 b10 k10 => ?_
      refine put s' _ g10 o10 (fun o e => ?_) (x9'.but_ b10 fun o e => fs o e) (by simp; omega) (fun x hx => ?_) (addK_out hle)
      · obtain ⟨p, _⟩ | ⟨o', p, _⟩ := os.at_
        · exact absurd p (by omega)
        · have := k10 _ p
          rw [this] at e; cases e
          exact fs _ p
      · rcases List.mem_append.1 hx with hx | hx
        · exact hbak k x hx
        · rw [List.mem_singleton.1 hx]; exact ⟨by decide, by decide⟩
    · exact put s _ g9 os fs x9' (by omega) (hbak k) (addK_in (by omega))
  have hkc : k = ch.length := by omega
  subst hkc
  rw [addK_all] at os hakl hsl
  have xall := xg.trans (x5.trans x9')
  have frs : Fr h.length s := fun o e => by have := fs o e; have := xg.len; omega
  refine bif_dec (fun q => ?_) (fun q => ?_)
  · have er : runI a (n + 1) = ⟨addI S.now ch, S.now, faultI a S.now n, 0⟩ := by rw [hrun, hst, if_pos (by omega)]
    exact next s s3 _ 0 g9 (by rw [er]; exact os) frs (by rw [er]; exact (o3.rd.ext x5).ext x9') (by rw [er]) (by rw [er]) xall
  · have er : runI a (n + 1) = ⟨addI S.now ch, S.before, S.wrong, S.since + 1⟩ := by rw [hrun, hst, if_neg (by omega)]
    rw [w64_of (n := (S.since : Int) + 1) (by omega) (by omega), show (S.since : Int) + 1 = ((S.since + 1 : Nat) : Int) by push_cast; rfl]
    exact next s s4 _ _ g9 (by rw [er]; exact os) frs (by rw [er]; exact (r4.ext x5).ext x9') (by rw [er]) (by rw [er]) xall
end Go.Proofs.Ytnamnpbkiibadaa.Cl

/- The reference's shortest recurrence: its walk. No claim is stated here. -/
set_option linter.unusedVariables false
set_option linter.unusedSimpArgs false
namespace Go.Proofs.Ytnamnpbkiibadaa.Cl
open Go
theorem sneS {a b : Nat} (h : a ≠ b) : some a ≠ some b := fun e => h (Option.some.inj e)
theorem l06Inverse_k {x : Int} (hx : 0 ≤ x ∧ x < MD) {h : H} {K : Int → H → Prop} (hk : K (invM x) h) : callI SP .i64 i_spec_l06Inverse [i64 x] h K := by
  refine (show callI SP .i64 i_spec_l06Inverse [i64 x] h fun n h' => n = invM x ∧ h' = h from ?_).to (by rintro _ _ ⟨rfl, rfl⟩; exact hk)
  apply spec_l06Inverse_call
  unfold spec_l06Inverse_main
  refine spec_l06Inverse_rule0 _ _ (fun out n k g => ∃ (f k' : Nat), k = k' ∧ k' ≤ 10005 ∧ k' < 2 ^ f ∧ (0 ≤ n ∧ n < MD) ∧ (0 ≤ out ∧ out < MD) ∧ invF f k' out n = invM x ∧ h = g) (fun _ _ k _ => k.toNat) ?_ _ _ _ ⟨14, 10005, rfl, by decide, by decide, hx, by decide, rfl, rfl⟩
  rintro X out n _ _ ⟨f, k, rfl, hk5, hk2, hn, ho, he, rfl⟩ hX
  unfold spec_l06Inverse_b0 spec_l06Inverse_C0
  refine bif_dec (fun q => ⟨by decide, ?_⟩) (fun q => ?_)
  · rw [tmod2, tdiv2]
    have b1 := mulM hn hn
    have b2 := mulM ho hn
    cases f with
    | zero => simp at hk2; omega
    | succ f =>
      rw [invF, if_neg (by omega)] at he
      have hk3 : k / 2 < 2 ^ f := by rw [Nat.pow_succ] at hk2; omega
      refine bif_eq (fun q2 => ?_) (fun q2 => ?_)
      · rw [if_pos (by omega)] at he
        refine ⟨by decide, by decide, by decide, ?_⟩
        rw [w64_of (n := out * n) (by omega) (by omega), w64_of (n := n * n) (by omega) (by omega), tmod_nn b1.1, tmod_nn b2.1, w64_of (n := ((k / 2 : Nat) : Int)) (by omega) (by omega)]
        exact hX _ _ _ _ ⟨f, k / 2, rfl, by omega, hk3, emodMD _, emodMD _, he, rfl⟩ (by omega)
      · rw [if_neg (by omega)] at he
        refine ⟨by decide, by decide, ?_⟩
        rw [w64_of (n := n * n) (by omega) (by omega), tmod_nn b1.1, w64_of (n := ((k / 2 : Nat) : Int)) (by omega) (by omega)]
        exact hX _ _ _ _ ⟨f, k / 2, rfl, by omega, hk3, emodMD _, ho, he, rfl⟩ (by omega)
  · have : k = 0 := by omega
    subst this
    rw [invF_zero] at he
    exact ⟨_, rfl, he, rfl⟩
structure SSok (n : Nat) (s : SS) : Prop where
  ln : s.now.length ≤ (n + 1) * (n + 1)
  ll : s.last.length ≤ (n + 1) * (n + 1)
  sn : s.since ≤ n + 1
  le : s.len ≤ n
  nb : Bm s.now
  bb : Bm s.last
  od : 0 ≤ s.old ∧ s.old < MD
theorem sq_succ (n : Nat) : (n + 1 + 1) * (n + 1 + 1) = (n + 1) * (n + 1) + (2 * n + 3) := by
  rw [Nat.add_mul, Nat.mul_add]; omega
theorem mendS_bm {c last : List Int} (hc : Bm c) (since : Nat) (times : Int) : Bm (mendS c last since times) := fun x h => by
  unfold mendS at h
  obtain ⟨j, _, rfl⟩ := List.mem_map.1 h
  split
  · exact emodMD _
  · exact hc.at j
theorem ss_step {a : List Int} {n : Nat} {s : SS} (h : SSok n s) : SSok (n + 1) (stepS a n s) := by
  have hsq := sq_succ n
  have h1 := h.ln
  have h2 := h.ll
  have h3 := h.sn
  have h4 := h.le
  have hg := gapK_bound a s.now n (s.len + 1)
  unfold stepS
  split
  · exact ⟨by show s.now.length ≤ _; omega, by show s.last.length ≤ _; omega, by show s.since + 1 ≤ _; omega, by show s.len ≤ _; omega, h.nb, h.bb, h.od⟩
  · have hm := mend_len s.now s.last s.since (gapS a s.now s.len n * invM s.old % MD)
    split
    · refine ⟨?_, by show s.now.length ≤ _; omega, by show 1 ≤ _; omega, by show n + 1 - s.len ≤ n + 1; omega, mendS_bm h.nb _ _, h.nb, hg⟩
      show (mendS s.now s.last s.since (gapS a s.now s.len n * invM s.old % MD)).length ≤ _
      omega
    · refine ⟨?_, by show s.last.length ≤ _; omega, by show s.since + 1 ≤ _; omega, by show s.len ≤ _; omega, mendS_bm h.nb _ _, h.bb, h.od⟩
      show (mendS s.now s.last s.since (gapS a s.now s.len n * invM s.old % MD)).length ≤ _
      omega
theorem ss_run {a : List Int} : ∀ n, SSok n (runS a n)
  | 0 => ⟨by show 1 ≤ 1; omega, by show 1 ≤ 1; omega, by show 1 ≤ 1; omega, by show 0 ≤ 0; omega, (fun x hx => by rw [List.mem_singleton.1 hx]; exact ⟨by decide, by decide⟩), (fun x hx => by rw [List.mem_singleton.1 hx]; exact ⟨by decide, by decide⟩), ⟨by show (0 : Int) ≤ 1; decide, by show (1 : Int) < 10007; decide⟩⟩
  | n + 1 => ss_step (ss_run n)
def mendK (c last : List Int) (since : Nat) (times : Int) (i : Nat) : List Int := (List.range (max c.length (last.length + since))).map fun j => if since ≤ j ∧ j - since < i then (c.getD j 0 + (MD - times) * last.getD (j - since) 0) % MD else c.getD j 0
theorem mendK_len (c last : List Int) (since : Nat) (times : Int) (i : Nat) : (mendK c last since times i).length = max c.length (last.length + since) := by unfold mendK; simp
theorem mendK_at {c last : List Int} {since : Nat} {times : Int} {i j : Nat} (h : j < max c.length (last.length + since)) : (mendK c last since times i).getD j 0 = if since ≤ j ∧ j - since < i then (c.getD j 0 + (MD - times) * last.getD (j - since) 0) % MD else c.getD j 0 := by unfold mendK; exact getD_map h
theorem mendK_zero (c last : List Int) (since : Nat) (times : Int) {k : Nat} (hk : c.length + k = max c.length (last.length + since)) : c ++ List.replicate k 0 = mendK c last since times 0 :=
  ext_getD (by rw [mendK_len, List.length_append, List.length_replicate]; exact hk) fun i hi => by
    rw [List.length_append, List.length_replicate] at hi
    rw [mendK_at (by omega), if_neg (by omega)]
    by_cases h : i < c.length
    · rw [List.getD_eq_getElem?_getD, List.getElem?_append_left h, ← List.getD_eq_getElem?_getD]
    · rw [List.getD_eq_getElem?_getD, List.getElem?_append_right (by omega), List.getElem?_replicate, getD_big (by omega)]
      split <;> rfl
theorem mendK_succ (c last : List Int) (since : Nat) (times : Int) {i : Nat} (hi : i < last.length) :
    (mendK c last since times i).set (i + since) (((mendK c last since times i).getD (i + since) 0 + (MD - times) * last.getD i 0) % MD) = mendK c last since times (i + 1) :=
  ext_getD (by rw [List.length_set, mendK_len, mendK_len]) fun j hj => by
    rw [List.length_set, mendK_len] at hj
    rw [getD_setI (by rw [mendK_len]; omega)]
    by_cases e : i + since = j
    · subst e
      rw [if_pos rfl, mendK_at (i := i) (j := i + since) (by omega), mendK_at (i := i + 1) (j := i + since) (by omega), if_neg (by omega), if_pos (by omega), show i + since - since = i by omega]
    · rw [if_neg e, mendK_at (i := i) (j := j) (by omega), mendK_at (i := i + 1) (j := j) (by omega)]
      by_cases h2 : since ≤ j ∧ j - since < i
      · rw [if_pos h2, if_pos (by omega)]
      · rw [if_neg h2, if_neg (by omega)]
theorem mendK_bm {c last : List Int} (hc : Bm c) (since : Nat) (times : Int) (i : Nat) : Bm (mendK c last since times i) := fun x h => by
  unfold mendK at h
  obtain ⟨j, _, rfl⟩ := List.mem_map.1 h
  split
  · exact emodMD _
  · exact hc.at j
theorem gapK_succ (a c : List Int) (n k : Nat) : gapK a c n (k + 1) = (gapK a c n k + c.getD k 0 * a.getD (n - k) 0) % MD := by unfold gapK; rw [foldl_succ]
/-- The numbers told, as far as they are. -/
def outK (s : SS) (k : Nat) : List Int := (List.range s.len).map fun i => if i + 1 < s.now.length ∧ i + 1 < k then (MD - s.now.getD (i + 1) 0) % MD else 0
theorem outK_len (s : SS) (k : Nat) : (outK s k).length = s.len := by unfold outK; simp
theorem outK_at {s : SS} {k i : Nat} (h : i < s.len) : (outK s k).getD i 0 = if i + 1 < s.now.length ∧ i + 1 < k then (MD - s.now.getD (i + 1) 0) % MD else 0 := by unfold outK; exact getD_map h
theorem outK_one (s : SS) : List.replicate s.len 0 = outK s 1 := ext_getD (by rw [outK_len, List.length_replicate]) fun i hi => by
  rw [List.length_replicate] at hi
  rw [outK_at hi, if_neg (by omega), List.getD_eq_getElem?_getD, List.getElem?_replicate, if_pos hi]; rfl
theorem outK_succ {s : SS} {k : Nat} (h1 : 1 ≤ k) (h2 : k ≤ s.len) (h3 : k < s.now.length) : (outK s k).set (k - 1) ((MD - s.now.getD k 0) % MD) = outK s (k + 1) :=
  ext_getD (by rw [List.length_set, outK_len, outK_len]) fun i hi => by
    rw [List.length_set, outK_len] at hi
    rw [getD_setI (by rw [outK_len]; omega), outK_at (k := k + 1) hi]
    by_cases e : k - 1 = i
    · subst e
      rw [if_pos rfl, if_pos (by omega), show k - 1 + 1 = k by omega]
    · rw [if_neg e, outK_at hi]
      by_cases h : i + 1 < s.now.length ∧ i + 1 < k
      · rw [if_pos h, if_pos (by omega)]
      · rw [if_neg h, if_neg (by omega)]
theorem outK_end {s : SS} {k : Nat} (h : s.len < k ∨ s.now.length ≤ k) : outK s k = outS s := by
  unfold outK outS
  refine List.map_congr_left fun i hi => ?_
  have := List.mem_range.1 hi
  by_cases h2 : i + 1 < s.now.length
  · rw [if_pos h2, if_pos (by omega)]
  · rw [if_neg h2, if_neg (by omega)]
set_option maxHeartbeats 1000000 in
theorem l06Shortest_c {h : H} {u : Sl} {a : List Int} (ha : Bm a) (hal : a.length ≤ 100) (r : Rd h u 1 (ic a)) :
    callS SP i_spec_l06Shortest [.sl u] h fun v h' => Ow h' v 1 (ic (outS (runS a a.length))) ∧ Fr h.length v ∧ Ext h h' := by
  have hul := r.ilen
  apply spec_l06Shortest_call
  unfold spec_l06Shortest_main
  refine newS_ow (by rfl) fun s0 h1 os0 ls0 so0 e1 => ?_
  have x1 : Ext h h1 := by rw [e1]; exact Ext.app _ _
  refine newS_ow (by rfl) fun s2 h3 os2 ls2 so2 e3 => ?_
  have x3 : Ext h1 h3 := by rw [e3]; exact Ext.app _ _
  have l1 : h1.length = h.length + 1 := by rw [e1]; simp
  refine spec_l06Shortest_rule0 _ _ _ (fun s3 s4 sn od len i g => ∃ n : Nat, i = n ∧ n ≤ a.length ∧ Ow g s3 1 (ic (runS a n).now) ∧ s3.o = some h.length ∧ Rd g s4 1 (ic (runS a n).last) ∧ s4.o ≠ some h.length ∧ sn = ((runS a n).since : Int) ∧ od = (runS a n).old ∧ len = ((runS a n).len : Int) ∧ Ext h g) (fun _ _ _ _ _ i _ => (a.length - i).toNat) ?_ _ _ _ _ _ _
    ⟨0, rfl, by omega, os0.ext x3, so0, os2.rd, by rw [so2]; exact sneS (by omega), rfl, rfl, rfl, x1.trans x3⟩
  rintro X s3 s4 _ _ _ _ g ⟨n, rfl, hn, o3, f3, r4, d34, rfl, rfl, rfl, xg⟩ hX
  have sok := ss_run (a := a) n
  unfold spec_l06Shortest_b0 spec_l06Shortest_C0
  refine bif_dec (fun hi => ?_) (fun hi => ?_)
  rotate_left
  · have : n = a.length := by omega
    subst this
    have h1' := sok.le
    have h2' := sok.nb
    generalize runS a a.length = S at sok o3 r4 h1' h2'
    have h3l := o3.rd.ilen
    refine mkS_ow (by omega) (by unfold lim; omega) fun s5 h7 os5 ls5 so5 e7 => ?_
    have x7 : Ext g h7 := by rw [e7]; exact Ext.app _ _
    have hz : (List.replicate (S.len : Int).toNat [AVal.int .i64 0]).flatten = ic (List.replicate S.len 0) := by
      unfold ic
      rw [List.map_replicate, Int.toNat_natCast]; simp
    rw [hz, outK_one] at os5
    refine spec_l06Shortest_rule8 _ _ _ _ _ (fun i g' => ∃ k : Nat, i = k ∧ 1 ≤ k ∧ k ≤ S.len + 1 ∧ Ow g' s5 1 (ic (outK S k)) ∧ Ext g g') (fun i _ => (S.len + 1 - i).toNat) ?_ _ ⟨1, rfl, by omega, by omega, os5, x7⟩
    rintro Y _ g' ⟨k, rfl, hk1, hk2, os, x⟩ hY
    unfold spec_l06Shortest_b8 spec_l06Shortest_C8
    have hg := xg.len
    have fin : (S.len < k ∨ S.now.length ≤ k) → ∃ v, AVal.sl s5 = .sl v ∧ Ow g' v 1 (ic (outS S)) ∧ Fr h.length v ∧ Ext h g' := fun q => ⟨s5, rfl, by rw [← outK_end q]; exact os, fun o e => by rw [so5] at e; cases e; omega, xg.trans x⟩
    have hln := sok.ln
    refine bif_dec (fun q => ?_) (fun q => fin (.inl (by omega)))
    refine bif_dec (fun q2 => ?_) (fun q2 => fin (.inr (by omega)))
    refine (o3.rd.ext x).ldG (by omega) (by omega) ?_
    rw [Int.toNat_natCast]
    have b := h2'.at k
    have b2 : S.now.getD k 0 < 10007 := b.2
    have hsl := os.rd.ilen
    rw [outK_len] at hsl
    rw [w64_of (n := 10007 - S.now.getD k 0) (by omega) (by omega), w64_of (n := (k : Int) - 1) (by omega) (by omega), tmod_nn (by omega)]
    refine ⟨by decide, ?_⟩
    refine os.stI (by omega) (by omega) _ fun g2 o2 b2' n2 => ?_
    rw [show ((k : Int) - 1).toNat = k - 1 by omega, show (10007 - S.now.getD k 0) % MD = (MD - S.now.getD k 0) % MD from rfl, outK_succ hk1 (by omega) (by omega)] at o2
    have hkb : k ≤ 101 := by omega
    rw [w64_of (n := (k : Int) + 1) (by omega) (by omega)]
    exact hY _ _ ⟨k + 1, by push_cast; rfl, by omega, by omega, o2, x.but_ b2' fun o e => by rw [so5] at e; cases e; exact Nat.le_refl _⟩ (by omega)
  have hnl : n < a.length := by omega
  have hrun : runS a (n + 1) = stepS a n (runS a n) := rfl
  have hsq : (n + 1) * (n + 1) ≤ 101 * 101 := Nat.mul_le_mul (by omega) (by omega)
  generalize runS a n = S at sok o3 r4 hX hrun
  have hS1 := sok.ln
  have hS2 := sok.ll
  have hS3 := sok.sn
  have hS4 := sok.le
  have h3l := o3.rd.ilen
  have h4l := r4.ilen
  have hod := sok.od.2
  have en : w64 ((n : Int) + 1) = ((n + 1 : Nat) : Int) := by rw [w64_of (by omega) (by omega)]; push_cast; rfl
  have next : ∀ (s3' s4' : Sl) (sn : Nat) (od : Int) (len : Nat) (g' : H), Ow g' s3' 1 (ic (runS a (n + 1)).now) → s3'.o = some h.length → Rd g' s4' 1 (ic (runS a (n + 1)).last) → s4'.o ≠ some h.length → sn = (runS a (n + 1)).since → od = (runS a (n + 1)).old → len = (runS a (n + 1)).len → Ext h g' → X (spec_l06Shortest_e0 u s3' s4' (sn : Int) od (len : Int) (w64 ((n : Int) + 1))) g' := fun s3' s4' sn od len g' q1 q2 q3 q4 q5 q6 q7 q8 => by
    rw [en]
    exact hX _ _ _ _ _ _ _ ⟨n + 1, rfl, by omega, q1, q2, q3, q4, by rw [q5], q6, by rw [q7], q8⟩ (by omega)
  refine spec_l06Shortest_rule2 _ _ X _ _ _ _ _ _ _ (fun f k g' => ∃ k' : Nat, k = k' ∧ k' ≤ S.len + 1 ∧ f = gapK a S.now n k' ∧ g' = g) (fun _ k _ => (S.len + 1 - k).toNat) ?_ _ _ ⟨0, rfl, by omega, rfl, rfl⟩
  rintro Y _ _ g' ⟨k, rfl, hk, rfl, eg⟩ hY
  rw [eg]
  have hgb := gapK_bound a S.now n k
  have hgb2 : gapK a S.now n k < 10007 := hgb.2
  -- behind the gap
  have rest : gapK a S.now n k = gapS a S.now S.len n → spec_l06Shortest_C2 SP (fun v h' => ∃ r, v = .sl r ∧ Ow h' r 1 (ic (outS (runS a a.length))) ∧ Fr h.length r ∧ Ext h h') X u s3 s4 (S.since : Int) S.old (S.len : Int) (n : Int) (gapK a S.now n k) g := fun eG => by
    unfold spec_l06Shortest_C2
    rw [eG] at hgb hgb2 ⊢
    refine bif_eq (fun q0 => ?_) (fun q0 => ?_)
    · have er : runS a (n + 1) = { S with since := S.since + 1 } := by rw [hrun]; unfold stepS; rw [if_pos q0]
      unfold spec_l06Shortest_C1
      rw [w64_of (n := (S.since : Int) + 1) (by omega) (by omega), show (S.since : Int) + 1 = ((S.since + 1 : Nat) : Int) by push_cast; rfl]
      exact next _ _ _ _ _ _ (by rw [er]; exact o3) f3 (by rw [er]; exact r4) d34 (by rw [er]) (by rw [er]) (by rw [er]) xg
    refine (ownS_c o3.rd (by omega)).to ?_
    rintro s11 g1 ⟨o11, f11, x1'⟩
    refine l06Inverse_k sok.od ⟨by decide, ?_⟩
    have hib := invM_bound S.old
    have b2 := mulM hgb hib
    rw [w64_of (n := gapS a S.now S.len n * invM S.old) (by omega) (by omega), tmod_nn b2.1]
    have htm := emodMD (gapS a S.now S.len n * invM S.old)
    obtain ⟨tm, hte⟩ : ∃ tm, gapS a S.now S.len n * invM S.old % MD = tm := ⟨_, rfl⟩
    have hst : stepS a n S = if 2 * S.len ≤ n then ⟨mendS S.now S.last S.since tm, S.now, 1, gapS a S.now S.len n, n + 1 - S.len⟩ else ⟨mendS S.now S.last S.since tm, S.last, S.since + 1, S.old, S.len⟩ := by
      unfold stepS
      rw [if_neg q0, hte]
    rw [hte] at htm ⊢
    have htm2 : tm < 10007 := htm.2
    have hg1 := x1'.len
    have h3lt := o3.lt f3
    have h11 : s11.o ≠ some h.length := fun e => by have := f11 _ e; omega
    refine spec_l06Shortest_rule4 _ _ X _ _ _ _ _ _ _ _ _ (fun s g' => ∃ k : Nat, S.now.length + k ≤ max S.now.length (S.last.length + S.since) ∧ Ow g' s 1 (ic (S.now ++ List.replicate k 0)) ∧ s.o = some h.length ∧ Rd g' s4 1 (ic S.last) ∧ Rd g' s11 1 (ic S.now) ∧ Ext h g') (fun s _ => (S.last.length + S.since - s.len)) ?_ _ ⟨0, by omega, by rw [List.replicate_zero, List.append_nil]; exact o3.ext x1', f3, r4.ext x1', o11.rd, xg.trans x1'⟩
    rintro Z s g2 ⟨j, hj, os, so, r4', r11, xg2⟩ hZ
    unfold spec_l06Shortest_b4 spec_l06Shortest_C4
    have hsl := os.rd.ilen
    rw [List.length_append, List.length_replicate] at hsl
    rw [w64_of (n := (s4.len : Int) + (S.since : Int)) (by omega) (by omega)]
    refine bif_dec (fun q1 => ?_) (fun q1 => ?_)
    · refine pushI4 os (by rw [List.length_append, List.length_replicate]; unfold lim; omega) fun s' g3 o3' b3 k3 => ?_
      rw [so] at b3
      have hl3 := o3'.rd.ilen
      rw [List.length_append, List.length_append, List.length_replicate] at hl3
      refine hZ _ _ ⟨j + 1, by omega, ?_, k3 _ so, r4'.but b3 (.inl (Ne.symm d34)), r11.but b3 (.inl (Ne.symm h11)), xg2.but_ b3 (some_le (Nat.le_refl _))⟩ (by simp at hl3; omega)
      rw [List.replicate_succ', ← List.append_assoc]; exact o3'
    have hjm : S.now.length + j = max S.now.length (S.last.length + S.since) := by omega
    rw [mendK_zero S.now S.last S.since tm hjm] at os
    refine spec_l06Shortest_rule6 _ _ X _ _ _ _ _ _ _ _ _ _ (fun i g' => ∃ k : Nat, i = k ∧ k ≤ S.last.length ∧ Ow g' s 1 (ic (mendK S.now S.last S.since tm k)) ∧ Rd g' s4 1 (ic S.last) ∧ Rd g' s11 1 (ic S.now) ∧ Ext h g') (fun i _ => (S.last.length - i).toNat) ?_ _ ⟨0, rfl, by omega, os, r4', r11, xg2⟩
    rintro W _ g3 ⟨m, rfl, hm, os3, r43, r113, xg3⟩ hW
    unfold spec_l06Shortest_b6 spec_l06Shortest_C6 spec_l06Shortest_C1
    have hs3 := os3.rd.ilen
    rw [mendK_len] at hs3
    refine bif_dec (fun q2 => ?_) (fun q2 => ?_)
    · have hml : m < S.last.length := by omega
      rw [w64_of (n := (m : Int) + (S.since : Int)) (by omega) (by omega), show (m : Int) + (S.since : Int) = ((m + S.since : Nat) : Int) by push_cast; rfl]
      refine os3.rd.ldG (by omega) (by rw [mendK_len]; omega) ?_
      refine r43.ldG (by omega) (by omega) ?_
      rw [Int.toNat_natCast, Int.toNat_natCast]
      have bx := (mendK_bm sok.nb (last := S.last) S.since tm m).at (m + S.since)
      have bx2 : (mendK S.now S.last S.since tm m).getD (m + S.since) 0 < 10007 := bx.2
      have by' := sok.bb.at m
      have b3 := mulM (x := 10006 - (tm - 1) - 1) (y := S.last.getD m 0) ⟨by omega, by show _ < (10007 : Int); omega⟩ by'
      have e10 : (10006 - (tm - 1) - 1) = 10006 - tm := by omega
      have hyl : S.last.getD m 0 < 10007 := by'.2
      have b4 : (10007 - tm) * S.last.getD m 0 = (10006 - (tm - 1) - 1) * S.last.getD m 0 + S.last.getD m 0 := by
        rw [e10, show (10007 - tm) = (10006 - tm) + 1 by omega, Int.add_mul, Int.one_mul]
      rw [w64_of (n := 10007 - tm) (by omega) (by omega), w64_of (n := (10007 - tm) * S.last.getD m 0) (by omega) (by omega), w64_of (n := (mendK S.now S.last S.since tm m).getD (m + S.since) 0 + (10007 - tm) * S.last.getD m 0) (by omega) (by omega), tmod_nn (by omega)]
      refine ⟨by decide, ?_⟩
      refine os3.stI (by omega) (by omega) _ fun g4 o4 b4' n4 => ?_
      rw [so] at b4'
      rw [Int.toNat_natCast, show ((mendK S.now S.last S.since tm m).getD (m + S.since) 0 + (10007 - tm) * S.last.getD m 0) % MD = ((mendK S.now S.last S.since tm m).getD (m + S.since) 0 + (MD - tm) * S.last.getD m 0) % MD from rfl, mendK_succ _ _ _ _ hml] at o4
      rw [w64_of (n := (m : Int) + 1) (by omega) (by omega)]
      exact hW _ _ ⟨m + 1, by push_cast; rfl, hml, o4, r43.but b4' (.inl (Ne.symm d34)), r113.but b4' (.inl (Ne.symm h11)), xg3.but_ b4' (some_le (Nat.le_refl _))⟩ (by omega)
    · have hml : m = S.last.length := by omega
      subst hml
      have em : mendK S.now S.last S.since tm S.last.length = mendS S.now S.last S.since tm := rfl
      rw [em] at os3
      rw [w64_of (n := 2 * (S.len : Int)) (by omega) (by omega)]
      refine bif_dec (fun q3 => ?_) (fun q3 => ?_)
      · have er : runS a (n + 1) = ⟨mendS S.now S.last S.since tm, S.now, 1, gapS a S.now S.len n, n + 1 - S.len⟩ := by rw [hrun, hst, if_pos (by omega)]
        have ew : w64 (w64 ((n : Int) + 1) - (S.len : Int)) = ((n + 1 - S.len : Nat) : Int) := by
          rw [w64_of (n := (n : Int) + 1) (by omega) (by omega), w64_of (by omega) (by omega)]; omega
        rw [ew]
        exact next s s11 1 _ _ g3 (by rw [er]; exact os3) so (by rw [er]; exact r113) h11 (by rw [er]) (by rw [er]) (by rw [er]) xg3
      · have er : runS a (n + 1) = ⟨mendS S.now S.last S.since tm, S.last, S.since + 1, S.old, S.len⟩ := by rw [hrun, hst, if_neg (by omega)]
        rw [w64_of (n := (S.since : Int) + 1) (by omega) (by omega), show (S.since : Int) + 1 = ((S.since + 1 : Nat) : Int) by push_cast; rfl]
        exact next s s4 _ _ _ g3 (by rw [er]; exact os3) so (by rw [er]; exact r43) d34 (by rw [er]) (by rw [er]) (by rw [er]) xg3
  unfold spec_l06Shortest_b2
  refine bif_dec (fun q1 => ?_) (fun q1 => ?_)
  · refine bif_dec (fun q2 => ?_) (fun q2 => ?_)
    · refine o3.rd.ldG (by omega) (by omega) ?_
      rw [Int.toNat_natCast, w64_of (n := (n : Int) - (k : Int)) (by omega) (by omega), show (n : Int) - (k : Int) = ((n - k : Nat) : Int) by omega]
      refine (r.ext xg).ldG (by omega) (by omega) ?_
      rw [Int.toNat_natCast]
      have b1 := mulM (sok.nb.at k) (ha.at (n - k))
      rw [w64_of (n := S.now.getD k 0 * a.getD (n - k) 0) (by omega) (by omega), w64_of (n := gapK a S.now n k + S.now.getD k 0 * a.getD (n - k) 0) (by omega) (by omega), tmod_nn (by omega), w64_of (n := (k : Int) + 1) (by omega) (by omega)]
      exact ⟨by decide, hY _ _ _ ⟨k + 1, by push_cast; rfl, by omega, (gapK_succ a S.now n k).symm, rfl⟩ (by omega)⟩
    · refine rest ?_
      unfold gapS
      obtain ⟨d, hd⟩ : ∃ d, S.len + 1 = k + d := ⟨S.len + 1 - k, by omega⟩
      rw [hd, gapK_more d k (by omega)]
  · refine rest ?_
    unfold gapS
    rw [show k = S.len + 1 by omega]
end Go.Proofs.Ytnamnpbkiibadaa.Cl

/- Contracts of the functions that tell fillings, cylinders and tori. No claim is stated here. -/
set_option linter.unusedVariables false
set_option linter.unusedSimpArgs false
namespace Go.Proofs.Ytnamnpbkiibadaa.Cl
open Go
section
variable {h : H} {a : Nat} {c : Int} {s q : Sl} {ts : List Tile} {rows : List (List Int)}
theorem side_of (o : Obj h a (SetC c s)) (r : Rd h s 4 (tcs ts)) {n k : Int} (n0 : 0 ≤ n) (n1 : n < ts.length) (k0 : 0 ≤ k) (k1 : k < 4) {K : Int → Prop} (hk : K (sd (tat ts n) k.toNat)) :
    isPt ⟨some a, 2, 0⟩ (ldS (Pt.add ⟨some a, 2, 0⟩ 1) h fun s2 => ixS s2 4 n fun p => ixA p 4 1 k fun p => ldI .i64 p h K) :=
  isPt_in (o.ldS rfl rfl (r.sideG n0 n1 k0 k1 hk))
theorem side_in (o : Obj h a (SetC c s)) (r : Rd h s 4 (tcs ts)) {v : Sl} {y : Nat} (rv : Rd h v 1 (ic (rw_ rows y))) {x k : Int} (x0 : 0 ≤ x) (x1 : x < (rw_ rows y).length) (hn : 0 ≤ G rows y x.toNat ∧ G rows y x.toNat < ts.length) (k0 : 0 ≤ k) (k1 : k < 4) {K : Int → Prop} (hk : K (sd (tat ts (G rows y x.toNat)) k.toNat)) :
    isPt ⟨some a, 2, 0⟩ (ldS (Pt.add ⟨some a, 2, 0⟩ 1) h fun s2 => ixS v 1 x fun p => ldI .i64 p h fun n => ixS s2 4 n fun p => ixA p 4 1 k fun p => ldI .i64 p h K) :=
  isPt_in (o.ldS rfl rfl (rv.ldG x0 x1 (r.sideG hn.1 hn.2 k0 k1 hk)))
theorem side_at (o : Obj h a (SetC c s)) (r : Rd h s 4 (tcs ts)) (rr : RdSS h q rows) {y x k : Int} (y0 : 0 ≤ y) (y1 : y < rows.length) (x0 : 0 ≤ x) (x1 : x < (rw_ rows y.toNat).length) (hn : 0 ≤ G rows y.toNat x.toNat ∧ G rows y.toNat x.toNat < ts.length) (k0 : 0 ≤ k) (k1 : k < 4) {K : Int → Prop} (hk : K (sd (tat ts (G rows y.toNat x.toNat)) k.toNat)) :
    isPt ⟨some a, 2, 0⟩ (ldS (Pt.add ⟨some a, 2, 0⟩ 1) h fun s2 => ixS q 1 y fun p => ldS p h fun v => ixS v 1 x fun p => ldI .i64 p h fun n => ixS s2 4 n fun p => ixA p 4 1 k fun p => ldI .i64 p h K) :=
  isPt_in (o.ldS rfl rfl (rr.ldG y0 y1 fun v rv lv => rv.ldG x0 x1 (r.sideG hn.1 hn.2 k0 k1 hk)))
end
/-- The side k of the tile at a place. -/
abbrev S_ (ts : List Tile) (rows : List (List Int)) (y x k : Nat) : Int := sd (tat ts (G rows y x)) k
def CellOK (ts : List Tile) (rows : List (List Int)) (y x : Nat) : Prop := (0 < x → S_ ts rows y (x - 1) 2 = S_ ts rows y x 0) ∧ (0 < y → S_ ts rows (y - 1) x 3 = S_ ts rows y x 1)
def Filling (ts : List Tile) (rows : List (List Int)) : Prop := ∀ y x, y < rows.length → x < (rw_ rows y).length → CellOK ts rows y x
def CylEnds (ts : List Tile) (rows : List (List Int)) : Prop := ∀ y, y < rows.length → S_ ts rows y ((rw_ rows y).length - 1) 2 = S_ ts rows y 0 0
def TorEnds (ts : List Tile) (rows : List (List Int)) : Prop := ∀ x, x < (rw_ rows 0).length → S_ ts rows (rows.length - 1) x 3 = S_ ts rows 0 x 1
section
variable {h0 : H} {c : Int} {s q : Sl} {ts : List Tile} {rows : List (List Int)}
end
end Go.Proofs.Ytnamnpbkiibadaa.Cl

/- Contracts of IsCylinder and IsTorus. No claim is stated here. -/
set_option linter.unusedVariables false
set_option linter.unusedSimpArgs false
namespace Go.Proofs.Ytnamnpbkiibadaa.Cl
open Go
noncomputable def F_IsCylinder_0 (c : Int) (ts : List Tile) (rows : List (List Int)) : Bool := bP ((setOK c ts ∧ Nums ts.length rows) ∧ Filling ts rows ∧ CylEnds ts rows)
noncomputable def F_IsTorus_0 (c : Int) (ts : List Tile) (rows : List (List Int)) : Bool := bP ((setOK c ts ∧ Nums ts.length rows) ∧ Filling ts rows ∧ CylEnds ts rows ∧ TorEnds ts rows)
section
variable {h0 : H} {c : Int} {s q : Sl} {ts : List Tile} {rows : List (List Int)}
end
end Go.Proofs.Ytnamnpbkiibadaa.Cl

/- Contracts of shifted tori: shifts, comparing, least forms, shifts that keep. No claim is stated here. -/
set_option linter.unusedVariables false
set_option linter.unusedSimpArgs false
namespace Go.Proofs.Ytnamnpbkiibadaa.Cl
open Go
/-! ### one element more -/
theorem push_c {h : H} {s : Sl} {l : List AVal} {x : AVal} (r : Ow h s 1 l) (hl : (s.len : Int) + 1 ≤ lim) {K : Sl → H → Prop}
    (hk : ∀ s' h', Ow h' s' 1 (l ++ [x]) → s'.len = s.len + 1 → But s.o h h' → (∀ n, Fr n s → n ≤ h.length → Fr n s') → K s' h') : newS 1 1 [x] h fun t h1 => app s t 1 h1 K := by
  refine newS_ow (by rfl) fun t h1 ot tl to e1 => ?_
  subst e1
  refine app_ow (by omega) (r.ext (Ext.app _ _)) ot.rd (by rw [tl]; exact_mod_cast hl) fun s' h' o' ln b k1 k2 => hk s' h' o' (by omega) ?_ fun n fn hn o e => ?_
  · exact ((Ext.app h _).but _).trans b
  · cases hq : s.o with
    | none => have := k2 hq o e; simp at this; omega
    | some p => rw [k1 p hq] at e; cases e; exact fn _ hq
theorem pushI {h : H} {s : Sl} {l : List Int} {x : Int} (r : Ow h s 1 (ic l)) (hl : (l.length : Int) + 1 ≤ lim) {K : Sl → H → Prop}
    (hk : ∀ s' h', Ow h' s' 1 (ic (l ++ [x])) → But s.o h h' → (∀ n, Fr n s → n ≤ h.length → Fr n s') → K s' h') : newS 1 1 [.int .i64 x] h fun t h1 => app s t 1 h1 K := by
  refine push_c r (by have := r.rd.ilen; omega) fun s' h' o' _ b f => hk s' h' ?_ b f
  rw [ic_app]; exact o'
theorem NewSS.push {n m : Nat} {h : H} {s : Sl} {ls : List (List Int)} (r : NewSS n h s ls) {v : Sl} {l : List Int} (ov : Ow h v 1 (ic l)) (fv : Fr m v) (hnm : n ≤ m) (hm : ∃ h0 : H, NewSS n h0 s ls ∧ h0.length ≤ m ∧ Ext h0 h)
    (hl : (ls.length : Int) + 1 ≤ lim) (hnh : n ≤ h.length) {K : Sl → H → Prop} (hk : ∀ s' h', NewSS n h' s' (ls ++ [l]) → But s.o h h' → K s' h') : newS 1 1 [.sl v] h fun t h1 => Cl.app s t 1 h1 K := by
  refine newS_ow (by rfl) fun t h1 ot tl to e1 => ?_
  have e1' : Ext h h1 := by rw [e1]; exact Ext.app _ _
  obtain ⟨h0, r0, l0, x0⟩ := hm
  refine (r.ext e1').app_new (ov.ext e1') fv hnm ⟨h0, r0, l0, x0.trans e1'⟩ ot.rd hl (Nat.le_trans hnh e1'.len) fun s' h' n' b _ _ => hk s' h' n' ((e1'.but _).trans b)
theorem NewSS.fr {n h s ls} (r : NewSS n h s ls) : Fr n s := by obtain ⟨_, _, _, f, _⟩ := r; exact f
/-! ### tables of numbers -/
def tab1 (n : Nat) (f : Nat → Int) : List Int := (List.range n).map f
def tab2 (n : Nat) (f : Nat → List Int) : List (List Int) := (List.range n).map f
theorem tab1_len (n f) : (tab1 n f).length = n := by simp [tab1]
theorem tab2_len (n f) : (tab2 n f).length = n := by simp [tab2]
theorem tab1_succ (n f) : tab1 (n + 1) f = tab1 n f ++ [f n] := by simp [tab1, List.range_succ]
theorem tab2_succ (n f) : tab2 (n + 1) f = tab2 n f ++ [f n] := by simp [tab2, List.range_succ]
theorem tab2_row {n f y} (h : y < n) : rw_ (tab2 n f) y = f y := by
  unfold rw_ tab2
  rw [List.getD_eq_getElem?_getD, List.getElem?_map, List.getElem?_range h]; rfl
theorem tab1_at {n f y} (h : y < n) : (tab1 n f).getD y 0 = f y := by
  unfold tab1
  rw [List.getD_eq_getElem?_getD, List.getElem?_map, List.getElem?_range h]; rfl
theorem foldl_range_succ {α : Type} (g : α → Nat → α) (x : α) (n : Nat) : (List.range (n + 1)).foldl g x = g ((List.range n).foldl g x) n := by
  rw [List.range_succ, List.foldl_append]; rfl
/-! ### shifts -/
abbrev wide (rows : List (List Int)) : Nat := (rw_ rows 0).length
def shiftG (rows : List (List Int)) (a b : Nat) : List (List Int) := tab2 rows.length fun y => tab1 (wide rows) fun x => G rows ((y + a) % rows.length) ((x + b) % wide rows)
/-- Rows of one length, not too many. -/
structure Rect (rows : List (List Int)) : Prop where
  h0 : 1 ≤ rows.length
  h1 : rows.length ≤ 8
  w : ∀ y, y < rows.length → (rw_ rows y).length = wide rows
  w0 : 1 ≤ wide rows
  w1 : wide rows ≤ 8
theorem Nums.rect {n rows} (h : Nums n rows) : Rect rows := by
  have h2 := h.2.2
  have h1 := h.2.1
  have := h2 0 (by omega)
  exact ⟨by omega, by omega, fun y hy => (h2 y hy).1, this.2.1, by have := this.2.2; unfold wide; omega⟩
theorem shiftG_len (rows a b) : (shiftG rows a b).length = rows.length := tab2_len _ _
theorem shiftG_row {rows a b y} (h : y < rows.length) : (rw_ (shiftG rows a b) y).length = wide rows := by unfold shiftG; rw [tab2_row h, tab1_len]
theorem Rect.shift {rows} (r : Rect rows) (a b) : Rect (shiftG rows a b) := by
  have w : wide (shiftG rows a b) = wide rows := shiftG_row r.h0
  exact ⟨by rw [shiftG_len]; exact r.h0, by rw [shiftG_len]; exact r.h1, fun y hy => by rw [w]; rw [shiftG_len] at hy; exact shiftG_row hy, by rw [w]; exact r.w0, by rw [w]; exact r.w1⟩
theorem wrapmod {i a n : Int} (h0 : 0 ≤ i) (h1 : i < 1000) (a0 : 0 ≤ a) (a1 : a < 1000) (n0 : 0 < n) : 0 ≤ Int.tmod (w64 (i + a)) n ∧ Int.tmod (w64 (i + a)) n < n ∧ (Int.tmod (w64 (i + a)) n).toNat = (i.toNat + a.toNat) % n.toNat := by
  rw [w64_of (by omega) (by omega)]
  have e : Int.tmod (i + a) n = (i + a) % n := Int.tmod_eq_emod_of_nonneg (by omega)
  rw [e]
  have h2 := Int.emod_nonneg (i + a) (show n ≠ 0 by omega)
  have h3 := Int.emod_lt_of_pos (i + a) n0
  refine ⟨h2, h3, ?_⟩
  have : ((i.toNat + a.toNat : Nat) : Int) % ((n.toNat : Nat) : Int) = (i + a) % n := by
    rw [show ((i.toNat + a.toNat : Nat) : Int) = i + a by omega, show ((n.toNat : Nat) : Int) = n by omega]
  omega
section
variable {h0 : H} {q : Sl} {rows : List (List Int)}
end
/-! ### comparing rows -/
def cmpLL : List (List Int) → List (List Int) → Int
  | [], [] => 0
  | [], _ :: _ => -1
  | _ :: _, [] => 1
  | a :: l, b :: m => if cmpL a b ≠ 0 then cmpL a b else cmpLL l m
theorem cmpL_anti : ∀ a b, cmpL b a = - cmpL a b
  | [], [] => rfl
  | [], _ :: _ => rfl
  | _ :: _, [] => rfl
  | a :: l, b :: m => by
    simp only [cmpL]
    rw [cmpL_anti l m]
    split <;> split <;> first | omega | (split <;> first | omega | rfl) | skip
theorem cmpLL_anti : ∀ a b, cmpLL b a = - cmpLL a b
  | [], [] => rfl
  | [], _ :: _ => rfl
  | _ :: _, [] => rfl
  | a :: l, b :: m => by
    simp only [cmpLL]
    rw [cmpLL_anti l m, cmpL_anti a b]
    split <;> split <;> first | omega | rfl
theorem cmpL_self : ∀ a, cmpL a a = 0
  | [] => rfl
  | a :: l => by simp [cmpL, cmpL_self l]
theorem cmpLL_self : ∀ a, cmpLL a a = 0
  | [] => rfl
  | a :: l => by simp [cmpLL, cmpL_self a, cmpLL_self l]
theorem cmpL_bound : ∀ a b, -1 ≤ cmpL a b ∧ cmpL a b ≤ 1
  | [], [] => by simp [cmpL]
  | [], _ :: _ => by simp [cmpL]
  | _ :: _, [] => by simp [cmpL]
  | a :: l, b :: m => by
    have := cmpL_bound l m
    simp only [cmpL]
    split
    · omega
    · split
      · omega
      · exact this
section
variable {h0 : H} {q q' : Sl} {A B : List (List Int)}
end
end Go.Proofs.Ytnamnpbkiibadaa.Cl

/- Contracts of ShiftTorus, LeastForm, ShiftsKept and ShiftNumber. No claim is stated here. -/
set_option linter.unusedVariables false
set_option linter.unusedSimpArgs false
namespace Go.Proofs.Ytnamnpbkiibadaa.Cl
open Go
/-- append of a new view to a slice of views, of objects of P -/
theorem NewP.app {P : Nat → Prop} {h s ls} (r : NewP P h s ls) {v : Sl} {l : List Int} (ov : Ow h v 1 (ic l)) (fv : ∀ o, v.o = some o → P o) (hap : ∀ o, v.o = some o → s.o ≠ some o ∧ ∀ vs : List Sl, Ow h s 1 (vs.map .sl) → ∀ w ∈ vs, w.o ≠ some o)
    {x : Sl} (rx : Rd h x 1 [.sl v]) (hl : (ls.length : Int) + 1 ≤ lim) (hnh : ∀ i, h.length ≤ i → P i) {K : Sl → H → Prop} (hk : ∀ s' h', NewP P h' s' (ls ++ [l]) → But s.o h h' → (∀ o, s.o = some o → s'.o = some o) → (s.o = none → ∀ o, s'.o = some o → h.length ≤ o) → K s' h') : Cl.app s x 1 h K := by
  obtain ⟨vs, h1, h2, h3, h4, h5, h6⟩ := r
  have hx : x.len = 1 := by have := rx.len; simp at this; omega
  have hs : s.len = ls.length := by have := h2.len; simp at this; omega
  refine app_ow (by omega) h2 rx (by rw [hs, hx]; exact_mod_cast hl) fun s' h' o' ln b k1 k2 => ?_
  have hso : ∀ o, s'.o = some o → s.o = some o ∨ h.length ≤ o := fun o e => by
    cases hq : s.o with
    | none => exact .inr (k2 hq o e)
    | some p => rw [k1 p hq] at e; exact .inl e
  refine hk s' h' ⟨vs ++ [v], by simp [h1], by simpa using o', ?_, ?_, ?_, ?_⟩ b k1 k2
  · intro o e
    rcases hso o e with e | e
    · exact h3 o e
    · exact hnh o e
  · intro i w l' a c
    rw [List.getElem?_append] at a c
    rw [h1] at a
    split at a
    · next hi =>
      rw [if_pos hi] at c
      obtain ⟨p, q⟩ := h4 i w l' a c
      refine ⟨p.but b ?_, q⟩
      cases hw : w.o with
      | none => 
        cases hq : s.o with
        | none => exact .inr rfl
        | some _ => exact .inl (by simp)
      | some o => exact .inl (by rw [← hw]; intro e; exact h6 i w a o hw (by rw [e, hw]))
    · next hi =>
      rw [if_neg hi] at c
      have : i = ls.length := by
        have := (List.getElem?_eq_some_iff.1 c).1
        simp at this; omega
      subst this
      simp at a c
      subst a c
      refine ⟨ov.but b ?_, fv⟩
      cases hw : v.o with
      | none =>
        cases hq : s.o with
        | none => exact .inr rfl
        | some _ => exact .inl (by simp)
      | some o => exact .inl (by intro e; exact (hap o hw).1 e)
  · intro i j w u hne a c o e
    have hwl : ∀ {k : Nat} {y : Sl}, (vs ++ [v])[k]? = some y → vs[k]? = some y ∨ (k = vs.length ∧ y = v) := fun {k y} e => by
      rw [List.getElem?_append] at e
      split at e
      · exact .inl e
      · have : k = vs.length := by
          have := (List.getElem?_eq_some_iff.1 e).1
          simp at this; omega
        subst this
        simp at e
        exact .inr ⟨rfl, e.symm⟩
    rcases hwl a with a1 | ⟨rfl, rfl⟩
    · rcases hwl c with c1 | ⟨rfl, rfl⟩
      · exact h5 i j w u hne a1 c1 o e
      · intro e2
        exact (hap o e2).2 vs h2 w (List.mem_of_getElem? a1) e
    · rcases hwl c with c1 | ⟨rfl, rfl⟩
      · exact (hap o e).2 vs h2 u (List.mem_of_getElem? c1)
      · exact absurd rfl hne
  · intro i w a o e
    have hlt : o < h.length ∧ s.o ≠ some o := by
      rw [List.getElem?_append] at a
      split at a
      · obtain ⟨l', hl'⟩ := mem_idx h1 a
        exact ⟨(h4 i w l' a hl').1.lt e, h6 i w a o e⟩
      · have : w = v := by
          have := List.mem_of_getElem? a
          simpa using this
        subst this
        exact ⟨ov.lt e, (hap o e).1⟩
    intro e2
    rcases hso o e2 with e3 | e3
    · exact hlt.2 e3
    · omega
theorem NewP.push {P : Nat → Prop} {h : H} {s : Sl} {ls : List (List Int)} (r : NewP P h s ls) {v : Sl} {l : List Int} {h0 : H} (r0 : NewP P h0 s ls) (x0 : Ext h0 h) (ov : Ow h v 1 (ic l)) (fv : Fr h0.length v) (hP : ∀ i, h0.length ≤ i → P i)
    (hl : (ls.length : Int) + 1 ≤ lim) {K : Sl → H → Prop} (hk : ∀ s' h', NewP P h' s' (ls ++ [l]) → But s.o h h' → K s' h') : newS 1 1 [.sl v] h fun t h1 => Cl.app s t 1 h1 K := by
  refine newS_ow (by rfl) fun t h1 ot tl to e1 => ?_
  have e1' : Ext h h1 := by rw [e1]; exact Ext.app _ _
  have l0 := x0.len
  have l1 := e1'.len
  refine (r.ext e1').app (ov.ext e1') (fun o e => hP o (fv o e)) (fun o e => ?_) ot.rd hl (fun i hi => hP i (by omega)) fun s' h' n' b _ _ => hk s' h' n' ((e1'.but _).trans b)
  obtain ⟨vs, h1', h2, h3, h4, h5, h6⟩ := r0
  have ho := fv o e
  refine ⟨fun e2 => by have := h2.lt e2; omega, fun us hu w hw => ?_⟩
  intro e2
  have hq : us = vs := by
    have a := hu.rd.sread (by omega)
    have b := (h2.ext (x0.trans e1')).rd.sread (by omega)
    rw [a] at b
    have : us.map AVal.sl = vs.map AVal.sl := Option.some.inj b
    exact List.map_inj_right (fun a b e => by simpa using e) |>.1 this
  subst hq
  obtain ⟨i, hi⟩ := List.getElem?_of_mem hw
  obtain ⟨l', hl'⟩ := mem_idx h1' hi
  have := (h4 i w l' hi hl').1.lt e2
  omega
theorem NewP.notin {P : Nat → Prop} {h : H} {s : Sl} {ls : List (List Int)} (r : NewP P h s ls) {i : Nat} (hp : ¬ P i) : s.o ≠ some i := by
  obtain ⟨vs, _, _, a3, _⟩ := r
  exact fun e => hp (a3 _ e)
theorem cmpLL_nz (x : Int) : (¬ x < 0 ∧ ¬ -x < 0) ↔ x = 0 := by omega
/-- A function over all shifts, in order. -/
def nest {α : Type} (f : α → Nat → Nat → α) (init : α) (H W : Nat) : α := (List.range H).foldl (fun acc a => (List.range W).foldl (fun acc b => f acc a b) acc) init
def leastStep (rows best : List (List Int)) (a b : Nat) : List (List Int) := if cmpLL (shiftG rows a b) best < 0 then shiftG rows a b else best
def leastG (rows : List (List Int)) : List (List Int) := nest (leastStep rows) (shiftG rows 0 0) rows.length (wide rows)
def keptStep (rows acc : List (List Int)) (a b : Nat) : List (List Int) := if cmpLL (shiftG rows a b) rows = 0 then acc ++ [[(a : Int), (b : Int)]] else acc
def keptG (rows : List (List Int)) : List (List Int) := nest (keptStep rows) [] rows.length (wide rows)
/-- What the step keeps holds to the end. -/
theorem foldl_keeps {α β : Type} {I : α → Prop} {g : α → β → α} : ∀ (l : List β) (x : α), I x → (∀ x b, b ∈ l → I x → I (g x b)) → I (l.foldl g x)
  | [], x, h, _ => h
  | b :: l, x, h, hs => foldl_keeps l (g x b) (hs x b (by simp) h) fun x c hc => hs x c (by simp [hc])
theorem nest_keeps {α : Type} {I : α → Prop} {f : α → Nat → Nat → α} {x : α} {H W : Nat} (h : I x) (hs : ∀ x a b, a < H → b < W → I x → I (f x a b)) : I (nest f x H W) :=
  foldl_keeps _ _ h fun x a ha hx => foldl_keeps _ _ hx fun x b hb hx => hs x a b (List.mem_range.1 ha) (List.mem_range.1 hb) hx
/-- Of the form of the rows. -/
def Like (rows s : List (List Int)) : Prop := s.length = rows.length ∧ ∀ y, y < rows.length → (rw_ s y).length = wide rows
theorem shift_like (rows a b) : Like rows (shiftG rows a b) := ⟨shiftG_len _ _ _, fun y hy => shiftG_row hy⟩
theorem leastStep_like {rows best a b} (h : Like rows best) : Like rows (leastStep rows best a b) := by
  unfold leastStep
  split
  · exact shift_like _ _ _
  · exact h
theorem Like.mem {rows s} (h : Like rows s) {l} (hl : l ∈ s) : l.length = wide rows := by
  obtain ⟨i, hi⟩ := List.getElem?_of_mem hl
  have := (List.getElem?_eq_some_iff.1 hi).1
  rw [← rw_at hi]
  exact h.2 i (by have := h.1; omega)
theorem sumLen_le {ls : List (List Int)} {n : Nat} (h : ∀ l ∈ ls, l.length ≤ n) : sumLen ls ≤ ls.length * n := by
  unfold sumLen
  induction ls with
  | nil => simp
  | cons a ls ih =>
    have h1 := h a (by simp)
    have h2 := ih fun l hl => h l (by simp [hl])
    simp only [List.map_cons, List.sum_cons, List.length_cons, Nat.add_mul, Nat.one_mul]
    omega
theorem Like.small {rows s} (R : Rect rows) (h : Like rows s) : s.length < 1000000 ∧ sumLen s < 1000000 := by
  have := R.h1
  have hw := R.w1
  have h1 := sumLen_le (ls := s) (n := 8) fun l hl => by rw [h.mem hl]; exact hw
  have := h.1
  constructor <;> omega
theorem keptStep_kept {rows acc a b} {n : Nat} (h : acc.length ≤ n ∧ ∀ l ∈ acc, l.length = 2) : (keptStep rows acc a b).length ≤ n + 1 ∧ ∀ l ∈ keptStep rows acc a b, l.length = 2 := by
  unfold keptStep
  split
  · refine ⟨by simp; omega, fun l hl => ?_⟩
    rcases List.mem_append.1 hl with hl | hl
    · exact h.2 l hl
    · simp at hl; subst hl; rfl
  · exact ⟨by omega, h.2⟩
theorem foldl_count {α β : Type} {I : Nat → α → Prop} {g : α → β → α} (c : Nat) : ∀ (l : List β) (x : α) (n : Nat), I n x → (∀ x n b, I n x → I (n + c) (g x b)) → I (n + c * l.length) (l.foldl g x)
  | [], x, n, h, _ => by simpa using h
  | b :: l, x, n, h, hs => by
    have := foldl_count (I := I) c l (g x b) (n + c) (hs x n b h) hs
    simp only [List.foldl_cons, List.length_cons]
    rw [show n + c * (l.length + 1) = n + c + c * l.length by rw [Nat.mul_add]; omega]
    exact this
theorem kept_upto (rows : List (List Int)) (i k : Nat) : ((List.range k).foldl (fun acc b => keptStep rows acc i b) ((List.range i).foldl (fun acc a => (List.range (wide rows)).foldl (fun acc b => keptStep rows acc a b) acc) [])).length ≤ wide rows * i + k ∧
    ∀ l ∈ (List.range k).foldl (fun acc b => keptStep rows acc i b) ((List.range i).foldl (fun acc a => (List.range (wide rows)).foldl (fun acc b => keptStep rows acc a b) acc) []), l.length = 2 := by
  have h1 := foldl_count (I := fun n (x : List (List Int)) => x.length ≤ n ∧ ∀ l ∈ x, l.length = 2) (wide rows) (List.range i) [] 0 ⟨by simp, fun l h => by simp at h⟩ (g := fun acc a => (List.range (wide rows)).foldl (fun acc b => keptStep rows acc a b) acc)
    fun x n a hx => by
      have := foldl_count (I := fun n (x : List (List Int)) => x.length ≤ n ∧ ∀ l ∈ x, l.length = 2) 1 (List.range (wide rows)) x n hx (g := fun acc b => keptStep rows acc a b) fun x n b hx => keptStep_kept hx
      simpa using this
  have h2 := foldl_count (I := fun n (x : List (List Int)) => x.length ≤ n ∧ ∀ l ∈ x, l.length = 2) 1 (List.range k) _ _ h1 (g := fun acc b => keptStep rows acc i b) fun x n b hx => keptStep_kept hx
  simpa using h2
section
variable {h0 : H} {q : Sl} {rows : List (List Int)}
end
end Go.Proofs.Ytnamnpbkiibadaa.Cl

/- Steps of the laws. No claim is stated here. -/
set_option linter.unusedVariables false
set_option linter.unusedSimpArgs false
namespace Go.Proofs.Ytnamnpbkiibadaa.Cl
open Go
theorem szSet_k (c : Int) (s : Sl) (left : Int) (hl : s.len ≤ 9223372036854775807) (h1 : 0 ≤ left) (h2 : left ≤ 1048576) (h : H) : callI SP .i64 i_laws_szSet [.agg (SetC c s), i64 left] h fun n h' => Ext h h' ∧ (n < 0 ∨ (n = left - s.len ∧ 0 ≤ n)) := by
  refine (szSet_c c s left hl h1 h2 h).to ?_
  rintro _ h' ⟨rfl, x⟩
  refine ⟨x, ?_⟩
  by_cases hq : left - s.len < 0
  · rw [if_pos hq]; exact .inl (by omega)
  · rw [if_neg hq]; exact .inr ⟨rfl, by omega⟩
theorem szTileS_k (s : Sl) (left : Int) (hl : s.len ≤ 9223372036854775807) (h1 : 0 ≤ left) (h2 : left ≤ 1048576) (h : H) : callI SP .i64 i_laws_szTileS [.sl s, i64 left] h fun n h' => Ext h h' ∧ (n < 0 ∨ (n = left - s.len ∧ 0 ≤ n)) := by
  refine (szTileS_c s left hl h1 h2 h).to ?_
  rintro _ _ ⟨rfl, rfl⟩
  refine ⟨Ext.refl _, ?_⟩
  by_cases hq : left - s.len < 0
  · rw [if_pos hq]; exact .inl (by omega)
  · rw [if_neg hq]; exact .inr ⟨rfl, by omega⟩
theorem bif_neb {x y : Bool} {a b : Prop} (h1 : x ≠ y → a) (h2 : x = y → b) : bif x != y then a else b := by
  by_cases hp : x = y
  · rw [show (x != y) = false by simp [hp]]; exact h2 hp
  · rw [show (x != y) = true by simp [hp]]; exact h1 hp
theorem eqS_yes {h0 : H} {s s' : Sl} {l : List Int} (r : Rd h0 s 1 (ic l)) (r' : Rd h0 s' 1 (ic l)) (hl : l.length < 4000000000000000000) {A : H → Prop} {B : H → Prop} (hk : B h0) : callB SP i_laws_eqInt64S [.sl s, .sl s'] h0 fun b h' => bif !b then A h' else B h' := by
  refine (eqInt64S_c r r' hl).to ?_
  rintro _ _ ⟨rfl, rfl⟩
  exact bif_not (fun hq => by simp at hq) fun _ => hk
theorem eqSet_yes {h0 : H} {c : Int} {s s' : Sl} {ts : List Tile} (r : Rd h0 s 4 (tcs ts)) (r' : Rd h0 s' 4 (tcs ts)) (hl : ts.length < 4000000000000000000) {A : H → Prop} {B : H → Prop} (hk : ∀ h', Ext h0 h' → B h') : callB SP i_laws_eqSet [.agg (SetC c s), .agg (SetC c s')] h0 fun b h' => bif !b then A h' else B h' := by
  refine (eqSet_c r r' hl).to ?_
  rintro _ h' ⟨rfl, x⟩
  exact bif_not (fun hq => by simp at hq) fun _ => hk h' x
theorem eqTiles_yes {h0 : H} {s s' : Sl} {ts : List Tile} (r : Rd h0 s 4 (tcs ts)) (r' : Rd h0 s' 4 (tcs ts)) (hl : ts.length < 4000000000000000000) {A : H → Prop} {B : H → Prop} (hk : ∀ h', Ext h0 h' → B h') : callB SP i_laws_eqTileS [.sl s, .sl s'] h0 fun b h' => bif !b then A h' else B h' := by
  refine (eqTileS_c r r' hl).to ?_
  rintro _ h' ⟨rfl, x⟩
  exact bif_not (fun hq => by simp at hq) fun _ => hk h' x
theorem heldS_yes {h0 : H} {s : Sl} (k0 : Int) (hk0 : 0 ≤ k0) (hk1 : k0 ≤ 1000000000) (r : Rd h0 s 1 (ic (upto k0 s.len))) (hl : s.len < 1000000000) {A : H → Prop} {B : Int → H → Prop} (hk : B (k0 + s.len) h0) :
    callI SP .i64 i_laws_heldInt64S [.sl s, i64 k0] h0 fun n h' => bif decide (n < 0) then A h' else B n h' := by
  refine (heldInt64S_c k0 hk0 (by omega) r (by omega)).to ?_
  rintro _ _ ⟨rfl, rfl⟩
  exact bif_dec (fun hq => by omega) fun _ => hk
theorem Obj.rangeE {h o cs} (x : Obj h o cs) {n : Nat} (hn : cs.length = n) : Cl.range h (some o) n 0 n = some cs := by
  have x' : h[o]? = some (.own cs) := x
  subst hn
  rw [range_of (xs := cs) (by unfold cells; simp [x']) (by simp)]
  simp
theorem Obj.stays {h h' o cs} (x : Obj h o cs) {n : Nat} (hn : cs.length = n) (e : Ext h h') : Cl.range h' (some o) n 0 n = Cl.range h (some o) n 0 n := by rw [e.range (x.rangeE hn), x.rangeE hn]
end Go.Proofs.Ytnamnpbkiibadaa.Cl

/- Lasting edges: the plain law (ways without end over finitely many colours). No claim is stated here. -/
set_option linter.unusedVariables false
set_option linter.unusedSimpArgs false
namespace Go.Proofs.Ytnamnpbkiibadaa.Cl
/-- An edge leads from its first colour to its second one. -/
abbrev Edge := Nat × Nat
def stepB (es : List Edge) (A : Nat → Bool) (w : Nat) : Bool := es.any fun e => e.1 == w && A e.2
def itB (es : List Edge) : Nat → Nat → Bool
  | 0 => fun _ => true
  | k + 1 => stepB es (itB es k)
theorem stepB_iff {es : List Edge} {A : Nat → Bool} {w : Nat} : stepB es A w = true ↔ ∃ e ∈ es, e.1 = w ∧ A e.2 = true := by
  unfold stepB
  simp [List.any_eq_true]
theorem stepB_mono {es : List Edge} {A B : Nat → Bool} (h : ∀ w, A w = true → B w = true) (w : Nat) (a : stepB es A w = true) : stepB es B w = true := by
  obtain ⟨e, he, h1, h2⟩ := stepB_iff.1 a
  exact stepB_iff.2 ⟨e, he, h1, h _ h2⟩
theorem itB_dec (es : List Edge) : ∀ k w, itB es (k + 1) w = true → itB es k w = true
  | 0, w, _ => rfl
  | k + 1, w, h => stepB_mono (itB_dec es k) w h
theorem stepB_congr {es : List Edge} {n : Nat} (hn : ∀ e ∈ es, e.2 < n) {A B : Nat → Bool} (h : ∀ w, w < n → A w = B w) (w : Nat) : stepB es A w = stepB es B w := by
  have key : ∀ A B : Nat → Bool, (∀ w, w < n → A w = B w) → stepB es A w = true → stepB es B w = true := fun A B h a => by
    obtain ⟨e, he, h1, h2⟩ := stepB_iff.1 a
    exact stepB_iff.2 ⟨e, he, h1, by rw [← h _ (hn e he)]; exact h2⟩
  have a := key A B h
  have b := key B A fun w hw => (h w hw).symm
  revert a b
  cases stepB es A w <;> cases stepB es B w <;> simp
def cntB (n : Nat) (A : Nat → Bool) : Nat := (List.range n).countP A
theorem countP_lt {α : Type} {p q : α → Bool} : ∀ (l : List α), (∀ x ∈ l, q x = true → p x = true) → (∃ x ∈ l, p x = true ∧ q x = false) → l.countP q < l.countP p
  | [], _, h => by obtain ⟨x, hx, _⟩ := h; cases hx
  | a :: l, h, ⟨x, hx, h1, h2⟩ => by
    rw [List.countP_cons, List.countP_cons]
    have hle : l.countP q ≤ l.countP p := List.countP_mono_left fun y hy hq => h y (by simp [hy]) hq
    rcases List.mem_cons.1 hx with rfl | hx
    · rw [h1, h2]; simp; omega
    · have ih := countP_lt l (fun y hy => h y (by simp [hy])) ⟨x, hx, h1, h2⟩
      by_cases hq : q a = true
      · rw [hq, h a (by simp) hq]; omega
      · rw [if_neg hq]; split <;> omega
theorem cntB_lt {n : Nat} {A B : Nat → Bool} (h : ∀ w, w < n → B w = true → A w = true) (hne : ∃ w, w < n ∧ A w ≠ B w) : cntB n B < cntB n A := by
  obtain ⟨w, hw, hd⟩ := hne
  refine countP_lt _ (fun x hx => h x (List.mem_range.1 hx)) ⟨w, List.mem_range.2 hw, ?_⟩
  have := h w hw
  revert hd this
  cases A w <;> cases B w <;> simp
theorem itB_stable {es : List Edge} {n : Nat} (hn : ∀ e ∈ es, e.2 < n) {k : Nat} (h : ∀ w, w < n → itB es (k + 1) w = itB es k w) (w : Nat) : itB es (k + 2) w = itB es (k + 1) w := stepB_congr hn h w
theorem itB_fix {es : List Edge} {n : Nat} (hn : ∀ e ∈ es, e.2 < n) : ∀ k, (∀ w, w < n → itB es (k + 1) w = itB es k w) ∨ cntB n (itB es k) + k ≤ n
  | 0 => .inr (by unfold cntB; have := List.countP_le_length (p := itB es 0) (l := List.range n); rw [List.length_range] at this; omega)
  | k + 1 => by
    rcases itB_fix hn k with h | h
    · exact .inl fun w _ => itB_stable hn h w
    · by_cases e : ∀ w, w < n → itB es (k + 1) w = itB es k w
      · exact .inl fun w _ => itB_stable hn e w
      · have hex : ∃ w, w < n ∧ itB es k w ≠ itB es (k + 1) w := by
          refine Classical.byContradiction fun c => e fun w hw => ?_
          exact Classical.byContradiction fun d => c ⟨w, hw, fun q => d q.symm⟩
        have := cntB_lt (n := n) (A := itB es k) (B := itB es (k + 1)) (fun w _ => itB_dec es k w) hex
        exact .inr (by omega)
/-- After as many steps as there are colours, nothing changes any more. -/
theorem itB_end {es : List Edge} {n : Nat} (hn : ∀ e ∈ es, e.2 < n) (w : Nat) (hw : w < n) : itB es (n + 1) w = itB es n w := by
  rcases itB_fix hn n with h | h
  · exact h w hw
  · have h0 : cntB n (itB es n) = 0 := by omega
    have hf : itB es n w = false := by
      unfold cntB at h0
      rw [List.countP_eq_zero] at h0
      have := h0 w (List.mem_range.2 hw)
      simpa using this
    rw [hf]
    have := itB_dec es n w
    rw [hf] at this
    cases hq : itB es (n + 1) w
    · rfl
    · exact absurd (this hq) (by simp)
/-- A stable and greatest set of colours. -/
structure Endless (n : Nat) (es : List Edge) (A : Nat → Bool) : Prop where
  fix : ∀ w, w < n → stepB es A w = A w
  top : ∀ G : Nat → Bool, (∀ w, G w = true → stepB es G w = true) → ∀ w, G w = true → A w = true
theorem itB_top {es : List Edge} {G : Nat → Bool} (hG : ∀ w, G w = true → stepB es G w = true) : ∀ k w, G w = true → itB es k w = true
  | 0, _, _ => rfl
  | k + 1, w, h => stepB_mono (itB_top hG k) w (hG w h)
theorem endless_it {es : List Edge} {n k : Nat} (h : ∀ w, w < n → itB es (k + 1) w = itB es k w) : Endless n es (itB es k) := ⟨h, fun G hG w hw => itB_top hG k w hw⟩
def flipE (es : List Edge) : List Edge := es.map fun e => (e.2, e.1)
/-- Is an edge lasting? A: colours to which endless ways lead; B: colours from which endless ways lead on. -/
def lastE (A B : Nat → Bool) (e : Edge) : Bool := A e.1 && B e.2
structure Lst (n : Nat) (es : List Edge) (A B : Nat → Bool) : Prop where
  hn : ∀ e ∈ es, e.1 < n ∧ e.2 < n
  a : Endless n (flipE es) A
  b : Endless n es B
section
variable {n : Nat} {es : List Edge} {A B : Nat → Bool}
theorem Lst.pred (L : Lst n es A B) {e : Edge} (he : e ∈ es) (h : lastE A B e = true) : ∃ e' ∈ es, lastE A B e' = true ∧ e'.2 = e.1 := by
  unfold lastE at h ⊢
  rw [Bool.and_eq_true] at h
  have h1 := L.a.fix e.1 (L.hn e he).1
  rw [h.1] at h1
  obtain ⟨x, hx, x1, x2⟩ := stepB_iff.1 h1
  obtain ⟨y, hy, rfl⟩ := List.mem_map.1 hx
  refine ⟨y, hy, ?_, x1⟩
  rw [Bool.and_eq_true]
  refine ⟨x2, ?_⟩
  rw [show y.2 = e.1 from x1, ← L.b.fix e.1 (L.hn e he).1]
  exact stepB_iff.2 ⟨e, he, rfl, h.2⟩
theorem Lst.succ (L : Lst n es A B) {e : Edge} (he : e ∈ es) (h : lastE A B e = true) : ∃ e' ∈ es, lastE A B e' = true ∧ e'.1 = e.2 := by
  unfold lastE at h ⊢
  rw [Bool.and_eq_true] at h
  have h1 := L.b.fix e.2 (L.hn e he).2
  rw [h.2] at h1
  obtain ⟨y, hy, y1, y2⟩ := stepB_iff.1 h1
  refine ⟨y, hy, ?_, y1⟩
  rw [Bool.and_eq_true]
  refine ⟨?_, y2⟩
  rw [show y.1 = e.2 from y1, ← L.a.fix e.2 (L.hn e he).2]
  exact stepB_iff.2 ⟨(e.2, e.1), List.mem_map.2 ⟨e, he, rfl⟩, rfl, h.1⟩
/-- Each stable set of edges is lasting. -/
theorem Lst.top (L : Lst n es A B) {Q : Edge → Bool} (hp : ∀ e ∈ es, Q e = true → ∃ e' ∈ es, Q e' = true ∧ e'.2 = e.1) (hs : ∀ e ∈ es, Q e = true → ∃ e' ∈ es, Q e' = true ∧ e'.1 = e.2) {e : Edge} (he : e ∈ es) (h : Q e = true) : lastE A B e = true := by
  unfold lastE
  rw [Bool.and_eq_true]
  constructor
  · refine L.a.top (fun w => es.any fun e => Q e && e.1 == w) (fun w hw => ?_) e.1 (List.any_eq_true.2 ⟨e, he, by simp [h]⟩)
    obtain ⟨x, hx, h2⟩ := List.any_eq_true.1 hw
    simp at h2
    obtain ⟨y, hy, y1, y2⟩ := hp x hx h2.1
    refine stepB_iff.2 ⟨(y.2, y.1), List.mem_map.2 ⟨y, hy, rfl⟩, by simp [y2, h2.2], List.any_eq_true.2 ⟨y, hy, by simp [y1]⟩⟩
  · refine L.b.top (fun w => es.any fun e => Q e && e.2 == w) (fun w hw => ?_) e.2 (List.any_eq_true.2 ⟨e, he, by simp [h]⟩)
    obtain ⟨x, hx, h2⟩ := List.any_eq_true.1 hw
    simp at h2
    obtain ⟨y, hy, y1, y2⟩ := hs x hx h2.1
    refine stepB_iff.2 ⟨y, hy, by simp [y2, h2.2], List.any_eq_true.2 ⟨y, hy, by simp [y1]⟩⟩
/-- A colour that lies on an endless way in both directions is that of a lasting edge. -/
theorem Lst.word (L : Lst n es A B) {w : Nat} (hw : w < n) : (A w && B w) = true ↔ (∃ e ∈ es, lastE A B e = true ∧ (e.1 = w ∨ e.2 = w)) := by
  rw [Bool.and_eq_true]
  constructor
  · rintro ⟨h1, h2⟩
    have h3 := L.b.fix w hw
    rw [h2] at h3
    obtain ⟨y, hy, y1, y2⟩ := stepB_iff.1 h3
    refine ⟨y, hy, ?_, .inl y1⟩
    unfold lastE
    rw [y1, h1, y2]; rfl
  · rintro ⟨e, he, h, q⟩
    rcases q with rfl | rfl
    · have h' := h
      unfold lastE at h
      rw [Bool.and_eq_true] at h
      refine ⟨h.1, ?_⟩
      rw [← L.b.fix e.1 hw]
      exact stepB_iff.2 ⟨e, he, rfl, h.2⟩
    · unfold lastE at h
      rw [Bool.and_eq_true] at h
      refine ⟨?_, h.2⟩
      rw [← L.a.fix e.2 hw]
      exact stepB_iff.2 ⟨(e.2, e.1), List.mem_map.2 ⟨e, he, rfl⟩, rfl, h.1⟩
end
end Go.Proofs.Ytnamnpbkiibadaa.Cl

/- Columns: the plain law (cell by cell, and layer by layer). No claim is stated here. -/
set_option linter.unusedVariables false
set_option linter.unusedSimpArgs false
namespace Go.Proofs.Ytnamnpbkiibadaa.Cl
open Go
/-- All sides of the tiles are colours. -/
def TS (c : Int) (ts : List Tile) : Prop := 1 ≤ c ∧ ∀ t ∈ ts, ∀ k, k < 4 → 0 ≤ sd t k ∧ sd t k < c
theorem setOK.ts {c : Int} {ts : List Tile} (h : setOK c ts) : TS c ts := by
  refine ⟨h.1.1, fun t ht k hk => ?_⟩
  obtain ⟨i, hi, rfl⟩ := List.getElem_of_mem ht
  have := (h.2.2 i hi).1
  rw [tat_at (n := (i : Int)) (t := ts[i]) (by rw [Int.toNat_natCast]; exact List.getElem?_eq_getElem hi)] at this
  unfold tileok at this
  simp only [Bool.and_eq_true, decide_eq_true_eq] at this
  match k, hk with
  | 0, _ => show 0 ≤ ts[i].1 ∧ ts[i].1 < c; omega
  | 1, _ => show 0 ≤ ts[i].2.1 ∧ ts[i].2.1 < c; omega
  | 2, _ => show 0 ≤ ts[i].2.2.1 ∧ ts[i].2.2.1 < c; omega
  | 3, _ => show 0 ≤ ts[i].2.2.2 ∧ ts[i].2.2.2 < c; omega
section
variable (c : Int) (ts : List Tile)
def colP : Nat → Int → Int → Int → List (Int × Int)
  | 0, _, l, r => [(l, r)]
  | m + 1, s, l, r => ts.flatMap fun t => if 0 ≤ s ∧ s ≠ sd t 1 then [] else colP m (sd t 3) (l * c + sd t 0) (r * c + sd t 2)
/-- The program's columns: west word, east word, north colour. -/
def colI (h : Nat) : Nat → Int → Int → Int → Int → List (Int × Int × Int)
  | 0, top, _, l, r => [(l, r, top)]
  | m + 1, top, last, l, r => ts.flatMap fun t => if m + 1 < h ∧ sd t 1 ≠ last then [] else colI h m (if m + 1 = h then sd t 1 else top) (sd t 3) (l * c + sd t 0) (r * c + sd t 2)
def layS (x : Int × Int × Int) : List (Int × Int × Int) := ts.flatMap fun t => if 0 ≤ x.2.2 ∧ x.2.2 ≠ sd t 1 then [] else [(x.1 * c + sd t 0, x.2.1 * c + sd t 2, sd t 3)]
def lay (l : List (Int × Int × Int)) : List (Int × Int × Int) := l.flatMap (layS c ts)
def layN : Nat → List (Int × Int × Int) → List (Int × Int × Int)
  | 0, l => l
  | m + 1, l => layN m (lay c ts l)
def chain : Nat → Int × Int × Int → List (Int × Int × Int)
  | 0, x => [x]
  | m + 1, x => (layS c ts x).flatMap (chain m)
end
def pr (x : Int × Int × Int) : Int × Int := (x.1, x.2.1)
variable {c : Int} {ts : List Tile}
theorem fm_congr {α β : Type} {l : List α} {f g : α → List β} (h : ∀ x ∈ l, f x = g x) : l.flatMap f = l.flatMap g := by
  induction l with
  | nil => rfl
  | cons a l ih => rw [List.flatMap_cons, List.flatMap_cons, h a (by simp), ih fun x hx => h x (by simp [hx])]
theorem layN_chain : ∀ (m : Nat) (l : List (Int × Int × Int)), layN c ts m l = l.flatMap (chain c ts m)
  | 0, l => by
    rw [layN]
    induction l with
    | nil => rfl
    | cons a l ih => rw [List.flatMap_cons, ← ih]; rfl
  | m + 1, l => by
    rw [layN, layN_chain m, lay, List.flatMap_assoc]
    rfl
theorem layN_succ : ∀ (m : Nat) (l : List (Int × Int × Int)), layN c ts (m + 1) l = lay c ts (layN c ts m l)
  | 0, l => rfl
  | m + 1, l => by rw [layN, layN_succ m]; rfl
theorem chain_pr : ∀ (m : Nat) (x : Int × Int × Int), (chain c ts m x).map pr = colP c ts m x.2.2 x.1 x.2.1
  | 0, x => rfl
  | m + 1, x => by
    rw [chain, colP, layS, List.flatMap_assoc, List.map_flatMap]
    refine fm_congr fun t _ => ?_
    by_cases h : 0 ≤ x.2.2 ∧ x.2.2 ≠ sd t 1
    · rw [if_pos h, if_pos h]; rfl
    · rw [if_neg h, if_neg h, List.flatMap_cons, List.flatMap_nil, List.append_nil]
      exact chain_pr m _
theorem lay_pr (h : Nat) : (layN c ts h [(0, 0, -1)]).map pr = colP c ts h (-1) 0 0 := by
  rw [layN_chain, List.flatMap_cons, List.flatMap_nil, List.append_nil]
  exact chain_pr h _
theorem colI_pr (T : TS c ts) (h : Nat) : ∀ (m : Nat) (top last l r : Int), m ≤ h → (m < h → 0 ≤ last) → (colI c ts h m top last l r).map pr = colP c ts m (if m = h then -1 else last) l r
  | 0, top, last, l, r, _, _ => rfl
  | m + 1, top, last, l, r, hm, hl => by
    rw [colI, colP, List.map_flatMap]
    refine fm_congr fun t ht => ?_
    have h3 := T.2 t ht 3 (by omega)
    by_cases e : m + 1 = h
    · rw [if_neg (by omega), if_pos e, if_neg (by omega), colI_pr T h m _ _ _ _ (by omega) (fun _ => h3.1), if_neg (by omega)]
    · simp only [if_neg e]
      by_cases q : sd t 1 = last
      · rw [if_neg (by omega), if_neg (by omega), colI_pr T h m _ _ _ _ (by omega) (fun _ => h3.1), if_neg (by omega)]
      · rw [if_pos (by omega), if_pos ⟨hl (by omega), fun f => q f.symm⟩]; rfl
theorem colP_bound (T : TS c ts) : ∀ (m : Nat) (s l r b : Int), 0 ≤ l ∧ l < b → 0 ≤ r ∧ r < b → ∀ p ∈ colP c ts m s l r, (0 ≤ p.1 ∧ p.1 < b * c ^ m) ∧ 0 ≤ p.2 ∧ p.2 < b * c ^ m
  | 0, s, l, r, b, hl, hr, p, hp => by
    simp only [colP, List.mem_singleton] at hp
    subst hp
    simpa using ⟨hl, hr⟩
  | m + 1, s, l, r, b, hl, hr, p, hp => by
    rw [colP] at hp
    obtain ⟨t, ht, hp⟩ := List.mem_flatMap.1 hp
    split at hp
    · cases hp
    · have h0 := T.2 t ht 0 (by omega)
      have h2 := T.2 t ht 2 (by omega)
      have hc := T.1
      have key : ∀ x d : Int, 0 ≤ x ∧ x < b → 0 ≤ d ∧ d < c → 0 ≤ x * c + d ∧ x * c + d < b * c := fun x d hx hd => by
        have h1 : 0 ≤ x * c := Int.mul_nonneg hx.1 (by omega)
        have h2 : (x + 1) * c ≤ b * c := Int.mul_le_mul_of_nonneg_right (by omega) (by omega)
        rw [Int.add_mul, Int.one_mul] at h2
        omega
      have := colP_bound T m _ _ _ (b * c) (key _ _ hl h0) (key _ _ hr h2) p hp
      rw [Int.pow_succ, Int.mul_comm (c ^ m), ← Int.mul_assoc]
      exact this
theorem colP_len : ∀ (m : Nat) (s l r : Int), (colP c ts m s l r).length ≤ ts.length ^ m
  | 0, s, l, r => by simp [colP]
  | m + 1, s, l, r => by
    rw [colP, List.length_flatMap, Nat.pow_succ, Nat.mul_comm]
    have : ∀ (l' : List Tile), (l'.map fun t => (if 0 ≤ s ∧ s ≠ sd t 1 then [] else colP c ts m (sd t 3) (l * c + sd t 0) (r * c + sd t 2)).length).sum ≤ l'.length * ts.length ^ m := fun l' => by
      induction l' with
      | nil => simp
      | cons a l' ih =>
        rw [List.map_cons, List.sum_cons, List.length_cons, Nat.add_mul, Nat.one_mul]
        have : (if 0 ≤ s ∧ s ≠ sd a 1 then [] else colP c ts m (sd a 3) (l * c + sd a 0) (r * c + sd a 2)).length ≤ ts.length ^ m := by
          split
          · simp
          · exact colP_len m _ _ _
        omega
    exact this ts
theorem lay_len (h : Nat) : (layN c ts h [(0, 0, -1)]).length = (colP c ts h (-1) 0 0).length := by rw [← lay_pr, List.length_map]
/-- The columns of a height: west words and east words. -/
def colsOf (c : Int) (ts : List Tile) (h : Int) : List (Int × Int) := colP c ts h.toNat (-1) 0 0
end Go.Proofs.Ytnamnpbkiibadaa.Cl

/- slices.Repeat of one element. No claim is stated here. -/
set_option linter.unusedVariables false
set_option linter.unusedSimpArgs false
namespace Go.Proofs.Ytnamnpbkiibadaa.Cl
open Go
theorem wrapU_of {n : Int} (h1 : 0 ≤ n) (h2 : n < 18446744073709551616) : IntKind.wrap .u64 n = n := by
  unfold IntKind.wrap
  simp [IntKind.bits, IntKind.signed] <;> omega
theorem andLow {x : Int} (h0 : 0 ≤ x) (h1 : x < 4294967296) : bitsOp .and .u64 x 4294967295 = x := by
  obtain ⟨n, rfl⟩ : ∃ n : Nat, x = n := ⟨x.toNat, by omega⟩
  have hn : n < 4294967296 := by omega
  have e : (BitVec.ofInt 64 (n : Int) &&& BitVec.ofInt 64 4294967295).toNat = n := by
    rw [BitVec.toNat_and, BitVec.toNat_ofInt, BitVec.toNat_ofInt]
    have a : ((n : Int) % ((2 ^ 64 : Nat) : Int)).toNat = n := by
      have : ((2 ^ 64 : Nat) : Int) = 18446744073709551616 := by decide
      omega
    have b : ((4294967295 : Int) % ((2 ^ 64 : Nat) : Int)).toNat = 2 ^ 32 - 1 := by decide
    rw [a, b, Nat.and_two_pow_sub_one_eq_mod]
    exact Nat.mod_eq_of_lt hn
  unfold bitsOp
  show IntKind.wrap .u64 (((BitVec.ofInt 64 (n : Int) &&& BitVec.ofInt 64 4294967295).toNat : Nat) : Int) = n
  rw [e]
  exact wrapU_of (by omega) (by omega)
theorem shrU {x : Int} (h0 : 0 ≤ x) (h1 : x < 4294967296) : shrI .u64 x 32 = 0 := by
  unfold shrI
  have : (2 : Int) ^ (min (32 : Int).toNat IntKind.u64.bits) = 4294967296 := by decide
  rw [this, Int.fdiv_eq_ediv_of_nonneg _ (by omega)]
  exact Int.ediv_eq_zero_of_lt h0 h1
theorem mul64_c {x y : Int} (x0 : 0 ≤ x) (x1 : x ≤ 1) (y0 : 0 ≤ y) (y1 : y < 4294967296) {h : H} {K : AVal → H → Prop} (hk : K (.tuple [.int .u64 0, .int .u64 (x * y)]) h) : callV SP i_math_bits_Mul64 [.int .u64 x, .int .u64 y] h K := by
  have hp : 0 ≤ x * y ∧ x * y < 4294967296 := by
    rcases (show x = 0 ∨ x = 1 by omega) with rfl | rfl <;> omega
  refine (show callV SP i_math_bits_Mul64 [.int .u64 x, .int .u64 y] h fun v h' => v = .tuple [.int .u64 0, .int .u64 (x * y)] ∧ h' = h from ?_).to (by rintro _ _ ⟨rfl, rfl⟩; exact hk)
  apply math_bits_Mul64_call
  unfold math_bits_Mul64_main
  rw [shrU x0 (by omega), shrU y0 y1, andLow x0 (by omega), andLow y0 y1, Int.zero_mul, Int.zero_mul, Int.mul_zero, wrapU_of (n := x * y) hp.1 (by omega), wrapU_of (n := 0) (by omega) (by omega), shrU hp.1 hp.2, Int.add_zero, wrapU_of (n := 0) (by omega) (by omega), shrU (x := 0) (by omega) (by omega), andLow (x := 0) (by omega) (by omega), Int.add_zero, wrapU_of (n := 0) (by omega) (by omega), shrU (x := 0) (by omega) (by omega), Int.add_zero, wrapU_of (n := 0) (by omega) (by omega)]
  exact ⟨by decide, by decide, by decide, by decide, by decide, rfl, rfl⟩
theorem mul_c {x y : Int} (x0 : 0 ≤ x) (x1 : x ≤ 1) (y0 : 0 ≤ y) (y1 : y < 4294967296) {h : H} {K : AVal → H → Prop} (hk : K (.tuple [.int .u64 0, .int .u64 (x * y)]) h) : callV SP i_math_bits_Mul [.int .u64 x, .int .u64 y] h K := by
  refine (show callV SP i_math_bits_Mul [.int .u64 x, .int .u64 y] h fun v h' => v = .tuple [.int .u64 0, .int .u64 (x * y)] ∧ h' = h from ?_).to (by rintro _ _ ⟨rfl, rfl⟩; exact hk)
  apply math_bits_Mul_call
  unfold math_bits_Mul_main
  refine mul64_c x0 x1 y0 y1 ?_
  exact ⟨_, rfl, _, rfl, _, rfl, _, rfl, rfl, rfl⟩
/-- A part of a view that is owned whole. -/
theorem cut_own {h : H} {s : Sl} {z : Nat} {cs : List AVal} (r : Ow h s z cs) {o : Nat} (ho : s.o = some o) {lo hi : Int} (h0 : 0 ≤ lo) (h1 : lo ≤ hi) (h2 : hi ≤ s.len) {K : Sl → Prop} (hk : K ⟨some o, s.n, lo.toNat * z, (hi - lo).toNat, z⟩) : cut s z lo hi h K := by
  obtain ⟨a, b⟩ | ⟨o', a, b, c, d, e⟩ := r.at_
  · rw [a] at ho; cases ho
  · have : o' = o := by rw [a] at ho; exact Option.some.inj ho
    subst this
    refine ⟨⟨h0, h1⟩, ?_, (fun q => by rw [a] at q; cases q), fun _ => ⟨b, ?_⟩, ?_⟩
    · unfold okS
      rw [a]
      simp only
      unfold cells
      rw [e]
      simp [r.len, d]
    · rw [c, d]
      have : hi.toNat * z ≤ s.len * z := Nat.mul_le_mul_right _ (by omega)
      omega
    · rw [a, c]; simpa using hk
theorem copy_own {h : H} {s : Sl} {cs : List AVal} (r : Ow h s 1 cs) {o : Nat} (ho : s.o = some o) {a m : Nat} (ham : a + m ≤ s.len) {x : Sl} {xs : List AVal} (hx : x.sz = 1) (hr : range h x.o x.n x.off (min x.len m * 1) = some xs) {K : Int → H → Prop}
    (hk : ∀ h', Ow h' s 1 (splice cs a xs) → But (some o) h h' → h'.length = h.length → K (min x.len m : Nat) h') : copyS ⟨some o, s.n, a, m, 1⟩ x 1 h K := by
  obtain ⟨p, q⟩ | ⟨o', p, b, c, d, e⟩ := r.at_
  · rw [p] at ho; cases ho
  · have : o' = o := by rw [p] at ho; exact Option.some.inj ho
    subst this
    have hxl := range_len hr
    have hcl := r.len
    have hol : o' < h.length := (List.getElem?_eq_some_iff.1 e).1
    have hsl : (splice cs a xs).length = cs.length := by unfold splice; simp; omega
    refine ⟨xs, h.set o' (.own (splice cs a xs)), hr, rfl, hx, ?_, hk _ ⟨by rw [hsl, hcl], .inr ⟨o', p, b, c, d, by simp [List.getElem?_set, hol]⟩⟩ ⟨by simp, fun i hi hn => by rw [List.getElem?_set, if_neg (fun e => hn (by rw [e]))]⟩ (by simp)⟩
    unfold putN owned
    simp only [e, Option.bind_some]
    rw [if_pos (by omega)]
    simp only [Option.bind_some]
    rw [if_pos (by omega)]
theorem rep_splice (v w : AVal) (i n k : Nat) (h : i + k ≤ n) : splice (List.replicate i v ++ List.replicate (n - i) w) i (List.replicate k v) = List.replicate (i + k) v ++ List.replicate (n - (i + k)) w := by
  unfold splice
  rw [List.take_left' (by simp), List.length_replicate, List.drop_append]
  simp only [List.length_replicate, List.drop_replicate]
  rw [show i - (i + k) = 0 by omega, show i + k - i = k by omega, show n - i - k = n - (i + k) by omega]
  simp [List.replicate_append_replicate]
theorem rep_take (v w : AVal) (i n k : Nat) (h : k ≤ i) : (List.replicate i v ++ List.replicate (n - i) w).take k = List.replicate k v := by
  rw [List.take_append_of_le_length (by simpa using h), List.take_replicate, Nat.min_eq_left h]
theorem ow_range {h : H} {s : Sl} {cs : List AVal} (r : Ow h s 1 cs) {o : Nat} (ho : s.o = some o) {k : Nat} (hk : k ≤ s.len) : range h (some o) s.n 0 k = some (cs.take k) := by
  obtain ⟨p, q⟩ | ⟨o', p, b, c, d, e⟩ := r.at_
  · rw [p] at ho; cases ho
  · have : o' = o := by rw [p] at ho; exact Option.some.inj ho
    subst this
    have hcl := r.len
    rw [range_of (xs := cs) (by unfold cells; simp [e, d, hcl]) (by omega)]
    simp
section
variable {h0 : H} {x : Sl} {n : Int}
theorem repeatI_c {v : Int} (r : Rd h0 x 1 [i64 v]) (n0 : 0 ≤ n) (n1 : n ≤ 1000000) : callS SP i_slices_Repeat_s_int64_int64_ [.sl x, i64 n] h0 fun s h' => Ow h' s 1 (List.replicate n.toNat (i64 v)) ∧ Fr h0.length s ∧ Ext h0 h' := by
  have hxl : x.len = 1 := by have := r.len; simp at this; omega
  have hx : x.sz = 1 ∧ range h0 x.o x.n x.off 1 = some [i64 v] := by
    obtain a | ⟨a, _, c⟩ := r.at_
    · omega
    · exact ⟨a, by rw [hxl] at c; exact c⟩
  apply slices_Repeat_s_int64_int64__call
  unfold slices_Repeat_s_int64_int64__main
  refine bif_dec (fun f => by omega) (fun _ => ?_)
  rw [wrapU_of (n := (x.len : Int)) (by omega) (by omega), wrapU_of n0 (by omega), hxl]
  refine mul_c (by decide) (by decide) n0 (by omega) ?_
  refine ⟨_, rfl, _, rfl, _, rfl, _, rfl, ?_⟩
  rw [show ((1 : Nat) : Int) * n = n by omega]
  refine bif_dec (fun f => by omega) (fun _ => ?_)
  refine bif_dec (fun f => by omega) (fun _ => ?_)
  rw [w64_of (by omega) (by omega)]
  refine mkS_ow n0 (by unfold lim; omega) fun s h7 os ls so e7 => ?_
  have x7 : Ext h0 h7 := by rw [e7]; exact Ext.app _ _
  have os' : Ow h7 s 1 (List.replicate n.toNat (i64 0)) := by simpa using os
  obtain ⟨N, rfl⟩ : ∃ N : Nat, n = N := ⟨n.toNat, by omega⟩
  rw [Int.toNat_natCast] at *
  have hsv : s = ⟨some h0.length, s.n, 0, s.len, 1⟩ := by
    obtain ⟨a, _⟩ | ⟨o, a, b, c, d, _⟩ := os'.at_
    · rw [a] at so; cases so
    · rw [show some h0.length = s.o from so.symm, show (0 : Nat) = s.off from c.symm, show (1 : Nat) = s.sz from b.symm]
  have hmin : min x.len s.len = min 1 N := by rw [hxl, ls]
  have rep0 : List.replicate N (i64 0) = List.replicate 0 (i64 v) ++ List.replicate (N - 0) (i64 0) := by simp
  have step : copyS ⟨some h0.length, s.n, 0, s.len, 1⟩ x 1 h7 fun n8 h9 => slices_Repeat_s_int64_int64__L0 SP (fun v_1 h' => ∃ b, v_1 = AVal.sl b ∧ Ow h' b 1 (List.replicate N (i64 v)) ∧ Fr h0.length b ∧ Ext h0 h') s n8 h9 := by
    refine copy_own os' so (by omega) hx.1 (xs := List.replicate (min 1 N) (i64 v)) ?_ fun h9 o9 b9 l9 => ?_
    · rw [hmin]
      have := x7.range hx.2
      by_cases hN : N = 0
      · subst hN
        have := range_sub this (a := 0) (b := 0) (by omega)
        simpa using this
      · rw [show min 1 N = 1 by omega]; exact this
    · rw [rep0, show splice _ 0 _ = _ from rep_splice _ _ 0 N (min 1 N) (by omega)] at o9
      rw [hmin, Nat.zero_add] at *
      have E9 : Ext h0 h9 := x7.but_ b9 (some_le (Nat.le_refl _))
      refine slices_Repeat_s_int64_int64__rule0 _ _ _ (fun i h => ∃ j : Nat, i = j ∧ j ≤ N ∧ (0 < N → 0 < j) ∧ Ow h s 1 (List.replicate j (i64 v) ++ List.replicate (N - j) (i64 0)) ∧ Ext h0 h) (fun i _ => (N - i).toNat) ?_ _ ⟨min 1 N, rfl, by omega, by omega, o9, E9⟩
      rintro X _ h ⟨j, rfl, hj, hp, o, e⟩ hX
      unfold slices_Repeat_s_int64_int64__b0 slices_Repeat_s_int64_int64__C0
      refine bif_dec (fun hi => ?_) (fun hi => ⟨_, rfl, ?_, (fun o' e' => by rw [so] at e'; cases e'; exact Nat.le_refl _), e⟩)
      · refine cut_own o so (by omega) (by omega) (Int.le_refl _) ?_
        refine cut_own o so (by omega) (by omega) (by omega) ?_
        simp only [Int.toNat_natCast, Nat.mul_one, Int.toNat_zero]
        rw [show ((s.len : Int) - (j : Int)).toNat = s.len - j by omega, show ((j : Int) - 0).toNat = j by omega]
        refine copy_own o so (by omega) rfl (xs := List.replicate (min j (s.len - j)) (i64 v)) ?_ fun h3 o3 b3 l3 => ?_
        · simp only [Nat.mul_one]
          rw [ow_range o so (by omega), rep_take _ _ _ _ _ (by omega)]
        · rw [rep_splice _ _ j N _ (by omega)] at o3
          simp only
          rw [w64_of (by omega) (by omega)]
          refine hX _ _ ⟨j + min j (s.len - j), by push_cast; rfl, by omega, fun _ => by omega, o3, e.but_ b3 (some_le (Nat.le_refl _))⟩ (by omega)
      · have : j = N := by omega
        subst this
        simpa using o
  rw [← hsv] at step
  exact step
end
end Go.Proofs.Ytnamnpbkiibadaa.Cl

/- Contracts of LastingTiles. No claim is stated here. -/
set_option linter.unusedVariables false
set_option linter.unusedSimpArgs false
namespace Go.Proofs.Ytnamnpbkiibadaa.Cl
open Go
noncomputable def sel0 {α : Type} (A : Prop) (l : List α) : List α := open Classical in if A then l else []
theorem sel0_yes {α : Type} {A : Prop} {l : List α} (h : A) : sel0 A l = l := by unfold sel0; rw [if_pos h]
theorem sel0_no {α : Type} {A : Prop} {l : List α} (h : ¬ A) : sel0 A l = [] := by unfold sel0; rw [if_neg h]
theorem pushI2 {h : H} {s : Sl} {l : List Int} {x : Int} (r : Ow h s 1 (ic l)) (hl : (l.length : Int) + 1 ≤ lim) {K : Sl → H → Prop}
    (hk : ∀ s' h', Ow h' s' 1 (ic (l ++ [x])) → But s.o h h' → (∀ o, s'.o = some o → s.o = some o ∨ h.length ≤ o) → K s' h') : newS 1 1 [.int .i64 x] h fun t h1 => app s t 1 h1 K := by
  refine newS_ow (by rfl) fun t h1 ot tl to e1 => ?_
  have e1' : Ext h h1 := by rw [e1]; exact Ext.app _ _
  have := e1'.len
  have hsl := r.rd.ilen
  refine app_ow (by omega) (r.ext e1') ot.rd (by rw [tl, hsl]; exact_mod_cast hl) fun s' h' o' ln b k1 k2 => hk s' h' (by rw [ic_app]; exact o') ((e1'.but _).trans b) fun o e => ?_
  cases hq : s.o with
  | none => have := k2 hq o e; exact .inr (by omega)
  | some p => rw [k1 p hq] at e; exact .inl e
theorem Obj.same {h h' o cs} (x : Obj h o cs) (y : Obj h' o cs) {n : Nat} (hn : cs.length = n) : Cl.range h (some o) n 0 n = Cl.range h' (some o) n 0 n := (x.rangeE hn).trans (y.rangeE hn).symm
/-! ### lists of truth values -/
def bl (n : Nat) (A : Nat → Bool) : List Bool := (List.range n).map A
theorem bl_len (n A) : (bl n A).length = n := by simp [bl]
theorem bl_get {n : Nat} {A : Nat → Bool} {i : Nat} (h : i < n) : (bl n A)[i]? = some (A i) := by unfold bl; rw [List.getElem?_map, List.getElem?_range h]; rfl
theorem bl_congr {n : Nat} {A B : Nat → Bool} (h : ∀ w, w < n → A w = B w) : bl n A = bl n B := by
  unfold bl
  exact List.map_congr_left fun w hw => h w (List.mem_range.1 hw)
theorem bl_set {n : Nat} {A : Nat → Bool} {k : Nat} {v : Bool} : ((bl n A).map AVal.bool).set k (.bool v) = (bl n fun w => if w = k then v else A w).map .bool := by
  rw [← List.map_set]
  congr 1
  apply List.ext_getElem (by simp [bl])
  intro i h1 h2
  rw [List.getElem_set]
  simp only [bl, List.getElem_map, List.getElem_range]
  by_cases e : k = i
  · rw [if_pos e, if_pos e.symm]
  · rw [if_neg e, if_neg fun f => e f.symm]
theorem bl_false (n : Nat) : (List.replicate n [AVal.bool false]).flatten = (bl n fun _ => false).map .bool := by
  induction n with
  | zero => rfl
  | succ n ih =>
    unfold bl at *
    rw [List.replicate_succ', List.flatten_append, ih, List.range_succ, List.map_append, List.map_append]
    rfl
theorem bl_rep (n : Nat) (b : Bool) : List.replicate n (AVal.bool b) = (bl n fun _ => b).map .bool := by
  unfold bl
  apply List.ext_getElem (by simp)
  intro i h1 h2
  simp
theorem Rd.ldBl {h : H} {s : Sl} {n : Nat} {A : Nat → Bool} (r : Rd h s 1 ((bl n A).map .bool)) {i : Int} (h0 : 0 ≤ i) (h1 : i < n) {K : Bool → Prop} (hk : K (A i.toNat)) : ixS s 1 i fun p => Cl.ldB p h K :=
  r.ldB h0 (by rw [bl_len]; exact h1) fun x hx => by rw [bl_get (by omega)] at hx; cases hx; exact hk
theorem Ow.blen {h : H} {s : Sl} {n : Nat} {A : Nat → Bool} (r : Ow h s 1 ((bl n A).map .bool)) : s.len = n := by have := r.len; rw [List.length_map, bl_len] at this; omega
theorem Ow.stBl {h : H} {s : Sl} {n : Nat} {A : Nat → Bool} (r : Ow h s 1 ((bl n A).map .bool)) {i : Int} (h0 : 0 ≤ i) (h1 : i < n) (v : Bool) {K : H → Prop}
    (hk : ∀ h', Ow h' s 1 ((bl n fun w => if w = i.toNat then v else A w).map .bool) → But s.o h h' → h'.length = h.length → K h') : ixS s 1 i fun p => Cl.st1 p (.bool v) h K :=
  r.stC h0 (by rw [r.blen]; exact h1) _ fun h' o b l => hk h' (by rw [← bl_set]; exact o) b l
/-! ### ways without end over tiles -/
def edT (ts : List Tile) (f g : Nat) : List Edge := ts.map fun t => ((sd t f).toNat, (sd t g).toNat)
theorem stepB_take {es : List Edge} {A : Nat → Bool} {j : Nat} (h : j < es.length) (w : Nat) : stepB (es.take (j + 1)) A w = (stepB (es.take j) A w || (es[j].1 == w && A es[j].2)) := by
  unfold stepB
  rw [List.take_succ_eq_append_getElem h, List.any_append]
  simp
theorem edT_lt {c : Int} {ts : List Tile} (T : TS c ts) {f g : Nat} (hf : f < 4) (hg : g < 4) : ∀ e ∈ edT ts f g, e.1 < c.toNat ∧ e.2 < c.toNat := fun e he => by
  obtain ⟨t, ht, rfl⟩ := List.mem_map.1 he
  have h1 := T.2 t ht f hf
  have h2 := T.2 t ht g hg
  exact ⟨by simp only []; omega, by simp only []; omega⟩
section
variable {h0 : H} {c : Int} {s : Sl} {ts : List Tile}
/-! ### the lasting tiles -/
def lastT (c : Int) (ts : List Tile) (i : Nat) : Bool := lastE (itB (edT ts 2 0) c.toNat) (itB (edT ts 0 2) c.toNat) ((sd (tat ts i) 0).toNat, (sd (tat ts i) 2).toNat)
def lastL (c : Int) (ts : List Tile) (n : Nat) : List Int := ((List.range n).filter (lastT c ts)).map fun (i : Nat) => (i : Int)
theorem flip_edT (ts : List Tile) : flipE (edT ts 0 2) = edT ts 2 0 := by unfold flipE edT; rw [List.map_map]; rfl
theorem lst_tiles (T : TS c ts) : Lst c.toNat (edT ts 0 2) (itB (edT ts 2 0) c.toNat) (itB (edT ts 0 2) c.toNat) := by
  have a := edT_lt T (f := 0) (g := 2) (by omega) (by omega)
  have b := edT_lt T (f := 2) (g := 0) (by omega) (by omega)
  refine ⟨a, ?_, endless_it (fun w hw => itB_end (fun e he => (a e he).2) w hw)⟩
  rw [flip_edT]
  exact endless_it (fun w hw => itB_end (fun e he => (b e he).2) w hw)
theorem lastL_len (n : Nat) : (lastL c ts n).length ≤ n := by
  unfold lastL
  rw [List.length_map]
  have := List.length_filter_le (lastT c ts) (List.range n)
  rwa [List.length_range] at this
theorem lastL_succ (n : Nat) : lastL c ts (n + 1) = if lastT c ts n then lastL c ts n ++ [(n : Int)] else lastL c ts n := by
  unfold lastL
  rw [List.range_succ, List.filter_append, List.map_append]
  by_cases h : lastT c ts n = true
  · rw [if_pos h, List.filter_cons_of_pos h]; rfl
  · rw [if_neg h, List.filter_cons_of_neg h]; simp
noncomputable def F_LastingTiles_0 (c : Int) (ts : List Tile) : List Int := sel0 (setOK c ts) (lastL c ts ts.length)
end
end Go.Proofs.Ytnamnpbkiibadaa.Cl
