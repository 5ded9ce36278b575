/- Contracts of functions, joined. No claim is stated here. -/
import Derived.Test.YtgeakkmpohjohaaFa1
import Derived.Test.YtgeakkmpohjohaaFG0
import Derived.Test.YtgeakkmpohjohaaFG1
import Derived.Test.YtgeakkmpohjohaaFT
/- The clean machine: places of their own, variables in the heap. No claim is stated here. -/
set_option linter.unusedVariables false
set_option linter.unusedSimpArgs false
namespace Go.Proofs.Ytgeakkmpohjohaa.Cl
open Go
/-! ### places of their own -/
theorem slotK_in {k : Nat} {h : H} {K : H → Prop} (hk : ∀ h1, Ext h h1 → h1.length = h.length + k → K h1) : slotK k h K :=
  hk _ (Ext.app _ _) (by simp)
theorem newSat_ow {h : H} {len z n : Nat} {cs : List AVal} (hn : n < h.length) (hc : cs.length = len * z) {K : Sl → H → Prop}
    (hk : ∀ s' h', Ow h' s' z cs → s'.len = len → s'.o = some n → But (some n) h h' → h'.length = h.length → K s' h') : newSat len z cs h n K :=
  hk _ _ ⟨hc, .inr ⟨n, rfl, rfl, rfl, rfl, by simp [hn]⟩⟩ rfl rfl ⟨by simp, fun i hi hne => by rw [List.getElem?_set, if_neg (fun e => hne (by rw [e]))]⟩ (by simp)
theorem mkSat_ow {h : H} {m : Int} {z : List AVal} {n : Nat} (hn : n < h.length) (h0 : 0 ≤ m) (h1 : m ≤ lim) {K : Sl → H → Prop}
    (hk : ∀ s' h', Ow h' s' z.length (List.replicate m.toNat z).flatten → s'.len = m.toNat → s'.o = some n → But (some n) h h' → h'.length = h.length → K s' h') : mkSat m z h n K :=
  ⟨⟨h0, h1⟩, hk _ _ ⟨by simp, .inr ⟨n, rfl, rfl, rfl, by simp, by simp [hn]⟩⟩ rfl rfl ⟨by simp, fun i hi hne => by rw [List.getElem?_set, if_neg (fun e => hne (by rw [e]))]⟩ (by simp)⟩
/-! ### variables -/
abbrev pt (o : Nat) : Pt := ⟨some o, 1, 0⟩
/-- The variable at o has the value v. -/
def Var (h : H) (o : Nat) (v : AVal) : Prop := h[o]? = some (.own [v])
theorem Var.lt {h o v} (x : Var h o v) : o < h.length := (List.getElem?_eq_some_iff.1 x).1
theorem Var.cell {h o v} (x : Var h o v) : Cl.cell h (pt o) = some v := by
  have x' : h[o]? = some (.own [v]) := x
  simp [Cl.cell, cells, x']
theorem Var.ext {h h' o v} (x : Var h o v) (e : Ext h h') : Var h' o v := e.own x
theorem Var.but {h h' o v} {p : Option Nat} (x : Var h o v) (b : But p h h') (hn : p ≠ some o) : Var h' o v := b.get x hn
theorem Var.ldI {h o n} {k : IntKind} (x : Var h o (.int k n)) {K : Int → Prop} (hk : K n) : Cl.ldI k (pt o) h K := ⟨n, x.cell, hk⟩
theorem Var.ldB {h o n} (x : Var h o (.bool n)) {K : Bool → Prop} (hk : K n) : Cl.ldB (pt o) h K := ⟨n, x.cell, hk⟩
theorem Var.ldS {h o n} (x : Var h o (.sl n)) {K : Sl → Prop} (hk : K n) : Cl.ldS (pt o) h K := ⟨n, x.cell, hk⟩
theorem Var.ldP {h o n} (x : Var h o (.ptr n)) {K : Pt → Prop} (hk : K n) : Cl.ldP (pt o) h K := ⟨n, x.cell, hk⟩
theorem Var.ldV {h o n} (x : Var h o n) {K : AVal → Prop} (hk : K n) : Cl.ldV (pt o) h K := ⟨n, x.cell, hk⟩
theorem Var.st {h o v} (x : Var h o v) (u : AVal) {K : H → Prop} (hk : ∀ h', Var h' o u → But (some o) h h' → h'.length = h.length → K h') : Cl.st1 (pt o) u h K := by
  have hl := x.lt
  refine ⟨h.set o (.own [u]), ?_, hk _ (by unfold Var; simp [hl]) ⟨by simp, fun i hi hne => by rw [List.getElem?_set, if_neg (fun e => hne (by rw [e]))]⟩ (by simp)⟩
  have x' : h[o]? = some (.own [v]) := x
  simp [put1, owned, x']
theorem newO_var {v : AVal} {h : H} {K : Pt → H → Prop} (hk : ∀ h', Var h' h.length v → Ext h h' → h'.length = h.length + 1 → K (pt h.length) h') : newO [v] h K :=
  hk _ (by unfold Var; simp) (Ext.app _ _) (by simp)
theorem newOat_var {v : AVal} {h : H} {n : Nat} (hn : n < h.length) {K : Pt → H → Prop} (hk : ∀ h', Var h' n v → But (some n) h h' → h'.length = h.length → K (pt n) h') : newOat [v] h n K :=
  hk _ (by unfold Var; simp [hn]) ⟨by simp, fun i hi hne => by rw [List.getElem?_set, if_neg (fun e => hne (by rw [e]))]⟩ (by simp)
/-- What is read at a place that is not changed. -/
theorem But.cellE {o : Option Nat} {h h' : H} {p : Pt} {v : AVal} (b : But o h h') (e : cell h p = some v) (hn : o ≠ p.o ∨ o = none) : cell h' p = cell h p := by
  unfold cell at *
  cases hp : p.o with
  | none => rfl
  | some i =>
    rw [hp] at e hn
    simp only at e ⊢
    obtain ⟨c, h1, h2⟩ := Option.bind_eq_some_iff.1 e
    have hl := cells_lt h1
    have : h'[i]? = h[i]? := b.2 i hl (by rcases hn with hn | hn; exact hn; rw [hn]; simp)
    have hc : cells h' i p.n = cells h i p.n := by unfold cells; rw [this]
    rw [hc]
theorem Ext.cellE {h h' : H} {p : Pt} {v : AVal} (b : Ext h h') (e : Cl.cell h p = some v) : Cl.cell h' p = Cl.cell h p := (b.but none).cellE e (.inr rfl)
/-! ### several changes -/
/-- h' is h, but for objects from n on. -/
def Till (n : Nat) (h h' : H) : Prop := h.length ≤ h'.length ∧ ∀ i, i < n → i < h.length → h'[i]? = h[i]?
theorem Till.refl (n h) : Till n h h := ⟨Nat.le_refl _, fun _ _ _ => rfl⟩
theorem Till.trans {n a b c} (x : Till n a b) (y : Till n b c) : Till n a c := ⟨Nat.le_trans x.1 y.1, fun i h1 h2 => by rw [y.2 i h1 (by have := x.1; omega), x.2 i h1 h2]⟩
theorem Ext.till {a b : H} (x : Ext a b) (n) : Till n a b := ⟨x.len, fun i _ h => x.get h⟩
theorem But.till {a b : H} {o : Option Nat} (x : But o a b) {n : Nat} (hn : ∀ i, o = some i → n ≤ i) : Till n a b := ⟨x.1, fun i h1 h2 => x.2 i h2 fun e => by have := hn i e; omega⟩
theorem Till.ext {n : Nat} {a b : H} (x : Till n a b) (hn : a.length ≤ n) : Ext a b := Ext.of x.1 fun i hi => x.2 i (by omega) hi
theorem Till.le {n m : Nat} {a b : H} (x : Till n a b) (h : m ≤ n) : Till m a b := ⟨x.1, fun i h1 h2 => x.2 i (by omega) h2⟩
theorem Till.get {n : Nat} {h h' : H} (x : Till n h h') {o : Nat} {v : AObj} (e : h[o]? = some v) (ho : o < n) : h'[o]? = some v := by rw [x.2 o ho (List.getElem?_eq_some_iff.1 e).1]; exact e
theorem Var.till {h h' o v n} (x : Var h o v) (b : Till n h h') (hn : o < n) : Var h' o v := b.get x hn
theorem Ext.till_ {h a b : H} {n : Nat} (x : Ext h a) (y : Till n a b) (hn : h.length ≤ n) : Ext h b :=
  Ext.of (Nat.le_trans x.len y.1) fun i hi => by rw [y.2 i (by omega) (by have := x.len; omega), x.get hi]
end Go.Proofs.Ytgeakkmpohjohaa.Cl

/- The clean machine: objects, slices of slices, changes of several objects. No claim is stated here. -/
set_option linter.unusedVariables false
set_option linter.unusedSimpArgs false
namespace Go.Proofs.Ytgeakkmpohjohaa.Cl
open Go
/-! ### objects -/
def Obj (h : H) (o : Nat) (cs : List AVal) : Prop := h[o]? = some (.own cs)
theorem Obj.lt {h o cs} (x : Obj h o cs) : o < h.length := (List.getElem?_eq_some_iff.1 x).1
theorem Obj.ext {h h' o cs} (x : Obj h o cs) (e : Ext h h') : Obj h' o cs := e.own x
theorem Obj.but {h h' o cs} {p : Option Nat} (x : Obj h o cs) (b : But p h h') (hn : p ≠ some o) : Obj h' o cs := b.get x hn
theorem newK_obj {k : Nat} {cs : List AVal} {h : H} {K : Pt → H → Prop} (hk : ∀ h', Obj h' h.length cs → Ext h h' → h'.length = h.length + 1 → K ⟨some h.length, k, 0⟩ h') (hc : cs.length = k := by rfl) : newK k cs h K :=
  ⟨hc, hk _ (by unfold Obj; simp) (Ext.app _ _) (by simp)⟩
theorem newO_obj {cs : List AVal} {h : H} {K : Pt → H → Prop} (hk : ∀ h', Obj h' h.length cs → Ext h h' → h'.length = h.length + 1 → K ⟨some h.length, cs.length, 0⟩ h') : newO cs h K :=
  hk _ (by unfold Obj; simp) (Ext.app _ _) (by simp)
theorem isPt_in {o : Nat} {n off : Nat} {K : Prop} (hk : K) : isPt ⟨some o, n, off⟩ K := ⟨rfl, hk⟩
theorem Obj.cellE {h o cs} (x : Obj h o cs) {n i : Nat} (hn : cs.length = n) : Cl.cell h (Pt.add ⟨some o, n, 0⟩ i) = cs[i]? := by
  have x' : h[o]? = some (.own cs) := x
  simp [Cl.cell, Pt.add, cells, x', hn]
theorem Obj.ldI {h o cs} (x : Obj h o cs) {n i : Nat} {k : IntKind} {m : Int} (hn : cs.length = n) (e : cs[i]? = some (.int k m)) {K : Int → Prop} (hk : K m) : Cl.ldI k (Pt.add ⟨some o, n, 0⟩ i) h K := ⟨m, by rw [x.cellE hn, e], hk⟩
theorem Obj.ldB {h o cs} (x : Obj h o cs) {n i : Nat} {m : Bool} (hn : cs.length = n) (e : cs[i]? = some (.bool m)) {K : Bool → Prop} (hk : K m) : Cl.ldB (Pt.add ⟨some o, n, 0⟩ i) h K := ⟨m, by rw [x.cellE hn, e], hk⟩
theorem Obj.ldS {h o cs} (x : Obj h o cs) {n i : Nat} {m : Sl} (hn : cs.length = n) (e : cs[i]? = some (.sl m)) {K : Sl → Prop} (hk : K m) : Cl.ldS (Pt.add ⟨some o, n, 0⟩ i) h K := ⟨m, by rw [x.cellE hn, e], hk⟩
theorem Obj.ldA {h o cs} (x : Obj h o cs) {n : Nat} (hn : cs.length = n) {K : List AVal → Prop} (hk : K cs) : Cl.ldA ⟨some o, n, 0⟩ n h K := ld_own x hn hk
theorem Obj.stA {h o cs} (x : Obj h o cs) {n m : Nat} {vs : List AVal} {K : H → Prop} (hk : ∀ h', Obj h' o vs → But (some o) h h' → h'.length = h.length → K h') (hn : cs.length = n := by rfl) (hv : vs.length = m := by rfl) (hm : m = n := by rfl) : Cl.stN ⟨some o, n, 0⟩ m vs h K := by
  subst hm
  exact st_own x hn hv fun b e => hk _ e b (by simp)
theorem Obj.st1 {h o cs} (x : Obj h o cs) {n i : Nat} (hn : cs.length = n) (hi : i < n) (v : AVal) {K : H → Prop} (hk : ∀ h', Obj h' o (cs.set i v) → But (some o) h h' → h'.length = h.length → K h') : Cl.st1 (Pt.add ⟨some o, n, 0⟩ i) v h K := by
  have x' : h[o]? = some (.own cs) := x
  have hl := x.lt
  refine ⟨h.set o (.own (cs.set i v)), ?_, hk _ (by unfold Obj; simp [hl]) ⟨by simp, fun j hj hne => by rw [List.getElem?_set, if_neg (fun e => hne (by rw [e]))]⟩ (by simp)⟩
  unfold put1 owned Pt.add
  simp [x', hn, hi]
/-! ### changes of several objects -/
/-- h' is h but for objects of P, and for what is new. -/
def Chg (P : Nat → Prop) (h h' : H) : Prop := h.length ≤ h'.length ∧ ∀ i, i < h.length → ¬ P i → h'[i]? = h[i]?
theorem Chg.refl (P h) : Chg P h h := ⟨Nat.le_refl _, fun _ _ _ => rfl⟩
theorem Chg.trans {P a b c} (x : Chg P a b) (y : Chg P b c) : Chg P a c := ⟨Nat.le_trans x.1 y.1, fun i hi hn => by rw [y.2 i (by have := x.1; omega) hn, x.2 i hi hn]⟩
theorem Chg.to {P Q : Nat → Prop} {a b : H} (x : Chg P a b) (hq : ∀ i, i < a.length → P i → Q i) : Chg Q a b := ⟨x.1, fun i hi hn => x.2 i hi fun hp => hn (hq i hi hp)⟩
theorem Ext.chg {a b : H} (x : Ext a b) (P) : Chg P a b := ⟨x.len, fun i hi _ => x.get hi⟩
theorem But.chg {a b : H} {o : Option Nat} (x : But o a b) {P : Nat → Prop} (hp : ∀ i, o = some i → P i) : Chg P a b := ⟨x.1, fun i hi hn => x.2 i hi fun e => hn (hp i e)⟩
theorem Chg.get {P} {h h' : H} (b : Chg P h h') {i : Nat} {v : AObj} (e : h[i]? = some v) (hn : ¬ P i) : h'[i]? = some v := by
  rw [b.2 i (List.getElem?_eq_some_iff.1 e).1 hn, e]
theorem Chg.ext {P} {h h' : H} (b : Chg P h h') (hn : ∀ i, P i → h.length ≤ i) : Ext h h' := Ext.of b.1 fun i hi => b.2 i hi fun p => by have := hn i p; omega
theorem Ext.chg_ {P} {h a b : H} (x : Ext h a) (y : Chg P a b) (hn : ∀ i, P i → h.length ≤ i) : Ext h b :=
  Ext.of (Nat.le_trans x.len y.1) fun i hi => by
    rw [y.2 i (by have := x.len; omega) (fun p => by have := hn i p; omega), x.get hi]
theorem Chg.range {P} {h h' : H} (b : Chg P h h') {o n off k cs} (e : range h o n off k = some cs) (hn : ∀ i, o = some i → ¬ P i) : range h' o n off k = some cs := by
  obtain ⟨i, xs, rfl, hc, hl, rfl⟩ := range_some e
  refine range_of ?_ hl
  have := cells_lt hc
  unfold Cl.cells at hc ⊢
  rw [b.2 i this (hn i rfl)]; exact hc
theorem Rd.chg {P} {h h' : H} {s z cs} (r : Rd h s z cs) (b : Chg P h h') (hn : ∀ i, s.o = some i → ¬ P i) : Rd h' s z cs :=
  ⟨r.len, r.at_.imp id fun ⟨x, y, e⟩ => ⟨x, y, b.range e hn⟩⟩
theorem Ow.chg {P} {h h' : H} {s z cs} (r : Ow h s z cs) (b : Chg P h h') (hn : ∀ i, s.o = some i → ¬ P i) : Ow h' s z cs :=
  ⟨r.len, r.at_.imp id fun ⟨i, a, x, c, d, e⟩ => ⟨i, a, x, c, d, b.get e (hn i a)⟩⟩
theorem Var.chg {P} {h h' o v} (x : Var h o v) (b : Chg P h h') (hn : ¬ P o) : Var h' o v := b.get x hn
theorem Obj.chg {P} {h h' o v} (x : Obj h o v) (b : Chg P h h') (hn : ¬ P o) : Obj h' o v := b.get x hn
/-! ### slices of slices of integers -/
def RdSS (h : H) (s : Sl) (ls : List (List Int)) : Prop :=
  ∃ vs : List Sl, vs.length = ls.length ∧ Rd h s 1 (vs.map .sl) ∧ ∀ (i : Nat) v l, vs[i]? = some v → ls[i]? = some l → Rd h v 1 (ic l)
theorem RdSS.len {h s ls} (r : RdSS h s ls) : s.len = ls.length := by
  obtain ⟨vs, h1, h2, _⟩ := r
  have := h2.len
  simp at this
  omega
theorem RdSS.ext {h h' s ls} (r : RdSS h s ls) (x : Ext h h') : RdSS h' s ls := by
  obtain ⟨vs, h1, h2, h3⟩ := r
  exact ⟨vs, h1, h2.ext x, fun i v l a b => (h3 i v l a b).ext x⟩
theorem Rd.ilen {h : H} {s : Sl} {l : List Int} (r : Rd h s 1 (ic l)) : s.len = l.length := by have := r.len; rw [ic_len] at this; omega
theorem RdSS.ld {h s ls} (r : RdSS h s ls) {i : Int} (h0 : 0 ≤ i) (h1 : i < ls.length) {K : Sl → Prop} (hk : ∀ v l, ls[i.toNat]? = some l → Rd h v 1 (ic l) → v.len = l.length → K v) : ixS s 1 i fun p => Cl.ldS p h K := by
  obtain ⟨vs, e1, e2, e3⟩ := r
  refine e2.ldS h0 (by omega) fun v hv => ?_
  have hl : ls[i.toNat]? = some ls[i.toNat] := List.getElem?_eq_getElem (by omega)
  have := e3 i.toNat v _ hv hl
  exact hk v _ hl this this.ilen
/-- s lies in new memory of its own, from n on. -/
def NewSS (n : Nat) (h : H) (s : Sl) (ls : List (List Int)) : Prop :=
  ∃ vs : List Sl, vs.length = ls.length ∧ Ow h s 1 (vs.map .sl) ∧ Fr n s ∧ (∀ (i : Nat) v l, vs[i]? = some v → ls[i]? = some l → Ow h v 1 (ic l) ∧ Fr n v) ∧
    (∀ (i j : Nat) v w, i ≠ j → vs[i]? = some v → vs[j]? = some w → ∀ o, v.o = some o → w.o ≠ some o) ∧ ∀ (i : Nat) v, vs[i]? = some v → ∀ o, v.o = some o → s.o ≠ some o
theorem NewSS.rd {n h s ls} (r : NewSS n h s ls) : RdSS h s ls := by
  obtain ⟨vs, h1, h2, _, h3, _⟩ := r
  exact ⟨vs, h1, h2.rd, fun i v l a b => (h3 i v l a b).1.rd⟩
theorem NewSS.le {n m h s ls} (r : NewSS n h s ls) (hm : m ≤ n) : NewSS m h s ls := by
  obtain ⟨vs, h1, h2, h3, h4, h5⟩ := r
  exact ⟨vs, h1, h2, h3.le hm, fun i v l a b => (h4 i v l a b).imp id fun f => f.le hm, h5⟩
theorem NewSS.nil (n h) : NewSS n h Sl.nil [] := ⟨[], rfl, Ow.nil _ _, Fr.nil _, fun i v l a => by simp at a, fun i j v w _ a => by simp at a, fun i v a => by simp at a⟩
theorem NewSS.mk0 {n h s} (o : Ow h s 1 []) (f : Fr n s) : NewSS n h s [] := ⟨[], rfl, o, f, fun i v l a => by simp at a, fun i j v w _ a => by simp at a, fun i v a => by simp at a⟩
theorem mem_idx {α β : Type} {l : List α} {m : List β} (e : l.length = m.length) {i : Nat} {a : α} (h : l[i]? = some a) : ∃ b, m[i]? = some b :=
  ⟨m[i]'(by have := (List.getElem?_eq_some_iff.1 h).1; omega), List.getElem?_eq_getElem (by have := (List.getElem?_eq_some_iff.1 h).1; omega)⟩
theorem NewSS.chg {P n h h' s ls} (r : NewSS n h s ls) (b : Chg P h h') (hn : ∀ i, n ≤ i → i < h.length → ¬ P i) : NewSS n h' s ls := by
  obtain ⟨vs, h1, h2, h3, h4, h5⟩ := r
  refine ⟨vs, h1, h2.chg b fun o e => hn o (h3 o e) (h2.lt e), h3, fun i v l a c => ?_, h5⟩
  obtain ⟨x, y⟩ := h4 i v l a c
  exact ⟨x.chg b fun o e => hn o (y o e) (x.lt e), y⟩
theorem NewSS.ext {n h h' s ls} (r : NewSS n h s ls) (x : Ext h h') : NewSS n h' s ls := r.chg (x.chg fun _ => False) fun _ _ _ f => f
theorem RdSS.chg {P h h' s ls} (r : RdSS h s ls) (b : Chg P h h') (hn : ∀ i, i < h.length → ¬ P i) : RdSS h' s ls := r.ext (Ext.of b.1 fun i hi => b.2 i hi (hn i hi))
/-- append of a new view to a new slice of views -/
theorem NewSS.app {n h s ls} (r : NewSS n h s ls) {v : Sl} {l : List Int} (ov : Ow h v 1 (ic l)) (fv : Fr n v) (hap : ∀ o, v.o = some o → s.o ≠ some o ∧ ∀ vs : List Sl, Ow h s 1 (vs.map .sl) → ∀ w ∈ vs, w.o ≠ some o)
    {x : Sl} (rx : Rd h x 1 [.sl v]) (hl : (ls.length : Int) + 1 ≤ lim) (hnh : n ≤ h.length) {K : Sl → H → Prop} (hk : ∀ s' h', NewSS n h' s' (ls ++ [l]) → But s.o h h' → (∀ o, s.o = some o → s'.o = some o) → (s.o = none → ∀ o, s'.o = some o → h.length ≤ o) → K s' h') : Cl.app s x 1 h K := by
  obtain ⟨vs, h1, h2, h3, h4, h5, h6⟩ := r
  have hx : x.len = 1 := by have := rx.len; simp at this; omega
  have hs : s.len = ls.length := by have := h2.len; simp at this; omega
  refine app_ow (by omega) h2 rx (by rw [hs, hx]; exact_mod_cast hl) fun s' h' o' ln b k1 k2 => ?_
  have hso : ∀ o, s'.o = some o → s.o = some o ∨ h.length ≤ o := fun o e => by
    cases hq : s.o with
    | none => exact .inr (k2 hq o e)
    | some p => rw [k1 p hq] at e; exact .inl e
  refine hk s' h' ⟨vs ++ [v], by simp [h1], by simpa using o', ?_, ?_, ?_, ?_⟩ b k1 k2
  · intro o e
    rcases hso o e with e | e
    · exact h3 o e
    · omega
  · intro i w l' a c
    rw [List.getElem?_append] at a c
    rw [h1] at a
    split at a
    · next hi =>
      rw [if_pos hi] at c
      obtain ⟨p, q⟩ := h4 i w l' a c
      refine ⟨p.but b ?_, q⟩
      cases hw : w.o with
      | none => 
        cases hq : s.o with
        | none => exact .inr rfl
        | some _ => exact .inl (by simp)
      | some o => exact .inl (by rw [← hw]; intro e; exact h6 i w a o hw (by rw [e, hw]))
    · next hi =>
      rw [if_neg hi] at c
      have : i = ls.length := by
        have := (List.getElem?_eq_some_iff.1 c).1
        simp at this; omega
      subst this
      simp at a c
      subst a c
      refine ⟨ov.but b ?_, fv⟩
      cases hw : v.o with
      | none =>
        cases hq : s.o with
        | none => exact .inr rfl
        | some _ => exact .inl (by simp)
      | some o => exact .inl (by intro e; exact (hap o hw).1 e)
  · intro i j w u hne a c o e
    have hwl : ∀ {k : Nat} {y : Sl}, (vs ++ [v])[k]? = some y → vs[k]? = some y ∨ (k = vs.length ∧ y = v) := fun {k y} e => by
      rw [List.getElem?_append] at e
      split at e
      · exact .inl e
      · have : k = vs.length := by
          have := (List.getElem?_eq_some_iff.1 e).1
          simp at this; omega
        subst this
        simp at e
        exact .inr ⟨rfl, e.symm⟩
    rcases hwl a with a1 | ⟨rfl, rfl⟩
    · rcases hwl c with c1 | ⟨rfl, rfl⟩
      · exact h5 i j w u hne a1 c1 o e
      · intro e2
        exact (hap o e2).2 vs h2 w (List.mem_of_getElem? a1) e
    · rcases hwl c with c1 | ⟨rfl, rfl⟩
      · exact (hap o e).2 vs h2 u (List.mem_of_getElem? c1)
      · exact absurd rfl hne
  · intro i w a o e
    have hlt : o < h.length ∧ s.o ≠ some o := by
      rw [List.getElem?_append] at a
      split at a
      · obtain ⟨l', hl'⟩ := mem_idx h1 a
        exact ⟨(h4 i w l' a hl').1.lt e, h6 i w a o e⟩
      · have : w = v := by
          have := List.mem_of_getElem? a
          simpa using this
        subst this
        exact ⟨ov.lt e, (hap o e).1⟩
    intro e2
    rcases hso o e2 with e3 | e3
    · exact hlt.2 e3
    · omega
/-- the same, the view newer than all -/
theorem NewSS.app_new {n m h s ls} (r : NewSS n h s ls) {v : Sl} {l : List Int} (ov : Ow h v 1 (ic l)) (fv : Fr m v) (hnm : n ≤ m) (hm : ∃ h0 : H, NewSS n h0 s ls ∧ h0.length ≤ m ∧ Ext h0 h)
    {x : Sl} (rx : Rd h x 1 [.sl v]) (hl : (ls.length : Int) + 1 ≤ lim) (hnh : n ≤ h.length) {K : Sl → H → Prop} (hk : ∀ s' h', NewSS n h' s' (ls ++ [l]) → But s.o h h' → (∀ o, s.o = some o → s'.o = some o) → (s.o = none → ∀ o, s'.o = some o → h.length ≤ o) → K s' h') : Cl.app s x 1 h K := by
  obtain ⟨h0, r0, hlen, ex⟩ := hm
  refine r.app ov (fv.le hnm) (fun o e => ?_) rx hl hnh hk
  obtain ⟨vs, h1, h2, h3, h4, h5, h6⟩ := r0
  have ho := fv o e
  refine ⟨fun e2 => by have := h2.lt e2; omega, fun us hu w hw => ?_⟩
  intro e2
  have hq : us = vs := by
    have a := hu.rd.sread (by omega)
    have b := (h2.ext ex).rd.sread (by omega)
    rw [a] at b
    have : us.map AVal.sl = vs.map AVal.sl := Option.some.inj b
    exact List.map_inj_right (fun a b e => by simpa using e) |>.1 this
  subst hq
  obtain ⟨i, hi⟩ := List.getElem?_of_mem hw
  obtain ⟨l', hl'⟩ := mem_idx h1 hi
  have := (h4 i w l' hi hl').1.lt e2
  omega
/-- The same, of objects of P. -/
def NewP (P : Nat → Prop) (h : H) (s : Sl) (ls : List (List Int)) : Prop :=
  ∃ vs : List Sl, vs.length = ls.length ∧ Ow h s 1 (vs.map .sl) ∧ (∀ o, s.o = some o → P o) ∧ (∀ (i : Nat) v l, vs[i]? = some v → ls[i]? = some l → Ow h v 1 (ic l) ∧ ∀ o, v.o = some o → P o) ∧
    (∀ (i j : Nat) v w, i ≠ j → vs[i]? = some v → vs[j]? = some w → ∀ o, v.o = some o → w.o ≠ some o) ∧ ∀ (i : Nat) v, vs[i]? = some v → ∀ o, v.o = some o → s.o ≠ some o
theorem NewSS.p {n h s ls} (r : NewSS n h s ls) {P : Nat → Prop} (hp : ∀ i, n ≤ i → i < h.length → P i) : NewP P h s ls := by
  obtain ⟨vs, h1, h2, h3, h4, h5⟩ := r
  exact ⟨vs, h1, h2, fun o e => hp o (h3 o e) (h2.lt e), fun i v l a b => ⟨(h4 i v l a b).1, fun o e => hp o ((h4 i v l a b).2 o e) ((h4 i v l a b).1.lt e)⟩, h5⟩
theorem NewP.ss {P h s ls} (r : NewP P h s ls) {n : Nat} (hp : ∀ i, P i → n ≤ i) : NewSS n h s ls := by
  obtain ⟨vs, h1, h2, h3, h4, h5⟩ := r
  exact ⟨vs, h1, h2, fun o e => hp o (h3 o e), fun i v l a b => (h4 i v l a b).imp id fun f o e => hp o (f o e), h5⟩
theorem NewP.chg {P Q h h' s ls} (r : NewP P h s ls) (b : Chg Q h h') (hn : ∀ i, P i → i < h.length → ¬ Q i) : NewP P h' s ls := by
  obtain ⟨vs, h1, h2, h3, h4, h5⟩ := r
  refine ⟨vs, h1, h2.chg b fun o e => hn o (h3 o e) (h2.lt e), h3, fun i v l a c => ?_, h5⟩
  obtain ⟨x, y⟩ := h4 i v l a c
  exact ⟨x.chg b fun o e => hn o (y o e) (x.lt e), y⟩
theorem NewP.ext {P h h' s ls} (r : NewP P h s ls) (x : Ext h h') : NewP P h' s ls := r.chg (x.chg fun _ => False) fun _ _ _ f => f
theorem NewP.rd {P h s ls} (r : NewP P h s ls) : RdSS h s ls := by
  obtain ⟨vs, h1, h2, _, h3, _⟩ := r
  exact ⟨vs, h1, h2.rd, fun i v l a b => (h3 i v l a b).1.rd⟩
end Go.Proofs.Ytgeakkmpohjohaa.Cl

/- Contracts of the functions on tiles, of the search in slices and of the laws' helpers. No claim is stated here. -/
set_option linter.unusedVariables false
set_option linter.unusedSimpArgs false
namespace Go.Proofs.Ytgeakkmpohjohaa.Cl
open Go
abbrev SP : SatT := Sat Try.prog
abbrev Tile := Int × Int × Int × Int
def tc (t : Tile) : List AVal := [i64 t.1, i64 t.2.1, i64 t.2.2.1, i64 t.2.2.2]
def tcs (ts : List Tile) : List AVal := (ts.map tc).flatten
theorem tc_len (t : Tile) : (tc t).length = 4 := rfl
theorem tcs_len : ∀ ts : List Tile, (tcs ts).length = ts.length * 4
  | [] => rfl
  | t :: ts => by
    have := tcs_len ts
    unfold tcs at *
    simp only [List.map_cons, List.flatten_cons, List.length_append, tc_len, List.length_cons]
    omega
theorem tcs_app (a b : List Tile) : tcs (a ++ b) = tcs a ++ tcs b := by simp [tcs]
theorem tcs_cons (a : Tile) (b : List Tile) : tcs (a :: b) = tc a ++ tcs b := by simp [tcs]
theorem tcs_at : ∀ (ts : List Tile) (i : Nat) (t : Tile), ts[i]? = some t → ((tcs ts).drop (i * 4)).take 4 = tc t
  | [], i, t, e => by simp at e
  | a :: ts, 0, t, e => by
    simp at e; subst e
    rw [tcs_cons]; simp [List.take_append, tc_len]
    rw [List.take_of_length_le (by simp [tc_len])]
  | a :: ts, i + 1, t, e => by
    rw [tcs_cons, show (i + 1) * 4 = (tc a).length + i * 4 by rw [tc_len]; omega, ← List.drop_drop, List.drop_left]
    exact tcs_at ts i t (by simpa using e)
/-- A slice of tiles. -/
theorem Rd.ldT {h : H} {s : Sl} {ts : List Tile} (r : Rd h s 4 (tcs ts)) {i : Int} (h0 : 0 ≤ i) (h1 : i < ts.length) {K : List AVal → Prop} (hk : ∀ t, ts[i.toNat]? = some t → K (tc t)) : ixS s 4 i fun p => Cl.ldA p 4 h K := by
  have hlen : ts.length = s.len := by have := r.len; rw [tcs_len] at this; omega
  have hx : ts[i.toNat]? = some ts[i.toNat] := List.getElem?_eq_getElem (by omega)
  exact r.ldA h0 (by omega) (by rw [tcs_at ts _ _ hx]; exact hk _ hx)
theorem Rd.tlen {h : H} {s : Sl} {ts : List Tile} (r : Rd h s 4 (tcs ts)) : s.len = ts.length := by have := r.len; rw [tcs_len] at this; omega

def turn (t : Tile) : Tile := (t.2.2.2, t.1, t.2.1, t.2.2.1)
def turnN : Nat → Tile → Tile
  | 0, t => t
  | n + 1, t => turnN n (turn t)
theorem turnN_succ : ∀ n t, turnN (n + 1) t = turn (turnN n t)
  | 0, t => rfl
  | n + 1, t => by rw [turnN, turnN_succ n (turn t), turnN]
def i64ok (n : Int) : Prop := -9223372036854775808 ≤ n ∧ n < 9223372036854775808
def tileok (c : Int) (t : Tile) : Bool := decide (0 ≤ t.1 ∧ t.1 ≤ c - 1) && decide (0 ≤ t.2.1 ∧ t.2.1 ≤ c - 1) && decide (0 ≤ t.2.2.1 ∧ t.2.2.1 ≤ c - 1) && decide (0 ≤ t.2.2.2 ∧ t.2.2.2 ≤ c - 1)
attribute [local simp] newK newO ixA ldI ldA stN st1 Cl.range cell Cl.cells putN put1 owned get_app get_app0 set_app set_app0 Pt.add splice Ext.app Ext.refl cutA isPt

theorem l01In_c (a b c : Int) (h : H) : callB SP i_spec_l01In [i64 a, i64 b, i64 c] h fun r h' => r = decide (b ≤ a ∧ a ≤ c) ∧ h' = h := by
  apply spec_l01In_call
  unfold spec_l01In_main
  refine bif_dec (fun h1 => ?_) (fun h1 => ?_)
  all_goals simp; try omega
theorem within_c (a b c : Int) (h : H) : callB SP i_impl_within [i64 a, i64 b, i64 c] h fun r h' => r = decide (b ≤ a ∧ a ≤ c) ∧ h' = h := by
  apply impl_within_call
  unfold impl_within_main
  refine bif_dec (fun h1 => ?_) (fun h1 => ?_)
  all_goals simp; try omega
/-! ### search -/
def findI {α : Type} (q : α → Bool) (l : List α) : Int := match l.findIdx? q with | some i => (i : Int) | none => -1
theorem findI_hit {α : Type} {q : α → Bool} {l : List α} {i : Nat} {x : α} (hx : l[i]? = some x) (hq : q x = true) (hn : ∀ j y, j < i → l[j]? = some y → q y = false) : findI q l = i := by
  unfold findI
  have : l.findIdx? q = some i := by
    rw [List.findIdx?_eq_some_iff_getElem]
    obtain ⟨h1, h2⟩ := List.getElem?_eq_some_iff.1 hx
    refine ⟨h1, by rw [h2]; exact hq, fun j hj => ?_⟩
    rw [hn j _ hj (List.getElem?_eq_getElem (by omega))]; simp
  rw [this]
theorem findI_none {α : Type} {q : α → Bool} {l : List α} (hn : ∀ y ∈ l, q y = false) : findI q l = -1 := by
  unfold findI
  have : l.findIdx? q = none := by
    rw [List.findIdx?_eq_none_iff]
    intro x hx; rw [hn x hx]
  rw [this]
theorem findI_ge {α : Type} (q : α → Bool) (l : List α) : decide (findI q l ≥ 0) = l.any q := by
  unfold findI
  cases h : l.findIdx? q with
  | none =>
    rw [List.findIdx?_eq_none_iff] at h
    have : l.any q = false := by rw [List.any_eq_false]; intro x hx; rw [h x hx]; simp
    rw [this]; simp
  | some i =>
    have h2 : l.any q = true := by
      rw [List.findIdx?_eq_some_iff_getElem] at h
      obtain ⟨h1, h2, _⟩ := h
      exact List.any_eq_true.2 ⟨_, List.getElem_mem h1, h2⟩
    rw [h2]; simp
theorem indexFunc_int_c {h0 : H} {s : Sl} {l : List Int} (r : Rd h0 s 1 (ic l)) (hl : l.length < 4000000000000000000) (g : Nat) (cap : List AVal) (q : Int → Bool)
    (hg : ∀ x ∈ l, ∀ h, Ext h0 h → callB SP g (i64 x :: cap) h fun b h' => b = q x ∧ Ext h h') : callI SP .i64 i_slices_IndexFunc_s_int64_int64_ [.sl s, .func g cap] h0 fun n h' => n = findI q l ∧ Ext h0 h' := by
  have hlen : s.len = l.length := by have := r.len; rw [ic_len] at this; omega
  apply slices_IndexFunc_s_int64_int64__call
  unfold slices_IndexFunc_s_int64_int64__main
  refine slices_IndexFunc_s_int64_int64__rule0 _ _ s _ _ (fun i h => 0 ≤ i ∧ i ≤ l.length ∧ Ext h0 h ∧ ∀ j y, j < i.toNat → l[j]? = some y → q y = false) (fun i _ => (l.length - i).toNat) ?_ _ ⟨by omega, by omega, Ext.refl _, fun j y hj => by omega⟩
  intro X i h ⟨i0, i1, hx, hn⟩ hX
  unfold slices_IndexFunc_s_int64_int64__b0
  refine bif_dec (fun hi => ?_) (fun hi => ?_)
  · refine (r.ext hx).ldI i0 (by omega) fun x hxe => via_func ?_
    refine (hg x (List.mem_of_getElem? hxe) h hx).to ?_
    rintro _ h' ⟨rfl, hx'⟩
    refine bif_b (fun hq => ?_) (fun hq => ?_)
    · refine ⟨i, rfl, ?_, hx.trans hx'⟩
      rw [findI_hit hxe hq hn]; omega
    · rw [w64_of (by omega) (by omega)]
      refine hX _ _ ⟨by omega, by omega, hx.trans hx', fun j y hj hy => ?_⟩ (by omega)
      by_cases hji : j = i.toNat
      · subst hji; rw [hxe] at hy; cases hy; exact hq
      · exact hn j y (by omega) hy
  · refine ⟨_, rfl, ?_, hx⟩
    rw [findI_none]
    intro y hy
    obtain ⟨j, hj, rfl⟩ := List.mem_iff_getElem.1 hy
    exact hn j _ (by omega) (List.getElem?_eq_getElem hj)
theorem containsFunc_int_c {h0 : H} {s : Sl} {l : List Int} (r : Rd h0 s 1 (ic l)) (hl : l.length < 4000000000000000000) (g : Nat) (cap : List AVal) (q : Int → Bool)
    (hg : ∀ x ∈ l, ∀ h, Ext h0 h → callB SP g (i64 x :: cap) h fun b h' => b = q x ∧ Ext h h') : callB SP i_slices_ContainsFunc_s_int64_int64_ [.sl s, .func g cap] h0 fun b h' => b = l.any q ∧ Ext h0 h' := by
  apply slices_ContainsFunc_s_int64_int64__call
  unfold slices_ContainsFunc_s_int64_int64__main
  refine (indexFunc_int_c r hl g cap q hg).to ?_
  rintro _ h' ⟨rfl, hx⟩
  exact ⟨_, rfl, findI_ge q l, hx⟩
/-! ### tiles -/
theorem isTile1_w (x c : Int) (o : Nat) (h : H) (ho : h[o]? = some (.own [i64 c])) : callB SP i_impl_isTile_1 [i64 x, .ptr ⟨some o, 1, 0⟩] h fun b h' => b = (!decide (0 ≤ x ∧ x ≤ w64 (c - 1))) ∧ h' = h := by
  apply impl_isTile_1_call
  unfold impl_isTile_1_main
  refine ⟨c, by simp [ho], ?_⟩
  dsimp only
  refine (within_c _ _ _ _).to ?_
  rintro _ _ ⟨rfl, rfl⟩
  exact ⟨_, rfl, rfl, rfl⟩
theorem isTile_w (t : Tile) (c : Int) (h : H) : callB SP i_impl_isTile [.agg (tc t), i64 c] h fun b h' => b = tileok (w64 (c - 1) + 1) t ∧ Ext h h' := by
  apply impl_isTile_call
  simp only [impl_isTile_main, newK, newO]
  refine ⟨rfl, ⟨by omega, by omega, by omega⟩, rfl, rfl, ?_⟩
  refine (containsFunc_int_c (l := [t.1, t.2.1, t.2.2.1, t.2.2.2]) ⟨rfl, .inr ⟨rfl, rfl, ?_⟩⟩ (by simp) i_impl_isTile_1 _ (fun x => !decide (0 ≤ x ∧ x ≤ w64 (c - 1))) ?_).to ?_
  · simp [tc, ic]
  · intro x _ h' hx
    refine (isTile1_w x c _ h' (hx.own (by simp))).to ?_
    rintro _ _ ⟨rfl, rfl⟩
    exact ⟨rfl, Ext.refl _⟩
  · rintro _ h' ⟨rfl, l, rfl⟩
    refine ⟨_, rfl, ?_, by simp⟩
    simp [tileok, Bool.and_assoc]
theorem isTile_c (t : Tile) (c : Int) (hc : i64ok (c - 1)) (h : H) : callB SP i_impl_isTile [.agg (tc t), i64 c] h fun b h' => b = tileok c t ∧ Ext h h' := by
  have := isTile_w t c h
  rw [w64_of hc.1 hc.2, Int.sub_add_cancel] at this
  exact this
theorem tcs_one (t : Tile) : tcs [t] = tc t := by simp [tcs]
theorem Rd.of_ow {h s z cs} (r : Ow h s z cs) : Rd h s z cs := r.rd
/-- The first n turns. -/
def turnsN : Nat → Tile → List Tile
  | 0, _ => []
  | n + 1, t => t :: turnsN n (turn t)
theorem turnsN_succ : ∀ n t, turnsN (n + 1) t = turnsN n t ++ [turnN n t]
  | 0, t => rfl
  | n + 1, t => by
    rw [turnsN, turnsN_succ n (turn t), turnsN]; rfl
theorem turnsN_len : ∀ n t, (turnsN n t).length = n
  | 0, t => rfl
  | n + 1, t => by rw [turnsN, List.length_cons, turnsN_len n]
theorem l01Tile_c (c : Int) (hc : i64ok (c - 1)) (t : Tile) (h : H) : callB SP i_spec_l01Tile [i64 c, .agg (tc t)] h fun b h' => b = tileok c t ∧ Ext h h' := by
  apply spec_l01Tile_call
  simp only [spec_l01Tile_main, newK]
  refine ⟨rfl, ?_⟩
  refine spec_l01Tile_rule0 _ _ _ _ (fun i h' => 0 ≤ i ∧ i ≤ 4 ∧ h' = h ++ [.own (tc t)] ∧ ∀ j y, j < i.toNat → [t.1, t.2.1, t.2.2.1, t.2.2.2][j]? = some y → 0 ≤ y ∧ y ≤ c - 1) (fun i _ => (4 - i).toNat) ?_ _ ⟨by omega, by omega, rfl, fun j y hj => by omega⟩
  rintro X i _ ⟨i0, i1, rfl, hn⟩ hX
  unfold spec_l01Tile_b0 spec_l01Tile_C0
  refine bif_dec (fun hi => ?_) (fun hi => ?_)
  · have hx : ∃ x, [t.1, t.2.1, t.2.2.1, t.2.2.2][i.toNat]? = some x := ⟨_, List.getElem?_eq_getElem (by simp; omega)⟩
    obtain ⟨x, hx⟩ := hx
    refine ⟨⟨i0, hi⟩, rfl, x, ?_, ?_⟩
    · have hg : (tc t)[i.toNat]? = some (i64 x) := by
        rw [show tc t = ic [t.1, t.2.1, t.2.2.1, t.2.2.2] from rfl]
        unfold ic
        rw [List.getElem?_map, hx]; rfl
      simp [hg, tc_len]
    · dsimp only
      rw [w64_of hc.1 hc.2, w64_of (by omega) (by omega)]
      refine (l01In_c _ _ _ _).to ?_
      rintro _ _ ⟨rfl, rfl⟩
      refine bif_not (fun hq => ?_) (fun hq => ?_)
      · refine ⟨_, rfl, ?_, by simp⟩
        rw [decide_eq_false_iff_not] at hq
        have hm := List.mem_of_getElem? hx
        simp only [List.mem_cons, List.not_mem_nil, or_false] at hm
        unfold tileok
        rcases hm with rfl | rfl | rfl | rfl <;> simp [hq]
      · refine hX _ _ ⟨by omega, by omega, rfl, fun j y hj hy => ?_⟩ (by omega)
        by_cases hji : j = i.toNat
        · subst hji; rw [hx] at hy; cases hy; exact of_decide_eq_true hq
        · exact hn j y (by omega) hy
  · refine ⟨_, rfl, ?_, by simp⟩
    unfold tileok
    have h4 : i.toNat = 4 := by omega
    rw [h4] at hn
    have a0 := hn 0 _ (by omega) rfl
    have a1 := hn 1 _ (by omega) rfl
    have a2 := hn 2 _ (by omega) rfl
    have a3 := hn 3 _ (by omega) rfl
    simp [a0, a1, a2, a3]
def tilesCode (l : List Tile) : Int := if l.all (tileok 6) then 0 else 2
/-! ### TurnsOf -/
def turnsOf (t : Tile) : List Tile × Int := if tileok 6 t then (turnsN 4 t, 0) else ([], 2)
/-! ### the laws' helpers -/
theorem toTile_c (t : Tile) (h : H) : callA SP i_laws_toTile [.agg (tc t)] h fun r h' => r = tc t ∧ Ext h h' := by
  apply laws_toTile_call
  simp only [laws_toTile_main, newK, newO]
  refine ⟨rfl, ?_⟩
  refine laws_toTile_unroll0 _ _ _ _ _ _ _ (bif_dec (fun _ => ?_) (fun hn => absurd (by omega) hn))
  have e1 : w64 (0 + 1) = 1 := w64_of (by omega) (by omega)
  have e2 : w64 (1 + 1) = 2 := w64_of (by omega) (by omega)
  have e3 : w64 (2 + 1) = 3 := w64_of (by omega) (by omega)
  have e4 : w64 (3 + 1) = 4 := w64_of (by omega) (by omega)
  rw [e1]
  simp [tc]
  refine laws_toTile_unroll0 _ _ _ _ _ _ _ (bif_dec (fun _ => ?_) (fun hn => absurd (by omega) hn))
  rw [e2]
  simp
  refine laws_toTile_unroll0 _ _ _ _ _ _ _ (bif_dec (fun _ => ?_) (fun hn => absurd (by omega) hn))
  rw [e3]
  simp
  refine laws_toTile_unroll0 _ _ _ _ _ _ _ (bif_dec (fun _ => ?_) (fun hn => absurd (by omega) hn))
  rw [e4]
  simp
  refine laws_toTile_unroll0 _ _ _ _ _ _ _ (bif_dec (fun hn => absurd hn (by omega)) (fun hn => ?_))
  simp [laws_toTile_C0]
def tl (t : Tile) : List Int := [t.1, t.2.1, t.2.2.1, t.2.2.2]
theorem tc_tl (t : Tile) : tc t = ic (tl t) := rfl
theorem tl_inj {a b : Tile} (h : tl a = tl b) : a = b := by
  obtain ⟨a1, a2, a3, a4⟩ := a
  obtain ⟨b1, b2, b3, b4⟩ := b
  simp [tl] at h
  simp [h]
theorem eqTile_c (a b : Tile) (h : H) : callB SP i_laws_eqTile [.agg (tc a), .agg (tc b)] h fun r h' => r = (a == b) ∧ Ext h h' := by
  apply laws_eqTile_call
  simp only [laws_eqTile_main, newK]
  refine ⟨rfl, rfl, ?_⟩
  refine laws_eqTile_rule0 _ _ _ _ (fun i h' => 0 ≤ i ∧ i ≤ 4 ∧ h' = h ++ [.own (tc a)] ++ [.own (tc b)] ∧ ∀ j, j < i.toNat → (tl a)[j]? = (tl b)[j]?) (fun i _ => (4 - i).toNat) ?_ _ ⟨by omega, by omega, rfl, fun j hj => by omega⟩
  rintro X i _ ⟨i0, i1, rfl, hn⟩ hX
  unfold laws_eqTile_b0 laws_eqTile_C0
  refine bif_dec (fun hi => ?_) (fun hi => ?_)
  · have hx : (tl a)[i.toNat]? = some _ := List.getElem?_eq_getElem (by simp [tl]; omega)
    have hy : (tl b)[i.toNat]? = some _ := List.getElem?_eq_getElem (by simp [tl]; omega)
    refine ixA_ldI (cs := tc a) (by simp) rfl i0 hi (ic_at hx) (ixA_ldI (cs := tc b) (by simp) rfl i0 hi (ic_at hy) (bif_ne (fun hq => ?_) (fun hq => ?_)))
    · refine ⟨_, rfl, ?_, by simp⟩
      symm
      rw [beq_eq_false_iff_ne]
      rintro rfl
      exact hq rfl
    · rw [w64_of (by omega) (by omega)]
      refine hX _ _ ⟨by omega, by omega, rfl, fun j hj => ?_⟩ (by omega)
      by_cases hji : j = i.toNat
      · subst hji; rw [hx, hy, hq]
      · exact hn j (by omega)
  · refine ⟨_, rfl, ?_, by simp⟩
    symm
    rw [beq_iff_eq]
    apply tl_inj
    apply List.ext_getElem?
    intro j
    by_cases hj : j < 4
    · exact hn j (by omega)
    · rw [List.getElem?_eq_none (by simp [tl]; omega), List.getElem?_eq_none (by simp [tl]; omega)]
theorem eqTileS_c {h0 : H} {s s' : Sl} {l l' : List Tile} (r : Rd h0 s 4 (tcs l)) (r' : Rd h0 s' 4 (tcs l')) (hl : l.length < 4000000000000000000) : callB SP i_laws_eqTileS [.sl s, .sl s'] h0 fun b h' => b = (l == l') ∧ Ext h0 h' := by
  have hlen : s.len = l.length := r.tlen
  have hlen' : s'.len = l'.length := r'.tlen
  apply laws_eqTileS_call
  unfold laws_eqTileS_main
  refine bif_ne (fun hq => ?_) (fun hq => ?_)
  · refine ⟨_, rfl, ?_, Ext.refl _⟩
    cases hb : l == l' with
    | false => rfl
    | true => rw [beq_iff_eq] at hb; subst hb; omega
  refine laws_eqTileS_rule0 _ _ _ _ (fun i h => 0 ≤ i ∧ i ≤ l.length ∧ Ext h0 h ∧ ∀ j, j < i.toNat → l[j]? = l'[j]?) (fun i _ => (l.length - i).toNat) ?_ _ ⟨by omega, by omega, Ext.refl _, fun j hj => by omega⟩
  intro X i h ⟨i0, i1, hx, hn⟩ hX
  unfold laws_eqTileS_b0 laws_eqTileS_C0
  refine bif_dec (fun hi => ?_) (fun hi => ?_)
  · refine (r.ext hx).ldT i0 (by omega) fun x hxe => (r'.ext hx).ldT i0 (by omega) fun y hye => ?_
    refine (eqTile_c x y h).to ?_
    rintro _ h' ⟨rfl, hx'⟩
    refine bif_not (fun hq => ?_) (fun hq => ?_)
    · refine ⟨_, rfl, ?_, hx.trans hx'⟩
      cases hb : l == l' with
      | false => rfl
      | true =>
        rw [beq_iff_eq] at hb; subst hb
        rw [hxe] at hye; cases hye
        simp at hq
    · rw [w64_of (by omega) (by omega)]
      refine hX _ _ ⟨by omega, by omega, hx.trans hx', fun j hj => ?_⟩ (by omega)
      by_cases hji : j = i.toNat
      · subst hji
        rw [beq_iff_eq] at hq
        rw [hxe, hye, hq]
      · exact hn j (by omega)
  · refine ⟨_, rfl, ?_, hx⟩
    symm
    rw [beq_iff_eq]
    apply List.ext_getElem?
    intro j
    by_cases hj : j < l.length
    · exact hn j (by omega)
    · rw [List.getElem?_eq_none (by omega), List.getElem?_eq_none (by omega)]
/-- k, k + 1, .. -/
def upto (k : Int) : Nat → List Int
  | 0 => []
  | n + 1 => k :: upto (k + 1) n
theorem upto_len : ∀ n k, (upto k n).length = n
  | 0, _ => rfl
  | n + 1, k => by simp [upto, upto_len n]
theorem upto_at : ∀ n k i, i < n → (upto k n)[i]? = some (k + i)
  | n + 1, k, 0, _ => by simp [upto]
  | n + 1, k, i + 1, h => by
    rw [upto, List.getElem?_cons_succ, upto_at n (k + 1) i (by omega)]
    congr 1; push_cast; omega
/-- a store into a view that is owned whole -/
theorem Ow.st1 {h : H} {s : Sl} {z : Nat} {l : List Int} (r : Ow h s z (ic l)) {i j : Int} (hz : 0 < z) (h0 : 0 ≤ i) (h1 : i < s.len) (j0 : 0 ≤ j) (j1 : j < z) (x : Int) {K : H → Prop}
    (hk : ∀ h', Ow h' s z (ic (l.set (i.toNat * z + j.toNat) x)) → But s.o h h' → h'.length = h.length → K h') : ixS s z i fun p => ixA p z 1 j fun q => Cl.st1 q (i64 x) h K := by
  obtain ⟨a, b⟩ | ⟨o, a, b, c, d, e⟩ := r.at_
  · omega
  · have hlen := r.len
    rw [ic_len] at hlen
    have hb : i.toNat * z + j.toNat < l.length := by
      have : (i.toNat + 1) * z ≤ s.len * z := Nat.mul_le_mul_right _ (by omega)
      rw [Nat.add_mul] at this; omega
    have ho : o < h.length := (List.getElem?_eq_some_iff.1 e).1
    refine ⟨⟨h0, h1⟩, b, by simp [a], ⟨j0, j1⟩, by simp [Pt.add, a], h.set o (.own (ic (l.set (i.toNat * z + j.toNat) x))), ?_, hk _ ⟨by rw [ic_len]; simpa using hlen, .inr ⟨o, a, b, c, d, by simp [List.getElem?_set, ho]⟩⟩ ?_ (by simp)⟩
    · unfold put1 owned Pt.add
      have : (ic l).set (i.toNat * z + j.toNat) (i64 x) = ic (l.set (i.toNat * z + j.toNat) x) := by unfold ic; rw [List.map_set]
      simp [a, c, d, e, ic_len, hlen, this]
      omega
    · rw [a]
      exact ⟨by simp, fun k hk hn => by rw [List.getElem?_set, if_neg (fun e => hn (by rw [e]))]⟩
theorem markTileS_k {h0 : H} {s : Sl} {l : List Int} (r : Ow h0 s 4 (ic l)) (k0 : Int) (hk0 : 0 ≤ k0) (hk1 : k0 ≤ 1000000000000000000) (hl : s.len < 1000000000000000000) : callI SP .i64 i_laws_markTileS [.sl s, i64 k0] h0 fun n h' => n = k0 + 4 * s.len ∧ Ow h' s 4 (ic (upto k0 (s.len * 4))) ∧ But s.o h0 h' ∧ h'.length = h0.length := by
  have hlen := r.len
  rw [ic_len] at hlen
  apply laws_markTileS_call
  unfold laws_markTileS_main
  refine laws_markTileS_rule0 _ _ _ (fun k i h => 0 ≤ i ∧ i ≤ s.len ∧ k = k0 + 4 * i ∧ ∃ l', Ow h s 4 (ic l') ∧ (∀ j : Nat, j < i.toNat * 4 → l'[j]? = some (k0 + (j : Int))) ∧ But s.o h0 h ∧ h.length = h0.length) (fun k i _ => (s.len - i).toNat) ?_ _ _ ⟨by omega, by omega, by omega, l, r, fun j hj => by omega, But.refl _ _, rfl⟩
  rintro X k i h ⟨i0, i1, rfl, l1, o1, e1, b1, n1⟩ hX
  unfold laws_markTileS_b0 laws_markTileS_C0
  refine bif_dec (fun hi => ?_) (fun hi => ?_)
  · refine laws_markTileS_rule2 _ _ X s i (fun k j h => 0 ≤ j ∧ j ≤ 4 ∧ k = k0 + 4 * i + j ∧ ∃ l', Ow h s 4 (ic l') ∧ (∀ j2 : Nat, j2 < i.toNat * 4 + j.toNat → l'[j2]? = some (k0 + (j2 : Int))) ∧ But s.o h0 h ∧ h.length = h0.length) (fun k j _ => (4 - j).toNat) ?_ _ _ ⟨by omega, by omega, by omega, l1, o1, fun j hj => e1 j (by omega), b1, n1⟩
    rintro Y k j h' ⟨j0, j1, rfl, l2, o2, e2, b2, n2⟩ hY
    unfold laws_markTileS_b2 laws_markTileS_C2 laws_markTileS_C1
    refine bif_dec (fun hj => ?_) (fun hj => ?_)
    · refine o2.st1 (by omega) i0 hi j0 hj _ fun h3 o3 b3 n3 => ?_
      rw [w64_of (by omega) (by omega), w64_of (by omega) (by omega)]
      refine hY _ _ _ ⟨by omega, by omega, by omega, _, o3, fun j2 hj2 => ?_, b2.trans b3, by omega⟩ (by omega)
      have hl2 := o2.len
      rw [ic_len] at hl2
      rw [List.getElem?_set]
      split
      · next e =>
        rw [if_pos (by omega)]
        congr 1; omega
      · exact e2 j2 (by omega)
    · rw [w64_of (by omega) (by omega)]
      have : j = 4 := by omega
      subst this
      refine hX _ _ _ ⟨by omega, by omega, by omega, l2, o2, fun j hj => e2 j (by omega), b2, n2⟩ (by omega)
  · have : i = s.len := by omega
    subst this
    refine ⟨_, rfl, by omega, ?_, b1, n1⟩
    have : l1 = upto k0 (s.len * 4) := by
      have hl1 := o1.len
      rw [ic_len] at hl1
      apply List.ext_getElem?
      intro j
      by_cases hj : j < s.len * 4
      · rw [e1 j (by omega), upto_at _ _ _ hj]
      · rw [List.getElem?_eq_none (by omega), List.getElem?_eq_none (by rw [upto_len]; omega)]
    rw [← this]; exact o1
theorem markTileS_c {h0 : H} {s : Sl} {l : List Int} (r : Ow h0 s 4 (ic l)) (hl : s.len < 1000000000000000000) : callI SP .i64 i_laws_markTileS [.sl s, i64 1] h0 fun n h' => n = 1 + 4 * s.len ∧ Ow h' s 4 (ic (upto 1 (s.len * 4))) ∧ But s.o h0 h' ∧ h'.length = h0.length := markTileS_k r 1 (by omega) (by omega) hl
attribute [local simp] newK newO ixA ldI ldA stN st1 Cl.range cell Cl.cells putN put1 owned get_app get_app0 set_app set_app0 Pt.add splice Ext.app Ext.refl cutA isPt
/-! ### comparing -/
def cmpL : List Int → List Int → Int
  | [], [] => 0
  | [], _ :: _ => -1
  | _ :: _, [] => 1
  | a :: l, b :: m => if a < b then -1 else if a > b then 1 else cmpL l m
theorem isNaN_c (x : Int) (h : H) : callB SP i_cmp_isNaN_int64_ [i64 x] h fun b h' => b = false ∧ h' = h := by
  apply cmp_isNaN_int64__call
  unfold cmp_isNaN_int64__main
  exact ⟨_, rfl, by simp, rfl⟩
theorem cmpCompare_c (x y : Int) (h : H) : callI SP .i64 i_cmp_Compare_int64_ [i64 x, i64 y] h fun n h' => n = (if x < y then -1 else if x > y then 1 else 0) ∧ h' = h := by
  apply cmp_Compare_int64__call
  unfold cmp_Compare_int64__main
  refine (isNaN_c x h).to ?_
  rintro _ _ ⟨rfl, rfl⟩
  refine (isNaN_c y _).to ?_
  rintro _ _ ⟨rfl, rfl⟩
  refine bif_dec (fun h1 => ⟨_, rfl, by simp [h1], rfl⟩) (fun h1 => bif_dec (fun h2 => ⟨_, rfl, by simp [h1, h2], rfl⟩) (fun h2 => ⟨_, rfl, by simp [h1, h2], rfl⟩))
theorem drop_cons {α : Type} {l : List α} {i : Nat} {x : α} (e : l[i]? = some x) : l.drop i = x :: l.drop (i + 1) := by
  obtain ⟨h, rfl⟩ := List.getElem?_eq_some_iff.1 e
  exact List.drop_eq_getElem_cons h
theorem sCompare_c {h0 : H} {s s' : Sl} {l l' : List Int} (r : Rd h0 s 1 (ic l)) (r' : Rd h0 s' 1 (ic l')) (hl : l.length < 4000000000000000000) : callI SP .i64 i_slices_Compare_s_int64_int64_ [.sl s, .sl s'] h0 fun n h' => n = cmpL l l' ∧ h' = h0 := by
  have hlen : s.len = l.length := by have := r.len; rw [ic_len] at this; omega
  have hlen' : s'.len = l'.length := by have := r'.len; rw [ic_len] at this; omega
  apply slices_Compare_s_int64_int64__call
  unfold slices_Compare_s_int64_int64__main
  refine slices_Compare_s_int64_int64__rule0 _ _ s s' s _ (fun i h => 0 ≤ i ∧ i ≤ l.length ∧ i ≤ l'.length ∧ h = h0 ∧ cmpL l l' = cmpL (l.drop i.toNat) (l'.drop i.toNat)) (fun i _ => (l.length - i).toNat) ?_ _ ⟨by omega, by omega, by omega, rfl, by simp⟩
  rintro X i _ ⟨i0, i1, i2, rfl, he⟩ hX
  unfold slices_Compare_s_int64_int64__b0 slices_Compare_s_int64_int64__C0
  refine bif_dec (fun hi => ?_) (fun hi => ?_)
  · refine r.ldI i0 (by omega) fun x hx => bif_dec (fun hj => ?_) (fun hj => ?_)
    · refine ⟨_, rfl, ?_, rfl⟩
      rw [he, drop_cons hx, List.drop_eq_nil_of_le (show l'.length ≤ i.toNat by omega)]; rfl
    · refine r'.ldI i0 (by omega) fun y hy => ?_
      refine (cmpCompare_c x y _).to ?_
      rintro _ _ ⟨rfl, rfl⟩
      rw [drop_cons hx, drop_cons hy, cmpL] at he
      refine bif_ne (fun hq => ⟨_, rfl, ?_, rfl⟩) (fun hq => ?_)
      · rw [he]
        split
        · rfl
        · split
          · rfl
          · next h1 h2 => simp [h1, h2] at hq
      · rw [w64_of (by omega) (by omega)]
        refine hX _ _ ⟨by omega, by omega, by omega, rfl, ?_⟩ (by omega)
        rw [he, show (i + 1).toNat = i.toNat + 1 by omega]
        split
        · next h1 => simp [h1] at hq
        · split
          · next h1 h2 => simp [h1, h2] at hq
          · rfl
  · have e1 : l.drop i.toNat = [] := List.drop_eq_nil_of_le (by omega)
    refine bif_dec (fun hj => ⟨_, rfl, ?_, rfl⟩) (fun hj => ⟨_, rfl, ?_, rfl⟩)
    · have hy : l'[i.toNat]? = some _ := List.getElem?_eq_getElem (by omega)
      rw [he, e1, drop_cons hy]; rfl
    · rw [he, e1, List.drop_eq_nil_of_le (show l'.length ≤ i.toNat by omega)]; rfl
def cmpT (a b : Tile) : Int := cmpL (tl a) (tl b)
theorem compare_c (a b : Tile) (h : H) : callI SP .i64 i_impl_compare [.agg (tc a), .agg (tc b)] h fun n h' => n = cmpT a b ∧ Ext h h' := by
  apply impl_compare_call
  simp only [impl_compare_main, newK]
  refine ⟨rfl, rfl, ⟨by omega, by omega, by omega⟩, rfl, rfl, ⟨by omega, by omega, by omega⟩, rfl, rfl, ?_⟩
  refine (sCompare_c (l := tl a) (l' := tl b) ⟨rfl, .inr ⟨rfl, rfl, ?_⟩⟩ ⟨rfl, .inr ⟨rfl, rfl, ?_⟩⟩ (by simp [tl])).to ?_
  · simp [tc, tl, ic]
  · simp [tc, tl, ic]
  · rintro _ _ ⟨rfl, rfl⟩
    exact ⟨_, rfl, rfl, by simp⟩
/-- The less of two tiles; the first, if they are alike. -/
def lessT (m x : Tile) : Tile := if cmpT x m < 0 then x else m
/-- The class: the least turn. -/
def cls (t : Tile) : Tile := (turnsN 3 (turn t)).foldl lessT t
theorem l01Before_c (a b : Tile) (h : H) : callB SP i_spec_l01Before [.agg (tc a), .agg (tc b)] h fun r h' => r = decide (cmpT a b < 0) ∧ Ext h h' := by
  apply spec_l01Before_call
  simp only [spec_l01Before_main, newK]
  refine ⟨rfl, rfl, ?_⟩
  refine spec_l01Before_rule0 _ _ _ _ (fun i h' => 0 ≤ i ∧ i ≤ 4 ∧ h' = h ++ [.own (tc a)] ++ [.own (tc b)] ∧ cmpT a b = cmpL ((tl a).drop i.toNat) ((tl b).drop i.toNat)) (fun i _ => (4 - i).toNat) ?_ _ ⟨by omega, by omega, rfl, by simp [cmpT]⟩
  rintro X i _ ⟨i0, i1, rfl, he⟩ hX
  unfold spec_l01Before_b0 spec_l01Before_C0
  refine bif_dec (fun hi => ?_) (fun hi => ?_)
  · have hx : (tl a)[i.toNat]? = some _ := List.getElem?_eq_getElem (by simp [tl]; omega)
    have hy : (tl b)[i.toNat]? = some _ := List.getElem?_eq_getElem (by simp [tl]; omega)
    rw [drop_cons hx, drop_cons hy, cmpL] at he
    have gx := ic_at hx
    have gy := ic_at hy
    refine ixA_ldI (cs := tc a) (by simp) rfl i0 hi gx (ixA_ldI (cs := tc b) (by simp) rfl i0 hi gy (bif_ne (fun hq => ?_) (fun hq => ?_)))
    · refine ixA_ldI (cs := tc a) (by simp) rfl i0 hi gx (ixA_ldI (cs := tc b) (by simp) rfl i0 hi gy ⟨_, rfl, ?_, by simp⟩)
      rw [he]
      by_cases h1 : (tl a)[i.toNat]'(by simp [tl]; omega) < (tl b)[i.toNat]'(by simp [tl]; omega)
      · simp [h1]
      · have h2 : (tl a)[i.toNat]'(by simp [tl]; omega) > (tl b)[i.toNat]'(by simp [tl]; omega) := by omega
        simp [h1, h2]
    · rw [w64_of (by omega) (by omega)]
      refine hX _ _ ⟨by omega, by omega, rfl, ?_⟩ (by omega)
      rw [he, if_neg (by omega), if_neg (by omega), show (i + 1).toNat = i.toNat + 1 by omega]
  · refine ⟨_, rfl, ?_, by simp⟩
    rw [he, List.drop_eq_nil_of_le (by simp [tl]; omega), List.drop_eq_nil_of_le (by simp [tl]; omega)]
    rfl
/-- a store of one cell into a view that is owned whole -/
theorem Ow.stC {h : H} {s : Sl} {cs : List AVal} (r : Ow h s 1 cs) {i : Int} (h0 : 0 ≤ i) (h1 : i < s.len) (v : AVal) {K : H → Prop}
    (hk : ∀ h', Ow h' s 1 (cs.set i.toNat v) → But s.o h h' → h'.length = h.length → K h') : ixS s 1 i fun p => Cl.st1 p v h K := by
  obtain ⟨a, b⟩ | ⟨o, a, b, c, d, e⟩ := r.at_
  · omega
  · have hlen := r.len
    have ho : o < h.length := (List.getElem?_eq_some_iff.1 e).1
    refine ⟨⟨h0, h1⟩, b, by simp [a], h.set o (.own (cs.set i.toNat v)), ?_, hk _ ⟨by simpa using hlen, .inr ⟨o, a, b, c, d, by simp [List.getElem?_set, ho]⟩⟩ ?_ (by simp)⟩
    · unfold put1 owned
      simp [a, c, d, e, hlen]
      omega
    · rw [a]
      exact ⟨by simp, fun k hk hn => by rw [List.getElem?_set, if_neg (fun e => hn (by rw [e]))]⟩
theorem Ow.stI {h : H} {s : Sl} {l : List Int} (r : Ow h s 1 (ic l)) {i : Int} (h0 : 0 ≤ i) (h1 : i < s.len) (x : Int) {K : H → Prop}
    (hk : ∀ h', Ow h' s 1 (ic (l.set i.toNat x)) → But s.o h h' → h'.length = h.length → K h') : ixS s 1 i fun p => Cl.st1 p (.int .i64 x) h K :=
  r.stC h0 h1 _ fun h' o b n => hk h' (by
    have : (ic l).set i.toNat (i64 x) = ic (l.set i.toNat x) := by unfold ic; rw [List.map_set]
    rw [← this]; exact o) b n
/-- a store of an element of several cells into a view that is owned whole -/
theorem Ow.stA {h : H} {s : Sl} {z : Nat} {cs : List AVal} (r : Ow h s z cs) {i : Int} (h0 : 0 ≤ i) (h1 : i < s.len) (vs : List AVal) (hv : vs.length = z) {K : H → Prop}
    (hk : ∀ h', Ow h' s z (splice cs (i.toNat * z) vs) → But s.o h h' → h'.length = h.length → K h') : ixS s z i fun p => Cl.stN p z vs h K := by
  obtain ⟨a, b⟩ | ⟨o, a, b, c, d, e⟩ := r.at_
  · omega
  · have hlen := r.len
    have ho : o < h.length := (List.getElem?_eq_some_iff.1 e).1
    have hb : i.toNat * z + z ≤ s.len * z := by
      have : (i.toNat + 1) * z ≤ s.len * z := Nat.mul_le_mul_right _ (by omega)
      rw [Nat.add_mul] at this; omega
    have hsl : (splice cs (i.toNat * z) vs).length = s.len * z := by
      unfold splice
      rw [List.length_append, List.length_append, List.length_take, List.length_drop, hlen, hv]; omega
    refine ⟨⟨h0, h1⟩, b, by simp [a], h.set o (.own (splice cs (i.toNat * z) vs)), hv, ?_, hk _ ⟨hsl, .inr ⟨o, a, b, c, d, by simp [List.getElem?_set, ho]⟩⟩ ?_ (by simp)⟩
    · unfold putN owned
      simp [a, c, d, e, hlen, hv]
      omega
    · rw [a]
      exact ⟨by simp, fun k hk hn => by rw [List.getElem?_set, if_neg (fun e => hn (by rw [e]))]⟩
theorem tcs_set : ∀ (l : List Tile) (i : Nat) (t : Tile), i < l.length → splice (tcs l) (i * 4) (tc t) = tcs (l.set i t)
  | [], i, t, h => by simp at h
  | a :: l, 0, t, h => by
    unfold splice
    simp [tcs_cons, tc]
  | a :: l, i + 1, t, h => by
    have ih := tcs_set l i t (by simpa using h)
    rw [List.set_cons_succ, tcs_cons, tcs_cons, ← ih]
    unfold splice
    rw [show (i + 1) * 4 = (tc a).length + i * 4 by rw [tc_len]; omega, show (tc a).length + i * 4 + (tc t).length = (tc a).length + (i * 4 + (tc t).length) by omega]
    rw [List.take_length_add_append, List.drop_length_add_append]
    simp
theorem toTileS_c {h0 : H} {s : Sl} {ts : List Tile} (r : Rd h0 s 4 (tcs ts)) (hl : ts.length ≤ 1048576) : callS SP i_laws_toTileS [.sl s] h0 fun s' h' => Ow h' s' 4 (tcs ts) ∧ Fr h0.length s' ∧ Ext h0 h' := by
  have hlen : s.len = ts.length := r.tlen
  apply laws_toTileS_call
  unfold laws_toTileS_main
  refine mkS_ow (by omega) (by unfold lim; omega) fun s' h1 ho hlen' hso he => ?_
  have hz : (List.replicate (s.len : Int).toNat [AVal.int .i64 0, .int .i64 0, .int .i64 0, .int .i64 0]).flatten = tcs (List.replicate ts.length ((0, 0, 0, 0) : Tile)) := by
    unfold tcs
    rw [List.map_replicate, ← hlen]; rfl
  rw [hz] at ho
  refine laws_toTileS_rule0 _ _ s s' (fun i h' => 0 ≤ i ∧ i ≤ ts.length ∧ Ext h0 h' ∧ ∃ l : List Tile, l.length = ts.length ∧ Ow h' s' 4 (tcs l) ∧ ∀ j, j < i.toNat → l[j]? = ts[j]?) (fun i _ => (ts.length - i).toNat) ?_ _ ⟨by omega, by omega, by rw [he]; exact Ext.app _ _, _, by simp, ho, fun j hj => by omega⟩
  rintro X i h' ⟨i0, i1, x, l, ll, ol, hj⟩ hX
  unfold laws_toTileS_b0 laws_toTileS_C0
  have hsl : s'.len = ts.length := by rw [hlen', ← hlen]; omega
  refine bif_dec (fun hi => ?_) (fun hi => ?_)
  · refine (r.ext x).ldT i0 (by omega) fun t ht => ?_
    refine (toTile_c t h').to ?_
    rintro _ h2 ⟨rfl, x2⟩
    refine (ol.ext x2).stA i0 (by omega) _ rfl fun h3 o3 b3 n3 => ?_
    rw [w64_of (by omega) (by omega)]
    rw [tcs_set l i.toNat t (by omega)] at o3
    refine hX _ _ ⟨by omega, by omega, (x.trans x2).but_ b3 (by rw [hso]; exact some_le (Nat.le_refl _)), _, by simpa using ll, o3, fun j hj2 => ?_⟩ (by omega)
    rw [List.getElem?_set]
    split
    · next e => subst e; rw [if_pos (by omega), ht]
    · exact hj j (by omega)
  · refine ⟨_, rfl, ?_, fun o e => by rw [hso] at e; cases e; exact Nat.le_refl _, x⟩
    have : l = ts := by
      apply List.ext_getElem?
      intro j
      by_cases h : j < ts.length
      · exact hj j (by omega)
      · rw [List.getElem?_eq_none (by omega), List.getElem?_eq_none (by omega)]
    rw [← this]; exact ol
theorem szTileS_c (s : Sl) (left : Int) (hl : s.len ≤ 9223372036854775807) (h1 : 0 ≤ left) (h2 : left ≤ 1048576) (h : H) : callI SP .i64 i_laws_szTileS [.sl s, i64 left] h fun n h' => n = (if left - s.len < 0 then -1 else left - s.len) ∧ h' = h := by
  apply laws_szTileS_call
  unfold laws_szTileS_main
  rw [w64_of (by omega) (by omega)]
  refine bif_dec (fun hi => ⟨_, rfl, by simp [hi], rfl⟩) (fun hi => ⟨_, rfl, by simp [hi], rfl⟩)
theorem eqInt64S_c {h0 : H} {s s' : Sl} {l l' : List Int} (r : Rd h0 s 1 (ic l)) (r' : Rd h0 s' 1 (ic l')) (hl : l.length < 4000000000000000000) : callB SP i_laws_eqInt64S [.sl s, .sl s'] h0 fun b h' => b = (l == l') ∧ h' = h0 := by
  have hlen : s.len = l.length := by have := r.len; rw [ic_len] at this; omega
  have hlen' : s'.len = l'.length := by have := r'.len; rw [ic_len] at this; omega
  apply laws_eqInt64S_call
  unfold laws_eqInt64S_main
  refine bif_ne (fun hq => ?_) (fun hq => ?_)
  · refine ⟨_, rfl, ?_, rfl⟩
    cases hb : l == l' with
    | false => rfl
    | true => rw [beq_iff_eq] at hb; subst hb; omega
  refine laws_eqInt64S_rule0 _ _ _ _ (fun i h => 0 ≤ i ∧ i ≤ l.length ∧ h = h0 ∧ ∀ j, j < i.toNat → l[j]? = l'[j]?) (fun i _ => (l.length - i).toNat) ?_ _ ⟨by omega, by omega, rfl, fun j hj => by omega⟩
  rintro X i _ ⟨i0, i1, rfl, hn⟩ hX
  unfold laws_eqInt64S_b0 laws_eqInt64S_C0
  refine bif_dec (fun hi => ?_) (fun hi => ?_)
  · refine r.ldI i0 (by omega) fun x hxe => r'.ldI i0 (by omega) fun y hye => ?_
    refine bif_ne (fun hq => ?_) (fun hq => ?_)
    · refine ⟨_, rfl, ?_, rfl⟩
      cases hb : l == l' with
      | false => rfl
      | true =>
        rw [beq_iff_eq] at hb; subst hb
        rw [hxe] at hye; cases hye
        exact absurd rfl hq
    · rw [w64_of (by omega) (by omega)]
      refine hX _ _ ⟨by omega, by omega, rfl, fun j hj => ?_⟩ (by omega)
      by_cases hji : j = i.toNat
      · subst hji
        rw [hxe, hye, hq]
      · exact hn j (by omega)
  · refine ⟨_, rfl, ?_, rfl⟩
    symm
    rw [beq_iff_eq]
    apply List.ext_getElem?
    intro j
    by_cases hj : j < l.length
    · exact hn j (by omega)
    · rw [List.getElem?_eq_none (by omega), List.getElem?_eq_none (by omega)]
theorem markInt64S_c {h0 : H} {s : Sl} {l : List Int} (r : Ow h0 s 1 (ic l)) (k0 : Int) (hk0 : 0 ≤ k0) (hk1 : k0 ≤ 1000000000000000000) (hl : s.len < 1000000000000000000) : callI SP .i64 i_laws_markInt64S [.sl s, i64 k0] h0 fun n h' => n = k0 + s.len ∧ Ow h' s 1 (ic (upto k0 s.len)) ∧ But s.o h0 h' ∧ h'.length = h0.length := by
  have hlen := r.len
  rw [ic_len] at hlen
  apply laws_markInt64S_call
  unfold laws_markInt64S_main
  refine laws_markInt64S_rule0 _ _ _ (fun k i h => 0 ≤ i ∧ i ≤ s.len ∧ k = k0 + i ∧ ∃ l', Ow h s 1 (ic l') ∧ (∀ j : Nat, j < i.toNat → l'[j]? = some (k0 + (j : Int))) ∧ But s.o h0 h ∧ h.length = h0.length) (fun k i _ => (s.len - i).toNat) ?_ _ _ ⟨by omega, by omega, by omega, l, r, fun j hj => by omega, But.refl _ _, rfl⟩
  rintro X k i h ⟨i0, i1, rfl, l1, o1, e1, b1, n1⟩ hX
  unfold laws_markInt64S_b0 laws_markInt64S_C0
  refine bif_dec (fun hi => ?_) (fun hi => ?_)
  · refine o1.stI i0 hi _ fun h3 o3 b3 n3 => ?_
    rw [w64_of (by omega) (by omega), w64_of (by omega) (by omega)]
    refine hX _ _ _ ⟨by omega, by omega, by omega, _, o3, fun j2 hj2 => ?_, b1.trans b3, by omega⟩ (by omega)
    have hl2 := o1.len
    rw [ic_len] at hl2
    rw [List.getElem?_set]
    split
    · next e =>
      rw [if_pos (by omega)]
      congr 1; omega
    · exact e1 j2 (by omega)
  · refine ⟨_, rfl, by omega, ?_, b1, n1⟩
    have : l1 = upto k0 s.len := by
      have hl1 := o1.len
      rw [ic_len] at hl1
      apply List.ext_getElem?
      intro j
      by_cases hj : j < s.len
      · rw [e1 j (by omega), upto_at _ _ _ hj]
      · rw [List.getElem?_eq_none (by omega), List.getElem?_eq_none (by rw [upto_len]; omega)]
    rw [← this]; exact o1
theorem heldInt64S_c {h0 : H} {s : Sl} (k0 : Int) (hk0 : 0 ≤ k0) (hk1 : k0 ≤ 1000000000000000000) (r : Rd h0 s 1 (ic (upto k0 s.len))) (hl : s.len < 1000000000000000000) : callI SP .i64 i_laws_heldInt64S [.sl s, i64 k0] h0 fun n h' => n = k0 + s.len ∧ h' = h0 := by
  apply laws_heldInt64S_call
  unfold laws_heldInt64S_main
  refine laws_heldInt64S_rule0 _ _ _ (fun k i h => 0 ≤ i ∧ i ≤ s.len ∧ k = k0 + i ∧ h = h0) (fun k i _ => (s.len - i).toNat) ?_ _ _ ⟨by omega, by omega, by omega, rfl⟩
  rintro X k i _ ⟨i0, i1, rfl, rfl⟩ hX
  unfold laws_heldInt64S_b0 laws_heldInt64S_C0
  refine bif_dec (fun hi => ?_) (fun hi => ?_)
  · refine r.ldI i0 (by rw [upto_len]; omega) fun x hx => ?_
    rw [upto_at _ _ _ (by omega)] at hx
    cases hx
    refine bif_ne (fun hq => absurd (by omega) hq) (fun _ => ?_)
    rw [w64_of (by omega) (by omega), w64_of (by omega) (by omega)]
    exact hX _ _ _ ⟨by omega, by omega, by omega, rfl⟩ (by omega)
  · exact ⟨_, rfl, by omega, rfl⟩
end Go.Proofs.Ytgeakkmpohjohaa.Cl

/- Contracts of the laws' helpers for sets and for slices of slices, and of the functions that tell sets. No claim is stated here. -/
set_option linter.unusedVariables false
set_option linter.unusedSimpArgs false
namespace Go.Proofs.Ytgeakkmpohjohaa.Cl
open Go
/-! ### sets -/
abbrev TSet := Int × List Tile
/-- The cells of a set. -/
def SetC (c : Int) (s : Sl) : List AVal := [i64 c, .sl s]
theorem szSet_c (c : Int) (s : Sl) (left : Int) (hl : s.len ≤ 9223372036854775807) (h1 : 0 ≤ left) (h2 : left ≤ 1048576) (h : H) : callI SP .i64 i_laws_szSet [.agg (SetC c s), i64 left] h fun n h' => n = (if left - s.len < 0 then -1 else left - s.len) ∧ Ext h h' := by
  apply laws_szSet_call
  unfold laws_szSet_main
  refine newK_obj fun h1 o1 x1 n1 => ?_
  refine isPt_in (o1.ldS rfl rfl ?_)
  refine (szTileS_c s left hl (by omega) (by omega) h1).to ?_
  rintro _ _ ⟨rfl, rfl⟩
  refine bif_dec (fun hq => ⟨_, rfl, ?_, x1⟩) (fun hq => ⟨_, rfl, rfl, x1⟩)
  split at hq
  · next e => rw [if_pos e]
  · next e => omega
theorem toSet_c {h0 : H} {c : Int} {s : Sl} {ts : List Tile} (r : Rd h0 s 4 (tcs ts)) (hl : ts.length ≤ 1048576) : callA SP i_laws_toSet [.agg (SetC c s)] h0 fun v h' => ∃ s', v = SetC c s' ∧ Ow h' s' 4 (tcs ts) ∧ Fr h0.length s' ∧ Ext h0 h' := by
  apply laws_toSet_call
  unfold laws_toSet_main
  refine newK_obj fun h1 o1 x1 n1 => ?_
  refine newO_obj fun h2 o2 x2 n2 => ?_
  refine newO_obj fun h3 o3 x3 n3 => ?_
  refine isPt_in ?_
  have x13 := x1.trans (x2.trans x3)
  have o1' := o1.ext (x2.trans x3)
  refine o1'.ldI rfl rfl (isPt_in ?_)
  refine o3.st1 rfl (by simp) _ fun h4 o4 b4 n4 => ?_
  refine isPt_in ?_
  have x4 : Ext h1 h4 := (x2.trans x3).but_ b4 (some_le (by omega))
  refine (o1.ext x4).ldS rfl rfl ?_
  refine (toTileS_c (r.ext (x1.trans x4)) hl).to ?_
  rintro s' h5 ⟨os, fs, x5⟩
  refine isPt_in ?_
  refine (o4.ext x5).st1 rfl (by simp) _ fun h6 o6 b6 n6 => ?_
  refine o6.ldA rfl ?_
  have o2' := ((o2.ext x3).but b4 (fun e => by have := Option.some.inj e; omega)).ext x5 |>.but b6 (fun e => by have := Option.some.inj e; omega)
  have hne : ∀ o, s'.o = some o → h4.length ≤ o := fun o e => fs o e
  refine o2'.stA fun h7 o7 b7 n7 => ?_
  refine o7.ldA rfl ⟨_, rfl, s', rfl, ?_, ?_, ?_⟩
  · refine (os.but b6 ?_).but b7 ?_
    · refine .inl fun e => ?_
      have := hne _ e.symm
      omega
    · refine .inl fun e => ?_
      have := hne _ e.symm
      omega
  · exact fs.le (by omega)
  · refine Ext.but_ (Ext.but_ ((x1.trans x4).trans x5) b6 (some_le (by omega))) b7 (some_le (by omega))
theorem eqSet_c {h0 : H} {c c' : Int} {s s' : Sl} {ts ts' : List Tile} (r : Rd h0 s 4 (tcs ts)) (r' : Rd h0 s' 4 (tcs ts')) (hl : ts.length < 4000000000000000000) : callB SP i_laws_eqSet [.agg (SetC c s), .agg (SetC c' s')] h0 fun b h' => b = (c == c' && ts == ts') ∧ Ext h0 h' := by
  apply laws_eqSet_call
  unfold laws_eqSet_main
  refine newK_obj fun h1 o1 x1 n1 => ?_
  refine newK_obj fun h2 o2 x2 n2 => ?_
  refine isPt_in ?_
  have x := x1.trans x2
  refine (o1.ext x2).ldI rfl rfl (isPt_in (o2.ldI rfl rfl ?_))
  refine bif_ne (fun hq => ⟨_, rfl, by simp [hq], x⟩) (fun hq => ?_)
  subst hq
  refine isPt_in ((o1.ext x2).ldS rfl rfl (isPt_in (o2.ldS rfl rfl ?_)))
  refine (eqTileS_c (r.ext x) (r'.ext x) hl).to ?_
  rintro _ h3 ⟨rfl, x3⟩
  refine bif_not (fun hq => ⟨_, rfl, by simp [hq], x.trans x3⟩) (fun hq => ⟨_, rfl, by simp [hq], x.trans x3⟩)
theorem markSet_c {h0 : H} {c : Int} {s : Sl} {l : List Int} (r : Ow h0 s 4 (ic l)) (k0 : Int) (hk0 : 0 ≤ k0) (hk1 : k0 ≤ 1000000000000000000) (hl : s.len < 1000000000000000000) : callI SP .i64 i_laws_markSet [.agg (SetC c s), i64 k0] h0 fun n h' => n = k0 + 4 * s.len ∧ Ow h' s 4 (ic (upto k0 (s.len * 4))) ∧ Chg (fun i => s.o = some i) h0 h' := by
  apply laws_markSet_call
  unfold laws_markSet_main
  refine newK_obj fun h1 o1 x1 n1 => ?_
  refine isPt_in (o1.ldS rfl rfl ?_)
  refine (markTileS_k (r.ext x1) k0 hk0 hk1 hl).to ?_
  rintro _ h2 ⟨rfl, o2, b2, n2⟩
  exact ⟨_, rfl, rfl, o2, (x1.chg _).trans (b2.chg fun i e => e)⟩
theorem tcs_ic' : ∀ ts : List Tile, ∃ l, tcs ts = ic l
  | [] => ⟨[], rfl⟩
  | t :: ts => by
    obtain ⟨l, e⟩ := tcs_ic' ts
    exact ⟨tl t ++ l, by rw [tcs_cons, e, ic_app, tc_tl]⟩
/-! ### slices of integers and of slices -/
theorem szInt64S_c (s : Sl) (left : Int) (hl : s.len ≤ 9223372036854775807) (h1 : 0 ≤ left) (h2 : left ≤ 1048576) (h : H) : callI SP .i64 i_laws_szInt64S [.sl s, i64 left] h fun n h' => n = (if left - s.len < 0 then -1 else left - s.len) ∧ h' = h := by
  apply laws_szInt64S_call
  unfold laws_szInt64S_main
  rw [w64_of (by omega) (by omega)]
  refine bif_dec (fun hi => ⟨_, rfl, by simp [hi], rfl⟩) (fun hi => ⟨_, rfl, by simp [hi], rfl⟩)
/-- All lengths of a slice of slices, and its own. -/
def sumLen (ls : List (List Int)) : Nat := (ls.map List.length).sum
theorem sumLen_mem {ls : List (List Int)} {l : List Int} (h : l ∈ ls) : l.length ≤ sumLen ls := by
  unfold sumLen
  induction ls with
  | nil => simp at h
  | cons a ls ih =>
    simp only [List.map_cons, List.sum_cons]
    rcases List.mem_cons.1 h with rfl | h
    · omega
    · have := ih h; omega
theorem sumLen_take (ls : List (List Int)) (i : Nat) (l : List Int) (h : ls[i]? = some l) : sumLen (ls.take (i + 1)) = sumLen (ls.take i) + l.length := by
  unfold sumLen
  rw [List.take_add_one, h]
  simp
theorem sumLen_take_le (ls : List (List Int)) (i : Nat) : sumLen (ls.take i) ≤ sumLen ls := by
  unfold sumLen
  conv => rhs; rw [← List.take_append_drop i ls]
  rw [List.map_append, List.sum_append]
  omega
theorem szInt64SS_c {h0 : H} {s : Sl} {ls : List (List Int)} (r : RdSS h0 s ls) (left : Int) (h1 : 0 ≤ left) (h2 : left ≤ 1048576) (hl : s.len ≤ 9223372036854775807) (hls : ∀ l ∈ ls, l.length ≤ 9223372036854775807) :
    callI SP .i64 i_laws_szInt64SS [.sl s, i64 left] h0 fun n h' => h' = h0 ∧ (n < 0 ∨ (n = left - ls.length - sumLen ls ∧ 0 ≤ n)) := by
  have hlen := r.len
  apply laws_szInt64SS_call
  unfold laws_szInt64SS_main
  rw [w64_of (by omega) (by omega)]
  refine bif_dec (fun hi => ⟨_, rfl, rfl, .inl (by omega)⟩) (fun hi => ?_)
  refine laws_szInt64SS_rule0 _ _ _ (fun k i h => h = h0 ∧ 0 ≤ i ∧ i ≤ ls.length ∧ k = left - ls.length - sumLen (ls.take i.toNat) ∧ 0 ≤ k) (fun k i _ => (ls.length - i).toNat) ?_ _ _ ⟨rfl, by omega, by omega, by simp [sumLen]; omega, by omega⟩
  rintro X k i _ ⟨rfl, i0, i1, hk, k0⟩ hX
  unfold laws_szInt64SS_b0 laws_szInt64SS_C0
  refine bif_dec (fun hi => ?_) (fun hi => ?_)
  · refine r.ld i0 (by omega) fun v l hv rv lv => ?_
    have := hls l (List.mem_of_getElem? hv)
    refine (szInt64S_c v k (by omega) k0 (by omega) _).to ?_
    rintro _ _ ⟨rfl, rfl⟩
    refine bif_dec (fun hq => ⟨_, rfl, rfl, .inl (by omega)⟩) (fun hq => ?_)
    have hq' : ¬ k - v.len < 0 := by
      by_cases hc : k - v.len < 0
      · rw [if_pos hc] at hq; omega
      · exact hc
    rw [if_neg hq', w64_of (by omega) (by omega)]
    refine hX _ _ _ ⟨rfl, by omega, by omega, ?_, by omega⟩ (by omega)
    rw [show (i + 1).toNat = i.toNat + 1 by omega, sumLen_take _ _ _ hv]
    omega
  · refine ⟨_, rfl, rfl, .inr ⟨?_, k0⟩⟩
    rw [hk, List.take_of_length_le (by omega)]
theorem toInt64S_c {h0 : H} {s : Sl} {l : List Int} (r : Rd h0 s 1 (ic l)) (hl : l.length ≤ 1048576) : callS SP i_laws_toInt64S [.sl s] h0 fun s' h' => Ow h' s' 1 (ic l) ∧ Fr h0.length s' ∧ Ext h0 h' := by
  have hlen := r.ilen
  apply laws_toInt64S_call
  unfold laws_toInt64S_main
  refine mkS_ow (by omega) (by unfold lim; omega) fun s' h1 ho hlen' hso he => ?_
  have hz : (List.replicate (s.len : Int).toNat [AVal.int .i64 0]).flatten = ic (List.replicate l.length 0) := by
    unfold ic
    rw [List.map_replicate, ← hlen]; simp
  rw [hz] at ho
  refine laws_toInt64S_rule0 _ _ s s' (fun i h' => 0 ≤ i ∧ i ≤ l.length ∧ Ext h0 h' ∧ ∃ l' : List Int, l'.length = l.length ∧ Ow h' s' 1 (ic l') ∧ ∀ j, j < i.toNat → l'[j]? = l[j]?) (fun i _ => (l.length - i).toNat) ?_ _ ⟨by omega, by omega, by rw [he]; exact Ext.app _ _, _, by simp, ho, fun j hj => by omega⟩
  rintro X i h' ⟨i0, i1, x, l1, ll, ol, hj⟩ hX
  unfold laws_toInt64S_b0 laws_toInt64S_C0
  have hsl : s'.len = l.length := by rw [hlen', ← hlen]; omega
  refine bif_dec (fun hi => ?_) (fun hi => ?_)
  · refine (r.ext x).ldI i0 (by omega) fun t ht => ?_
    refine ol.stI i0 (by omega) _ fun h3 o3 b3 n3 => ?_
    rw [w64_of (by omega) (by omega)]
    refine hX _ _ ⟨by omega, by omega, x.but_ b3 (by rw [hso]; exact some_le (Nat.le_refl _)), _, by simpa using ll, o3, fun j hj2 => ?_⟩ (by omega)
    rw [List.getElem?_set]
    split
    · next e => subst e; rw [if_pos (by omega), ht]
    · exact hj j (by omega)
  · refine ⟨_, rfl, ?_, fun o e => by rw [hso] at e; cases e; exact Nat.le_refl _, x⟩
    have : l1 = l := by
      apply List.ext_getElem?
      intro j
      by_cases h : j < l.length
      · exact hj j (by omega)
      · rw [List.getElem?_eq_none (by omega), List.getElem?_eq_none (by omega)]
    rw [← this]; exact ol
theorem toInt64SS_c {h0 : H} {s : Sl} {ls : List (List Int)} (r : RdSS h0 s ls) (hl : ls.length ≤ 1048576) (hls : ∀ l ∈ ls, l.length ≤ 1048576) : callS SP i_laws_toInt64SS [.sl s] h0 fun s' h' => NewSS h0.length h' s' ls ∧ Ext h0 h' := by
  have hlen := r.len
  apply laws_toInt64SS_call
  unfold laws_toInt64SS_main
  refine mkS_ow (by omega) (by unfold lim; omega) fun s' h1 ho hlen' hso he => ?_
  have hz : (List.replicate (s.len : Int).toNat [AVal.sl Sl.nil]).flatten = (List.replicate ls.length Sl.nil).map .sl := by
    rw [List.map_replicate, ← hlen]; simp
  rw [hz] at ho
  have hsl : s'.len = ls.length := by rw [hlen', ← hlen]; omega
  have h1l : h1.length = h0.length + 1 := by rw [he]; simp
  refine laws_toInt64SS_rule0 _ _ s s' (fun i h' => 0 ≤ i ∧ i ≤ ls.length ∧ Ext h0 h' ∧ h0.length + 1 ≤ h'.length ∧ ∃ vs : List Sl, vs.length = ls.length ∧ Ow h' s' 1 (vs.map .sl) ∧ (∀ (j : Nat) v l, j < i.toNat → vs[j]? = some v → ls[j]? = some l → Ow h' v 1 (ic l) ∧ Fr (h0.length + 1) v) ∧
      (∀ (j k : Nat) v w, j ≠ k → j < i.toNat → k < i.toNat → vs[j]? = some v → vs[k]? = some w → ∀ o, v.o = some o → w.o ≠ some o)) (fun i _ => (ls.length - i).toNat) ?_ _ ⟨by omega, by omega, by rw [he]; exact Ext.app _ _, by omega, _, by simp, ho, fun j v l hj => by omega, fun j k v w _ hj => by omega⟩
  rintro X i h' ⟨i0, i1, x, hh, vs, ll, ol, hj, hd⟩ hX
  unfold laws_toInt64SS_b0 laws_toInt64SS_C0
  refine bif_dec (fun hi => ?_) (fun hi => ?_)
  · refine (r.ext x).ld i0 (by omega) fun v l hv rv lv => ?_
    refine (toInt64S_c rv (hls l (List.mem_of_getElem? hv))).to ?_
    rintro w h2 ⟨ow, fw, x2⟩
    refine (ol.ext x2).stC i0 (by omega) _ fun h3 o3 b3 n3 => ?_
    rw [w64_of (by omega) (by omega)]
    have hset : (vs.map AVal.sl).set i.toNat (.sl w) = (vs.set i.toNat w).map .sl := by rw [List.map_set]
    rw [hset] at o3
    have hx2 := x2.len
    refine hX _ _ ⟨by omega, by omega, (x.trans x2).but_ b3 (by rw [hso]; exact some_le (Nat.le_refl _)), by omega, _, by simpa using ll, o3, fun j u l' hj2 hu hl' => ?_, fun j k u y hjk hj2 hk2 hu hy o e => ?_⟩ (by omega)
    · rw [List.getElem?_set] at hu
      split at hu
      · next e =>
        subst e
        rw [if_pos (by omega)] at hu
        cases hu
        rw [hv] at hl'
        cases hl'
        refine ⟨ow.but b3 ?_, fw.le (by omega)⟩
        rw [hso]
        refine .inl fun e => ?_
        have := fw _ e.symm
        omega
      · obtain ⟨p, q⟩ := hj j u l' (by omega) hu hl'
        refine ⟨(p.ext x2).but b3 ?_, q⟩
        rw [hso]
        refine .inl fun e => ?_
        have := q _ e.symm
        omega
    · rw [List.getElem?_set] at hu hy
      split at hu
      · next e1 =>
        rw [if_pos (by omega)] at hu
        cases hu
        rw [if_neg (by omega)] at hy
        obtain ⟨l', hl'⟩ := mem_idx ll hy
        obtain ⟨p, q⟩ := hj k y l' (by omega) hy hl'
        intro e2
        have := fw o e
        have := p.lt e2
        omega
      · split at hy
        · rw [if_pos (by omega)] at hy
          cases hy
          obtain ⟨l', hl'⟩ := mem_idx ll hu
          obtain ⟨p, q⟩ := hj j u l' (by omega) hu hl'
          intro e2
          have := fw o e2
          have := p.lt e
          omega
        · exact hd j k u y hjk (by omega) (by omega) hu hy o e
  · refine ⟨_, rfl, ⟨vs, ll, ol, fun o e => by rw [hso] at e; cases e; exact Nat.le_refl _, fun j v l a b => ?_, fun j k v w hjk a b => ?_, fun j v a o e => ?_⟩, x⟩
    · have := (List.getElem?_eq_some_iff.1 b).1
      obtain ⟨p, q⟩ := hj j v l (by omega) a b
      exact ⟨p, q.le (by omega)⟩
    · have h1 := (List.getElem?_eq_some_iff.1 a).1
      have h2 := (List.getElem?_eq_some_iff.1 b).1
      exact hd j k v w hjk (by omega) (by omega) a b
    · obtain ⟨l', hl'⟩ := mem_idx ll a
      have := (List.getElem?_eq_some_iff.1 a).1
      obtain ⟨p, q⟩ := hj j v l' (by omega) a hl'
      intro e2
      rw [hso] at e2
      cases e2
      have := q _ e
      omega
theorem eqInt64SS_c {h0 : H} {s s' : Sl} {ls ls' : List (List Int)} (r : RdSS h0 s ls) (r' : RdSS h0 s' ls') (hl : ls.length < 4000000000000000000) (hls : ∀ l ∈ ls, l.length < 4000000000000000000) : callB SP i_laws_eqInt64SS [.sl s, .sl s'] h0 fun b h' => b = (ls == ls') ∧ h' = h0 := by
  have hlen := r.len
  have hlen' := r'.len
  apply laws_eqInt64SS_call
  unfold laws_eqInt64SS_main
  refine bif_ne (fun hq => ?_) (fun hq => ?_)
  · refine ⟨_, rfl, ?_, rfl⟩
    cases hb : ls == ls' with
    | false => rfl
    | true => rw [beq_iff_eq] at hb; subst hb; omega
  refine laws_eqInt64SS_rule0 _ _ _ _ (fun i h => 0 ≤ i ∧ i ≤ ls.length ∧ h = h0 ∧ ∀ j, j < i.toNat → ls[j]? = ls'[j]?) (fun i _ => (ls.length - i).toNat) ?_ _ ⟨by omega, by omega, rfl, fun j hj => by omega⟩
  rintro X i _ ⟨i0, i1, rfl, hn⟩ hX
  unfold laws_eqInt64SS_b0 laws_eqInt64SS_C0
  refine bif_dec (fun hi => ?_) (fun hi => ?_)
  · refine r.ld i0 (by omega) fun v l hv rv lv => r'.ld i0 (by omega) fun v' l' hv' rv' lv' => ?_
    refine (eqInt64S_c rv rv' (hls l (List.mem_of_getElem? hv))).to ?_
    rintro _ _ ⟨rfl, rfl⟩
    refine bif_not (fun hq => ?_) (fun hq => ?_)
    · refine ⟨_, rfl, ?_, rfl⟩
      cases hb : ls == ls' with
      | false => rfl
      | true =>
        rw [beq_iff_eq] at hb; subst hb
        rw [hv] at hv'; cases hv'
        simp at hq
    · rw [w64_of (by omega) (by omega)]
      refine hX _ _ ⟨by omega, by omega, rfl, fun j hj => ?_⟩ (by omega)
      by_cases hji : j = i.toNat
      · subst hji
        rw [hv, hv']
        simp at hq
        rw [hq]
      · exact hn j (by omega)
  · refine ⟨_, rfl, ?_, rfl⟩
    symm
    rw [beq_iff_eq]
    apply List.ext_getElem?
    intro j
    by_cases hj : j < ls.length
    · exact hn j (by omega)
    · rw [List.getElem?_eq_none (by omega), List.getElem?_eq_none (by omega)]
/-- What marks make of the rows. -/
def marks (k : Int) : List (List Int) → List (List Int)
  | [] => []
  | l :: ls => upto k l.length :: marks (k + l.length) ls
theorem marks_len : ∀ (ls : List (List Int)) (k : Int), (marks k ls).length = ls.length
  | [], k => rfl
  | l :: ls, k => by simp [marks, marks_len ls]
theorem marks_at : ∀ (ls : List (List Int)) (k : Int) (i : Nat) (l : List Int), ls[i]? = some l → (marks k ls)[i]? = some (upto (k + sumLen (ls.take i)) l.length)
  | [], k, i, l, h => by simp at h
  | a :: ls, k, 0, l, h => by simp at h; subst h; simp [marks, sumLen]
  | a :: ls, k, i + 1, l, h => by
    simp at h
    simp only [marks, List.getElem?_cons_succ, List.take_succ_cons]
    rw [marks_at ls _ i l h]
    congr 2
    simp [sumLen]; omega
theorem NewSS.top {n : Nat} {hx h0 : H} {s : Sl} {ls : List (List Int)} (r : NewSS n hx s ls) {Q : Nat → Prop} (c : Chg Q hx h0) (hq : ∀ o, n ≤ o → ¬ Q o) (vs : List Sl) (hv : Ow h0 s 1 (vs.map .sl)) : ∀ v ∈ vs, ∀ o, v.o = some o → n ≤ o ∧ o < hx.length := by
  obtain ⟨us, h1, h2, h3, h4, _⟩ := r
  have hu := h2.chg c fun o e => hq o (h3 o e)
  have hq : vs = us := by
    have a := hu.rd.sread (by omega)
    have b := hv.rd.sread (by omega)
    rw [a] at b
    have : us.map AVal.sl = vs.map AVal.sl := Option.some.inj b
    exact (List.map_inj_right (fun a b e => by simpa using e) |>.1 this).symm
  subst hq
  intro v hm o e
  obtain ⟨i, hi⟩ := List.getElem?_of_mem hm
  obtain ⟨l, hl⟩ := mem_idx h1 hi
  obtain ⟨p, q⟩ := h4 i v l hi hl
  exact ⟨q o e, p.lt e⟩
theorem markInt64SS_c {n0 : Nat} {h0 : H} {s : Sl} {ls : List (List Int)} (r : NewSS n0 h0 s ls) {Q : Nat → Prop} (hP0 : ∀ vs : List Sl, Ow h0 s 1 (vs.map .sl) → ∀ v ∈ vs, ∀ o, v.o = some o → Q o) (k0 : Int) (hk0 : 0 ≤ k0) (hk1 : k0 ≤ 1000000000) (hl : ls.length < 1000000000) (hs : sumLen ls < 1000000000) :
    callI SP .i64 i_laws_markInt64SS [.sl s, i64 k0] h0 fun n h' => n = k0 + sumLen ls ∧ NewSS n0 h' s (marks k0 ls) ∧ Chg Q h0 h' ∧ h'.length = h0.length := by
  obtain ⟨vs, e1, e2, e3, e4, e5, e6⟩ := r
  have hlen : s.len = ls.length := by have := e2.len; simp at this; omega
  apply laws_markInt64SS_call
  unfold laws_markInt64SS_main
  refine laws_markInt64SS_rule0 _ _ _ (fun k i h => 0 ≤ i ∧ i ≤ ls.length ∧ k = k0 + sumLen (ls.take i.toNat) ∧ h.length = h0.length ∧ Chg Q h0 h ∧ Ow h s 1 (vs.map .sl) ∧
      (∀ (j : Nat) v l, vs[j]? = some v → ls[j]? = some l → Ow h v 1 (ic (if j < i.toNat then upto (k0 + sumLen (ls.take j)) l.length else l)))) (fun k i _ => (ls.length - i).toNat) ?_ _ _
      ⟨by omega, by omega, by simp [sumLen], rfl, Chg.refl _ _, e2, fun j v l a b => by rw [if_neg (by omega)]; exact (e4 j v l a b).1⟩
  rintro X k i h ⟨i0, i1, rfl, hh, c, os, ov⟩ hX
  unfold laws_markInt64SS_b0 laws_markInt64SS_C0
  refine bif_dec (fun hi => ?_) (fun hi => ?_)
  · refine os.rd.ldS i0 (by omega) fun v hv => ?_
    obtain ⟨l, hl'⟩ := mem_idx e1 hv
    have o1 := ov i.toNat v l hv hl'
    rw [if_neg (by omega)] at o1
    have hvl := o1.rd.ilen
    have hll := sumLen_mem (List.mem_of_getElem? hl')
    have htk := sumLen_take_le ls i.toNat
    refine (markInt64S_c o1 _ (by omega) (by omega) (by omega)).to ?_
    rintro _ h2 ⟨rfl, o2, b2, n2⟩
    rw [w64_of (by omega) (by omega)]
    have hP : ∀ o, v.o = some o → Q o := fun o e => hP0 vs e2 v (List.mem_of_getElem? hv) o e
    refine hX _ _ _ ⟨by omega, by omega, ?_, by omega, c.trans (b2.chg hP), ?_, fun j w l' hw hl2 => ?_⟩ (by omega)
    · rw [show (i + 1).toNat = i.toNat + 1 by omega, sumLen_take _ _ _ hl', hvl]; push_cast; omega
    · refine os.but b2 ?_
      cases hq : v.o with
      | none => exact .inr rfl
      | some o => exact .inl fun e => e6 _ v hv o hq e.symm
    · by_cases hj : j = i.toNat
      · subst hj
        rw [hv] at hw; cases hw
        rw [hl'] at hl2; cases hl2
        rw [if_pos (by omega), ← hvl]; exact o2
      · have := ov j w l' hw hl2
        refine Ow.but (o := v.o) ?_ b2 ?_
        · by_cases hc : j < i.toNat
          · rw [if_pos (by omega)]; rw [if_pos hc] at this; exact this
          · rw [if_neg (by omega)]; rw [if_neg hc] at this; exact this
        · cases hq : v.o with
          | none => exact .inr rfl
          | some o => exact .inl fun e => e5 _ _ v w (fun e => hj e.symm) hv hw o hq e.symm
  · have : i.toNat = ls.length := by omega
    refine ⟨_, rfl, by rw [this, List.take_length], ⟨vs, by rw [marks_len, e1], os, e3, fun j v l a b => ?_, e5, e6⟩, c, hh⟩
    obtain ⟨l', hl'⟩ := mem_idx e1 a
    rw [marks_at ls k0 j l' hl'] at b
    cases b
    have hj := (List.getElem?_eq_some_iff.1 hl').1
    have := ov j v l' a hl'
    rw [if_pos (by omega)] at this
    exact ⟨this, (e4 j v l' a hl').2⟩
theorem heldInt64SS_c {h0 : H} {s : Sl} {ls : List (List Int)} (k0 : Int) (hk0 : 0 ≤ k0) (hk1 : k0 ≤ 1000000000) (r : RdSS h0 s (marks k0 ls)) (hl : ls.length < 1000000000) (hs : sumLen ls < 1000000000) :
    callI SP .i64 i_laws_heldInt64SS [.sl s, i64 k0] h0 fun n h' => n = k0 + sumLen ls ∧ h' = h0 := by
  have hlen := r.len
  rw [marks_len] at hlen
  apply laws_heldInt64SS_call
  unfold laws_heldInt64SS_main
  refine laws_heldInt64SS_rule0 _ _ _ (fun k i h => 0 ≤ i ∧ i ≤ ls.length ∧ k = k0 + sumLen (ls.take i.toNat) ∧ h = h0) (fun k i _ => (ls.length - i).toNat) ?_ _ _ ⟨by omega, by omega, by simp [sumLen], rfl⟩
  rintro X k i _ ⟨i0, i1, rfl, rfl⟩ hX
  unfold laws_heldInt64SS_b0 laws_heldInt64SS_C0
  refine bif_dec (fun hi => ?_) (fun hi => ?_)
  · refine r.ld i0 (by rw [marks_len]; omega) fun v m hv rv lv => ?_
    obtain ⟨l, hl'⟩ : ∃ l, ls[i.toNat]? = some l := ⟨ls[i.toNat]'(by omega), List.getElem?_eq_getElem (by omega)⟩
    rw [marks_at ls k0 _ l hl'] at hv
    cases hv
    rw [upto_len] at lv
    have hll := sumLen_mem (List.mem_of_getElem? hl')
    have htk := sumLen_take_le ls i.toNat
    refine (heldInt64S_c _ (by omega) (by omega) (by rw [lv]; exact rv) (by omega)).to ?_
    rintro _ _ ⟨rfl, rfl⟩
    refine bif_dec (fun hq => by omega) (fun _ => ?_)
    rw [w64_of (by omega) (by omega)]
    refine hX _ _ _ ⟨by omega, by omega, ?_, rfl⟩ (by omega)
    rw [show (i + 1).toNat = i.toNat + 1 by omega, sumLen_take _ _ _ hl', lv]; push_cast; omega
  · have : i.toNat = ls.length := by omega
    exact ⟨_, rfl, by rw [this, List.take_length], rfl⟩
end Go.Proofs.Ytgeakkmpohjohaa.Cl

/- Contracts of the functions that tell sets, rows of numbers of tiles, fillings, cylinders and tori. No claim is stated here. -/
set_option linter.unusedVariables false
set_option linter.unusedSimpArgs false
namespace Go.Proofs.Ytgeakkmpohjohaa.Cl
open Go
/-! ### reading, by place -/
def sd (t : Tile) : Nat → Int | 0 => t.1 | 1 => t.2.1 | 2 => t.2.2.1 | _ => t.2.2.2
def tat (ts : List Tile) (n : Int) : Tile := ts.getD n.toNat (0, 0, 0, 0)
theorem tat_at {ts : List Tile} {n : Int} {t : Tile} (h : ts[n.toNat]? = some t) : tat ts n = t := by unfold tat; rw [List.getD_eq_getElem?_getD, h]; rfl
theorem at_tat {ts : List Tile} {n : Int} (h1 : n.toNat < ts.length) : ts[n.toNat]? = some (tat ts n) := by unfold tat; rw [List.getD_eq_getElem?_getD, List.getElem?_eq_getElem h1]; rfl
theorem tc_sd (t : Tile) {k : Nat} (hk : k < 4) : (tc t)[k]? = some (i64 (sd t k)) := by
  match k with
  | 0 => rfl
  | 1 => rfl
  | 2 => rfl
  | 3 => rfl
theorem Rd.sideG {h : H} {s : Sl} {ts : List Tile} (r : Rd h s 4 (tcs ts)) {n k : Int} (h0 : 0 ≤ n) (h1 : n < ts.length) (k0 : 0 ≤ k) (k1 : k < 4) {K : Int → Prop} (hk : K (sd (tat ts n) k.toNat)) : ixS s 4 n fun p => ixA p 4 1 k fun q => Cl.ldI .i64 q h K := by
  have hl := r.tlen
  refine r.ix h0 (by omega) fun p po pr => ⟨⟨k0, by omega⟩, po, _, ?_, hk⟩
  have := cell_of_range pr (i := k.toNat) (by omega)
  rw [Pt.add, Nat.mul_one, this, tcs_at ts n.toNat _ (at_tat (by omega)), tc_sd _ (by omega)]
theorem Rd.tileG {h : H} {s : Sl} {ts : List Tile} (r : Rd h s 4 (tcs ts)) {n : Int} (h0 : 0 ≤ n) (h1 : n < ts.length) {K : List AVal → Prop} (hk : K (tc (tat ts n))) : ixS s 4 n fun p => Cl.ldA p 4 h K :=
  r.ldT h0 h1 fun t ht => by rw [← tat_at ht]; exact hk
theorem Rd.ldG {h : H} {s : Sl} {l : List Int} (r : Rd h s 1 (ic l)) {i : Int} (h0 : 0 ≤ i) (h1 : i < l.length) {K : Int → Prop} (hk : K (l.getD i.toNat 0)) : ixS s 1 i fun p => Cl.ldI .i64 p h K :=
  r.ldI h0 h1 fun x hx => by rw [List.getD_eq_getElem?_getD, hx] at hk; exact hk
theorem Rd.ixC {h : H} {s : Sl} {l : List Int} (r : Rd h s 1 (ic l)) {i : Int} (h0 : 0 ≤ i) (h1 : i < l.length) {K : Pt → Prop} (hk : ∀ p : Pt, cell h p = some (i64 (l.getD i.toNat 0)) → K p) : ixS s 1 i K := by
  have hlen := r.ilen
  obtain hl | ⟨a, b, c⟩ := r.at_
  · omega
  · refine ⟨⟨h0, by omega⟩, a, b, hk _ ?_⟩
    have := cell_of_range c (i := i.toNat) (by omega)
    rw [Nat.mul_one, this]
    unfold ic
    rw [List.getElem?_map, List.getElem?_eq_getElem (by omega), List.getD_eq_getElem?_getD, List.getElem?_eq_getElem (by omega)]
    rfl
theorem Rd.ixT {h : H} {s : Sl} {ts : List Tile} (r : Rd h s 4 (tcs ts)) {n : Int} (h0 : 0 ≤ n) (h1 : n < ts.length) {K : Pt → Prop} (hk : ∀ p : Pt, p.o.isSome = true → range h p.o p.n p.off 4 = some (tc (tat ts n)) → K p) : ixS s 4 n K := by
  have hl := r.tlen
  refine r.ix h0 (by omega) fun p po pr => hk p po ?_
  rw [pr, tcs_at ts n.toNat _ (at_tat (by omega))]
theorem Ext.rangeE {h h' : H} (x : Ext h h') {o n off k cs} (e : Cl.range h o n off k = some cs) : Cl.range h' o n off k = Cl.range h o n off k := by rw [x.range e, e]
theorem Obj.sdI {h : H} {o : Nat} {t : Tile} (x : Obj h o (tc t)) {k : Int} (k0 : 0 ≤ k) (k1 : k < 4) {K : Int → Prop} (hk : K (sd t k.toNat)) : ixA ⟨some o, 4, 0⟩ 4 1 k fun p => Cl.ldI .i64 p h K :=
  ixA_ldI x rfl k0 (by omega) (tc_sd t (by omega)) hk
def rw_ (rows : List (List Int)) (y : Nat) : List Int := rows.getD y []
def G (rows : List (List Int)) (y x : Nat) : Int := (rw_ rows y).getD x 0
theorem rw_at {rows : List (List Int)} {y : Nat} {l : List Int} (h : rows[y]? = some l) : rw_ rows y = l := by unfold rw_; rw [List.getD_eq_getElem?_getD, h]; rfl
theorem at_rw {rows : List (List Int)} {y : Nat} (h : y < rows.length) : rows[y]? = some (rw_ rows y) := by unfold rw_; rw [List.getD_eq_getElem?_getD, List.getElem?_eq_getElem h]; rfl
theorem RdSS.ldG {h s ls} (r : RdSS h s ls) {i : Int} (h0 : 0 ≤ i) (h1 : i < ls.length) {K : Sl → Prop} (hk : ∀ v, Rd h v 1 (ic (rw_ ls i.toNat)) → v.len = (rw_ ls i.toNat).length → K v) : ixS s 1 i fun p => Cl.ldS p h K :=
  r.ld h0 h1 fun v l hv rv lv => by rw [← rw_at hv] at rv lv; exact hk v rv lv
theorem RdSS.ixC {h s ls} (r : RdSS h s ls) {i : Int} (h0 : 0 ≤ i) (h1 : i < ls.length) {K : Pt → Prop} (hk : ∀ (p : Pt) v, cell h p = some (.sl v) → Rd h v 1 (ic (rw_ ls i.toNat)) → v.len = (rw_ ls i.toNat).length → K p) : ixS s 1 i K := by
  have hlen := r.len
  obtain ⟨vs, e1, e2, e3⟩ := r
  have hv : vs[i.toNat]? = some vs[i.toNat] := List.getElem?_eq_getElem (by omega)
  have hr := e3 _ _ _ hv (at_rw (by omega))
  obtain hl | ⟨a, b, c⟩ := e2.at_
  · omega
  · refine ⟨⟨h0, by omega⟩, a, b, hk _ _ ?_ hr hr.ilen⟩
    have := cell_of_range c (i := i.toNat) (by omega)
    rw [Nat.mul_one, this, List.getElem?_map, hv]
    rfl
theorem within_k {a b c : Int} {h : H} {K : Bool → H → Prop} (hk : K (decide (b ≤ a ∧ a ≤ c)) h) : callB SP i_impl_within [i64 a, i64 b, i64 c] h K :=
  (within_c a b c h).to (by rintro _ _ ⟨rfl, rfl⟩; exact hk)
theorem l01In_k {a b c : Int} {h : H} {K : Bool → H → Prop} (hk : K (decide (b ≤ a ∧ a ≤ c)) h) : callB SP i_spec_l01In [i64 a, i64 b, i64 c] h K :=
  (l01In_c a b c h).to (by rintro _ _ ⟨rfl, rfl⟩; exact hk)
/-! ### sets -/
def Qset (c : Int) (ts : List Tile) (j : Nat) : Prop := tileok c (tat ts j) = true ∧ (0 < j → cmpT (tat ts ((j : Int) - 1)) (tat ts j) < 0)
def setOK (c : Int) (ts : List Tile) : Prop := (1 ≤ c ∧ c ≤ 6) ∧ ts.length ≤ 16 ∧ ∀ j, j < ts.length → Qset c ts j
theorem l01Is_c {h0 : H} {c : Int} {s : Sl} {ts : List Tile} (r : Rd h0 s 4 (tcs ts)) : callB SP i_spec_l01Is [.agg (SetC c s)] h0 fun b h' => (b = true ↔ setOK c ts) ∧ Ext h0 h' := by
  have hl := r.tlen
  apply spec_l01Is_call
  unfold spec_l01Is_main
  refine newK_obj fun h1 o1 x1 n1 => ?_
  refine isPt_in (o1.ldI rfl rfl ?_)
  refine l01In_k ?_
  refine bif_not (fun hc => ⟨_, rfl, ?_, x1⟩) (fun hc => ?_)
  · simp only [Bool.false_eq_true, false_iff]
    intro hs
    simp at hc
    have := hs.1; omega
  have hc' : 1 ≤ c ∧ c ≤ 6 := by simpa using hc
  refine isPt_in (o1.ldS rfl rfl ?_)
  refine bif_dec (fun hq => ⟨_, rfl, ?_, x1⟩) (fun hq => ?_)
  · simp only [Bool.false_eq_true, false_iff]
    intro hs
    have := hs.2.1; omega
  refine spec_l01Is_rule0 _ _ _ (fun i h => 0 ≤ i ∧ i ≤ ts.length ∧ Ext h1 h ∧ ∀ j, j < i.toNat → Qset c ts j) (fun i _ => (ts.length - i).toNat) ?_ _ ⟨by omega, by omega, Ext.refl _, fun j hj => by omega⟩
  rintro X i h ⟨i0, i1, x, hj⟩ hX
  unfold spec_l01Is_b0 spec_l01Is_C0
  have o := o1.ext x
  refine isPt_in (o.ldS rfl rfl ?_)
  have no : ∀ {h'}, Ext h h' → ¬ Qset c ts i.toNat → i < ts.length → ∃ b, AVal.bool false = .bool b ∧ (b = true ↔ setOK c ts) ∧ Ext h0 h' := fun {h'} x' hn hi =>
    ⟨_, rfl, by simp only [Bool.false_eq_true, false_iff]; exact fun hs => hn (hs.2.2 _ (by omega)), (x1.trans x).trans x'⟩
  refine bif_dec (fun hi => ?_) (fun hi => ?_)
  · refine isPt_in (o.ldI rfl rfl ?_)
    refine isPt_in (o.ldS rfl rfl ?_)
    have hn : ((i.toNat : Nat) : Int) = i := by omega
    refine (r.ext (x1.trans x)).tileG i0 (by omega) ?_
    refine (l01Tile_c c ⟨by omega, by omega⟩ (tat ts i) h).to ?_
    rintro _ h2 ⟨rfl, x2⟩
    refine bif_not (fun hq => no x2 (fun q => ?_) (by omega)) (fun hq => ?_)
    · have := q.1; rw [hn, hq] at this; cases this
    refine bif_dec (fun hp => ?_) (fun hp => ?_)
    · have o2 := o.ext x2
      have r2 := r.ext ((x1.trans x).trans x2)
      refine isPt_in (o2.ldS rfl rfl ?_)
      rw [w64_of (by omega) (by omega)]
      refine r2.tileG (by omega) (by omega) ?_
      refine isPt_in (o2.ldS rfl rfl ?_)
      refine r2.tileG i0 (by omega) ?_
      refine (l01Before_c _ _ _).to ?_
      rintro _ h3 ⟨rfl, x3⟩
      refine bif_not (fun hb => no (x2.trans x3) (fun q => ?_) (by omega)) (fun hb => ?_)
      · have := q.2 (by omega); rw [hn] at this; simp at hb; omega
      · rw [w64_of (by omega) (by omega)]
        refine hX _ _ ⟨by omega, by omega, (x.trans x2).trans x3, fun j hjj => ?_⟩ (by omega)
        by_cases e : j = i.toNat
        · subst e; refine ⟨by rw [hn]; exact hq, fun _ => ?_⟩; rw [hn]; simpa using hb
        · exact hj j (by omega)
    · rw [w64_of (by omega) (by omega)]
      refine hX _ _ ⟨by omega, by omega, x.trans x2, fun j hjj => ?_⟩ (by omega)
      by_cases e : j = i.toNat
      · subst e; exact ⟨by rw [hn]; exact hq, fun h => by omega⟩
      · exact hj j (by omega)
  · exact ⟨_, rfl, ⟨fun _ => ⟨hc', by omega, fun j hjj => hj j (by omega)⟩, fun _ => rfl⟩, x1.trans x⟩
theorem IsSet_c {h0 : H} {c : Int} {s : Sl} {ts : List Tile} (r : Rd h0 s 4 (tcs ts)) (hbig : ts.length < 4000000000000000000) : callB SP i_impl_IsSet [.agg (SetC c s)] h0 fun b h' => (b = true ↔ setOK c ts) ∧ Ext h0 h' := by
  have hl := r.tlen
  apply impl_IsSet_call
  unfold impl_IsSet_main
  refine newK_obj fun h1 o1 x1 n1 => ?_
  refine isPt_in (o1.ldS rfl rfl ?_)
  have hw : 1 ≤ c ∧ c ≤ 6 → w64 (c - 1) + 1 = c := fun hc => by rw [w64_of (by omega) (by omega)]; omega
  refine impl_IsSet_rule0 _ _ _ _ _ (fun i h => 0 ≤ i ∧ i ≤ ts.length ∧ Ext h1 h ∧ (1 ≤ c ∧ c ≤ 6 → ∀ j, j < i.toNat → Qset c ts j)) (fun i _ => (ts.length - i).toNat) ?_ _ ⟨by omega, by omega, Ext.refl _, fun _ j hj => by omega⟩
  rintro X i h ⟨i0, i1, x, hj⟩ hX
  unfold impl_IsSet_b0 impl_IsSet_C0
  have o := o1.ext x
  have no : ∀ {h'}, Ext h h' → (1 ≤ c ∧ c ≤ 6 → ¬ Qset c ts i.toNat) → i < ts.length → ∃ b, AVal.bool false = .bool b ∧ (b = true ↔ setOK c ts) ∧ Ext h0 h' := fun {h'} x' hn hi =>
    ⟨_, rfl, by simp only [Bool.false_eq_true, false_iff]; exact fun hs => hn hs.1 (hs.2.2 _ (by omega)), (x1.trans x).trans x'⟩
  refine bif_dec (fun hi => ?_) (fun hi => ?_)
  · have hn : ((i.toNat : Nat) : Int) = i := by omega
    refine (r.ext (x1.trans x)).tileG i0 (by omega) ?_
    refine newO_obj fun h2 o2 x2 n2 => ?_
    refine o2.stA fun h3 o3 b3 n3 => ?_
    have x3 : Ext h h3 := x2.but_ b3 (some_le (Nat.le_refl _))
    refine o3.ldA rfl ?_
    refine isPt_in ((o.ext x3).ldI rfl rfl ?_)
    refine (isTile_w (tat ts i) c h3).to ?_
    rintro _ h4 ⟨rfl, x4⟩
    refine bif_not (fun hq => no (x3.trans x4) (fun hc q => ?_) (by omega)) (fun hq => ?_)
    · have := q.1; rw [hn] at this; rw [hw hc, this] at hq; cases hq
    refine bif_dec (fun hp => ?_) (fun hp => ?_)
    · have o4 := o.ext (x3.trans x4)
      have r4 := r.ext ((x1.trans x).trans (x3.trans x4))
      refine isPt_in (o4.ldS rfl rfl ?_)
      rw [w64_of (n := i - 1) (by omega) (by omega)]
      refine r4.tileG (by omega) (by omega) ?_
      refine (o3.ext x4).ldA rfl ?_
      refine (compare_c _ _ _).to ?_
      rintro _ h5 ⟨rfl, x5⟩
      refine bif_dec (fun hb => no ((x3.trans x4).trans x5) (fun hc q => ?_) (by omega)) (fun hb => ?_)
      · have := q.2 (by omega); rw [hn] at this; omega
      · rw [w64_of (n := i + 1) (by omega) (by omega)]
        refine hX _ _ ⟨by omega, by omega, x.trans ((x3.trans x4).trans x5), fun hc j hjj => ?_⟩ (by omega)
        by_cases e : j = i.toNat
        · subst e; refine ⟨by rw [hn, ← hw hc]; exact hq, fun _ => ?_⟩; rw [hn]; omega
        · exact hj hc j (by omega)
    · rw [w64_of (n := i + 1) (by omega) (by omega)]
      refine hX _ _ ⟨by omega, by omega, x.trans (x3.trans x4), fun hc j hjj => ?_⟩ (by omega)
      by_cases e : j = i.toNat
      · subst e; exact ⟨by rw [hn, ← hw hc]; exact hq, fun h => by omega⟩
      · exact hj hc j (by omega)
  · refine isPt_in (o.ldI rfl rfl ?_)
    refine within_k ?_
    refine bif_dec (fun hc => ?_) (fun hc => ⟨_, rfl, ?_, x1.trans x⟩)
    · refine isPt_in (o.ldS rfl rfl ⟨_, rfl, ?_, x1.trans x⟩)
      rw [decide_eq_true_eq]
      exact ⟨fun hs => ⟨hc, by omega, fun j hjj => hj hc j (by omega)⟩, fun hs => by have := hs.2.1; omega⟩
    · simp only [Bool.false_eq_true, false_iff]
      exact fun hs => hc hs.1
/-! ### codes -/
open Classical in
noncomputable def bP (A : Prop) : Bool := decide A
theorem bP_iff (A : Prop) : bP A = true ↔ A := by unfold bP; simp
theorem bP_of {b : Bool} {A : Prop} (h : b = true ↔ A) : b = bP A := by rw [Bool.eq_iff_iff, h, bP_iff]
theorem bP_yes {A : Prop} (h : A) : bP A = true := (bP_iff A).2 h
theorem bP_no {A : Prop} (h : ¬ A) : bP A = false := by
  cases hb : bP A with
  | false => rfl
  | true => exact absurd ((bP_iff A).1 hb) h
open Classical in
noncomputable def codeOf (A B : Prop) : Int := if A then (if B then 0 else 2) else 1
theorem codeOf_no {A B : Prop} (h : ¬ A) : codeOf A B = 1 := by unfold codeOf; rw [if_neg h]
theorem codeOf_range {A B : Prop} (h : A) (h2 : ¬ B) : codeOf A B = 2 := by unfold codeOf; rw [if_pos h, if_neg h2]
theorem codeOf_yes {A B : Prop} (h : A) (h2 : B) : codeOf A B = 0 := by unfold codeOf; rw [if_pos h, if_pos h2]
theorem codeOf_zero {A B : Prop} (h : codeOf A B = 0) : A ∧ B := by
  unfold codeOf at h
  split at h
  · split at h
    · exact ⟨by assumption, by assumption⟩
    · cases h
  · cases h
theorem codeOf_cond {A B : Prop} (h : codeOf A B ≠ 0) : ¬ (A ∧ B) := fun ⟨a, b⟩ => h (codeOf_yes a b)
theorem setCode_c {h0 : H} {c : Int} {s : Sl} {ts : List Tile} (r : Rd h0 s 4 (tcs ts)) (hbig : ts.length < 4000000000000000000) (g : Nat) (cap : List AVal) (Q : Prop)
    (hg : setOK c ts → ∀ h, Ext h0 h → callB SP g cap h fun b h' => (b = true ↔ Q) ∧ Ext h h') : callI SP .i64 i_impl_setCode [.agg (SetC c s), .func g cap] h0 fun n h' => n = codeOf (setOK c ts) Q ∧ Ext h0 h' := by
  apply impl_setCode_call
  unfold impl_setCode_main
  refine newK_obj fun h1 o1 x1 n1 => ?_
  refine o1.ldA rfl ?_
  refine (IsSet_c (r.ext x1) hbig).to ?_
  rintro b h2 ⟨hb, x2⟩
  refine bif_not (fun hq => ⟨_, rfl, (codeOf_no fun hs => ?_).symm, x1.trans x2⟩) (fun hq => ?_)
  · rw [hb.2 hs] at hq; cases hq
  have hs := hb.1 hq
  refine via_func ?_
  rw [List.nil_append]
  refine (hg hs h2 (x1.trans x2)).to ?_
  rintro b h3 ⟨hb3, x3⟩
  refine bif_not (fun hq => ⟨_, rfl, (codeOf_range hs fun q => ?_).symm, (x1.trans x2).trans x3⟩) (fun hq => ⟨_, rfl, (codeOf_yes hs (hb3.1 hq)).symm, (x1.trans x2).trans x3⟩)
  rw [hb3.2 q] at hq; cases hq
/-! ### rows of numbers -/
def Tabl (rows : List (List Int)) (most : Int) : Prop := (1 ≤ rows.length ∧ (rows.length : Int) ≤ most) ∧ ∀ y, y < rows.length → (rw_ rows y).length = (rw_ rows 0).length ∧ 1 ≤ (rw_ rows y).length ∧ ((rw_ rows y).length : Int) ≤ most
def Nums (n : Nat) (rows : List (List Int)) : Prop := (∀ y x, y < rows.length → x < (rw_ rows y).length → 0 ≤ G rows y x ∧ G rows y x < n) ∧ Tabl rows 8
theorem isNumber_c {h0 : H} {c : Int} {s : Sl} (i : Int) (hs : s.len < 9000000000000000000) : callB SP i_impl_Set_isNumber [.agg (SetC c s), i64 i] h0 fun b h' => b = decide (0 ≤ i ∧ i < s.len) ∧ Ext h0 h' := by
  apply impl_Set_isNumber_call
  unfold impl_Set_isNumber_main
  refine newK_obj fun h1 o1 x1 n1 => ?_
  refine isPt_in (o1.ldS rfl rfl ?_)
  refine within_k ?_
  refine ⟨_, rfl, ?_, x1⟩
  rw [w64_of (by omega) (by omega)]
  rw [Bool.eq_iff_iff, decide_eq_true_eq, decide_eq_true_eq]; omega
theorem isTable_c {h0 : H} {s : Sl} {rows : List (List Int)} (r : RdSS h0 s rows) (most : Int) (hm : most < 1000) : callB SP i_impl_isTable [.sl s, i64 most] h0 fun b h' => (b = true ↔ Tabl rows most) ∧ h' = h0 := by
  have hl := r.len
  apply impl_isTable_call
  unfold impl_isTable_main
  refine bif_dec (fun hq => ⟨_, rfl, ?_, rfl⟩) (fun hq => ?_)
  · simp only [Bool.false_eq_true, false_iff]
    intro t; have := t.1; omega
  refine bif_dec (fun hq2 => ⟨_, rfl, ?_, rfl⟩) (fun hq2 => ?_)
  · simp only [Bool.false_eq_true, false_iff]
    intro t; have := t.1; omega
  refine impl_isTable_rule0 _ _ _ _ _ _ (fun i h => 0 ≤ i ∧ i ≤ rows.length ∧ h = h0 ∧ ∀ y, y < i.toNat → (rw_ rows y).length = (rw_ rows 0).length ∧ 1 ≤ (rw_ rows y).length ∧ ((rw_ rows y).length : Int) ≤ most) (fun i _ => (rows.length - i).toNat) ?_ _ ⟨by omega, by omega, rfl, fun j hj => by omega⟩
  rintro X i _ ⟨i0, i1, rfl, hj⟩ hX
  unfold impl_isTable_b0 impl_isTable_C0
  refine bif_dec (fun hi => ?_) (fun hi => ?_)
  · refine r.ldG i0 (by omega) fun v rv lv => ?_
    refine r.ldG (by omega) (by omega) fun v0 rv0 lv0 => ?_
    have no : ¬ ((rw_ rows i.toNat).length = (rw_ rows 0).length ∧ 1 ≤ (rw_ rows i.toNat).length ∧ ((rw_ rows i.toNat).length : Int) ≤ most) → (false = true ↔ Tabl rows most) := fun hn => by
      simp only [Bool.false_eq_true, false_iff]; exact fun t => hn (t.2 _ (by omega))
    have lv0' : v0.len = (rw_ rows 0).length := lv0
    refine bif_ne (fun hq => ⟨_, rfl, no (by omega), rfl⟩) (fun hq => ?_)
    refine bif_dec (fun hq => ⟨_, rfl, no (by omega), rfl⟩) (fun hq => ?_)
    refine bif_dec (fun hq => ⟨_, rfl, no (by omega), rfl⟩) (fun hq => ?_)
    rw [w64_of (by omega) (by omega)]
    refine hX _ _ ⟨by omega, by omega, rfl, fun j hjj => ?_⟩ (by omega)
    by_cases e : j = i.toNat
    · subst e; omega
    · exact hj j (by omega)
  · exact ⟨_, rfl, ⟨fun _ => ⟨⟨by omega, by omega⟩, fun j hjj => hj j (by omega)⟩, fun _ => rfl⟩, rfl⟩
end Go.Proofs.Ytgeakkmpohjohaa.Cl

/- Fillings by places, plain: the program's states and the reference's. No claim is stated here. -/
set_option linter.unusedVariables false
set_option linter.unusedSimpArgs false
namespace Go.Proofs.Ytgeakkmpohjohaa.Cl
open Go
def dig (c v k : Nat) : Nat := v / c ^ k % c
/-- The number v with another digit at x. -/
def setD (c x d v : Nat) : Nat := v / c ^ (x + 1) * c ^ (x + 1) + d * c ^ x + v % c ^ x
theorem split_at (c v x : Nat) : v = v / c ^ (x + 1) * c ^ (x + 1) + dig c v x * c ^ x + v % c ^ x := by
  have h1 := Nat.div_add_mod v (c ^ (x + 1))
  have h2 : v % c ^ (x + 1) = v % c ^ x + c ^ x * (v / c ^ x % c) := by rw [Nat.pow_succ, Nat.mod_mul]
  unfold dig
  rw [Nat.mul_comm (v / c ^ (x + 1)), Nat.mul_comm (v / c ^ x % c)]
  omega
theorem setD_eq (c x d v : Nat) : (setD c x d v : Int) = v + ((d : Int) - dig c v x) * ((c ^ x : Nat) : Int) := by
  have h := split_at c v x
  unfold setD
  rw [Int.sub_mul]
  have : (v : Int) = ((v / c ^ (x + 1) * c ^ (x + 1) : Nat) : Int) + ((dig c v x * c ^ x : Nat) : Int) + ((v % c ^ x : Nat) : Int) := by exact_mod_cast h
  rw [← Int.natCast_mul, ← Int.natCast_mul]
  push_cast at this ⊢
  omega
theorem setD_lt {c x d v w : Nat} (hc : 0 < c) (hd : d < c) (hx : x < w) (hv : v < c ^ w) : setD c x d v < c ^ w := by
  have hp : 0 < c ^ x := Nat.pow_pos hc
  have h1 : v % c ^ x < c ^ x := Nat.mod_lt _ hp
  have h2 : (d + 1) * c ^ x ≤ c * c ^ x := Nat.mul_le_mul_right _ hd
  rw [Nat.add_mul, Nat.one_mul] at h2
  have h3 : c ^ (x + 1) = c * c ^ x := by rw [Nat.pow_succ, Nat.mul_comm]
  have h4 : c ^ w = c ^ (w - (x + 1)) * c ^ (x + 1) := by rw [← Nat.pow_add]; congr 1; omega
  have h5 : v / c ^ (x + 1) < c ^ (w - (x + 1)) := by
    rw [Nat.div_lt_iff_lt_mul (Nat.pow_pos hc), ← h4]; exact hv
  have h6 : (v / c ^ (x + 1) + 1) * c ^ (x + 1) ≤ c ^ (w - (x + 1)) * c ^ (x + 1) := Nat.mul_le_mul_right _ h5
  rw [Nat.add_mul, Nat.one_mul, ← h4] at h6
  unfold setD
  omega
theorem dig_mod {c v x w : Nat} (hx : x < w) : dig c (v % c ^ w) x = dig c v x := by
  unfold dig
  have h4 : c ^ w = c ^ x * (c * c ^ (w - (x + 1))) := by rw [← Nat.mul_assoc, ← Nat.pow_succ, ← Nat.pow_add]; congr 1; omega
  rw [h4, Nat.mod_mul_right_div_self, Nat.mod_mul_right_mod]
theorem dig_lt {c v k : Nat} (hc : 0 < c) : dig c v k < c := Nat.mod_lt _ hc
theorem dig_top {c v w : Nat} (hv : v < c ^ (w + 1)) : dig c v w = v / c ^ w := by
  unfold dig
  rw [Nat.mod_eq_of_lt]
  have hc : 0 < c := by
    rcases Nat.eq_zero_or_pos c with h | h
    · subst h; simp at hv
    · exact h
  rw [Nat.div_lt_iff_lt_mul (Nat.pow_pos hc), Nat.mul_comm, ← Nat.pow_succ]; exact hv
structure Dp where
  n : Nat
  c : Nat
  w : Nat
  size : Nat
  B : Nat → Nat → Bool
  we : Nat → Nat
  no : Nat → Nat
  ea : Nat → Nat
  so : Nat → Nat
namespace Dp
variable (D : Dp)
def top : Nat := D.c ^ D.w
def can (r p i : Nat) : Bool := D.B p i && (p / D.w == 0 || dig D.c r (p % D.w) == D.no i) && (p % D.w == 0 || dig D.c r D.w == D.we i)
def stepR (r p i : Nat) : Nat := setD D.c (p % D.w) (D.so i) (r % D.top) + D.ea i * D.top
def stepI (r p i : Nat) : Nat := setD D.c (p % D.w) (D.so i) (r % D.top) + if p % D.w + 1 < D.w then D.ea i * D.top else 0
def rho (p r : Nat) : Nat := if p % D.w = 0 then r % D.top else r
def reach (st : Nat → Nat → Nat → Nat) : Nat → Nat → Prop
  | 0, s => s = 0
  | p + 1, s => ∃ s' i, reach st p s' ∧ i < D.n ∧ D.can s' p i = true ∧ s = st s' p i
def comp (st : Nat → Nat → Nat → Nat) : Nat → Nat → Nat → Prop
  | 0, _, _ => True
  | m + 1, p, s => ∃ i, i < D.n ∧ D.can s p i = true ∧ comp st m (p + 1) (st s p i)
def alive (p s : Nat) : Prop := D.reach D.stepI p s ∧ D.comp D.stepI (D.size - p) p s
def left (p r : Nat) : Prop := D.comp D.stepR (D.size - p) p r
def now : Nat → Nat → Prop
  | 0, r => r = 0
  | p + 1, r => ∃ r' i, now p r' ∧ i < D.n ∧ D.can r' p i = true ∧ D.left (p + 1) r ∧ r = D.stepR r' p i
def stand (p i : Nat) : Prop := ∃ r, D.now p r ∧ D.can r p i = true ∧ D.left (p + 1) (D.stepR r p i)
def at_ (p i : Nat) : Prop := ∃ s, D.alive p s ∧ D.can s p i = true ∧ D.alive (p + 1) (D.stepI s p i)
structure OK : Prop where
  hc : 0 < D.c
  hw : 0 < D.w
  we : ∀ i, i < D.n → D.we i < D.c
  no : ∀ i, i < D.n → D.no i < D.c
  ea : ∀ i, i < D.n → D.ea i < D.c
  so : ∀ i, i < D.n → D.so i < D.c
variable {D} (ok : D.OK)
include ok
theorem top_pos : 0 < D.top := Nat.pow_pos ok.hc
theorem set_lt {p i r : Nat} (hi : i < D.n) : setD D.c (p % D.w) (D.so i) (r % D.top) < D.top :=
  setD_lt ok.hc (ok.so i hi) (Nat.mod_lt _ ok.hw) (Nat.mod_lt _ (top_pos ok))
theorem stepR_lt {p i r : Nat} (hi : i < D.n) : D.stepR r p i < D.c ^ (D.w + 1) := by
  have h1 := set_lt ok (p := p) (r := r) hi
  have h2 : (D.ea i + 1) * D.top ≤ D.c * D.top := Nat.mul_le_mul_right _ (ok.ea i hi)
  rw [Nat.add_mul, Nat.one_mul] at h2
  have h3 : D.c ^ (D.w + 1) = D.c * D.top := by rw [Nat.pow_succ, Nat.mul_comm]; rfl
  unfold stepR
  omega
theorem stepI_lt {p i r : Nat} (hi : i < D.n) : D.stepI r p i < D.c ^ (D.w + 1) := by
  have h1 := set_lt ok (p := p) (r := r) hi
  have h2 : (D.ea i + 1) * D.top ≤ D.c * D.top := Nat.mul_le_mul_right _ (ok.ea i hi)
  rw [Nat.add_mul, Nat.one_mul] at h2
  have h3 : D.c ^ (D.w + 1) = D.c * D.top := by rw [Nat.pow_succ, Nat.mul_comm]; rfl
  unfold stepI
  split <;> omega
theorem can_rho (p r i : Nat) : D.can (D.rho p r) p i = D.can r p i := by
  unfold can rho
  split
  · next h =>
    have h1 : D.top = D.c ^ D.w := rfl
    rw [h1, dig_mod (Nat.mod_lt _ ok.hw), h]
    simp
  · rfl
theorem rho_step (p r i : Nat) (hi : i < D.n) : D.rho (p + 1) (D.stepR r p i) = D.stepI (D.rho p r) p i := by
  have hs : (D.rho p r) % D.top = r % D.top := by unfold rho; split <;> simp
  unfold stepI
  rw [hs]
  have hm := Nat.mod_lt p ok.hw
  by_cases hx : p % D.w + 1 < D.w
  · rw [if_pos hx]
    unfold rho
    have : (p + 1) % D.w ≠ 0 := by
      rw [Nat.add_mod, Nat.mod_eq_of_lt (a := 1) (by omega), Nat.mod_eq_of_lt hx]; omega
    rw [if_neg this]; rfl
  · rw [if_neg hx]
    unfold rho
    have : (p + 1) % D.w = 0 := by
      rw [← Nat.mod_add_mod, show p % D.w + 1 = D.w by omega, Nat.mod_self]
    rw [if_pos this]
    unfold stepR
    rw [Nat.add_mul_mod_self_right, Nat.mod_eq_of_lt (set_lt ok hi)]; rfl
theorem reach_iff : ∀ p s, D.reach D.stepI p s ↔ ∃ r, D.reach D.stepR p r ∧ s = D.rho p r
  | 0, s => by
    have h0 : D.rho 0 0 = 0 := by unfold rho; simp
    constructor
    · intro h; exact ⟨0, rfl, by rw [h0]; exact h⟩
    · rintro ⟨r, h1, h2⟩
      have h1' : r = 0 := h1
      rw [h1', h0] at h2; exact h2
  | p + 1, s => by
    constructor
    · rintro ⟨s', i, h1, hi, h2, rfl⟩
      obtain ⟨r, h3, rfl⟩ := (reach_iff p s').1 h1
      exact ⟨D.stepR r p i, ⟨r, i, h3, hi, by rw [← can_rho ok]; exact h2, rfl⟩, (rho_step ok p r i hi).symm⟩
    · rintro ⟨r, ⟨r', i, h1, hi, h2, rfl⟩, rfl⟩
      exact ⟨D.rho p r', i, (reach_iff p _).2 ⟨r', h1, rfl⟩, hi, by rw [can_rho ok]; exact h2, rho_step ok p r' i hi⟩
theorem comp_iff : ∀ m p r, D.comp D.stepI m p (D.rho p r) ↔ D.comp D.stepR m p r
  | 0, p, r => Iff.rfl
  | m + 1, p, r => by
    constructor
    · rintro ⟨i, hi, h1, h2⟩
      rw [← rho_step ok p r i hi] at h2
      exact ⟨i, hi, by rw [← can_rho ok]; exact h1, (comp_iff m (p + 1) _).1 h2⟩
    · rintro ⟨i, hi, h1, h2⟩
      refine ⟨i, hi, by rw [can_rho ok]; exact h1, ?_⟩
      rw [← rho_step ok p r i hi]
      exact (comp_iff m (p + 1) _).2 h2
omit ok in
theorem left_of {p r i : Nat} (hp : p < D.size) (hi : i < D.n) (h1 : D.can r p i = true) (h2 : D.left (p + 1) (D.stepR r p i)) : D.left p r := by
  unfold left at *
  rw [show D.size - p = (D.size - (p + 1)) + 1 by omega]
  exact ⟨i, hi, h1, h2⟩
omit ok in
theorem now_of : ∀ p r, p ≤ D.size → D.reach D.stepR p r → D.left p r → D.now p r
  | 0, r, _, h, _ => h
  | p + 1, r, hp, ⟨r', i, h1, hi, h2, h3⟩, hl => by
    refine ⟨r', i, now_of p r' (by omega) h1 (left_of hp hi h2 (by rw [← h3]; exact hl)), hi, h2, hl, h3⟩
omit ok in
theorem reach_of_now : ∀ p r, D.now p r → D.reach D.stepR p r
  | 0, r, h => h
  | p + 1, r, ⟨r', i, h1, hi, h2, _, h3⟩ => ⟨r', i, reach_of_now p r' h1, hi, h2, h3⟩
theorem at_stand {p i : Nat} (hp : p < D.size) (hi : i < D.n) : D.at_ p i ↔ D.stand p i := by
  constructor
  · rintro ⟨s, ⟨h1, h2⟩, h3, h4, h5⟩
    obtain ⟨r, h6, rfl⟩ := (reach_iff ok p s).1 h1
    rw [can_rho ok] at h3
    rw [← rho_step ok p r i hi, comp_iff ok] at h5
    exact ⟨r, now_of p r (by omega) h6 (left_of hp hi h3 h5), h3, h5⟩
  · rintro ⟨r, h1, h2, h3⟩
    have hr := reach_of_now p r h1
    refine ⟨D.rho p r, ⟨(reach_iff ok p _).2 ⟨r, hr, rfl⟩, ?_⟩, by rw [can_rho ok]; exact h2, (reach_iff ok (p + 1) _).2 ⟨D.stepR r p i, ⟨r, i, hr, hi, h2, rfl⟩, (rho_step ok p r i hi).symm⟩, ?_⟩
    · rw [comp_iff ok]; exact left_of hp hi h2 h3
    · rw [← rho_step ok p r i hi, comp_iff ok]; exact h3
theorem reach_lt : ∀ p s, D.reach D.stepI p s → s < D.c ^ (D.w + 1)
  | 0, s, h => by have : s = 0 := h; rw [this]; exact Nat.pow_pos ok.hc
  | p + 1, s, ⟨s', i, _, hi, _, h⟩ => by rw [h]; exact stepI_lt ok hi
theorem now_lt : ∀ p s, D.now p s → s < D.c ^ (D.w + 1)
  | 0, s, h => by have : s = 0 := h; rw [this]; exact Nat.pow_pos ok.hc
  | p + 1, s, ⟨s', i, _, hi, _, _, h⟩ => by rw [h]; exact stepR_lt ok hi
omit ok in
/-- Some tile stands at each place, if there is a filling at all; and if there is none, none stands at the first place. -/
theorem stand_some (h0 : D.left 0 0) : ∀ p, p < D.size → ∃ i, i < D.n ∧ D.stand p i := by
  have key : ∀ p, p ≤ D.size → ∃ r, D.now p r ∧ D.left p r := by
    intro p
    induction p with
    | zero => intro _; exact ⟨0, rfl, h0⟩
    | succ p ih =>
      intro hp
      obtain ⟨r, h1, h2⟩ := ih (by omega)
      have h2' := h2
      unfold left at h2'
      rw [show D.size - p = (D.size - (p + 1)) + 1 by omega] at h2'
      obtain ⟨i, hi, h3, h4⟩ := h2'
      exact ⟨_, ⟨r, i, h1, hi, h3, h4, rfl⟩, h4⟩
  intro p hp
  obtain ⟨r, h1, h2⟩ := key p (by omega)
  have h2' := h2
  unfold left at h2'
  rw [show D.size - p = (D.size - (p + 1)) + 1 by omega] at h2'
  obtain ⟨i, hi, h3, h4⟩ := h2'
  exact ⟨i, hi, r, h1, h3, h4⟩
omit ok in
theorem stand_none (hs : 0 < D.size) (h0 : ¬ D.left 0 0) (i : Nat) (hi : i < D.n) : ¬ D.stand 0 i := by
  rintro ⟨r, h1, h2, h3⟩
  have : r = 0 := h1
  subst this
  exact h0 (left_of hs hi h2 h3)
theorem alive_zero : D.alive 0 0 ↔ D.left 0 0 := by
  unfold alive left
  have h0 : D.rho 0 0 = 0 := by unfold rho; simp
  have := comp_iff ok (D.size - 0) 0 0
  rw [h0] at this
  rw [this]
  exact ⟨fun h => h.2, fun h => ⟨rfl, h⟩⟩
end Dp
end Go.Proofs.Ytgeakkmpohjohaa.Cl

/- Typed forms of functions of the program, and their links. Printed by program. No claim is stated here. -/
set_option linter.unusedVariables false
namespace Go.Proofs.Ytgeakkmpohjohaa.Cl
open Go
/-! ### loop.example/g01354/spec.l03Fits -/
def spec_l03Fits_M : Nat → List Nat := fun i => bif i == 1006 then [12] else bif i == 2006 then [0, 0, 2, 7, 15, 31, 63, 127, 255, 511, 1023, 2047, 4095, 8191, 16383, 4095, 65535, 131071, 4095, 266239, 1048575, 2097151, 4194303, 8388607, 8388607, 25165823, 67108863, 134217727, 268435455, 536870911, 1073741823, 2147483647, 4294967295, 8589934591, 17179869183, 34359738367, 68719476735, 137438953471, 34359738367, 549755813887, 1099511627775, 34359738367, 2233382993919, 8796093022207, 17592186044415, 35184372088831, 70368744177663] else bif i == 1005 then [12] else bif i == 1004 then [2, 3, 4, 13, 14, 15, 87] else bif i == 2004 then [0, 1, 3, 7, 15, 31, 63, 127, 255, 511, 1023, 2047, 4095, 1023, 16383, 32767, 1023, 66559, 262143, 524287, 1048575, 2097151, 4194303, 8388607, 16777215, 33554431, 67108863, 134217727, 268435455, 536870911, 1073741823, 2147483647, 4294967295, 8589934591, 2147483647, 34359738367, 68719476735, 2147483647, 139586437119, 549755813887, 1099511627775, 2199023255551] else bif i == 1003 then [2, 3, 4, 13, 14, 15] else bif i == 2003 then [0, 1, 0, 4, 12, 28, 0, 64, 0, 448, 960, 0, 2051, 6207, 16383] else bif i == 1002 then [12] else bif i == 1001 then [1, 2, 3, 4, 5, 6, 34] else bif i == 1000 then [1, 2, 3, 4, 5, 6] else []
theorem spec_l03Fits_sp : (bodyOf Try.f52) = .seq (sub [0] (bodyOf Try.f52)) (sub [1] (bodyOf Try.f52)) := by kernel_rfl
def spec_l03Fits_ks0 (S : SatT) (K : AVal → H → Prop) : Kont := kSeq (cwp S tab spec_l03Fits_M [] (sub [1] (bodyOf Try.f52)) (kFun tab (Try.f52).results.toList K)) (kFun tab (Try.f52).results.toList K)
def spec_l03Fits_f0 (s1_ : Sl) (s2_ : Sl) (i3_ : Int) (i4_ : Int) (i5_ : Int) (p6_ : Pt) : Frame := [U, .sl s1_, .sl s2_, .int .i64 i3_, .int .i64 i4_, .int .i64 i5_, .ptr p6_, U, U, U, U, U, U, U, U, U, U, U, U, U, U, U, U, U, U, U, U, U, U, U, U, U, U, U, U, U, U, U, U, U, U, U, U, U, U, U, U, U, U, U, U, U, U, U, U, U, U, U, U, U, U, U, U, U, U, U, U, U, U, U, U, U, U, U, U, U, U, U, U, U, U, U, U, U, U, U, U, U, U, U, U, U, U, U, U, U, U, U, U, U, U, U, U, U, U, U, U, U, U, U, U, U, U, U, U, U, U, U, U, U, U, U, U, U, U, U, U, U, U, U, U, U, U, U]
def spec_l03Fits_g0_0 (S : SatT) (k : Kont) (x0 : List AVal) (x1 : Sl) (x2 : Sl) (x3 : Int) (x4 : Int) (x5 : Int) (h : H) : Prop :=
 newK 2 x0 h fun p0 h1 =>
 k .normal (spec_l03Fits_f0 x1 x2 x3 x4 x5 p0) h1
theorem spec_l03Fits_g0_0_link (S : SatT) (k : Kont) (m : List Nat) (x0 : List AVal) (x1 : Sl) (x2 : Sl) (x3 : Int) (x4 : Int) (x5 : Int) (h : H) : cwp S tab spec_l03Fits_M m (sub [0] (bodyOf Try.f52)) k (fr0 Try.f52 [.agg x0, .sl x1, .sl x2, .int .i64 x3, .int .i64 x4, .int .i64 x5]) h = spec_l03Fits_g0_0 S k x0 x1 x2 x3 x4 x5 h := by kernel_rfl
theorem spec_l03Fits_sp_1 : (sub [1] (bodyOf Try.f52)) = .seq (sub [1, 0] (bodyOf Try.f52)) (sub [1, 1] (bodyOf Try.f52)) := by kernel_rfl
theorem spec_l03Fits_sp_1_0 : (sub [1, 0] (bodyOf Try.f52)) = .seq (sub [1, 0, 0] (bodyOf Try.f52)) (sub [1, 0, 1] (bodyOf Try.f52)) := by kernel_rfl
def spec_l03Fits_ks1 (S : SatT) (K : AVal → H → Prop) : Kont := kSeq (cwp S tab spec_l03Fits_M [] (sub [1, 1] (bodyOf Try.f52)) (kFun tab (Try.f52).results.toList K)) (kFun tab (Try.f52).results.toList K)
def spec_l03Fits_ks2 (S : SatT) (K : AVal → H → Prop) : Kont := kSeq (cwp S tab spec_l03Fits_M [] (sub [1, 0, 1] (bodyOf Try.f52)) (spec_l03Fits_ks1 S K)) (spec_l03Fits_ks1 S K)
def spec_l03Fits_f1 (s1_ : Sl) (s2_ : Sl) (i3_ : Int) (i4_ : Int) (i5_ : Int) (p6_ : Pt) (b34_ : Bool) : Frame := [U, .sl s1_, .sl s2_, .int .i64 i3_, .int .i64 i4_, .int .i64 i5_, .ptr p6_, U, U, U, U, U, U, U, U, U, U, U, U, U, U, U, U, U, U, U, U, U, U, U, U, U, U, U, .bool b34_, U, U, U, U, U, U, U, U, U, U, U, U, U, U, U, U, U, U, U, U, U, U, U, U, U, U, U, U, U, U, U, U, U, U, U, U, U, U, U, U, U, U, U, U, U, U, U, U, U, U, U, U, U, U, U, U, U, U, U, U, U, U, U, U, U, U, U, U, U, U, U, U, U, U, U, U, U, U, U, U, U, U, U, U, U, U, U, U, U, U, U, U, U, U, U, U, U, U, U]
def spec_l03Fits_g1_0 (S : SatT) (k : Kont) (s1_ : Sl) (s2_ : Sl) (i3_ : Int) (i4_ : Int) (i5_ : Int) (p6_ : Pt) (h : H) : Prop :=
 ixS s1_ 1 i3_ fun p0 =>
 ldS p0 h fun s1 =>
 ixS s1 1 i4_ fun p2 =>
 ldI .i64 p2 h fun n3 =>
 bif (decide (n3 ≥ (0))) then
 ixS s1_ 1 i3_ fun p4 =>
 ldS p4 h fun s5 =>
 ixS s5 1 i4_ fun p6 =>
 ldI .i64 p6 h fun n7 =>
 k .normal (spec_l03Fits_f1 s1_ s2_ i3_ i4_ i5_ p6_ (n7 != i5_)) h
 else
 k .normal (spec_l03Fits_f1 s1_ s2_ i3_ i4_ i5_ p6_ false) h
theorem spec_l03Fits_g1_0_link (S : SatT) (k : Kont) (m : List Nat) (s1_ : Sl) (s2_ : Sl) (i3_ : Int) (i4_ : Int) (i5_ : Int) (p6_ : Pt) (h : H) : cwp S tab spec_l03Fits_M m (sub [1, 0, 0] (bodyOf Try.f52)) k (spec_l03Fits_f0 s1_ s2_ i3_ i4_ i5_ p6_) h = spec_l03Fits_g1_0 S k s1_ s2_ i3_ i4_ i5_ p6_ h := by kernel_rfl
theorem spec_l03Fits_sp_1_0_1 : (sub [1, 0, 1] (bodyOf Try.f52)) = .cond (.tmp 34) (sub [1, 0, 1, 0] (bodyOf Try.f52)) (sub [1, 0, 1, 1] (bodyOf Try.f52)) := by kernel_rfl
theorem spec_l03Fits_sp_1_0_1_0 : (sub [1, 0, 1, 0] (bodyOf Try.f52)) = .seq (sub [1, 0, 1, 0, 0] (bodyOf Try.f52)) (sub [1, 0, 1, 0, 1] (bodyOf Try.f52)) := by kernel_rfl
def spec_l03Fits_ks3 (S : SatT) (K : AVal → H → Prop) : Kont := kSeq (cwp S tab spec_l03Fits_M [] (sub [1, 0, 1, 0, 1] (bodyOf Try.f52)) (spec_l03Fits_ks1 S K)) (spec_l03Fits_ks1 S K)
def spec_l03Fits_f2 (b12_ : Bool) : Frame := [U, U, U, U, U, U, U, U, U, U, U, U, .bool b12_, U, U, U, U, U, U, U, U, U, U, U, U, U, U, U, U, U, U, U, U, U, U, U, U, U, U, U, U, U, U, U, U, U, U, U, U, U, U, U, U, U, U, U, U, U, U, U, U, U, U, U, U, U, U, U, U, U, U, U, U, U, U, U, U, U, U, U, U, U, U, U, U, U, U, U, U, U, U, U, U, U, U, U, U, U, U, U, U, U, U, U, U, U, U, U, U, U, U, U, U, U, U, U, U, U, U, U, U, U, U, U, U, U, U, U, U, U, U, U, U, U]
def spec_l03Fits_g2_0 (S : SatT) (k : Kont) (s1_ : Sl) (s2_ : Sl) (i3_ : Int) (i4_ : Int) (i5_ : Int) (p6_ : Pt) (b34_ : Bool) (h : H) : Prop :=
 k .normal (spec_l03Fits_f2 false) h
theorem spec_l03Fits_g2_0_link (S : SatT) (k : Kont) (m : List Nat) (s1_ : Sl) (s2_ : Sl) (i3_ : Int) (i4_ : Int) (i5_ : Int) (p6_ : Pt) (b34_ : Bool) (h : H) : cwp S tab spec_l03Fits_M m (sub [1, 0, 1, 0, 0] (bodyOf Try.f52)) k (spec_l03Fits_f1 s1_ s2_ i3_ i4_ i5_ p6_ b34_) h = spec_l03Fits_g2_0 S k s1_ s2_ i3_ i4_ i5_ p6_ b34_ h := by kernel_rfl
theorem spec_l03Fits_sp_1_0_1_0_1 : (sub [1, 0, 1, 0, 1] (bodyOf Try.f52)) = .ret := by kernel_rfl
def spec_l03Fits_r2 (S : SatT) (K : AVal → H → Prop) (b12_ : Bool) (h : H) : Prop :=
 K (.bool b12_) h
theorem spec_l03Fits_cut2 (S : SatT) (K : AVal → H → Prop) (b12_ : Bool) (h : H) : (spec_l03Fits_ks3 S K) .normal (spec_l03Fits_f2 b12_) h = spec_l03Fits_r2 S K b12_ h := by
  unfold spec_l03Fits_r2
  refine (kSeq_n _ _ _ _).trans ?_
  refine (cwp_sp_ret spec_l03Fits_sp_1_0_1_0_1).trans ?_
  refine (kSeq_r _ _ _ _).trans ?_
  kernel_rfl
theorem spec_l03Fits_sp_1_0_1_1 : (sub [1, 0, 1, 1] (bodyOf Try.f52)) = .skip := by kernel_rfl
theorem spec_l03Fits_sp_1_1 : (sub [1, 1] (bodyOf Try.f52)) = .seq (sub [1, 1, 0] (bodyOf Try.f52)) (sub [1, 1, 1] (bodyOf Try.f52)) := by kernel_rfl
def spec_l03Fits_ks4 (S : SatT) (K : AVal → H → Prop) : Kont := kSeq (cwp S tab spec_l03Fits_M [] (sub [1, 1, 1] (bodyOf Try.f52)) (kFun tab (Try.f52).results.toList K)) (kFun tab (Try.f52).results.toList K)
def spec_l03Fits_f3 (s2_ : Sl) (i3_ : Int) (i4_ : Int) (i13_ : Int) (i14_ : Int) (p15_ : Pt) : Frame := [U, U, .sl s2_, .int .i64 i3_, .int .i64 i4_, U, U, U, U, U, U, U, U, .int .i64 i13_, .int .i64 i14_, .ptr p15_, U, U, U, U, U, U, U, U, U, U, U, U, U, U, U, U, U, U, U, U, U, U, U, U, U, U, U, U, U, U, U, U, U, U, U, U, U, U, U, U, U, U, U, U, U, U, U, U, U, U, U, U, U, U, U, U, U, U, U, U, U, U, U, U, U, U, U, U, U, U, U, U, U, U, U, U, U, U, U, U, U, U, U, U, U, U, U, U, U, U, U, U, U, U, U, U, U, U, U, U, U, U, U, U, U, U, U, U, U, U, U, U, U, U, U, U, U, U]
def spec_l03Fits_g3_0 (S : SatT) (k : Kont) (s1_ : Sl) (s2_ : Sl) (i3_ : Int) (i4_ : Int) (i5_ : Int) (p6_ : Pt) (b34_ : Bool) (h : H) : Prop :=
 ixS s1_ 1 (0) fun p0 =>
 ldS p0 h fun s1 =>
 isPt p6_ (
 ldS (Pt.add p6_ 1) h fun s2 =>
 ixS s2 4 i5_ fun p3 =>
 ldA p3 4 h fun cs4 =>
 newO [.int .i64 (0), .int .i64 (0), .int .i64 (0), .int .i64 (0)] h fun p5 h6 =>
(range h6 p3.o p3.n p3.off 4 = range h p3.o p3.n p3.off 4) ∧ (
(cell h6 (Pt.add p6_ 1) = cell h (Pt.add p6_ 1)) ∧ (
(cell h6 p0 = cell h p0) ∧ (
 stN p5 4 cs4 h6 fun h7 =>
 k .normal (spec_l03Fits_f3 s2_ i3_ i4_ (s1_.len : Int) (s1.len : Int) p5) h7))))
theorem spec_l03Fits_g3_0_link (S : SatT) (k : Kont) (m : List Nat) (s1_ : Sl) (s2_ : Sl) (i3_ : Int) (i4_ : Int) (i5_ : Int) (p6_ : Pt) (b34_ : Bool) (h : H) : cwp S tab spec_l03Fits_M m (sub [1, 1, 0] (bodyOf Try.f52)) k (spec_l03Fits_f1 s1_ s2_ i3_ i4_ i5_ p6_ b34_) h = spec_l03Fits_g3_0 S k s1_ s2_ i3_ i4_ i5_ p6_ b34_ h := by kernel_rfl
theorem spec_l03Fits_sp_1_1_1 : (sub [1, 1, 1] (bodyOf Try.f52)) = .seq (sub [1, 1, 1, 0] (bodyOf Try.f52)) (sub [1, 1, 1, 1] (bodyOf Try.f52)) := by kernel_rfl
theorem spec_l03Fits_sp_1_1_1_0 : (sub [1, 1, 1, 0] (bodyOf Try.f52)) = .seq (sub [1, 1, 1, 0, 0] (bodyOf Try.f52)) (sub [1, 1, 1, 0, 1] (bodyOf Try.f52)) := by kernel_rfl
def spec_l03Fits_ks5 (S : SatT) (K : AVal → H → Prop) : Kont := kSeq (cwp S tab spec_l03Fits_M [] (sub [1, 1, 1, 1] (bodyOf Try.f52)) (kFun tab (Try.f52).results.toList K)) (kFun tab (Try.f52).results.toList K)
def spec_l03Fits_ks6 (S : SatT) (K : AVal → H → Prop) : Kont := kSeq (cwp S tab spec_l03Fits_M [] (sub [1, 1, 1, 0, 1] (bodyOf Try.f52)) (spec_l03Fits_ks5 S K)) (spec_l03Fits_ks5 S K)
def spec_l03Fits_f4 (s2_ : Sl) (i3_ : Int) (i4_ : Int) (i13_ : Int) (i14_ : Int) (p15_ : Pt) (b87_ : Bool) : Frame := [U, U, .sl s2_, .int .i64 i3_, .int .i64 i4_, U, U, U, U, U, U, U, U, .int .i64 i13_, .int .i64 i14_, .ptr p15_, U, U, U, U, U, U, U, U, U, U, U, U, U, U, U, U, U, U, U, U, U, U, U, U, U, U, U, U, U, U, U, U, U, U, U, U, U, U, U, U, U, U, U, U, U, U, U, U, U, U, U, U, U, U, U, U, U, U, U, U, U, U, U, U, U, U, U, U, U, U, U, .bool b87_, U, U, U, U, U, U, U, U, U, U, U, U, U, U, U, U, U, U, U, U, U, U, U, U, U, U, U, U, U, U, U, U, U, U, U, U, U, U, U, U, U, U, U, U, U, U]
def spec_l03Fits_g4_0 (S : SatT) (k : Kont) (s2_ : Sl) (i3_ : Int) (i4_ : Int) (i13_ : Int) (i14_ : Int) (p15_ : Pt) (h : H) : Prop :=
 bif (i4_ == (0)) then
 ixS s2_ 1 (0) fun p0 =>
 ldS p0 h fun s1 =>
 bif (decide ((s1.len : Int) > (0))) then
 ixS s2_ 1 (0) fun p2 =>
 ldS p2 h fun s3 =>
 ixS s3 1 i3_ fun p4 =>
 ldI .i64 p4 h fun n5 =>
 ixA p15_ 4 1 (0) fun p6 =>
 ldI .i64 p6 h fun n7 =>
 bif (n5 != n7) then
 k .normal (spec_l03Fits_f4 s2_ i3_ i4_ i13_ i14_ p15_ true) h
 else
 bif (i3_ == (0)) then
 ixS s2_ 1 (1) fun p8 =>
 ldS p8 h fun s9 =>
 bif (decide ((s9.len : Int) > (0))) then
 ixS s2_ 1 (1) fun p10 =>
 ldS p10 h fun s11 =>
 ixS s11 1 i4_ fun p12 =>
 ldI .i64 p12 h fun n13 =>
 ixA p15_ 4 1 (1) fun p14 =>
 ldI .i64 p14 h fun n15 =>
 k .normal (spec_l03Fits_f4 s2_ i3_ i4_ i13_ i14_ p15_ (n13 != n15)) h
 else
 k .normal (spec_l03Fits_f4 s2_ i3_ i4_ i13_ i14_ p15_ false) h
 else
 k .normal (spec_l03Fits_f4 s2_ i3_ i4_ i13_ i14_ p15_ false) h
 else
 bif (i3_ == (0)) then
 ixS s2_ 1 (1) fun p16 =>
 ldS p16 h fun s17 =>
 bif (decide ((s17.len : Int) > (0))) then
 ixS s2_ 1 (1) fun p18 =>
 ldS p18 h fun s19 =>
 ixS s19 1 i4_ fun p20 =>
 ldI .i64 p20 h fun n21 =>
 ixA p15_ 4 1 (1) fun p22 =>
 ldI .i64 p22 h fun n23 =>
 k .normal (spec_l03Fits_f4 s2_ i3_ i4_ i13_ i14_ p15_ (n21 != n23)) h
 else
 k .normal (spec_l03Fits_f4 s2_ i3_ i4_ i13_ i14_ p15_ false) h
 else
 k .normal (spec_l03Fits_f4 s2_ i3_ i4_ i13_ i14_ p15_ false) h
 else
 bif (i3_ == (0)) then
 ixS s2_ 1 (1) fun p24 =>
 ldS p24 h fun s25 =>
 bif (decide ((s25.len : Int) > (0))) then
 ixS s2_ 1 (1) fun p26 =>
 ldS p26 h fun s27 =>
 ixS s27 1 i4_ fun p28 =>
 ldI .i64 p28 h fun n29 =>
 ixA p15_ 4 1 (1) fun p30 =>
 ldI .i64 p30 h fun n31 =>
 k .normal (spec_l03Fits_f4 s2_ i3_ i4_ i13_ i14_ p15_ (n29 != n31)) h
 else
 k .normal (spec_l03Fits_f4 s2_ i3_ i4_ i13_ i14_ p15_ false) h
 else
 k .normal (spec_l03Fits_f4 s2_ i3_ i4_ i13_ i14_ p15_ false) h
theorem spec_l03Fits_g4_0_link (S : SatT) (k : Kont) (m : List Nat) (s2_ : Sl) (i3_ : Int) (i4_ : Int) (i13_ : Int) (i14_ : Int) (p15_ : Pt) (h : H) : cwp S tab spec_l03Fits_M m (sub [1, 1, 1, 0, 0] (bodyOf Try.f52)) k (spec_l03Fits_f3 s2_ i3_ i4_ i13_ i14_ p15_) h = spec_l03Fits_g4_0 S k s2_ i3_ i4_ i13_ i14_ p15_ h := by kernel_rfl
theorem spec_l03Fits_sp_1_1_1_0_1 : (sub [1, 1, 1, 0, 1] (bodyOf Try.f52)) = .cond (.tmp 87) (sub [1, 1, 1, 0, 1, 0] (bodyOf Try.f52)) (sub [1, 1, 1, 0, 1, 1] (bodyOf Try.f52)) := by kernel_rfl
theorem spec_l03Fits_sp_1_1_1_0_1_0 : (sub [1, 1, 1, 0, 1, 0] (bodyOf Try.f52)) = .seq (sub [1, 1, 1, 0, 1, 0, 0] (bodyOf Try.f52)) (sub [1, 1, 1, 0, 1, 0, 1] (bodyOf Try.f52)) := by kernel_rfl
def spec_l03Fits_ks7 (S : SatT) (K : AVal → H → Prop) : Kont := kSeq (cwp S tab spec_l03Fits_M [] (sub [1, 1, 1, 0, 1, 0, 1] (bodyOf Try.f52)) (spec_l03Fits_ks5 S K)) (spec_l03Fits_ks5 S K)
def spec_l03Fits_f5 (b12_ : Bool) : Frame := [U, U, U, U, U, U, U, U, U, U, U, U, .bool b12_, U, U, U, U, U, U, U, U, U, U, U, U, U, U, U, U, U, U, U, U, U, U, U, U, U, U, U, U, U, U, U, U, U, U, U, U, U, U, U, U, U, U, U, U, U, U, U, U, U, U, U, U, U, U, U, U, U, U, U, U, U, U, U, U, U, U, U, U, U, U, U, U, U, U, U, U, U, U, U, U, U, U, U, U, U, U, U, U, U, U, U, U, U, U, U, U, U, U, U, U, U, U, U, U, U, U, U, U, U, U, U, U, U, U, U, U, U, U, U, U, U]
def spec_l03Fits_g5_0 (S : SatT) (k : Kont) (s2_ : Sl) (i3_ : Int) (i4_ : Int) (i13_ : Int) (i14_ : Int) (p15_ : Pt) (b87_ : Bool) (h : H) : Prop :=
 k .normal (spec_l03Fits_f5 false) h
theorem spec_l03Fits_g5_0_link (S : SatT) (k : Kont) (m : List Nat) (s2_ : Sl) (i3_ : Int) (i4_ : Int) (i13_ : Int) (i14_ : Int) (p15_ : Pt) (b87_ : Bool) (h : H) : cwp S tab spec_l03Fits_M m (sub [1, 1, 1, 0, 1, 0, 0] (bodyOf Try.f52)) k (spec_l03Fits_f4 s2_ i3_ i4_ i13_ i14_ p15_ b87_) h = spec_l03Fits_g5_0 S k s2_ i3_ i4_ i13_ i14_ p15_ b87_ h := by kernel_rfl
theorem spec_l03Fits_sp_1_1_1_0_1_0_1 : (sub [1, 1, 1, 0, 1, 0, 1] (bodyOf Try.f52)) = .ret := by kernel_rfl
def spec_l03Fits_r5 (S : SatT) (K : AVal → H → Prop) (b12_ : Bool) (h : H) : Prop :=
 K (.bool b12_) h
theorem spec_l03Fits_cut5 (S : SatT) (K : AVal → H → Prop) (b12_ : Bool) (h : H) : (spec_l03Fits_ks7 S K) .normal (spec_l03Fits_f5 b12_) h = spec_l03Fits_r5 S K b12_ h := by
  unfold spec_l03Fits_r5
  refine (kSeq_n _ _ _ _).trans ?_
  refine (cwp_sp_ret spec_l03Fits_sp_1_1_1_0_1_0_1).trans ?_
  refine (kSeq_r _ _ _ _).trans ?_
  kernel_rfl
theorem spec_l03Fits_sp_1_1_1_0_1_1 : (sub [1, 1, 1, 0, 1, 1] (bodyOf Try.f52)) = .skip := by kernel_rfl
theorem spec_l03Fits_sp_1_1_1_1 : (sub [1, 1, 1, 1] (bodyOf Try.f52)) = .seq (sub [1, 1, 1, 1, 0] (bodyOf Try.f52)) (sub [1, 1, 1, 1, 1] (bodyOf Try.f52)) := by kernel_rfl
def spec_l03Fits_ks8 (S : SatT) (K : AVal → H → Prop) : Kont := kSeq (cwp S tab spec_l03Fits_M [] (sub [1, 1, 1, 1, 1] (bodyOf Try.f52)) (kFun tab (Try.f52).results.toList K)) (kFun tab (Try.f52).results.toList K)
def spec_l03Fits_f6 (b12_ : Bool) : Frame := [U, U, U, U, U, U, U, U, U, U, U, U, .bool b12_, U, U, U, U, U, U, U, U, U, U, U, U, U, U, U, U, U, U, U, U, U, U, U, U, U, U, U, U, U, U, U, U, U, U, U, U, U, U, U, U, U, U, U, U, U, U, U, U, U, U, U, U, U, U, U, U, U, U, U, U, U, U, U, U, U, U, U, U, U, U, U, U, U, U, U, U, U, U, U, U, U, U, U, U, U, U, U, U, U, U, U, U, U, U, U, U, U, U, U, U, U, U, U, U, U, U, U, U, U, U, U, U, U, U, U, U, U, U, U, U, U]
def spec_l03Fits_g6_0 (S : SatT) (k : Kont) (s2_ : Sl) (i3_ : Int) (i4_ : Int) (i13_ : Int) (i14_ : Int) (p15_ : Pt) (b87_ : Bool) (h : H) : Prop :=
 bif (i4_ != (w64 (i14_ - (1)))) then
 bif (i3_ != (w64 (i13_ - (1)))) then
 k .normal (spec_l03Fits_f6 true) h
 else
 ixS s2_ 1 (3) fun p0 =>
 ldS p0 h fun s1 =>
 bif ((s1.len : Int) == (0)) then
 k .normal (spec_l03Fits_f6 true) h
 else
 ixS s2_ 1 (3) fun p2 =>
 ldS p2 h fun s3 =>
 ixS s3 1 i4_ fun p4 =>
 ldI .i64 p4 h fun n5 =>
 ixA p15_ 4 1 (3) fun p6 =>
 ldI .i64 p6 h fun n7 =>
 k .normal (spec_l03Fits_f6 (n5 == n7)) h
 else
 ixS s2_ 1 (2) fun p8 =>
 ldS p8 h fun s9 =>
 bif ((s9.len : Int) == (0)) then
 bif (i3_ != (w64 (i13_ - (1)))) then
 k .normal (spec_l03Fits_f6 true) h
 else
 ixS s2_ 1 (3) fun p10 =>
 ldS p10 h fun s11 =>
 bif ((s11.len : Int) == (0)) then
 k .normal (spec_l03Fits_f6 true) h
 else
 ixS s2_ 1 (3) fun p12 =>
 ldS p12 h fun s13 =>
 ixS s13 1 i4_ fun p14 =>
 ldI .i64 p14 h fun n15 =>
 ixA p15_ 4 1 (3) fun p16 =>
 ldI .i64 p16 h fun n17 =>
 k .normal (spec_l03Fits_f6 (n15 == n17)) h
 else
 ixS s2_ 1 (2) fun p18 =>
 ldS p18 h fun s19 =>
 ixS s19 1 i3_ fun p20 =>
 ldI .i64 p20 h fun n21 =>
 ixA p15_ 4 1 (2) fun p22 =>
 ldI .i64 p22 h fun n23 =>
 bif (n21 == n23) then
 bif (i3_ != (w64 (i13_ - (1)))) then
 k .normal (spec_l03Fits_f6 true) h
 else
 ixS s2_ 1 (3) fun p24 =>
 ldS p24 h fun s25 =>
 bif ((s25.len : Int) == (0)) then
 k .normal (spec_l03Fits_f6 true) h
 else
 ixS s2_ 1 (3) fun p26 =>
 ldS p26 h fun s27 =>
 ixS s27 1 i4_ fun p28 =>
 ldI .i64 p28 h fun n29 =>
 ixA p15_ 4 1 (3) fun p30 =>
 ldI .i64 p30 h fun n31 =>
 k .normal (spec_l03Fits_f6 (n29 == n31)) h
 else
 k .normal (spec_l03Fits_f6 false) h
theorem spec_l03Fits_g6_0_link (S : SatT) (k : Kont) (m : List Nat) (s2_ : Sl) (i3_ : Int) (i4_ : Int) (i13_ : Int) (i14_ : Int) (p15_ : Pt) (b87_ : Bool) (h : H) : cwp S tab spec_l03Fits_M m (sub [1, 1, 1, 1, 0] (bodyOf Try.f52)) k (spec_l03Fits_f4 s2_ i3_ i4_ i13_ i14_ p15_ b87_) h = spec_l03Fits_g6_0 S k s2_ i3_ i4_ i13_ i14_ p15_ b87_ h := by kernel_rfl
theorem spec_l03Fits_sp_1_1_1_1_1 : (sub [1, 1, 1, 1, 1] (bodyOf Try.f52)) = .ret := by kernel_rfl
def spec_l03Fits_r6 (S : SatT) (K : AVal → H → Prop) (b12_ : Bool) (h : H) : Prop :=
 K (.bool b12_) h
theorem spec_l03Fits_cut6 (S : SatT) (K : AVal → H → Prop) (b12_ : Bool) (h : H) : (spec_l03Fits_ks8 S K) .normal (spec_l03Fits_f6 b12_) h = spec_l03Fits_r6 S K b12_ h := by
  unfold spec_l03Fits_r6
  refine (kSeq_n _ _ _ _).trans ?_
  refine (cwp_sp_ret spec_l03Fits_sp_1_1_1_1_1).trans ?_
  kernel_rfl
def spec_l03Fits_r4 (S : SatT) (K : AVal → H → Prop) (s2_ : Sl) (i3_ : Int) (i4_ : Int) (i13_ : Int) (i14_ : Int) (p15_ : Pt) (b87_ : Bool) (h : H) : Prop :=
 bif b87_ then
 spec_l03Fits_g5_0 S (spec_l03Fits_ks7 S K) s2_ i3_ i4_ i13_ i14_ p15_ b87_ h
 else
 spec_l03Fits_g6_0 S (spec_l03Fits_ks8 S K) s2_ i3_ i4_ i13_ i14_ p15_ b87_ h
theorem spec_l03Fits_cut4 (S : SatT) (K : AVal → H → Prop) (s2_ : Sl) (i3_ : Int) (i4_ : Int) (i13_ : Int) (i14_ : Int) (p15_ : Pt) (b87_ : Bool) (h : H) : (spec_l03Fits_ks6 S K) .normal (spec_l03Fits_f4 s2_ i3_ i4_ i13_ i14_ p15_ b87_) h = spec_l03Fits_r4 S K s2_ i3_ i4_ i13_ i14_ p15_ b87_ h := by
  unfold spec_l03Fits_r4
  refine (kSeq_n _ _ _ _).trans ?_
  refine (cwp_sp_cond spec_l03Fits_sp_1_1_1_0_1 (t := b87_) rfl).trans (bif_cong ?_ ?_)
  · refine (cwp_sp_seq spec_l03Fits_sp_1_1_1_0_1_0).trans ?_
    exact spec_l03Fits_g5_0_link S _ _ s2_ i3_ i4_ i13_ i14_ p15_ b87_ h
  · refine (cwp_sp_skip spec_l03Fits_sp_1_1_1_0_1_1).trans ?_
    refine (kSeq_n _ _ _ _).trans ?_
    refine (cwp_sp_seq spec_l03Fits_sp_1_1_1_1).trans ?_
    exact spec_l03Fits_g6_0_link S _ _ s2_ i3_ i4_ i13_ i14_ p15_ b87_ h
def spec_l03Fits_r3 (S : SatT) (K : AVal → H → Prop) (s2_ : Sl) (i3_ : Int) (i4_ : Int) (i13_ : Int) (i14_ : Int) (p15_ : Pt) (h : H) : Prop :=
 spec_l03Fits_g4_0 S (spec_l03Fits_ks6 S K) s2_ i3_ i4_ i13_ i14_ p15_ h
theorem spec_l03Fits_cut3 (S : SatT) (K : AVal → H → Prop) (s2_ : Sl) (i3_ : Int) (i4_ : Int) (i13_ : Int) (i14_ : Int) (p15_ : Pt) (h : H) : (spec_l03Fits_ks4 S K) .normal (spec_l03Fits_f3 s2_ i3_ i4_ i13_ i14_ p15_) h = spec_l03Fits_r3 S K s2_ i3_ i4_ i13_ i14_ p15_ h := by
  unfold spec_l03Fits_r3
  refine (kSeq_n _ _ _ _).trans ?_
  refine (cwp_sp_seq spec_l03Fits_sp_1_1_1).trans ?_
  refine (cwp_sp_seq spec_l03Fits_sp_1_1_1_0).trans ?_
  exact spec_l03Fits_g4_0_link S _ _ s2_ i3_ i4_ i13_ i14_ p15_ h
def spec_l03Fits_r1 (S : SatT) (K : AVal → H → Prop) (s1_ : Sl) (s2_ : Sl) (i3_ : Int) (i4_ : Int) (i5_ : Int) (p6_ : Pt) (b34_ : Bool) (h : H) : Prop :=
 bif b34_ then
 spec_l03Fits_g2_0 S (spec_l03Fits_ks3 S K) s1_ s2_ i3_ i4_ i5_ p6_ b34_ h
 else
 spec_l03Fits_g3_0 S (spec_l03Fits_ks4 S K) s1_ s2_ i3_ i4_ i5_ p6_ b34_ h
theorem spec_l03Fits_cut1 (S : SatT) (K : AVal → H → Prop) (s1_ : Sl) (s2_ : Sl) (i3_ : Int) (i4_ : Int) (i5_ : Int) (p6_ : Pt) (b34_ : Bool) (h : H) : (spec_l03Fits_ks2 S K) .normal (spec_l03Fits_f1 s1_ s2_ i3_ i4_ i5_ p6_ b34_) h = spec_l03Fits_r1 S K s1_ s2_ i3_ i4_ i5_ p6_ b34_ h := by
  unfold spec_l03Fits_r1
  refine (kSeq_n _ _ _ _).trans ?_
  refine (cwp_sp_cond spec_l03Fits_sp_1_0_1 (t := b34_) rfl).trans (bif_cong ?_ ?_)
  · refine (cwp_sp_seq spec_l03Fits_sp_1_0_1_0).trans ?_
    exact spec_l03Fits_g2_0_link S _ _ s1_ s2_ i3_ i4_ i5_ p6_ b34_ h
  · refine (cwp_sp_skip spec_l03Fits_sp_1_0_1_1).trans ?_
    refine (kSeq_n _ _ _ _).trans ?_
    refine (cwp_sp_seq spec_l03Fits_sp_1_1).trans ?_
    exact spec_l03Fits_g3_0_link S _ _ s1_ s2_ i3_ i4_ i5_ p6_ b34_ h
def spec_l03Fits_r0 (S : SatT) (K : AVal → H → Prop) (s1_ : Sl) (s2_ : Sl) (i3_ : Int) (i4_ : Int) (i5_ : Int) (p6_ : Pt) (h : H) : Prop :=
 spec_l03Fits_g1_0 S (spec_l03Fits_ks2 S K) s1_ s2_ i3_ i4_ i5_ p6_ h
theorem spec_l03Fits_cut0 (S : SatT) (K : AVal → H → Prop) (s1_ : Sl) (s2_ : Sl) (i3_ : Int) (i4_ : Int) (i5_ : Int) (p6_ : Pt) (h : H) : (spec_l03Fits_ks0 S K) .normal (spec_l03Fits_f0 s1_ s2_ i3_ i4_ i5_ p6_) h = spec_l03Fits_r0 S K s1_ s2_ i3_ i4_ i5_ p6_ h := by
  unfold spec_l03Fits_r0
  refine (kSeq_n _ _ _ _).trans ?_
  refine (cwp_sp_seq spec_l03Fits_sp_1).trans ?_
  refine (cwp_sp_seq spec_l03Fits_sp_1_0).trans ?_
  exact spec_l03Fits_g1_0_link S _ _ s1_ s2_ i3_ i4_ i5_ p6_ h
def spec_l03Fits_main (S : SatT) (K : AVal → H → Prop) (x0 : List AVal) (x1 : Sl) (x2 : Sl) (x3 : Int) (x4 : Int) (x5 : Int) (h : H) : Prop :=
 spec_l03Fits_g0_0 S (spec_l03Fits_ks0 S K) x0 x1 x2 x3 x4 x5 h
theorem spec_l03Fits_main_link (S : SatT) (K : AVal → H → Prop) (x0 : List AVal) (x1 : Sl) (x2 : Sl) (x3 : Int) (x4 : Int) (x5 : Int) (h : H) : cwp S tab spec_l03Fits_M [] (bodyOf Try.f52) (kFun tab Try.f52.results.toList K) (fr0 Try.f52 [.agg x0, .sl x1, .sl x2, .int .i64 x3, .int .i64 x4, .int .i64 x5]) h = spec_l03Fits_main S K x0 x1 x2 x3 x4 x5 h := by 
  unfold spec_l03Fits_main
  refine (cwp_sp_seq spec_l03Fits_sp).trans ?_
  exact spec_l03Fits_g0_0_link S _ _ x0 x1 x2 x3 x4 x5 h
theorem spec_l03Fits_call (x0 : List AVal) (x1 : Sl) (x2 : Sl) (x3 : Int) (x4 : Int) (x5 : Int) (h : H) (K : Bool → H → Prop) (hm : spec_l03Fits_main (Sat Try.prog) (fun v h' => ∃ r, v = .bool r ∧ K r h') x0 x1 x2 x3 x4 x5 h) : callB (Sat Try.prog) i_spec_l03Fits [.agg x0, .sl x1, .sl x2, .int .i64 x3, .int .i64 x4, .int .i64 x5] h K := by
  have := Sat.ex tok mixed spec_l03Fits_M Try.func52 (c := bodyOf Try.f52) (by kernel_rfl) (calls_of Try.func52 (c := bodyOf Try.f52) (by kernel_rfl) (by decide)) ((spec_l03Fits_main_link _ _ x0 x1 x2 x3 x4 x5 h).mpr hm)
  obtain ⟨v, h2, h3, r, rfl, h4⟩ := this; exact ⟨r, h2, h3, h4⟩

end Go.Proofs.Ytgeakkmpohjohaa.Cl

/- Fillings by places: the reference's small functions. No claim is stated here. -/
set_option linter.unusedVariables false
set_option linter.unusedSimpArgs false
namespace Go.Proofs.Ytgeakkmpohjohaa.Cl
open Go
/-- Has a border the colour of a tile's side? -/
def brd (ts : List Tile) (borders : List (List Int)) (side k i : Nat) : Bool := (rw_ borders side).length == 0 || G borders side k == sd (tat ts i) side
/-- May a tile stand at a place, as far as the plan and the borders tell? -/
def bOK (ts : List Tile) (plan borders : List (List Int)) (y x i : Nat) : Bool :=
  !(decide (G plan y x ≥ 0) && G plan y x != (i : Int)) && (!((x == 0 && !brd ts borders 0 y i) || (y == 0 && !brd ts borders 1 x i)) &&
    ((x + 1 != (rw_ plan 0).length || brd ts borders 2 y i) && (y + 1 != plan.length || brd ts borders 3 x i)))
def dpOf (c : Int) (ts : List Tile) (plan borders : List (List Int)) : Dp where
  n := ts.length
  c := c.toNat
  w := (rw_ plan 0).length
  size := plan.length * (rw_ plan 0).length
  B := fun p i => bOK ts plan borders (p / (rw_ plan 0).length) (p % (rw_ plan 0).length) i
  we := fun i => (sd (tat ts i) 0).toNat
  no := fun i => (sd (tat ts i) 1).toNat
  ea := fun i => (sd (tat ts i) 2).toNat
  so := fun i => (sd (tat ts i) 3).toNat
/-- Are rows a plan, and lists its borders? -/
def PlanOK (c : Int) (n : Nat) (plan borders : List (List Int)) : Prop :=
  Tabl plan 5 ∧ (∀ y x, y < plan.length → x < (rw_ plan y).length → -1 ≤ G plan y x ∧ G plan y x < n) ∧ borders.length = 4 ∧
    ∀ k, k < 4 → ((rw_ borders k).length = 0 ∨ (rw_ borders k).length = if k % 2 = 1 then (rw_ plan 0).length else plan.length) ∧ ∀ j, j < (rw_ borders k).length → 0 ≤ G borders k j ∧ G borders k j ≤ c - 1
theorem side_ok {c : Int} {ts : List Tile} (hs : setOK c ts) {i : Nat} (hi : i < ts.length) {k : Nat} (hk : k < 4) : 0 ≤ sd (tat ts i) k ∧ sd (tat ts i) k < c := by
  have h := (hs.2.2 i hi).1
  unfold tileok at h
  simp only [Bool.and_eq_true, decide_eq_true_eq] at h
  match k, hk with
  | 0, _ => show 0 ≤ (tat ts i).1 ∧ (tat ts i).1 < c; omega
  | 1, _ => show 0 ≤ (tat ts i).2.1 ∧ (tat ts i).2.1 < c; omega
  | 2, _ => show 0 ≤ (tat ts i).2.2.1 ∧ (tat ts i).2.2.1 < c; omega
  | 3, _ => show 0 ≤ (tat ts i).2.2.2 ∧ (tat ts i).2.2.2 < c; omega
theorem dp_ok {c : Int} {ts : List Tile} {plan borders : List (List Int)} (hs : setOK c ts) (hp : PlanOK c ts.length plan borders) : (dpOf c ts plan borders).OK := by
  have hc := hs.1
  have hw := (hp.1.2 0 (by have := hp.1.1; omega)).2
  have side : ∀ i k, i < ts.length → k < 4 → (sd (tat ts i) k).toNat < c.toNat := fun i k hi hk => by have := side_ok hs hi hk; omega
  exact ⟨by show 0 < c.toNat; omega, by show 0 < (rw_ plan 0).length; omega, fun i hi => side i 0 hi (by omega), fun i hi => side i 1 hi (by omega), fun i hi => side i 2 hi (by omega), fun i hi => side i 3 hi (by omega)⟩
theorem pow_small {c k : Nat} (hc : c ≤ 6) (hk : k ≤ 6) : c ^ k ≤ 46656 :=
  Nat.le_trans (Nat.pow_le_pow_left hc k) (Nat.le_trans (Nat.pow_le_pow_right (by omega) hk) (by decide))
theorem power_c {c k : Nat} (hc : c ≤ 6) (hk : k ≤ 6) (h : H) : callI SP .i64 i_spec_l03Power [i64 c, i64 k] h fun n h' => n = ((c ^ k : Nat) : Int) ∧ h' = h := by
  apply spec_l03Power_call
  unfold spec_l03Power_main
  refine spec_l03Power_rule0 _ _ _ (fun i v g => ∃ j : Nat, i = ((k - j : Nat) : Int) ∧ j ≤ k ∧ v = ((c ^ j : Nat) : Int) ∧ g = h) (fun i _ _ => i.toNat) ?_ _ _ ⟨0, by simp, by omega, by simp, rfl⟩
  rintro X _ _ _ ⟨j, rfl, hj, rfl, rfl⟩ hX
  unfold spec_l03Power_b0 spec_l03Power_C0
  refine bif_dec (fun hi => ?_) (fun hi => ⟨_, rfl, by rw [show j = k by omega], rfl⟩)
  have hb := pow_small hc (k := j + 1) (by omega)
  rw [Nat.pow_succ] at hb
  rw [w64_of (n := ((k - j : Nat) : Int) - 1) (by omega) (by omega), show ((c ^ j : Nat) : Int) * (c : Int) = ((c ^ j * c : Nat) : Int) by push_cast; rfl, w64_of (n := ((c ^ j * c : Nat) : Int)) (by omega) (by omega)]
  exact hX _ _ _ ⟨j + 1, by omega, by omega, by rw [Nat.pow_succ], rfl⟩ (by omega)
theorem digit_c {c k s : Nat} (hc0 : 0 < c) (hc : c ≤ 6) (hk : k ≤ 6) (hs : s ≤ 46656) (h : H) : callI SP .i64 i_spec_l03Digit [i64 s, i64 c, i64 k] h fun n h' => n = ((dig c s k : Nat) : Int) ∧ h' = h := by
  apply spec_l03Digit_call
  unfold spec_l03Digit_main
  refine (power_c hc hk h).to ?_
  rintro _ _ ⟨rfl, rfl⟩
  have hp : 0 < c ^ k := Nat.pow_pos hc0
  have hd : s / c ^ k ≤ s := Nat.div_le_self _ _
  refine ⟨by omega, by omega, _, rfl, ?_, rfl⟩
  rw [show Int.tdiv (s : Int) ((c ^ k : Nat) : Int) = ((s / c ^ k : Nat) : Int) from rfl]
  obtain ⟨q, hq⟩ : ∃ q, s / c ^ k = q := ⟨_, rfl⟩
  rw [hq] at hd ⊢
  rw [w64_of (by omega) (by omega), ← hq]
  rfl
/-- The state behind a tile, as it is computed. -/
theorem stepR_int {D : Dp} (ok : D.OK) {s p i : Nat} (hi : i < D.n) :
    (D.stepR s p i : Int) = s + ((D.so i : Int) - (dig D.c s (p % D.w) : Nat)) * ((D.c ^ (p % D.w) : Nat) : Int) + ((D.ea i : Int) - (s / D.c ^ D.w : Nat)) * ((D.c ^ D.w : Nat) : Int) := by
  unfold Dp.stepR
  have h1 := setD_eq D.c (p % D.w) (D.so i) (s % D.top)
  rw [show D.top = D.c ^ D.w from rfl, dig_mod (Nat.mod_lt _ ok.hw)] at h1
  have h2 := Nat.div_add_mod s (D.c ^ D.w)
  have h3 : ((D.c ^ D.w * (s / D.c ^ D.w) : Nat) : Int) + ((s % D.c ^ D.w : Nat) : Int) = s := by exact_mod_cast h2
  rw [show D.top = D.c ^ D.w from rfl, Int.natCast_add, h1, Int.sub_mul ((D.ea i : Int))]
  rw [← Int.natCast_mul (D.ea i), ← Int.natCast_mul (s / D.c ^ D.w), Nat.mul_comm (s / D.c ^ D.w)]
  omega
theorem set_bound {D : Dp} (ok : D.OK) {s p i : Nat} (hi : i < D.n) (ht : D.c ^ D.w ≤ 46656) : -46656 ≤ ((D.so i : Int) - (dig D.c s (p % D.w) : Nat)) * ((D.c ^ (p % D.w) : Nat) : Int) ∧ ((D.so i : Int) - (dig D.c s (p % D.w) : Nat)) * ((D.c ^ (p % D.w) : Nat) : Int) ≤ 46656 := by
  have h1 := setD_eq D.c (p % D.w) (D.so i) (s % D.top)
  rw [show D.top = D.c ^ D.w from rfl, dig_mod (Nat.mod_lt _ ok.hw)] at h1
  have h2 := Dp.set_lt ok (p := p) (r := s) hi
  rw [show D.top = D.c ^ D.w from rfl] at h2
  have h3 := Nat.mod_lt s (Dp.top_pos ok)
  rw [show D.top = D.c ^ D.w from rfl] at h3
  obtain ⟨m, hm⟩ : ∃ m, s % D.c ^ D.w = m := ⟨_, rfl⟩
  rw [hm] at h1 h2 h3
  omega
theorem top_bound {D : Dp} (ok : D.OK) {s i : Nat} (hi : i < D.n) (hs : s ≤ 46656) (hb : D.c ^ (D.w + 1) ≤ 46656) : -46656 ≤ ((D.ea i : Int) - (s / D.c ^ D.w : Nat)) * ((D.c ^ D.w : Nat) : Int) ∧ ((D.ea i : Int) - (s / D.c ^ D.w : Nat)) * ((D.c ^ D.w : Nat) : Int) ≤ 46656 := by
  have h1 : D.ea i * D.c ^ D.w ≤ D.c * D.c ^ D.w := Nat.mul_le_mul_right _ (Nat.le_of_lt (ok.ea i hi))
  have e1 : D.c * D.c ^ D.w = D.c ^ (D.w + 1) := by rw [Nat.pow_succ, Nat.mul_comm]
  rw [e1] at h1
  have h2 := Nat.div_mul_le_self s (D.c ^ D.w)
  rw [Int.sub_mul, ← Int.natCast_mul, ← Int.natCast_mul]
  omega
section
variable {c : Int} {ts : List Tile} {plan borders : List (List Int)} {u q bq : Sl} {h : H}
theorem l03Fits_c (hs : setOK c ts) (hp : PlanOK c ts.length plan borders) (ru : Rd h u 4 (tcs ts)) (rq : RdSS h q plan) (rb : RdSS h bq borders) {y x i : Nat} (hy : y < plan.length) (hx : x < (rw_ plan 0).length) (hi : i < ts.length) :
    callB SP i_spec_l03Fits [.agg (SetC c u), .sl q, .sl bq, i64 y, i64 x, i64 i] h fun r h' => r = bOK ts plan borders y x i ∧ Ext h h' := by
  obtain ⟨⟨⟨p1, p2⟩, p3⟩, p4, p5, p6⟩ := hp
  have hq := rq.len
  have hxy : x < (rw_ plan y).length := by rw [(p3 y hy).1]; exact hx
  have hw := (p3 0 (by omega)).2
  apply spec_l03Fits_call
  unfold spec_l03Fits_main spec_l03Fits_g0_0
  refine newK_obj fun h1 o1 x1 l1 => ?_
  rw [spec_l03Fits_cut0]
  unfold spec_l03Fits_r0 spec_l03Fits_g1_0
  have rq1 := rq.ext x1
  have rb1 := rb.ext x1
  -- the end, once the plan is kept
  have H1 : ∀ b : Bool, b = (decide (G plan y x ≥ 0) && G plan y x != (i : Int)) → spec_l03Fits_r1 SP (fun v h' => ∃ r, v = .bool r ∧ r = bOK ts plan borders y x i ∧ Ext h h') q bq y x i ⟨some h.length, 2, 0⟩ b h1 := fun b hb => by
    unfold spec_l03Fits_r1
    refine bif_b (fun qb => ?_) (fun qb => ?_)
    · unfold spec_l03Fits_g2_0
      rw [spec_l03Fits_cut2]
      exact ⟨_, rfl, by unfold bOK; rw [← hb, qb]; rfl, x1⟩
    unfold spec_l03Fits_g3_0
    refine rq1.ixC (i := 0) (by omega) (by omega) fun p0 v0 hp0 rv0 lv0 => ⟨v0, hp0, ?_⟩
    refine isPt_in (o1.ldS (i := 1) rfl rfl ?_)
    refine (ru.ext x1).ixT (by omega) (by omega) fun p3 po3 hp3 => ⟨_, hp3, ?_⟩
    refine newO_obj fun h6 o6 x6 l6 => ?_
    refine ⟨x6.rangeE hp3, ((o1.ext x6).cellE rfl).trans (o1.cellE rfl).symm, x6.cellE hp0, ?_⟩
    refine o6.stA fun h7 o7 b7 l7 => ?_
    have x7 : Ext h1 h7 := x6.but_ b7 (some_le (Nat.le_refl _))
    rw [spec_l03Fits_cut3]
    unfold spec_l03Fits_r3 spec_l03Fits_g4_0
    have rb7 := rb1.ext x7
    replace lv0 : v0.len = (rw_ plan 0).length := lv0
    have hout : ∀ b : Bool, b = bOK ts plan borders y x i → ∃ r, AVal.bool b = .bool r ∧ r = bOK ts plan borders y x i ∧ Ext h h7 := fun b e => ⟨_, rfl, e, x1.trans x7⟩
    have hplan : (decide (G plan y x ≥ 0) && G plan y x != (i : Int)) = false := by rw [← hb, qb]
    -- a border is read
    have hbr : ∀ (k : Nat), k < 4 → ∀ K : Sl → Prop, (∀ v, v.len = (rw_ borders k).length → (∀ (j : Nat) (K' : Int → Prop), j < (rw_ borders k).length → K' (G borders k j) → ixS v 1 j fun p => Cl.ldI .i64 p h7 K') → K v) → ixS bq 1 (k : Int) fun p => Cl.ldS p h7 K := fun k hk K hK =>
      rb7.ldG (by omega) (by omega) fun v rv lv => by
        rw [Int.toNat_natCast] at rv lv
        refine hK v lv fun j K' hj hK' => ?_
        refine rv.ldG (by omega) (by omega) ?_
        rw [Int.toNat_natCast]; exact hK'
    have hsd : ∀ (k : Nat), k < 4 → ∀ K : Int → Prop, K (sd (tat ts i) k) → ixA ⟨some h1.length, 4, 0⟩ 4 1 (k : Int) fun p => Cl.ldI .i64 p h7 K := fun k hk K hK => o7.sdI (by omega) (by omega) (by rw [Int.toNat_natCast]; exact hK)
    have hlen : ∀ k, k < 4 → 0 < (rw_ borders k).length → (rw_ borders k).length = if k % 2 = 1 then (rw_ plan 0).length else plan.length := fun k hk h0 => by
      rcases (p6 k hk).1 with h | h
      · omega
      · exact h
    have l0 := hlen 0 (by omega)
    have l1' := hlen 1 (by omega)
    have l2 := hlen 2 (by omega)
    have l3 := hlen 3 (by omega)
    rw [if_neg (by omega)] at l0 l2
    rw [if_pos (by omega)] at l1' l3
    have brd_no : ∀ k j, (rw_ borders k).length = 0 → brd ts borders k j i = true := fun k j h0 => by unfold brd; rw [h0]; rfl
    have brd_yes : ∀ k j, 0 < (rw_ borders k).length → brd ts borders k j i = (G borders k j == sd (tat ts i) k) := fun k j h0 => by
      unfold brd
      rw [show ((rw_ borders k).length == 0) = false by rw [beq_eq_false_iff_ne]; omega]; rfl
    -- the last two borders
    have H6 : ∀ b, b = ((x + 1 != (rw_ plan 0).length || brd ts borders 2 y i) && (y + 1 != plan.length || brd ts borders 3 x i)) → (!((x == 0 && !brd ts borders 0 y i) || (y == 0 && !brd ts borders 1 x i))) = true → (spec_l03Fits_ks8 SP (fun v h' => ∃ r, v = .bool r ∧ r = bOK ts plan borders y x i ∧ Ext h h')) .normal (spec_l03Fits_f6 b) h7 := fun b e e2 => by
      rw [spec_l03Fits_cut6]
      exact hout b (by unfold bOK; rw [hplan, e2, ← e]; rfl)
    have H4 : ∀ b, b = ((x == 0 && !brd ts borders 0 y i) || (y == 0 && !brd ts borders 1 x i)) → (spec_l03Fits_ks6 SP (fun v h' => ∃ r, v = .bool r ∧ r = bOK ts plan borders y x i ∧ Ext h h')) .normal (spec_l03Fits_f4 bq y x q.len v0.len ⟨some h1.length, 4, 0⟩ b) h7 := fun b e => by
      rw [spec_l03Fits_cut4]
      unfold spec_l03Fits_r4
      refine bif_b (fun q4 => ?_) (fun q4 => ?_)
      · unfold spec_l03Fits_g5_0
        rw [spec_l03Fits_cut5]
        exact hout false (by unfold bOK; rw [hplan, ← e, q4]; rfl)
      have e2 : (!((x == 0 && !brd ts borders 0 y i) || (y == 0 && !brd ts borders 1 x i))) = true := by rw [← e, q4]; rfl
      have S3 : (x + 1 != (rw_ plan 0).length || brd ts borders 2 y i) = true → bif (y : Int) != w64 ((q.len : Int) - 1) then (spec_l03Fits_ks8 SP (fun v h' => ∃ r, v = .bool r ∧ r = bOK ts plan borders y x i ∧ Ext h h')) .normal (spec_l03Fits_f6 true) h7
          else ixS bq 1 3 fun p0 => Cl.ldS p0 h7 fun s1 => bif ((s1.len : Int) == 0) then (spec_l03Fits_ks8 SP (fun v h' => ∃ r, v = .bool r ∧ r = bOK ts plan borders y x i ∧ Ext h h')) .normal (spec_l03Fits_f6 true) h7
          else ixS bq 1 3 fun p2 => Cl.ldS p2 h7 fun s3 => ixS s3 1 x fun p4 => Cl.ldI .i64 p4 h7 fun n5 => ixA ⟨some h1.length, 4, 0⟩ 4 1 3 fun p6 => Cl.ldI .i64 p6 h7 fun n7 => (spec_l03Fits_ks8 SP (fun v h' => ∃ r, v = .bool r ∧ r = bOK ts plan borders y x i ∧ Ext h h')) .normal (spec_l03Fits_f6 (n5 == n7)) h7 := fun e3 => by
        rw [w64_of (by omega) (by omega)]
        refine bif_ne (fun q1 => H6 _ (by rw [e3, show (y + 1 != plan.length) = true by simp; omega]; rfl) e2) (fun q1 => ?_)
        have ey : (y + 1 != plan.length) = false := by simp; omega
        refine hbr 3 (by omega) _ fun v lv rv => ?_
        refine bif_eq (fun q2 => H6 _ (by rw [e3, brd_no 3 x (by omega), Bool.or_true]; rfl) e2) (fun q2 => ?_)
        refine hbr 3 (by omega) _ fun v lv rv => ?_
        refine rv x _ (by omega) ?_
        refine hsd 3 (by omega) _ ?_
        exact H6 _ (by rw [e3, ey, brd_yes 3 x (by omega)]; rfl) e2
      unfold spec_l03Fits_g6_0
      rw [lv0, w64_of (n := ((rw_ plan 0).length : Int) - 1) (by omega) (by omega)]
      refine bif_ne (fun q1 => S3 (by rw [show (x + 1 != (rw_ plan 0).length) = true by simp; omega]; rfl)) (fun q1 => ?_)
      have ex : (x + 1 != (rw_ plan 0).length) = false := by simp; omega
      refine hbr 2 (by omega) _ fun v lv rv => ?_
      refine bif_eq (fun q2 => S3 (by rw [brd_no 2 y (by omega), Bool.or_true])) (fun q2 => ?_)
      refine hbr 2 (by omega) _ fun v lv rv => ?_
      refine rv y _ (by omega) ?_
      refine hsd 2 (by omega) _ ?_
      refine bif_b (fun q3 => S3 (by rw [ex, brd_yes 2 y (by omega), q3]; rfl)) (fun q3 => ?_)
      exact H6 _ (by rw [ex, brd_yes 2 y (by omega), q3]; rfl) e2
    -- the first two
    have N1 : (x == 0 && !brd ts borders 0 y i) = false → bif ((y : Int) == 0) then ixS bq 1 1 fun p8 => Cl.ldS p8 h7 fun s9 => bif (decide ((s9.len : Int) > 0)) then ixS bq 1 1 fun p10 => Cl.ldS p10 h7 fun s11 => ixS s11 1 x fun p12 => Cl.ldI .i64 p12 h7 fun n13 => ixA ⟨some h1.length, 4, 0⟩ 4 1 1 fun p14 => Cl.ldI .i64 p14 h7 fun n15 => (spec_l03Fits_ks6 SP (fun v h' => ∃ r, v = .bool r ∧ r = bOK ts plan borders y x i ∧ Ext h h')) .normal (spec_l03Fits_f4 bq y x q.len v0.len ⟨some h1.length, 4, 0⟩ (n13 != n15)) h7
        else (spec_l03Fits_ks6 SP (fun v h' => ∃ r, v = .bool r ∧ r = bOK ts plan borders y x i ∧ Ext h h')) .normal (spec_l03Fits_f4 bq y x q.len v0.len ⟨some h1.length, 4, 0⟩ false) h7
        else (spec_l03Fits_ks6 SP (fun v h' => ∃ r, v = .bool r ∧ r = bOK ts plan borders y x i ∧ Ext h h')) .normal (spec_l03Fits_f4 bq y x q.len v0.len ⟨some h1.length, 4, 0⟩ false) h7 := fun e => by
      refine bif_eq (fun q1 => ?_) (fun q1 => H4 _ (by rw [e, show (y == 0) = false by simp; omega]; rfl))
      have ey : (y == 0) = true := by simp; omega
      refine hbr 1 (by omega) _ fun v lv rv => ?_
      refine bif_dec (fun q2 => ?_) (fun q2 => H4 _ (by rw [e, brd_no 1 x (by omega)]; simp))
      refine hbr 1 (by omega) _ fun v lv rv => ?_
      refine rv x _ (by omega) ?_
      refine hsd 1 (by omega) _ ?_
      exact H4 _ (by rw [e, ey, brd_yes 1 x (by omega)]; rfl)
    refine bif_eq (fun q1 => ?_) (fun q1 => N1 (by rw [show (x == 0) = false by simp; omega]; rfl))
    have ex : (x == 0) = true := by simp; omega
    refine hbr 0 (by omega) _ fun v lv rv => ?_
    refine bif_dec (fun q2 => ?_) (fun q2 => N1 (by rw [brd_no 0 y (by omega)]; simp))
    refine hbr 0 (by omega) _ fun v lv rv => ?_
    refine rv y _ (by omega) ?_
    refine hsd 0 (by omega) _ ?_
    refine bif_b (fun q3 => ?_) (fun q3 => ?_)
    · refine H4 _ ?_
      rw [ex, brd_yes 0 y (by omega)]
      have q3' : (G borders 0 y == sd (tat ts i) 0) = false := by
        cases e : (G borders 0 y == sd (tat ts i) 0)
        · rfl
        · unfold bne at q3; rw [e] at q3; cases q3
      rw [q3']; rfl
    · refine N1 ?_
      rw [brd_yes 0 y (by omega)]
      have q3' : (G borders 0 y == sd (tat ts i) 0) = true := by
        cases e : (G borders 0 y == sd (tat ts i) 0)
        · unfold bne at q3; rw [e] at q3; cases q3
        · rfl
      rw [q3']; simp
  refine rq1.ldG (by omega) (by omega) fun v rv lv => ?_
  rw [Int.toNat_natCast] at rv lv
  refine rv.ldG (by omega) (by omega) ?_
  rw [Int.toNat_natCast, show (rw_ plan y).getD x 0 = G plan y x from rfl]
  refine bif_dec (fun qp => ?_) (fun qp => ?_)
  · refine rq1.ldG (by omega) (by omega) fun v rv lv => ?_
    rw [Int.toNat_natCast] at rv lv
    refine rv.ldG (by omega) (by omega) ?_
    rw [Int.toNat_natCast, show (rw_ plan y).getD x 0 = G plan y x from rfl, spec_l03Fits_cut1]
    exact H1 _ (by rw [decide_eq_true qp, Bool.true_and])
  · rw [spec_l03Fits_cut1]
    exact H1 _ (by rw [decide_eq_false qp, Bool.false_and])
end
end Go.Proofs.Ytgeakkmpohjohaa.Cl

/- Fillings by places: the reference's steps and layers. No claim is stated here. -/
set_option linter.unusedVariables false
set_option linter.unusedSimpArgs false
namespace Go.Proofs.Ytgeakkmpohjohaa.Cl
open Go
theorem tdiv_nat (a b : Nat) : Int.tdiv (a : Int) (b : Int) = ((a / b : Nat) : Int) := rfl
theorem tmod_nat (a b : Nat) : Int.tmod (a : Int) (b : Int) = ((a % b : Nat) : Int) := rfl
theorem w64_nat {n : Nat} (h : n ≤ 1000000000000) : w64 ((n : Nat) : Int) = (n : Int) := w64_of (by omega) (by omega)
theorem div_small {a b m : Nat} (h : a ≤ m) : a / b ≤ m := Nat.le_trans (Nat.div_le_self _ _) h
theorem w64_div {a b : Nat} (h : a ≤ 1000000000000) : w64 ((a / b : Nat) : Int) = ((a / b : Nat) : Int) := w64_nat (div_small h)
section
variable {c : Int} {ts : List Tile} {plan borders : List (List Int)} {u q bq : Sl}
theorem dims (hs : setOK c ts) (hp : PlanOK c ts.length plan borders) : c.toNat ≤ 6 ∧ 0 < c.toNat ∧ (c.toNat : Int) = c ∧ 0 < (rw_ plan 0).length ∧ (rw_ plan 0).length ≤ 5 ∧ 0 < plan.length ∧ plan.length ≤ 5 ∧ plan.length * (rw_ plan 0).length ≤ 25 ∧ ts.length ≤ 16 := by
  have hc := hs.1
  have h1 := hp.1.1
  have hw := (hp.1.2 0 (by omega)).2
  have := Nat.mul_le_mul (show plan.length ≤ 5 by omega) (show (rw_ plan 0).length ≤ 5 by omega)
  exact ⟨by omega, by omega, by omega, by omega, by omega, by omega, by omega, this, hs.2.1⟩
theorem place_dims {w H p : Nat} (hw : 0 < w) (hp : p < H * w) : p / w < H ∧ p % w < w := ⟨by rw [Nat.div_lt_iff_lt_mul hw]; exact hp, Nat.mod_lt _ hw⟩
/-- The value behind a tile, in the machine's numbers. -/
theorem stepR_w {D : Dp} (ok : D.OK) {s p i : Nat} (hi : i < D.n) (hb : D.c ^ (D.w + 1) ≤ 46656) (hs : s < D.c ^ (D.w + 1)) :
    w64 (w64 ((s : Int) + w64 (w64 ((D.so i : Int) - (dig D.c s (p % D.w) : Nat)) * ((D.c ^ (p % D.w) : Nat) : Int))) + w64 (w64 ((D.ea i : Int) - (s / D.c ^ D.w : Nat)) * ((D.c ^ D.w : Nat) : Int))) = (D.stepR s p i : Int) := by
  have ht : D.c ^ D.w ≤ 46656 := by
    rw [Nat.pow_succ] at hb
    have := Nat.mul_le_mul_left (D.c ^ D.w) ok.hc
    omega
  have b1 := set_bound ok hi (s := s) (p := p) ht
  have b2 := top_bound ok hi (s := s) (by omega) hb
  have e := stepR_int ok hi (s := s) (p := p)
  have h1 := ok.so i hi
  have h2 := ok.ea i hi
  have hc : D.c ≤ 46656 := by
    have := Nat.pow_le_pow_right ok.hc (show 1 ≤ D.w + 1 by omega)
    rw [Nat.pow_one] at this; omega
  have h3 := dig_lt ok.hc (v := s) (k := p % D.w)
  have h4 : s / D.c ^ D.w ≤ 46656 := div_small (by omega)
  obtain ⟨A, hA⟩ : ∃ A, ((D.so i : Int) - (dig D.c s (p % D.w) : Nat)) * ((D.c ^ (p % D.w) : Nat) : Int) = A := ⟨_, rfl⟩
  obtain ⟨B, hB⟩ : ∃ B, ((D.ea i : Int) - (s / D.c ^ D.w : Nat)) * ((D.c ^ D.w : Nat) : Int) = B := ⟨_, rfl⟩
  have e1 : w64 ((D.so i : Int) - (dig D.c s (p % D.w) : Nat)) = (D.so i : Int) - (dig D.c s (p % D.w) : Nat) := w64_of (by omega) (by omega)
  have e2 : w64 ((D.ea i : Int) - (s / D.c ^ D.w : Nat)) = (D.ea i : Int) - (s / D.c ^ D.w : Nat) := by
    obtain ⟨z, hz⟩ : ∃ z, s / D.c ^ D.w = z := ⟨_, rfl⟩
    rw [hz] at h4 ⊢
    exact w64_of (by omega) (by omega)
  rw [e1, e2, hA, hB, w64_of (n := A) (by omega) (by omega), w64_of (n := B) (by omega) (by omega), w64_of (n := (s : Int) + A) (by omega) (by omega), w64_of (by omega) (by omega), e, hA, hB]
theorem side_nat (hs : setOK c ts) {i : Nat} (hi : i < ts.length) {k : Nat} (hk : k < 4) : sd (tat ts i) k = ((sd (tat ts i) k).toNat : Int) := by have := side_ok hs hi hk; omega
theorem l03Step_c (hs : setOK c ts) (hp : PlanOK c ts.length plan borders) {h : H} (ru : Rd h u 4 (tcs ts)) {s p i : Nat} (hsl : s < (dpOf c ts plan borders).c ^ ((dpOf c ts plan borders).w + 1)) (hi : i < ts.length) (hpl : p ≤ 1000) :
    callI SP .i64 i_spec_l03Step [.agg (SetC c u), i64 (rw_ plan 0).length, i64 s, i64 p, i64 i] h fun n h' => n = ((dpOf c ts plan borders).stepR s p i : Int) ∧ Ext h h' := by
  obtain ⟨d1, d2, d3, d4, d5, d6, d7, d8, d9⟩ := dims hs hp
  have ok := dp_ok hs hp
  have hb : (dpOf c ts plan borders).c ^ ((dpOf c ts plan borders).w + 1) ≤ 46656 := pow_small d1 (by show (rw_ plan 0).length + 1 ≤ 6; omega)
  apply spec_l03Step_call
  unfold spec_l03Step_main
  refine newK_obj fun h1 o1 x1 l1 => ?_
  refine isPt_in (o1.ldI (i := 0) (m := c) rfl rfl (isPt_in (o1.ldS (i := 1) rfl rfl ?_)))
  refine (ru.ext x1).ixT (by omega) (by have := ru.tlen; omega) fun p4 po4 hp4 => ⟨_, hp4, ?_⟩
  refine newO_obj fun h7 o7 x7 l7 => ?_
  refine ⟨x7.rangeE hp4, ((o1.ext x7).cellE rfl).trans (o1.cellE rfl).symm, ((o1.ext x7).cellE rfl).trans (o1.cellE rfl).symm, ?_⟩
  refine o7.stA fun h8 o8 b8 l8 => ?_
  have x8 : Ext h1 h8 := x7.but_ b8 (some_le (Nat.le_refl _))
  refine ⟨by omega, ?_⟩
  have hm := Nat.mod_lt p d4
  have hc0 : 0 < c.toNat ^ (p % (rw_ plan 0).length) := Nat.pow_pos d2
  have hc1 : 0 < c.toNat ^ (rw_ plan 0).length := Nat.pow_pos d2
  rw [tmod_nat, ← d3]
  refine (power_c d1 (by omega) _).to ?_
  rintro _ _ ⟨rfl, rfl⟩
  refine (power_c d1 (by omega) _).to ?_
  rintro _ _ ⟨rfl, rfl⟩
  refine o8.sdI (k := 3) (by omega) (by omega) ⟨by omega, by omega, ?_⟩
  refine o8.sdI (k := 2) (by omega) (by omega) ⟨by omega, _, rfl, ?_, x1.trans x8⟩
  have e3 := side_nat hs hi (k := 3) (by omega)
  have e2 := side_nat hs hi (k := 2) (by omega)
  show w64 (w64 ((s : Int) + w64 (w64 (sd (tat ts i) 3 - Int.tmod (w64 (Int.tdiv (s : Int) ((c.toNat ^ (p % (rw_ plan 0).length) : Nat) : Int))) (c.toNat : Int)) * ((c.toNat ^ (p % (rw_ plan 0).length) : Nat) : Int))) + w64 (w64 (sd (tat ts i) 2 - w64 (Int.tdiv (s : Int) ((c.toNat ^ (rw_ plan 0).length : Nat) : Int))) * ((c.toNat ^ (rw_ plan 0).length : Nat) : Int))) = _
  rw [tdiv_nat, tdiv_nat, w64_div (by omega), w64_div (by omega), tmod_nat, e3, e2]
  exact stepR_w ok (D := dpOf c ts plan borders) hi hb hsl
theorem l03Can_c (hs : setOK c ts) (hp : PlanOK c ts.length plan borders) {h : H} (ru : Rd h u 4 (tcs ts)) (rq : RdSS h q plan) (rb : RdSS h bq borders) {s p i : Nat} (hsl : s < (dpOf c ts plan borders).c ^ ((dpOf c ts plan borders).w + 1)) (hi : i < ts.length) (hpl : p < plan.length * (rw_ plan 0).length) :
    callB SP i_spec_l03Can [.agg (SetC c u), .sl q, .sl bq, i64 s, i64 p, i64 i] h fun r h' => r = (dpOf c ts plan borders).can s p i ∧ Ext h h' := by
  obtain ⟨d1, d2, d3, d4, d5, d6, d7, d8, d9⟩ := dims hs hp
  have ok := dp_ok hs hp
  have hb : (dpOf c ts plan borders).c ^ ((dpOf c ts plan borders).w + 1) ≤ 46656 := pow_small d1 (by show (rw_ plan 0).length + 1 ≤ 6; omega)
  obtain ⟨y1, x1'⟩ := place_dims d4 hpl
  have hql := rq.len
  apply spec_l03Can_call
  unfold spec_l03Can_main
  refine newK_obj fun h1 o1 x1 l1 => ?_
  refine (rq.ext x1).ixC (i := 0) (by omega) (by omega) fun p2 v0 hp2 rv0 lv0 => ⟨v0, hp2, ?_⟩
  replace lv0 : v0.len = (rw_ plan 0).length := lv0
  refine isPt_in (o1.ldI (i := 0) (m := c) rfl rfl (isPt_in (o1.ldS (i := 1) rfl rfl ?_)))
  refine (ru.ext x1).ixT (by omega) (by have := ru.tlen; omega) fun p6 po6 hp6 => ⟨_, hp6, ?_⟩
  refine newO_obj fun h9 o9 x9 l9 => ?_
  refine ⟨x9.rangeE hp6, ((o1.ext x9).cellE rfl).trans (o1.cellE rfl).symm, ((o1.ext x9).cellE rfl).trans (o1.cellE rfl).symm, x9.cellE hp2, ?_⟩
  refine o9.stA fun h10 o10 b10 l10 => ?_
  have x10 : Ext h1 h10 := x9.but_ b10 (some_le (Nat.le_refl _))
  rw [lv0]
  refine ⟨by omega, by omega, (o1.ext x10).ldA rfl ?_⟩
  have hpp : p ≤ 1000 := by omega
  rw [tdiv_nat, tmod_nat, w64_div (by omega)]
  have xx := x1.trans x10
  refine (l03Fits_c hs hp (ru.ext xx) (rq.ext xx) (rb.ext xx) y1 x1' hi).to ?_
  rintro _ h12 ⟨rfl, x12⟩
  have o12 := o10.ext x12
  have xxx := xx.trans x12
  have hcan : (dpOf c ts plan borders).can s p i = (bOK ts plan borders (p / (rw_ plan 0).length) (p % (rw_ plan 0).length) i && (p / (rw_ plan 0).length == 0 || dig c.toNat s (p % (rw_ plan 0).length) == (sd (tat ts i) 1).toNat) && (p % (rw_ plan 0).length == 0 || dig c.toNat s (rw_ plan 0).length == (sd (tat ts i) 0).toNat)) := rfl
  have e1 := side_nat hs hi (k := 1) (by omega)
  have e0 := side_nat hs hi (k := 0) (by omega)
  obtain ⟨y, hy⟩ : ∃ y, p / (rw_ plan 0).length = y := ⟨_, rfl⟩
  obtain ⟨x, hx⟩ : ∃ x, p % (rw_ plan 0).length = x := ⟨_, rfl⟩
  rw [hy, hx] at hcan
  rw [hy, hx]
  generalize (dpOf c ts plan borders).can s p i = cn at hcan ⊢
  rw [hx] at x1'
  refine bif_b (fun qb => ?_) (fun qb => ⟨_, rfl, by rw [hcan, qb]; rfl, xxx⟩)
  rw [qb, Bool.true_and] at hcan
  have beqC : ∀ a b : Nat, ((a : Int) == (b : Int)) = (a == b) := fun a b => by rw [Bool.eq_iff_iff]; simp only [beq_iff_eq]; omega
  have W : ∀ b : Bool, ((y == 0) || dig c.toNat s x == (sd (tat ts i) 1).toNat) = true → ∀ h', Ext h12 h' → Obj h' h1.length (tc (tat ts i)) →
      bif ((x : Int) == 0) then (fun (v : AVal) h' => ∃ r, v = .bool r ∧ r = cn ∧ Ext h h') (AVal.bool true) h'
      else callI SP .i64 i_spec_l03Digit [i64 s, i64 c, i64 (rw_ plan 0).length] h' fun n15 h14 => ixA ⟨some h1.length, 4, 0⟩ 4 1 0 fun p16 => Cl.ldI .i64 p16 h14 fun n17 => (cell h' p16 = cell h14 p16) ∧ (fun (v : AVal) h' => ∃ r, v = .bool r ∧ r = cn ∧ Ext h h') (AVal.bool (n15 == n17)) h14 := fun _ hn h' x' oo => by
    rw [hn, Bool.true_and] at hcan
    refine bif_eq (fun q1 => ⟨_, rfl, by rw [hcan, show (x == 0) = true by rw [beq_iff_eq]; omega]; rfl, xxx.trans x'⟩) (fun q1 => ?_)
    rw [← d3]
    refine (digit_c d2 d1 (by omega) (by omega) _).to ?_
    rintro _ _ ⟨rfl, rfl⟩
    refine oo.sdI (k := 0) (by omega) (by omega) ⟨rfl, _, rfl, ?_, xxx.trans x'⟩
    rw [hcan, show (x == 0) = false by rw [beq_eq_false_iff_ne]; omega, Bool.false_or, show sd (tat ts ((i : Nat) : Int)) (Int.toNat 0) = ((sd (tat ts i) 0).toNat : Int) from e0]
    exact beqC _ _
  refine bif_eq (fun q1 => W true (by rw [show (y == 0) = true by rw [beq_iff_eq]; omega]; rfl) _ (Ext.refl _) o12) (fun q1 => ?_)
  rw [← d3]
  refine (digit_c d2 d1 (by omega) (by omega) _).to ?_
  rintro _ _ ⟨rfl, rfl⟩
  refine o12.sdI (k := 1) (by omega) (by omega) ⟨rfl, ?_⟩
  have ey : (y == 0) = false := by rw [beq_eq_false_iff_ne]; omega
  rw [show sd (tat ts ((i : Nat) : Int)) (Int.toNat 1) = ((sd (tat ts i) 1).toNat : Int) from e1, beqC]
  refine bif_b (fun q2 => ?_) (fun q2 => ⟨_, rfl, by rw [hcan, ey, Bool.false_or, q2]; rfl, xxx⟩)
  have := W true (by rw [ey, q2]; rfl) _ (Ext.refl _) o12
  rw [← d3] at this
  exact this
end
end Go.Proofs.Ytgeakkmpohjohaa.Cl

/- Fillings by places: the reference's layers. No claim is stated here. -/
set_option linter.unusedVariables false
set_option linter.unusedSimpArgs false
namespace Go.Proofs.Ytgeakkmpohjohaa.Cl
open Go
theorem getD_set {l : List Int} {i j : Nat} {v : Int} (h : i < l.length) : (l.set i v).getD j 0 = if i = j then v else l.getD j 0 := by
  rw [List.getD_eq_getElem?_getD, List.getD_eq_getElem?_getD, List.getElem?_set]
  by_cases e : i = j
  · subst e; simp [h]
  · rw [if_neg e, if_neg e]
def Dp.lim (D : Dp) : Nat := D.c ^ (D.w + 1)
/-- A layer: the states from which there are ways to go on have a number that is not zero. -/
def LayRow (D : Dp) (p : Nat) (l : List Int) : Prop := l.length = D.lim ∧ ∀ r, r < D.lim → 0 ≤ l.getD r 0 ∧ l.getD r 0 ≤ 1000000000000001 ∧ (0 < l.getD r 0 ↔ D.left p r)
def Done (D : Dp) (p i r : Nat) : Prop := ∃ i', i' < i ∧ D.can r p i' = true ∧ D.left (p + 1) (D.stepR r p i')
def LayI (D : Dp) (p i st : Nat) (l : List Int) : Prop := l.length = D.lim ∧ ∀ r, r < D.lim → 0 ≤ l.getD r 0 ∧ l.getD r 0 ≤ 1000000000000001 ∧ (0 < l.getD r 0 ↔ Done D p (if r < st then i + 1 else i) r)
theorem done_no {D : Dp} {p i r : Nat} (h : ¬ (D.can r p i = true ∧ D.left (p + 1) (D.stepR r p i))) : Done D p (i + 1) r ↔ Done D p i r := by
  constructor
  · rintro ⟨j, hj, h1, h2⟩
    rcases Nat.lt_or_ge j i with h3 | h3
    · exact ⟨j, h3, h1, h2⟩
    · rw [show j = i by omega] at h1 h2; exact absurd ⟨h1, h2⟩ h
  · rintro ⟨j, hj, h1, h2⟩; exact ⟨j, by omega, h1, h2⟩
theorem done_yes {D : Dp} {p i r : Nat} (h : D.can r p i = true) : Done D p (i + 1) r ↔ (Done D p i r ∨ D.left (p + 1) (D.stepR r p i)) := by
  constructor
  · rintro ⟨j, hj, h1, h2⟩
    rcases Nat.lt_or_ge j i with h3 | h3
    · exact .inl ⟨j, h3, h1, h2⟩
    · rw [show j = i by omega] at h2; exact .inr h2
  · rintro (⟨j, hj, h1, h2⟩ | h2)
    · exact ⟨j, by omega, h1, h2⟩
    · exact ⟨i, by omega, h, h2⟩
theorem LayI.skip {D : Dp} {p i r : Nat} {l : List Int} (h : LayI D p i r l) (hn : D.can r p i = false) : LayI D p i (r + 1) l := by
  refine ⟨h.1, fun r' hr => ?_⟩
  obtain ⟨a, b, c⟩ := h.2 r' hr
  refine ⟨a, b, ?_⟩
  by_cases e : r' = r
  · subst e
    rw [if_pos (by omega), done_no (by rw [hn]; simp)]
    rw [if_neg (by omega)] at c; exact c
  · have : (if r' < r + 1 then i + 1 else i) = if r' < r then i + 1 else i := by split <;> split <;> omega
    rw [this]; exact c
theorem LayI.upd {D : Dp} {p i r : Nat} {l : List Int} (h : LayI D p i r l) (hr : r < D.lim) (hc : D.can r p i = true) {n : Int} (n0 : 0 ≤ n) (n1 : n ≤ 1000000000000001) (hn : 0 < n ↔ D.left (p + 1) (D.stepR r p i)) : LayI D p i (r + 1) (l.set r (mnI (w64 (l.getD r 0 + n)) 1000000000000001)) := by
  refine ⟨by rw [List.length_set]; exact h.1, fun r' hr' => ?_⟩
  rw [getD_set (by rw [h.1]; exact hr)]
  by_cases e : r = r'
  · subst e
    obtain ⟨a, b, c⟩ := h.2 r hr
    rw [if_neg (by omega)] at c
    rw [if_pos rfl, if_pos (by omega), done_yes hc, ← c, ← hn, w64_of (by omega) (by omega)]
    unfold mnI
    split <;> omega
  · obtain ⟨a, b, c⟩ := h.2 r' hr'
    rw [if_neg e]
    refine ⟨a, b, ?_⟩
    have : (if r' < r + 1 then i + 1 else i) = if r' < r then i + 1 else i := by split <;> split <;> omega
    rw [this]; exact c
theorem LayI.all {D : Dp} {p i : Nat} {l : List Int} (h : LayI D p i D.lim l) : LayI D p (i + 1) 0 l := by
  refine ⟨h.1, fun r hr => ?_⟩
  obtain ⟨a, b, c⟩ := h.2 r hr
  rw [if_pos hr] at c
  exact ⟨a, b, by rw [if_neg (by omega)]; exact c⟩
theorem LayI.none {D : Dp} {p i : Nat} {l : List Int} (h : LayI D p i 0 l) (hn : ∀ r, D.can r p i = false) : LayI D p (i + 1) 0 l := by
  refine ⟨h.1, fun r hr => ?_⟩
  obtain ⟨a, b, c⟩ := h.2 r hr
  rw [if_neg (by omega)] at c
  exact ⟨a, b, by rw [if_neg (by omega), done_no (by rw [hn r]; simp)]; exact c⟩
theorem LayI.end {D : Dp} {p : Nat} {l : List Int} (h : LayI D p D.n 0 l) (hp : p < D.size) : LayRow D p l := by
  refine ⟨h.1, fun r hr => ?_⟩
  obtain ⟨a, b, c⟩ := h.2 r hr
  rw [if_neg (by omega)] at c
  refine ⟨a, b, c.trans ?_⟩
  unfold Done Dp.left
  rw [show D.size - p = (D.size - (p + 1)) + 1 by omega]
  rfl
theorem power_k {c k : Nat} (hc : c ≤ 6) (hk : k ≤ 6) {h : H} {K : Int → H → Prop} (x : K ((c ^ k : Nat) : Int) h) : callI SP .i64 i_spec_l03Power [i64 c, i64 k] h K :=
  (power_c hc hk h).to (by rintro _ _ ⟨rfl, rfl⟩; exact x)
/-- A table of layers. -/
def LayT (D : Dp) (h : H) (v : Sl) : Prop := ∃ vs : List Sl, vs.length = D.size + 1 ∧ Rd h v 1 (vs.map .sl) ∧ ∀ (j : Nat) w, vs[j]? = some w → ∃ l, Rd h w 1 (ic l) ∧ LayRow D j l
theorem LayT.ext {D : Dp} {h h' : H} {v : Sl} (t : LayT D h v) (x : Ext h h') : LayT D h' v := by
  obtain ⟨vs, a, b, c⟩ := t
  exact ⟨vs, a, b.ext x, fun j w e => by obtain ⟨l, r, y⟩ := c j w e; exact ⟨l, r.ext x, y⟩⟩
section
variable {c : Int} {ts : List Tile} {plan borders : List (List Int)} {u q bq : Sl}
set_option maxHeartbeats 1000000 in
theorem l03Layers_c (hs : setOK c ts) (hp : PlanOK c ts.length plan borders) {h : H} (ru : Rd h u 4 (tcs ts)) (rq : RdSS h q plan) (rb : RdSS h bq borders) :
    callS SP i_spec_l03Layers [.agg (SetC c u), .sl q, .sl bq] h fun v h' => LayT (dpOf c ts plan borders) h' v ∧ Ext h h' := by
  obtain ⟨d1, d2, d3, d4, d5, d6, d7, d8, d9⟩ := dims hs hp
  have ok := dp_ok hs hp
  generalize hD : dpOf c ts plan borders = D at ok
  have Dc : D.c = c.toNat := by rw [← hD]; rfl
  have Dw : D.w = (rw_ plan 0).length := by rw [← hD]; rfl
  have Dn : D.n = ts.length := by rw [← hD]; rfl
  have Ds : D.size = plan.length * (rw_ plan 0).length := by rw [← hD]; rfl
  have hb : D.c ^ (D.w + 1) ≤ 46656 := pow_small (by omega) (by omega)
  have hlim : D.lim ≤ 46656 := hb
  have hlim0 : 0 < D.lim := Nat.pow_pos ok.hc
  have hql := rq.len
  have hul := ru.tlen
  apply spec_l03Layers_call
  unfold spec_l03Layers_main
  refine newK_obj fun h1 o1 x1 l1 => ?_
  refine (rq.ext x1).ldG (i := 0) (by omega) (by omega) fun v0 rv0 lv0 => ?_
  replace lv0 : v0.len = (rw_ plan 0).length := lv0
  clear rv0
  refine isPt_in (o1.ldI (i := 0) (m := c) rfl rfl ?_)
  rw [lv0, w64_of (by omega) (by omega), show ((rw_ plan 0).length : Int) + 1 = (((rw_ plan 0).length + 1 : Nat) : Int) by push_cast; rfl]
  rw [← d3]
  refine power_k d1 (by omega) ?_
  rw [show c.toNat ^ ((rw_ plan 0).length + 1) = D.lim by unfold Dp.lim; rw [Dc, Dw]]
  refine mkS_ow (by omega) (by unfold lim; omega) fun s7 h8 os7 ls7 so7 e8 => ?_
  have x8 : Ext h1 h8 := by rw [e8]; exact Ext.app _ _
  have hz : (List.replicate (D.lim : Int).toNat [AVal.int .i64 0]).flatten = ic (List.replicate D.lim 0) := by
    unfold ic
    rw [List.map_replicate, Int.toNat_natCast]; simp
  rw [hz] at os7
  rw [ls7, Int.toNat_natCast]
  refine spec_l03Layers_rule0 _ _ _ _ _ _ _ _ _ _ _ (fun i g => ∃ (k : Nat) (l : List Int), i = k ∧ k ≤ D.lim ∧ Ow g s7 1 (ic l) ∧ l.length = D.lim ∧ (∀ r, r < k → l.getD r 0 = 1) ∧ Ext h1 g) (fun i _ => (D.lim - i).toNat) ?_ _
    ⟨0, _, rfl, by omega, os7, by simp, fun r hr => by omega, x8⟩
  rintro X _ g ⟨k, l, rfl, hk, os, ll, hl, xg⟩ hX
  unfold spec_l03Layers_b0 spec_l03Layers_C0
  refine bif_dec (fun hi => ?_) (fun hi => ?_)
  · refine os.stI (by omega) (by rw [ls7]; omega) _ fun g2 o2 b2 n2 => ?_
    rw [w64_of (n := (k : Int) + 1) (by omega) (by omega)]
    rw [Int.toNat_natCast] at o2
    refine hX _ _ ⟨k + 1, _, by push_cast; rfl, by omega, o2, by simp [ll], fun r hr => ?_, xg.but_ b2 (by rw [so7]; exact some_le (Nat.le_refl _))⟩ (by omega)
    rw [getD_set (by omega)]
    split
    · rfl
    · exact hl r (by omega)
  have hkl : k = D.lim := by omega
  subst hkl
  have lxg := xg.len
  have hs7l := os.lt so7
  -- the last layer
  have row7 : LayRow D D.size l := ⟨ll, fun r hr => by
    rw [hl r hr]
    refine ⟨by omega, by omega, ⟨fun _ => ?_, fun _ => by omega⟩⟩
    unfold Dp.left
    rw [Nat.sub_self]; exact trivial⟩
  rw [hql, show (plan.length : Int) * ((rw_ plan 0).length : Int) = ((D.size : Nat) : Int) by rw [Ds]; push_cast; rfl]
  have hsz : D.size ≤ 25 := by omega
  have hw1 : w64 (D.size : Int) = (D.size : Int) := w64_of (by omega) (by omega)
  rw [hw1, w64_of (n := (D.size : Int) + 1) (by omega) (by omega), w64_of (n := (D.size : Int) - 1) (by omega) (by omega)]
  refine mkS_ow (by omega) (by unfold lim; omega) fun s13 g1 os13 ls13 so13 eg1 => ?_
  have xg1 : Ext g g1 := by rw [eg1]; exact Ext.app _ _
  have hz2 : (List.replicate ((D.size : Int) + 1).toNat [AVal.sl Sl.nil]).flatten = (List.replicate (D.size + 1) Sl.nil).map .sl := by
    rw [List.map_replicate, show ((D.size : Int) + 1).toNat = D.size + 1 by omega]; simp
  rw [hz2] at os13
  have ls13' : s13.len = D.size + 1 := by rw [ls13]; omega
  refine os13.stC (by omega) (by omega) _ fun g2 os13' b2 n2 => ?_
  rw [so13] at b2
  rw [Int.toNat_natCast, ← List.map_set] at os13'
  have xg2 : Ext g g2 := xg1.but_ b2 (some_le (Nat.le_refl _))
  have lg1 : g1.length = g.length + 1 := by rw [eg1]; simp
  refine power_k d1 (by omega) ?_
  have top : c.toNat ^ (rw_ plan 0).length = D.c ^ D.w := by rw [Dc, Dw]
  rw [top]
  refine spec_l03Layers_rule2 _ _ _ _ _ _ _ _ _ _ (fun i g' => ∃ (p : Nat) (vs : List Sl), i = (p : Int) - 1 ∧ p ≤ D.size ∧ vs.length = D.size + 1 ∧ Ow g' s13 1 (vs.map .sl) ∧ (∀ (j : Nat) w, p ≤ j → vs[j]? = some w → ∃ l, Rd g' w 1 (ic l) ∧ LayRow D j l ∧ w.o ≠ some g.length) ∧ Ext g g') (fun i _ => (i + 1).toNat) ?_ _
    ⟨D.size, _, rfl, Nat.le_refl _, by simp, os13', fun j w hj hw => by
      have hj2 := (List.getElem?_eq_some_iff.1 hw).1
      simp at hj2
      have : j = D.size := by omega
      subst this
      rw [List.getElem?_set_self (by simp)] at hw
      cases hw
      exact ⟨l, os.rd.ext xg2, row7, by rw [so7]; exact fun e => by have := Option.some.inj e; omega⟩, xg2⟩
  rintro X _ g0 ⟨p1, vs, rfl, hp1, hvl, ost, hrows, xg0⟩ hX
  unfold spec_l03Layers_b2 spec_l03Layers_C2
  have lxg0 := xg0.len
  have hot := ost.lt so13
  refine bif_dec (fun hi => ?_) (fun hi => ?_)
  · obtain ⟨p, rfl⟩ : ∃ p, p1 = p + 1 := ⟨p1 - 1, by omega⟩
    rw [show ((p + 1 : Nat) : Int) - 1 = (p : Int) by omega] at hX ⊢
    have hpl : p < D.size := by omega
    refine ⟨by omega, by omega, ?_⟩
    refine mkS_ow (by omega) (by unfold lim; omega) fun s18 g1' os18 ls18 so18 eg1' => ?_
    have xa : Ext g0 g1' := by rw [eg1']; exact Ext.app _ _
    have hz' : (List.replicate (D.lim : Int).toNat [AVal.int .i64 0]).flatten = ic (List.replicate D.lim 0) := hz
    rw [hz'] at os18
    have ls18' : s18.len = D.lim := by rw [ls18]; omega
    rw [tmod_nat, tdiv_nat, w64_div (by omega)]
    have hm := Nat.mod_lt p d4
    refine power_k d1 (by omega) ?_
    have below : c.toNat ^ (p % (rw_ plan 0).length) = D.c ^ (p % D.w) := by rw [Dc, Dw]
    rw [below]
    have tab : ∀ {g' : H}, Ext g0 g' → ∃ w l, Rd g' w 1 (ic l) ∧ LayRow D (p + 1) l ∧ vs[p + 1]? = some w := fun {g'} x => by
      have hv := List.getElem?_eq_getElem (l := vs) (i := p + 1) (by omega)
      obtain ⟨l, r, y, _⟩ := hrows (p + 1) _ (by omega) hv
      exact ⟨_, l, r.ext x, y, hv⟩
    have i0 : LayI D p 0 0 (List.replicate D.lim 0) := ⟨by simp, fun r hr => by
      have : (List.replicate D.lim (0 : Int)).getD r 0 = 0 := by rw [List.getD_eq_getElem?_getD, List.getElem?_replicate, if_pos hr]; rfl
      rw [this]
      refine ⟨by omega, by omega, ⟨fun e => by omega, ?_⟩⟩
      rintro ⟨j, hj, _⟩
      rw [if_neg (by omega)] at hj; omega⟩
    refine spec_l03Layers_rule4 _ _ X _ _ _ _ _ _ _ _ _ _ _ _ _ (fun i g' => ∃ (k : Nat) (l : List Int), i = k ∧ k ≤ D.n ∧ Ow g' s18 1 (ic l) ∧ LayI D p k 0 l ∧ Ext g0 g') (fun i _ => (D.n - i).toNat) ?_ _
      ⟨0, _, rfl, by omega, os18, i0, xa⟩
    rintro Y _ g3 ⟨i, l, rfl, hi', os18, lay, x03⟩ hY
    unfold spec_l03Layers_b4 spec_l03Layers_C4 spec_l03Layers_C3 spec_l03Layers_C5
    have x3 : Ext h1 g3 := (xg.trans xg0).trans x03
    have o3 := o1.ext x3
    refine isPt_in (o3.ldS (i := 1) rfl rfl ?_)
    refine bif_dec (fun hi2 => ?_) (fun hi2 => ?_)
    · have hin : i < ts.length := by omega
      refine o3.ldA rfl ?_
      have hpw := place_dims d4 (show p < plan.length * (rw_ plan 0).length by omega)
      have xh3 := x1.trans x3
      refine (l03Fits_c hs hp (ru.ext xh3) (rq.ext xh3) (rb.ext xh3) hpw.1 hpw.2 hin).to ?_
      rintro _ g4 ⟨rfl, x4⟩
      have os4 := os18.ext x4
      have hB : D.B p i = bOK ts plan borders (p / (rw_ plan 0).length) (p % (rw_ plan 0).length) i := by rw [← hD]; rfl
      rw [← hB]
      refine bif_not (fun qb => ?_) (fun qb => ?_)
      · rw [w64_of (n := (i : Int) + 1) (by omega) (by omega)]
        exact hY _ _ ⟨i + 1, l, by push_cast; rfl, by omega, os4, lay.none (fun r => by unfold Dp.can; rw [qb]; rfl), x03.trans x4⟩ (by omega)
      have o4 := o3.ext x4
      refine isPt_in (o4.ldS (i := 1) rfl rfl ?_)
      have xh4 := xh3.trans x4
      refine (ru.ext xh4).tileG (by omega) (by omega) ?_
      refine newO_obj fun g5 o5 x5 _ => ?_
      refine o5.stA fun g6 o6 b6 _ => ?_
      have x6 : Ext g4 g6 := x5.but_ b6 (some_le (Nat.le_refl _))
      have x06 := (x03.trans x4).trans x6
      refine spec_l03Layers_rule6 _ _ X Y _ _ _ _ _ _ _ _ _ _ _ _ _ _ _ (fun r g' => ∃ (k : Nat) (l : List Int), r = k ∧ k ≤ D.lim ∧ Ow g' s18 1 (ic l) ∧ LayI D p i k l ∧ Ext g0 g' ∧ Obj g' g4.length (tc (tat ts i))) (fun r _ => (D.lim - r).toNat) ?_ _
        ⟨0, l, rfl, by omega, os4.ext x6, lay, x06, o6⟩
      rintro Z _ g7 ⟨r, l7, rfl, hr, os7', lay7, x07, o7⟩ hZ
      unfold spec_l03Layers_b6 spec_l03Layers_C6 spec_l03Layers_C5
      refine bif_dec (fun hr2 => ?_) (fun hr2 => ?_)
      · have hrl : r < D.lim := by omega
        have hpx : 0 < D.c ^ (p % D.w) := Nat.pow_pos ok.hc
        have hpt : 0 < D.c ^ D.w := Nat.pow_pos ok.hc
        refine ⟨by omega, by omega, by omega, ?_⟩
        rw [tdiv_nat, tdiv_nat, w64_div (by omega), w64_div (by omega), tmod_nat]
        have skip : D.can r p i = false → Z (spec_l03Layers_e6 q bq ⟨some h.length, 2, 0⟩ (rw_ plan 0).length c.toNat D.lim s13 ((D.c ^ D.w : Nat) : Int) p ((p / (rw_ plan 0).length : Nat) : Int) ((p % (rw_ plan 0).length : Nat) : Int) s18 ((D.c ^ (p % D.w) : Nat) : Int) i ⟨some g4.length, 4, 0⟩ (w64 (r + 1))) g7 := fun hn => by
          rw [w64_of (n := (r : Int) + 1) (by omega) (by omega)]
          exact hZ _ _ ⟨r + 1, l7, by push_cast; rfl, by omega, os7', lay7.skip hn, x07, o7⟩ (by omega)
        have e1 := side_nat hs hin (k := 1) (by omega)
        have e0 := side_nat hs hin (k := 0) (by omega)
        have e3 := side_nat hs hin (k := 3) (by omega)
        have e2 := side_nat hs hin (k := 2) (by omega)
        have Dno : D.no i = (sd (tat ts i) 1).toNat := by rw [← hD]; rfl
        have Dwe : D.we i = (sd (tat ts i) 0).toNat := by rw [← hD]; rfl
        have Dso : D.so i = (sd (tat ts i) 3).toNat := by rw [← hD]; rfl
        have Dea : D.ea i = (sd (tat ts i) 2).toNat := by rw [← hD]; rfl
        have hcan : D.can r p i = ((p / (rw_ plan 0).length == 0 || dig D.c r (p % D.w) == D.no i) && (p % (rw_ plan 0).length == 0 || r / D.c ^ D.w == D.we i)) := by
          unfold Dp.can
          rw [qb, Bool.true_and, dig_top (v := r) hrl, Dw]
        have hdig : ((r / D.c ^ (p % D.w) % c.toNat : Nat) : Int) = ((dig D.c r (p % D.w) : Nat) : Int) := by unfold dig; rw [Dc]
        rw [hdig]
        have U : D.can r p i = true → ixA ⟨some g4.length, 4, 0⟩ 4 1 3 fun p4 => Cl.ldI .i64 p4 g7 fun n5 => ixA ⟨some g4.length, 4, 0⟩ 4 1 2 fun p6 => Cl.ldI .i64 p6 g7 fun n7 => ixS s18 1 r fun p8 => Cl.ldI .i64 p8 g7 fun n9 => ixS s13 1 (w64 ((p : Int) + 1)) fun p10 => Cl.ldS p10 g7 fun s11 =>
            ixS s11 1 (w64 ((w64 ((r : Int) + (w64 ((w64 (n5 - ((dig D.c r (p % D.w) : Nat) : Int))) * ((D.c ^ (p % D.w) : Nat) : Int))))) + (w64 ((w64 (n7 - ((r / D.c ^ D.w : Nat) : Int))) * ((D.c ^ D.w : Nat) : Int))))) fun p12 => Cl.ldI .i64 p12 g7 fun n13 => ixS s18 1 r fun p14 => Cl.st1 p14 (.int .i64 (mnI (w64 (n9 + n13)) 1000000000000001)) g7 fun h15 =>
            Z (spec_l03Layers_e6 q bq ⟨some h.length, 2, 0⟩ (rw_ plan 0).length c.toNat D.lim s13 ((D.c ^ D.w : Nat) : Int) p ((p / (rw_ plan 0).length : Nat) : Int) ((p % (rw_ plan 0).length : Nat) : Int) s18 ((D.c ^ (p % D.w) : Nat) : Int) i ⟨some g4.length, 4, 0⟩ (w64 (r + 1))) h15 := fun hc => by
          refine o7.sdI (k := 3) (by omega) (by omega) ?_
          refine o7.sdI (k := 2) (by omega) (by omega) ?_
          refine os7'.rd.ldG (by omega) (by rw [lay7.1]; omega) ?_
          rw [Int.toNat_natCast, w64_of (n := (p : Int) + 1) (by omega) (by omega)]
          obtain ⟨w, ln, rn, yn, hw⟩ := tab x07
          refine (ost.ext x07).rd.ldS (by omega) (by omega) fun w' hw' => ?_
          rw [show ((p : Int) + 1).toNat = p + 1 by omega, hw] at hw'
          cases hw'
          rw [show sd (tat ts ((i : Nat) : Int)) (Int.toNat 3) = (D.so i : Int) by rw [Dso]; exact e3, show sd (tat ts ((i : Nat) : Int)) (Int.toNat 2) = (D.ea i : Int) by rw [Dea]; exact e2]
          rw [stepR_w ok (by omega) hb hrl]
          have hst := Dp.stepR_lt ok (p := p) (r := r) (show i < D.n by omega)
          refine rn.ldG (by omega) (by rw [yn.1]; unfold Dp.lim; omega) ?_
          rw [Int.toNat_natCast]
          obtain ⟨y1, y2, y3⟩ := yn.2 (D.stepR r p i) hst
          refine os7'.stI (by omega) (by rw [ls18']; omega) _ fun g8 o8 b8 n8 => ?_
          rw [Int.toNat_natCast] at o8
          rw [w64_of (n := (r : Int) + 1) (by omega) (by omega)]
          have hlg0 := xa.len
          refine hZ _ _ ⟨r + 1, _, by push_cast; rfl, by omega, o8, lay7.upd hrl hc y1 y2 y3, x07.but_ b8 (by rw [so18]; exact some_le (Nat.le_refl _)), o7.but b8 (by rw [so18]; intro e; have := Option.some.inj e; have h8 := x03.len; have h9 := x4.len; have h10 := os18.lt so18; omega)⟩ (by omega)
        have beqC : ∀ a b : Nat, ((a : Int) != (b : Int)) = !(a == b) := fun a b => by
          rw [Bool.eq_iff_iff]
          simp only [bne_iff_ne, ne_eq, Bool.not_eq_true', beq_eq_false_iff_ne]
          omega
        have e1' : sd (tat ts ((i : Nat) : Int)) (Int.toNat 1) = (D.no i : Int) := by rw [Dno]; exact e1
        have e0' : sd (tat ts ((i : Nat) : Int)) (Int.toNat 0) = (D.we i : Int) := by rw [Dwe]; exact e0
        obtain ⟨y, hyd⟩ : ∃ y, p / (rw_ plan 0).length = y := ⟨_, rfl⟩
        obtain ⟨x, hxd⟩ : ∃ x, p % (rw_ plan 0).length = x := ⟨_, rfl⟩
        rw [hyd, hxd] at hcan skip U hZ
        rw [hyd, hxd]
        obtain ⟨nb, hnb⟩ : ∃ b, (dig D.c r (p % D.w) == D.no i) = b := ⟨_, rfl⟩
        obtain ⟨wb, hwb⟩ : ∃ b, (r / D.c ^ D.w == D.we i) = b := ⟨_, rfl⟩
        rw [hnb, hwb] at hcan
        refine bif_dec (fun qy => ?_) (fun qy => ?_)
        · have ey : (y == 0) = false := by rw [beq_eq_false_iff_ne]; omega
          rw [ey, Bool.false_or] at hcan
          refine o7.sdI (k := 1) (by omega) (by omega) ?_
          rw [e1', beqC, hnb]
          refine bif_not (fun q1 => skip (by rw [hcan, q1]; rfl)) (fun q1 => ?_)
          rw [q1, Bool.true_and] at hcan
          refine bif_dec (fun qx => ?_) (fun qx => ?_)
          · have ex : (x == 0) = false := by rw [beq_eq_false_iff_ne]; omega
            rw [ex, Bool.false_or] at hcan
            refine o7.sdI (k := 0) (by omega) (by omega) ?_
            rw [e0', beqC, hwb]
            exact bif_not (fun q2 => skip (by rw [hcan, q2])) (fun q2 => U (by rw [hcan, q2]))
          · exact U (by rw [hcan, show (x == 0) = true by rw [beq_iff_eq]; omega]; rfl)
        · have ey : (y == 0) = true := by rw [beq_iff_eq]; omega
          rw [ey, Bool.true_or, Bool.true_and] at hcan
          refine bif_dec (fun qx => ?_) (fun qx => ?_)
          · have ex : (x == 0) = false := by rw [beq_eq_false_iff_ne]; omega
            rw [ex, Bool.false_or] at hcan
            refine o7.sdI (k := 0) (by omega) (by omega) ?_
            rw [e0', beqC, hwb]
            exact bif_not (fun q2 => skip (by rw [hcan, q2])) (fun q2 => U (by rw [hcan, q2]))
          · exact U (by rw [hcan, show (x == 0) = true by rw [beq_iff_eq]; omega]; rfl)
      · have hrl : r = D.lim := by omega
        subst hrl
        rw [w64_of (n := (i : Int) + 1) (by omega) (by omega)]
        exact hY _ _ ⟨i + 1, l7, by push_cast; rfl, by omega, os7', lay7.all, x07⟩ (by omega)
    · have hin : i = D.n := by omega
      subst hin
      have ost3 := ost.ext x03
      refine ost3.stC (by omega) (by omega) _ fun g5 ost5 b5 n5 => ?_
      rw [so13] at b5
      rw [Int.toNat_natCast, ← List.map_set] at ost5
      rw [w64_of (n := (p : Int) - 1) (by omega) (by omega)]
      have lx03 := x03.len
      refine hX _ _ ⟨p, _, rfl, by omega, by simp [hvl], ost5, fun j w hj hw => ?_, (xg0.trans x03).but_ b5 (some_le (Nat.le_refl _))⟩ (by omega)
      rcases Nat.lt_or_ge p j with hlt | hge
      · rw [List.getElem?_set_ne (by omega)] at hw
        obtain ⟨l', r', y', z'⟩ := hrows j w (by omega) hw
        exact ⟨l', (r'.ext x03).but b5 (.inl (Ne.symm z')), y', z'⟩
      · have hjp : j = p := by omega
        subst hjp
        rw [List.getElem?_set_self (by omega)] at hw
        cases hw
        have hne : some g.length ≠ s18.o := by rw [so18]; intro e; have := Option.some.inj e; omega
        exact ⟨l, (os18.but b5 (.inl hne)).rd, lay.end hpl, Ne.symm hne⟩
  · have hp0 : p1 = 0 := by omega
    subst hp0
    refine ⟨_, rfl, ⟨vs, hvl, ost.rd, fun j w hw => ?_⟩, x1.trans (xg.trans xg0)⟩
    obtain ⟨l', r', y', _⟩ := hrows j w (by omega) hw
    exact ⟨l', r', y'⟩
end
end Go.Proofs.Ytgeakkmpohjohaa.Cl

/- Fillings by places: the reference's tiles that stand at each place. No claim is stated here. -/
set_option linter.unusedVariables false
set_option linter.unusedSimpArgs false
namespace Go.Proofs.Ytgeakkmpohjohaa.Cl
open Go
theorem pushO {h : H} {s : Sl} {l : List Int} {x : Int} (r : Ow h s 1 (ic l)) (hl : (l.length : Int) + 1 ≤ lim) {K : Sl → H → Prop}
    (hk : ∀ s' h', Ow h' s' 1 (ic (l ++ [x])) → But s.o h h' → (∀ o, s.o = some o → s'.o = some o) → K s' h') : newS 1 1 [.int .i64 x] h fun t h1 => app s t 1 h1 K := by
  refine newS_ow (by rfl) fun t h1 ot tl to e1 => ?_
  have e1' : Ext h h1 := by rw [e1]; exact Ext.app _ _
  have hsl := r.rd.ilen
  exact app_ow (by omega) (r.ext e1') ot.rd (by rw [tl, hsl]; exact_mod_cast hl) fun s' h' o' ln b k1 k2 => hk s' h' (by rw [ic_app]; exact o') ((e1'.but _).trans b) k1
theorem wrap16 : ∀ i, i < 16 → IntKind.wrap .u64 ((i : Nat) : Int) = (i : Int) := by decide +kernel
theorem shl16 : ∀ i, i < 16 → shlI .i64 1 ((i : Nat) : Int) = ((2 ^ i : Nat) : Int) := by decide +kernel
theorem pow16 {i : Nat} (hi : i < 16) : 2 ^ i < 65536 := by
  have := Nat.pow_le_pow_right (show 0 < 2 by omega) (show i ≤ 15 by omega)
  omega
theorem ofInt_nat (n : Nat) : BitVec.ofInt 64 (n : Int) = BitVec.ofNat 64 n := by simp
theorem or16 {u i : Nat} (hu : u < 65536) (hi : i < 16) : bitsOp .or .i64 (u : Int) (shlI .i64 1 (IntKind.wrap .u64 (i : Int))) = ((u ||| 2 ^ i : Nat) : Int) := by
  rw [wrap16 i hi, shl16 i hi]
  have hp := pow16 hi
  have hor : u ||| 2 ^ i < 2 ^ 16 := Nat.or_lt_two_pow hu hp
  show w64 (((BitVec.ofInt 64 (u : Int)) ||| (BitVec.ofInt 64 ((2 ^ i : Nat) : Int))).toNat : Int) = _
  rw [ofInt_nat, ofInt_nat, BitVec.toNat_or, BitVec.toNat_ofNat, BitVec.toNat_ofNat, Nat.mod_eq_of_lt (by omega), Nat.mod_eq_of_lt (by omega)]
  exact w64_of (by omega) (by omega)
theorem or16_lt {u i : Nat} (hu : u < 65536) (hi : i < 16) : u ||| 2 ^ i < 65536 := Nat.or_lt_two_pow (n := 16) hu (pow16 hi)
theorem or16_at (u i j : Nat) : (u ||| 2 ^ i).testBit j = (u.testBit j || decide (i = j)) := by rw [Nat.testBit_or, Nat.testBit_two_pow]
section
variable (D : Dp) (p : Nat)
def NXo (s i : Nat) : Prop := D.now p s ∧ i < D.n ∧ D.can s p i = true ∧ D.left (p + 1) (D.stepR s p i)
def Acc (st i : Nat) (nl : List Bool) (own : Nat) : Prop := nl.length = D.lim ∧ own < 65536 ∧
  (∀ r, r < D.lim → (nl.getD r false = true ↔ ∃ s' i', (s' < st ∨ s' = st ∧ i' < i) ∧ NXo D p s' i' ∧ r = D.stepR s' p i')) ∧
  ∀ j, own.testBit j = true ↔ ∃ s', (s' < st ∨ s' = st ∧ j < i) ∧ NXo D p s' j
/-- The tiles that stand at a place, as bits. -/
def StandN (m : Nat) : Prop := m < 65536 ∧ ∀ j, m.testBit j = true ↔ (j < D.n ∧ D.stand p j)
end
section
variable {D : Dp} {p : Nat}
theorem getDB_set {l : List Bool} {i j : Nat} {v : Bool} (h : i < l.length) : (l.set i v).getD j false = if i = j then v else l.getD j false := by
  rw [List.getD_eq_getElem?_getD, List.getD_eq_getElem?_getD, List.getElem?_set]
  by_cases e : i = j
  · subst e; simp [h]
  · rw [if_neg e, if_neg e]
theorem Acc.start {l : List Bool} (hl : l.length = D.lim) (h0 : ∀ r, r < D.lim → l.getD r false = false) : Acc D p 0 0 l 0 := by
  refine ⟨hl, by omega, fun r hr => ?_, fun j => ?_⟩
  · rw [h0 r hr]
    exact ⟨fun e => by simp at e, fun ⟨s, i, h, _⟩ => by omega⟩
  · rw [Nat.zero_testBit]
    exact ⟨fun e => by simp at e, fun ⟨s, h, _⟩ => by omega⟩
theorem Acc.skip {st i own : Nat} {l : List Bool} (a : Acc D p st i l own) (hn : ¬ NXo D p st i) : Acc D p st (i + 1) l own := by
  obtain ⟨a1, a2, a3, a4⟩ := a
  refine ⟨a1, a2, fun r hr => (a3 r hr).trans ⟨fun ⟨s, j, h1, h2, h3⟩ => ⟨s, j, by omega, h2, h3⟩, fun ⟨s, j, h1, h2, h3⟩ => ?_⟩, fun j => (a4 j).trans ⟨fun ⟨s, h1, h2⟩ => ⟨s, by omega, h2⟩, fun ⟨s, h1, h2⟩ => ?_⟩⟩
  · by_cases e : s = st ∧ j = i
    · rw [e.1, e.2] at h2; exact absurd h2 hn
    · exact ⟨s, j, by omega, h2, h3⟩
  · by_cases e : s = st ∧ j = i
    · rw [e.1, e.2] at h2; exact absurd h2 hn
    · exact ⟨s, by omega, h2⟩
theorem Acc.add {st i own : Nat} {l : List Bool} (a : Acc D p st i l own) (hn : NXo D p st i) (hi : i < 16) (hs : D.stepR st p i < D.lim) : Acc D p st (i + 1) (l.set (D.stepR st p i) true) (own ||| 2 ^ i) := by
  obtain ⟨a1, a2, a3, a4⟩ := a
  refine ⟨by rw [List.length_set]; exact a1, or16_lt a2 hi, fun r hr => ?_, fun j => ?_⟩
  · rw [getDB_set (by omega)]
    split
    · next e => exact ⟨fun _ => ⟨st, i, by omega, hn, e.symm⟩, fun _ => rfl⟩
    · next e =>
      refine (a3 r hr).trans ⟨fun ⟨s, j, h1, h2, h3⟩ => ⟨s, j, by omega, h2, h3⟩, fun ⟨s, j, h1, h2, h3⟩ => ?_⟩
      by_cases e2 : s = st ∧ j = i
      · rw [e2.1, e2.2] at h3; exact absurd h3.symm e
      · exact ⟨s, j, by omega, h2, h3⟩
  · rw [or16_at, Bool.or_eq_true, decide_eq_true_eq, a4 j]
    constructor
    · rintro (⟨s, h1, h2⟩ | rfl)
      · exact ⟨s, by omega, h2⟩
      · exact ⟨st, by omega, hn⟩
    · rintro ⟨s, h1, h2⟩
      by_cases e : s = st ∧ j = i
      · exact .inr e.2.symm
      · exact .inl ⟨s, by omega, h2⟩
theorem Acc.next {st i own : Nat} {l : List Bool} (a : Acc D p st i l own) (hn : ∀ j, i ≤ j → ¬ NXo D p st j) : Acc D p (st + 1) 0 l own := by
  obtain ⟨a1, a2, a3, a4⟩ := a
  refine ⟨a1, a2, fun r hr => (a3 r hr).trans ⟨fun ⟨s, j, h1, h2, h3⟩ => ⟨s, j, by omega, h2, h3⟩, fun ⟨s, j, h1, h2, h3⟩ => ?_⟩, fun j => (a4 j).trans ⟨fun ⟨s, h1, h2⟩ => ⟨s, by omega, h2⟩, fun ⟨s, h1, h2⟩ => ?_⟩⟩
  · by_cases e : s = st ∧ i ≤ j
    · rw [e.1] at h2; exact absurd h2 (hn j e.2)
    · exact ⟨s, j, by omega, h2, h3⟩
  · by_cases e : s = st ∧ i ≤ j
    · rw [e.1] at h2; exact absurd h2 (hn j e.2)
    · exact ⟨s, by omega, h2⟩
theorem Acc.now {own : Nat} {l : List Bool} (ok : D.OK) (a : Acc D p D.lim 0 l own) : ∀ r, r < D.lim → (l.getD r false = true ↔ D.now (p + 1) r) := fun r hr => by
  refine (a.2.2.1 r hr).trans ⟨fun ⟨s, j, _, ⟨h1, h2, h3, h4⟩, h5⟩ => ⟨s, j, h1, h2, h3, by rw [h5]; exact h4, h5⟩, fun ⟨s, j, h1, h2, h3, h4, h5⟩ => ⟨s, j, .inl (Dp.now_lt ok p s h1), ⟨h1, h2, h3, by rw [← h5]; exact h4⟩, h5⟩⟩
theorem Acc.stand {own : Nat} {l : List Bool} (ok : D.OK) (a : Acc D p D.lim 0 l own) : StandN D p own := by
  refine ⟨a.2.1, fun j => (a.2.2.2 j).trans ⟨fun ⟨s, _, h1, h2, h3, h4⟩ => ⟨h2, s, h1, h3, h4⟩, fun ⟨h2, s, h1, h3, h4⟩ => ⟨s, .inl (Dp.now_lt ok p s h1), h1, h2, h3, h4⟩⟩⟩
end
section
variable {c : Int} {ts : List Tile} {plan borders : List (List Int)} {u q bq : Sl}
set_option maxHeartbeats 1000000 in
theorem l03Stand_c (hs : setOK c ts) (hp : PlanOK c ts.length plan borders) {h : H} (ru : Rd h u 4 (tcs ts)) (rq : RdSS h q plan) (rb : RdSS h bq borders) :
    callS SP i_spec_l03Stand [.agg (SetC c u), .sl q, .sl bq] h fun v h' => (∃ us : List Int, Rd h' v 1 (ic us) ∧ us.length = (dpOf c ts plan borders).size ∧ ∀ p, p < (dpOf c ts plan borders).size → ∃ m : Nat, us.getD p 0 = (m : Int) ∧ StandN (dpOf c ts plan borders) p m) ∧ Fr h.length v ∧ Ext h h' := by
  obtain ⟨d1, d2, d3, d4, d5, d6, d7, d8, d9⟩ := dims hs hp
  have ok := dp_ok hs hp
  have hcanc := fun {h : H} (ru : Rd h u 4 (tcs ts)) (rq : RdSS h q plan) (rb : RdSS h bq borders) (s p i : Nat) (a : s < (dpOf c ts plan borders).c ^ ((dpOf c ts plan borders).w + 1)) (b : i < ts.length) (d : p < plan.length * (rw_ plan 0).length) => l03Can_c hs hp ru rq rb a b d
  have hstepc := fun {h : H} (ru : Rd h u 4 (tcs ts)) (s p i : Nat) (a : s < (dpOf c ts plan borders).c ^ ((dpOf c ts plan borders).w + 1)) (b : i < ts.length) (d : p ≤ 1000) => l03Step_c hs hp (borders := borders) ru a b d
  have hlayc := fun {h : H} (ru : Rd h u 4 (tcs ts)) (rq : RdSS h q plan) (rb : RdSS h bq borders) => l03Layers_c hs hp ru rq rb
  have Dn' : (dpOf c ts plan borders).n = ts.length := rfl
  have Ds' : (dpOf c ts plan borders).size = plan.length * (rw_ plan 0).length := rfl
  have Dc' : (dpOf c ts plan borders).c = c.toNat := rfl
  have Dw' : (dpOf c ts plan borders).w = (rw_ plan 0).length := rfl
  generalize dpOf c ts plan borders = D at ok hcanc hstepc hlayc Dn' Ds' Dc' Dw' ⊢
  have hb : D.c ^ (D.w + 1) ≤ 46656 := pow_small (by omega) (by omega)
  have hlim : D.lim ≤ 46656 := hb
  have hlim0 : 0 < D.lim := Nat.pow_pos ok.hc
  have hql := rq.len
  have hul := ru.tlen
  apply spec_l03Stand_call
  unfold spec_l03Stand_main
  refine newK_obj fun h1 o1 x1 l1 => ?_
  refine o1.ldA rfl ?_
  refine (hlayc (ru.ext x1) (rq.ext x1) (rb.ext x1)).to ?_
  rintro s4 h3 ⟨lt, x3⟩
  refine (rq.ext x1).ixC (i := 0) (by omega) (by omega) fun p5 v0 hp5 rv0 lv0 => ⟨v0, x3.cell hp5, (x3.cellE hp5).symm, ?_⟩
  replace lv0 : v0.len = (rw_ plan 0).length := lv0
  clear rv0
  have lt0 := lt
  obtain ⟨vs, hvl, rvs, hrow⟩ := lt
  have ls4 : s4.len = D.size + 1 := by have := rvs.len; rw [List.length_map, Nat.mul_one] at this; omega
  refine rvs.ldS (by omega) (by omega) fun s8 hs8 => ?_
  obtain ⟨l8, r8, y8⟩ := hrow 0 s8 hs8
  have ls8 := r8.ilen
  rw [y8.1] at ls8
  refine mkS_ow (by omega) (by unfold lim; omega) fun s9 h10 os9 ls9 so9 e10 => ?_
  have x10 : Ext h3 h10 := by rw [e10]; exact Ext.app _ _
  have zb : ∀ n : Nat, n = D.lim → (List.replicate (n : Int).toNat [AVal.bool false]).flatten = (List.replicate D.lim false).map .bool := fun n e => by
    rw [List.map_replicate, Int.toNat_natCast, e]; simp
  rw [zb _ ls8] at os9
  refine newS_ow (by rfl) fun s11 h12 os11 ls11 so11 e12 => ?_
  have x12 : Ext h10 h12 := by rw [e12]; exact Ext.app _ _
  have l10 : h10.length = h3.length + 1 := by rw [e10]; simp
  refine (os9.ext x12).stC (by omega) (by omega) _ fun h14 os14 b14 n14 => ?_
  rw [so9] at b14
  have x314 : Ext h3 h14 := (x10.trans x12).but_ b14 (some_le (Nat.le_refl _))
  have eset : ((List.replicate D.lim false).map AVal.bool).set (Int.toNat 0) (.bool true) = ((List.replicate D.lim false).set 0 true).map .bool := by rw [List.map_set]; rfl
  rw [eset] at os14
  have lx3 := x3.len
  have Z : ∀ r, r < D.lim → (List.replicate D.lim false).getD r false = false := fun r hr => by rw [List.getD_eq_getElem?_getD, List.getElem?_replicate, if_pos hr]; rfl
  refine spec_l03Stand_rule0 _ _ _ _ _ _ _ (fun s9 s10 i g => ∃ (p : Nat) (bl : List Bool) (us : List Int), i = p ∧ p ≤ D.size ∧ Rd g s9 1 (bl.map .bool) ∧ s9.o ≠ some h10.length ∧ bl.length = D.lim ∧ (∀ r, r < D.lim → (bl.getD r false = true ↔ D.now p r)) ∧ Ow g s10 1 (ic us) ∧ s10.o = some h10.length ∧ us.length = p ∧ (∀ p', p' < p → ∃ m : Nat, us.getD p' 0 = (m : Int) ∧ StandN D p' m) ∧ Ext h3 g) (fun _ _ i _ => (D.size - i).toNat) ?_ _ _ _
    ⟨0, _, [], rfl, by omega, os14.rd, by rw [so9]; intro e; have := Option.some.inj e; omega, by simp, fun r hr => by
      rw [getDB_set (by simp; exact hlim0)]
      split
      · next e => exact ⟨fun _ => e.symm, fun _ => rfl⟩
      · next e => rw [Z r hr]; exact ⟨fun e2 => by simp at e2, fun e2 => absurd (show r = 0 from e2).symm e⟩, os11.but b14 (.inl (by rw [so11]; intro e; have := Option.some.inj e; omega)), so11, rfl, fun p' hp' => by omega, x314⟩
  rintro X s9' s10 _ g ⟨p, bl, us, rfl, hp', r9, o9n, hbl, hnow, os10, so10, hul10, hus, xg⟩ hX
  unfold spec_l03Stand_b0 spec_l03Stand_C0
  have ls9' : s9'.len = D.lim := by have := r9.len; rw [List.length_map, hbl, Nat.mul_one] at this; omega
  rw [w64_of (n := (p : Int) + 1) (by omega) (by omega), ls4]
  refine bif_dec (fun hi => ?_) (fun hi => ?_)
  · have hpl : p < D.size := by omega
    rw [ls9']
    refine mkS_ow (by omega) (by unfold lim; omega) fun s12 g1 os12 ls12 so12 eg1 => ?_
    have xa : Ext g g1 := by rw [eg1]; exact Ext.app _ _
    have lg1 : g1.length = g.length + 1 := by rw [eg1]; simp
    rw [zb _ rfl] at os12
    have ls12' : s12.len = D.lim := by rw [ls12]; omega
    have hgx := xg.len
    have hg10 := os10.lt so10
    refine spec_l03Stand_rule2 _ _ X _ _ _ _ _ _ _ _ _ (fun own st g' => ∃ (m k : Nat) (nl : List Bool), own = m ∧ st = k ∧ k ≤ D.lim ∧ Ow g' s12 1 (nl.map .bool) ∧ Acc D p k 0 nl m ∧ Ext g g') (fun _ st _ => (D.lim - st).toNat) ?_ _ _
      ⟨0, 0, _, rfl, rfl, by omega, os12, Acc.start (by simp) Z, xa⟩
    rintro Y _ _ g2 ⟨m, st, nl, rfl, rfl, hst, os12, acc, x2⟩ hY
    unfold spec_l03Stand_b2 spec_l03Stand_C2 spec_l03Stand_C1
    rw [ls9']
    refine bif_dec (fun hi2 => ?_) (fun hi2 => ?_)
    · have hstl : st < D.lim := by omega
      refine spec_l03Stand_rule4 _ _ X Y _ _ _ _ _ _ _ _ _ _ (fun own i g' => ∃ (m k : Nat) (nl : List Bool), own = m ∧ i = k ∧ k ≤ D.n ∧ Ow g' s12 1 (nl.map .bool) ∧ Acc D p st k nl m ∧ Ext g g') (fun _ i _ => (D.n - i).toNat) ?_ _ _
        ⟨m, 0, nl, rfl, rfl, by omega, os12, acc, x2⟩
      rintro Z' _ _ g3 ⟨m3, i, nl3, rfl, rfl, hin, os3, acc3, x03⟩ hZ
      unfold spec_l03Stand_b4 spec_l03Stand_C4 spec_l03Stand_C3
      have xx3 : Ext h1 g3 := x3.trans (xg.trans x03)
      have o3 := o1.ext xx3
      have xh3 := x1.trans xx3
      refine isPt_in (o3.ldS (i := 1) rfl rfl ?_)
      have nxt : (∀ j, i ≤ j → ¬ NXo D p st j) → Y (spec_l03Stand_e2 q bq ⟨some h.length, 2, 0⟩ s4 v0.len s9' s10 p s12 m3 (w64 (st + 1))) g3 := fun hn => by
        rw [w64_of (n := (st : Int) + 1) (by omega) (by omega)]
        exact hY _ _ _ ⟨m3, st + 1, nl3, rfl, by push_cast; rfl, by omega, os3, acc3.next hn, x03⟩ (by omega)
      refine bif_dec (fun hi3 => ?_) (fun hi3 => nxt fun j hj hn => by have := hn.2.1; omega)
      have hil : i < ts.length := by omega
      refine Rd.ldB (r9.ext x03) (by omega) (by rw [hbl]; omega) fun b hb2 => ?_
      rw [Int.toNat_natCast] at hb2
      have hbn : b = true ↔ D.now p st := by
        have := hnow st hstl
        rw [List.getD_eq_getElem?_getD, hb2] at this
        exact this
      refine bif_b (fun qn => ?_) (fun qn => nxt fun j _ hn => by have := hbn.2 hn.1; rw [qn] at this; cases this)
      have hn := hbn.1 qn
      refine o3.ldA rfl ?_
      refine (hcanc (ru.ext xh3) (rq.ext xh3) (rb.ext xh3) st p i hstl hil (by omega)).to ?_
      rintro _ g4 ⟨rfl, x4⟩
      refine bif_not (fun qc => ?_) (fun qc => ?_)
      · rw [w64_of (n := (i : Int) + 1) (by omega) (by omega)]
        exact hZ _ _ _ ⟨m3, i + 1, nl3, rfl, by push_cast; rfl, by omega, os3.ext x4, acc3.skip (fun h => by have := h.2.2.1; rw [qc] at this; cases this), x03.trans x4⟩ (by omega)
      have o4 := o3.ext x4
      refine o4.ldA rfl ?_
      have xh4 := xh3.trans x4
      rw [lv0]
      refine (hstepc (ru.ext xh4) st p i hstl hil (by omega)).to ?_
      rintro _ g5 ⟨rfl, x5⟩
      have x05 := (x03.trans x4).trans x5
      rw [w64_of (n := (p : Int) + 1) (by omega) (by omega)]
      have x35 := xg.trans x05
      refine (rvs.ext x35).ldS (by omega) (by omega) fun w hw => ?_
      rw [show ((p : Int) + 1).toNat = p + 1 by omega] at hw
      obtain ⟨ln, rn, yn⟩ := hrow (p + 1) w hw
      have hsl : D.stepR st p i < D.lim := Dp.stepR_lt ok (by omega)
      refine (rn.ext x35).ldG (by omega) (by rw [yn.1]; omega) ?_
      rw [Int.toNat_natCast]
      obtain ⟨y1, y2, y3⟩ := yn.2 _ hsl
      rw [← lv0]
      refine bif_dec (fun ql => ?_) (fun ql => ?_)
      · refine ((os3.ext x4).ext x5).stC (by omega) (by omega) _ fun g6 os6 b6 n6 => ?_
        rw [Int.toNat_natCast, ← List.map_set] at os6
        refine ⟨by rw [wrap16 i (by omega)]; omega, ?_⟩
        rw [or16 acc3.2.1 (by omega), w64_of (n := (i : Int) + 1) (by omega) (by omega)]
        exact hZ _ _ _ ⟨_, i + 1, _, rfl, by push_cast; rfl, by omega, os6, acc3.add ⟨hn, by omega, qc, y3.1 ql⟩ (by omega) hsl, x05.but_ b6 (by rw [so12]; exact some_le (Nat.le_refl _))⟩ (by omega)
      · rw [w64_of (n := (i : Int) + 1) (by omega) (by omega)]
        exact hZ _ _ _ ⟨m3, i + 1, nl3, rfl, by push_cast; rfl, by omega, (os3.ext x4).ext x5, acc3.skip (fun h => ql (y3.2 h.2.2.2)), x05⟩ (by omega)
    · have hstl : st = D.lim := by omega
      subst hstl
      refine pushO (os10.ext x2) (by rw [hul10]; unfold lim; omega) fun s' g5 os5 b5 k5 => ?_
      rw [so10] at b5
      rw [w64_of (n := (p : Int) + 1) (by omega) (by omega)]
      refine hX _ _ _ _ ⟨p + 1, nl, us ++ [(m : Int)], by push_cast; rfl, by omega, (os12.but b5 (.inl (by rw [so12]; intro e; have := Option.some.inj e; omega))).rd, by rw [so12]; intro e; have := Option.some.inj e; omega, acc.1, acc.now ok, os5, k5 _ so10, by simp [hul10], fun p' hp2 => ?_, (xg.trans x2).but_ b5 (some_le (by omega))⟩ (by omega)
      rcases Nat.lt_or_ge p' p with h5 | h5
      · obtain ⟨m', e1, e2⟩ := hus p' h5
        exact ⟨m', by rw [List.getD_eq_getElem?_getD, List.getElem?_append_left (by omega), ← List.getD_eq_getElem?_getD]; exact e1, e2⟩
      · have : p' = p := by omega
        subst this
        exact ⟨m, by rw [List.getD_eq_getElem?_getD, List.getElem?_append_right (by omega), hul10, Nat.sub_self]; rfl, acc.stand ok⟩
  · have hpl : p = D.size := by omega
    subst hpl
    exact ⟨_, rfl, ⟨us, os10.rd, hul10, hus⟩, fun o e => by rw [so10] at e; cases e; omega, x1.trans (x3.trans xg)⟩
end
end Go.Proofs.Ytgeakkmpohjohaa.Cl
