/- The clean machine: places of their own, variables in the heap. No claim is stated here. -/
import Derived.Test.YtdmhchgaeepdmaaClN
set_option linter.unusedVariables false
set_option linter.unusedSimpArgs false
namespace Go.Proofs.Ytdmhchgaeepdmaa.Cl
open Go
/-! ### places of their own -/
theorem slotK_in {k : Nat} {h : H} {K : H → Prop} (hk : ∀ h1, Ext h h1 → h1.length = h.length + k → K h1) : slotK k h K :=
  hk _ (Ext.app _ _) (by simp)
theorem newSat_ow {h : H} {len z n : Nat} {cs : List AVal} (hn : n < h.length) (hc : cs.length = len * z) {K : Sl → H → Prop}
    (hk : ∀ s' h', Ow h' s' z cs → s'.len = len → s'.o = some n → But (some n) h h' → h'.length = h.length → K s' h') : newSat len z cs h n K :=
  hk _ _ ⟨hc, .inr ⟨n, rfl, rfl, rfl, rfl, by simp [hn]⟩⟩ rfl rfl ⟨by simp, fun i hi hne => by rw [List.getElem?_set, if_neg (fun e => hne (by rw [e]))]⟩ (by simp)
theorem mkSat_ow {h : H} {m : Int} {z : List AVal} {n : Nat} (hn : n < h.length) (h0 : 0 ≤ m) (h1 : m ≤ lim) {K : Sl → H → Prop}
    (hk : ∀ s' h', Ow h' s' z.length (List.replicate m.toNat z).flatten → s'.len = m.toNat → s'.o = some n → But (some n) h h' → h'.length = h.length → K s' h') : mkSat m z h n K :=
  ⟨⟨h0, h1⟩, hk _ _ ⟨by simp, .inr ⟨n, rfl, rfl, rfl, by simp, by simp [hn]⟩⟩ rfl rfl ⟨by simp, fun i hi hne => by rw [List.getElem?_set, if_neg (fun e => hne (by rw [e]))]⟩ (by simp)⟩
/-! ### variables -/
abbrev pt (o : Nat) : Pt := ⟨some o, 1, 0⟩
/-- The variable at o has the value v. -/
def Var (h : H) (o : Nat) (v : AVal) : Prop := h[o]? = some (.own [v])
theorem Var.lt {h o v} (x : Var h o v) : o < h.length := (List.getElem?_eq_some_iff.1 x).1
theorem Var.cell {h o v} (x : Var h o v) : Cl.cell h (pt o) = some v := by
  have x' : h[o]? = some (.own [v]) := x
  simp [Cl.cell, cells, x']
theorem Var.ext {h h' o v} (x : Var h o v) (e : Ext h h') : Var h' o v := e.own x
theorem Var.but {h h' o v} {p : Option Nat} (x : Var h o v) (b : But p h h') (hn : p ≠ some o) : Var h' o v := b.get x hn
theorem Var.ldI {h o n} {k : IntKind} (x : Var h o (.int k n)) {K : Int → Prop} (hk : K n) : Cl.ldI k (pt o) h K := ⟨n, x.cell, hk⟩
theorem Var.ldB {h o n} (x : Var h o (.bool n)) {K : Bool → Prop} (hk : K n) : Cl.ldB (pt o) h K := ⟨n, x.cell, hk⟩
theorem Var.ldS {h o n} (x : Var h o (.sl n)) {K : Sl → Prop} (hk : K n) : Cl.ldS (pt o) h K := ⟨n, x.cell, hk⟩
theorem Var.ldP {h o n} (x : Var h o (.ptr n)) {K : Pt → Prop} (hk : K n) : Cl.ldP (pt o) h K := ⟨n, x.cell, hk⟩
theorem Var.ldV {h o n} (x : Var h o n) {K : AVal → Prop} (hk : K n) : Cl.ldV (pt o) h K := ⟨n, x.cell, hk⟩
theorem Var.st {h o v} (x : Var h o v) (u : AVal) {K : H → Prop} (hk : ∀ h', Var h' o u → But (some o) h h' → h'.length = h.length → K h') : Cl.st1 (pt o) u h K := by
  have hl := x.lt
  refine ⟨h.set o (.own [u]), ?_, hk _ (by unfold Var; simp [hl]) ⟨by simp, fun i hi hne => by rw [List.getElem?_set, if_neg (fun e => hne (by rw [e]))]⟩ (by simp)⟩
  have x' : h[o]? = some (.own [v]) := x
  simp [put1, owned, x']
theorem newO_var {v : AVal} {h : H} {K : Pt → H → Prop} (hk : ∀ h', Var h' h.length v → Ext h h' → h'.length = h.length + 1 → K (pt h.length) h') : newO [v] h K :=
  hk _ (by unfold Var; simp) (Ext.app _ _) (by simp)
theorem newOat_var {v : AVal} {h : H} {n : Nat} (hn : n < h.length) {K : Pt → H → Prop} (hk : ∀ h', Var h' n v → But (some n) h h' → h'.length = h.length → K (pt n) h') : newOat [v] h n K :=
  hk _ (by unfold Var; simp [hn]) ⟨by simp, fun i hi hne => by rw [List.getElem?_set, if_neg (fun e => hne (by rw [e]))]⟩ (by simp)
/-- What is read at a place that is not changed. -/
theorem But.cellE {o : Option Nat} {h h' : H} {p : Pt} {v : AVal} (b : But o h h') (e : cell h p = some v) (hn : o ≠ p.o ∨ o = none) : cell h' p = cell h p := by
  unfold cell at *
  cases hp : p.o with
  | none => rfl
  | some i =>
    rw [hp] at e hn
    simp only at e ⊢
    obtain ⟨c, h1, h2⟩ := Option.bind_eq_some_iff.1 e
    have hl := cells_lt h1
    have : h'[i]? = h[i]? := b.2 i hl (by rcases hn with hn | hn; exact hn; rw [hn]; simp)
    have hc : cells h' i p.n = cells h i p.n := by unfold cells; rw [this]
    rw [hc]
theorem Ext.cellE {h h' : H} {p : Pt} {v : AVal} (b : Ext h h') (e : Cl.cell h p = some v) : Cl.cell h' p = Cl.cell h p := (b.but none).cellE e (.inr rfl)
/-! ### several changes -/
/-- h' is h, but for objects from n on. -/
def Till (n : Nat) (h h' : H) : Prop := h.length ≤ h'.length ∧ ∀ i, i < n → i < h.length → h'[i]? = h[i]?
theorem Till.refl (n h) : Till n h h := ⟨Nat.le_refl _, fun _ _ _ => rfl⟩
theorem Till.trans {n a b c} (x : Till n a b) (y : Till n b c) : Till n a c := ⟨Nat.le_trans x.1 y.1, fun i h1 h2 => by rw [y.2 i h1 (by have := x.1; omega), x.2 i h1 h2]⟩
theorem Ext.till {a b : H} (x : Ext a b) (n) : Till n a b := ⟨x.len, fun i _ h => x.get h⟩
theorem But.till {a b : H} {o : Option Nat} (x : But o a b) {n : Nat} (hn : ∀ i, o = some i → n ≤ i) : Till n a b := ⟨x.1, fun i h1 h2 => x.2 i h2 fun e => by have := hn i e; omega⟩
theorem Till.ext {n : Nat} {a b : H} (x : Till n a b) (hn : a.length ≤ n) : Ext a b := Ext.of x.1 fun i hi => x.2 i (by omega) hi
theorem Till.le {n m : Nat} {a b : H} (x : Till n a b) (h : m ≤ n) : Till m a b := ⟨x.1, fun i h1 h2 => x.2 i (by omega) h2⟩
theorem Till.get {n : Nat} {h h' : H} (x : Till n h h') {o : Nat} {v : AObj} (e : h[o]? = some v) (ho : o < n) : h'[o]? = some v := by rw [x.2 o ho (List.getElem?_eq_some_iff.1 e).1]; exact e
theorem Var.till {h h' o v n} (x : Var h o v) (b : Till n h h') (hn : o < n) : Var h' o v := b.get x hn
theorem Ext.till_ {h a b : H} {n : Nat} (x : Ext h a) (y : Till n a b) (hn : h.length ≤ n) : Ext h b :=
  Ext.of (Nat.le_trans x.len y.1) fun i hi => by rw [y.2 i (by omega) (by have := x.len; omega), x.get hi]
end Go.Proofs.Ytdmhchgaeepdmaa.Cl
