/- The clean machine: heaps that grow, views that are read and owned. No claim is stated here. -/
import Derived.Test.YtdmhchgaeepdmaaClM
set_option linter.unusedVariables false
set_option linter.unusedSimpArgs false
namespace Go.Proofs.Ytdmhchgaeepdmaa.Cl
open Go
/-! ### lists -/
theorem get_app {α : Type} (h l : List α) (i : Nat) : (h ++ l)[h.length + i]? = l[i]? := by
  rw [List.getElem?_append_right (by omega)]; congr 1; omega
theorem get_app0 {α : Type} (h l : List α) : (h ++ l)[h.length]? = l[0]? := get_app h l 0
theorem set_app {α : Type} (h l : List α) (i : Nat) (x : α) : (h ++ l).set (h.length + i) x = h ++ l.set i x := by
  rw [List.set_append_right _ _ (by omega)]; congr 2; omega
theorem set_app0 {α : Type} (h l : List α) (x : α) : (h ++ l).set h.length x = h ++ l.set 0 x := set_app h l 0 x
theorem get_lt {α : Type} {h : List α} (l : List α) {o : Nat} (ho : o < h.length) : (h ++ l)[o]? = h[o]? := List.getElem?_append_left ho
/-! ### heaps that grow -/
def Ext (h h' : H) : Prop := ∃ l, h' = h ++ l
theorem Ext.refl (h : H) : Ext h h := ⟨[], by simp⟩
theorem Ext.app (h l : H) : Ext h (h ++ l) := ⟨l, rfl⟩
theorem Ext.trans {a b c : H} (x : Ext a b) (y : Ext b c) : Ext a c := by
  obtain ⟨l, rfl⟩ := x
  obtain ⟨m, rfl⟩ := y
  exact ⟨l ++ m, by simp⟩
theorem Ext.len {a b : H} (x : Ext a b) : a.length ≤ b.length := by obtain ⟨l, rfl⟩ := x; simp
theorem Ext.get {a b : H} (x : Ext a b) {o : Nat} (ho : o < a.length) : b[o]? = a[o]? := by obtain ⟨l, rfl⟩ := x; exact get_lt l ho
theorem Ext.of {a b : H} (hl : a.length ≤ b.length) (hg : ∀ o, o < a.length → b[o]? = a[o]?) : Ext a b := by
  refine ⟨b.drop a.length, ?_⟩
  apply List.ext_getElem?
  intro i
  by_cases hi : i < a.length
  · rw [hg i hi, List.getElem?_append_left hi]
  · rw [List.getElem?_append_right (by omega), List.getElem?_drop]
    congr 1; omega
theorem cells_lt {h : H} {o n : Nat} {cs : List AVal} (e : cells h o n = some cs) : o < h.length := by
  unfold cells at e
  by_cases ho : o < h.length
  · exact ho
  · rw [List.getElem?_eq_none (by omega)] at e; cases e
theorem cells_app {h : H} {o n : Nat} {cs : List AVal} (l : H) (e : cells h o n = some cs) : cells (h ++ l) o n = some cs := by
  have := cells_lt e
  unfold cells at e ⊢
  rw [get_lt l this]; exact e
theorem range_app {h : H} {o : Option Nat} {n off k : Nat} {cs : List AVal} (l : H) (e : range h o n off k = some cs) : range (h ++ l) o n off k = some cs := by
  unfold range at e ⊢
  cases o with
  | none => exact e
  | some o =>
    simp only at e ⊢
    cases hc : cells h o n with
    | none => rw [hc] at e; cases e
    | some x => rw [hc] at e; rw [cells_app l hc]; exact e
theorem cell_app {h : H} {p : Pt} {v : AVal} (l : H) (e : cell h p = some v) : cell (h ++ l) p = some v := by
  unfold cell at e ⊢
  cases ho : p.o with
  | none => rw [ho] at e; exact e
  | some o =>
    rw [ho] at e
    simp only at e ⊢
    cases hc : cells h o p.n with
    | none => rw [hc] at e; cases e
    | some x => rw [hc] at e; rw [cells_app l hc]; exact e
theorem Ext.range {a b : H} (x : Ext a b) {o n off k cs} (e : range a o n off k = some cs) : range b o n off k = some cs := by obtain ⟨l, rfl⟩ := x; exact range_app l e
theorem Ext.cell {a b : H} (x : Ext a b) {p v} (e : cell a p = some v) : cell b p = some v := by obtain ⟨l, rfl⟩ := x; exact cell_app l e
theorem Ext.own {a b : H} (x : Ext a b) {o : Nat} {v : AObj} (e : a[o]? = some v) : b[o]? = some v := by
  have : o < a.length := (List.getElem?_eq_some_iff.1 e).1
  rw [x.get this, e]
/-! ### calls -/
section
variable {S : SatT}
theorem callV.to {f args h} {K K' : AVal → H → Prop} (x : callV S f args h K) (hk : ∀ v h', K v h' → K' v h') : callV S f args h K' := by
  obtain ⟨v, h', a, b⟩ := x; exact ⟨v, h', a, hk v h' b⟩
theorem callI.to {k f args h} {K K' : Int → H → Prop} (x : callI S k f args h K) (hk : ∀ v h', K v h' → K' v h') : callI S k f args h K' := by
  obtain ⟨v, h', a, b⟩ := x; exact ⟨v, h', a, hk v h' b⟩
theorem callB.to {f args h} {K K' : Bool → H → Prop} (x : callB S f args h K) (hk : ∀ v h', K v h' → K' v h') : callB S f args h K' := by
  obtain ⟨v, h', a, b⟩ := x; exact ⟨v, h', a, hk v h' b⟩
theorem callS.to {f args h} {K K' : Sl → H → Prop} (x : callS S f args h K) (hk : ∀ v h', K v h' → K' v h') : callS S f args h K' := by
  obtain ⟨v, h', a, b⟩ := x; exact ⟨v, h', a, hk v h' b⟩
theorem callP.to {f args h} {K K' : Pt → H → Prop} (x : callP S f args h K) (hk : ∀ v h', K v h' → K' v h') : callP S f args h K' := by
  obtain ⟨v, h', a, b⟩ := x; exact ⟨v, h', a, hk v h' b⟩
theorem callA.to {f args h} {K K' : List AVal → H → Prop} (x : callA S f args h K) (hk : ∀ v h', K v h' → K' v h') : callA S f args h K' := by
  obtain ⟨v, h', a, b⟩ := x; exact ⟨v, h', a, hk v h' b⟩
theorem via_func {f : Nat} {cap args : List AVal} {K : Nat → List AVal → Prop} (hk : K f (args ++ cap)) : viaF (.func f cap) args K := ⟨f, cap, rfl, hk⟩
end
/-! ### numbers -/
theorem w64_of {n : Int} (h1 : -9223372036854775808 ≤ n) (h2 : n < 9223372036854775808) : w64 n = n := by
  unfold w64 IntKind.wrap
  simp [IntKind.bits, IntKind.signed] <;> omega
def ic (l : List Int) : List AVal := l.map i64
theorem ic_len (l : List Int) : (ic l).length = l.length := by simp [ic]
theorem ic_app (l m : List Int) : ic (l ++ m) = ic l ++ ic m := by simp [ic]
theorem ic_nil : ic [] = [] := rfl
theorem ic_cons (a : Int) (l : List Int) : ic (a :: l) = i64 a :: ic l := rfl
theorem ic_inj {l m : List Int} (h : ic l = ic m) : l = m := by
  unfold ic at h
  exact List.map_inj_right (fun a b e => by simpa [i64] using e) |>.1 h
theorem ints_ic : ∀ l : List Int, ints .i64 (ic l) = some l
  | [] => rfl
  | a :: l => by simp [ic_cons, i64, ints, ints_ic l]
/-! ### views that are read -/
/-- The view s reads the cells cs, z cells an element. -/
structure Rd (h : H) (s : Sl) (z : Nat) (cs : List AVal) : Prop where
  len : cs.length = s.len * z
  at_ : s.len = 0 ∨ (s.sz = z ∧ s.o.isSome = true ∧ range h s.o s.n s.off (s.len * z) = some cs)
theorem Rd.nil (h : H) (z : Nat) : Rd h Sl.nil z [] := ⟨by simp [Sl.nil], .inl rfl⟩
theorem Rd.empty {h : H} {s : Sl} (z : Nat) (e : s.len = 0) : Rd h s z [] := ⟨by simp [e], .inl e⟩
theorem Rd.ext {h h' : H} {s z cs} (r : Rd h s z cs) (x : Ext h h') : Rd h' s z cs :=
  ⟨r.len, r.at_.imp id fun ⟨a, b, c⟩ => ⟨a, b, x.range c⟩⟩
theorem range_some {h : H} {o : Option Nat} {n off k : Nat} {cs : List AVal} (e : range h o n off k = some cs) : ∃ o' xs, o = some o' ∧ cells h o' n = some xs ∧ off + k ≤ xs.length ∧ cs = (xs.drop off).take k := by
  unfold range at e
  cases o with
  | none => cases e
  | some o =>
    simp only at e
    cases hc : cells h o n with
    | none => rw [hc] at e; cases e
    | some xs =>
      rw [hc] at e
      simp only [Option.bind_some] at e
      split at e
      · next hl => cases e; exact ⟨o, xs, rfl, hc, hl, rfl⟩
      · cases e
theorem range_of {h : H} {o n off k : Nat} {xs : List AVal} (e : cells h o n = some xs) (hl : off + k ≤ xs.length) : range h (some o) n off k = some ((xs.drop off).take k) := by
  unfold range
  simp [e, hl]
theorem range_len {h : H} {o : Option Nat} {n off k : Nat} {cs : List AVal} (e : range h o n off k = some cs) : cs.length = k := by
  obtain ⟨o, xs, rfl, _, hl, rfl⟩ := range_some e
  simp; omega
theorem range_sub {h : H} {o : Option Nat} {n off k : Nat} {cs : List AVal} (e : range h o n off k = some cs) {a b : Nat} (hab : a + b ≤ k) : range h o n (off + a) b = some ((cs.drop a).take b) := by
  obtain ⟨o, xs, rfl, hc, hl, rfl⟩ := range_some e
  rw [range_of hc (by omega)]
  congr 1
  rw [List.drop_take, List.drop_drop, List.take_take]
  congr 1
  omega
theorem cell_of_range {h : H} {o : Option Nat} {n off k : Nat} {cs : List AVal} (e : range h o n off k = some cs) {i : Nat} (hi : i < k) : cell h ⟨o, n, off + i⟩ = cs[i]? := by
  obtain ⟨o, xs, rfl, hc, hl, rfl⟩ := range_some e
  unfold cell
  simp [hc, List.getElem?_take, hi, List.getElem?_drop]
/-- An element that is several cells is read. -/
theorem Rd.ldA {h : H} {s : Sl} {z : Nat} {cs : List AVal} (r : Rd h s z cs) {i : Int} (h0 : 0 ≤ i) (h1 : i < s.len) {K : List AVal → Prop} (hk : K ((cs.drop (i.toNat * z)).take z)) : ixS s z i fun p => ldA p z h K := by
  obtain hl | ⟨a, b, c⟩ := r.at_
  · omega
  · refine ⟨⟨h0, h1⟩, a, b, ?_⟩
    refine ⟨_, range_sub c ?_, hk⟩
    have : (i.toNat + 1) * z ≤ s.len * z := Nat.mul_le_mul_right _ (by omega)
    rw [Nat.add_mul] at this; omega
/-- The place of an element, with what is read there. -/
theorem Rd.ix {h : H} {s : Sl} {z : Nat} {cs : List AVal} (r : Rd h s z cs) {i : Int} (h0 : 0 ≤ i) (h1 : i < s.len) {K : Pt → Prop}
    (hk : ∀ p : Pt, p.o.isSome = true → range h p.o p.n p.off z = some ((cs.drop (i.toNat * z)).take z) → K p) : ixS s z i K := by
  obtain hl | ⟨a, b, c⟩ := r.at_
  · omega
  · refine ⟨⟨h0, h1⟩, a, b, hk ⟨s.o, s.n, s.off + i.toNat * z⟩ b ?_⟩
    refine range_sub c ?_
    have : (i.toNat + 1) * z ≤ s.len * z := Nat.mul_le_mul_right _ (by omega)
    rw [Nat.add_mul] at this; omega
theorem Rd.ldI {h : H} {s : Sl} {l : List Int} (r : Rd h s 1 (ic l)) {i : Int} (h0 : 0 ≤ i) (h1 : i < l.length) {K : Int → Prop} (hk : ∀ x, l[i.toNat]? = some x → K x) : ixS s 1 i fun p => ldI .i64 p h K := by
  have hlen : l.length = s.len := by have := r.len; rw [ic_len] at this; omega
  have hx : l[i.toNat]? = some l[i.toNat] := List.getElem?_eq_getElem (by omega)
  obtain hl | ⟨a, b, c⟩ := r.at_
  · omega
  · refine ⟨⟨h0, by omega⟩, a, b, l[i.toNat], ?_, hk _ hx⟩
    have := cell_of_range c (i := i.toNat) (by omega)
    rw [Nat.mul_one, this]
    unfold ic
    rw [List.getElem?_map, hx]
    rfl
theorem Rd.ldS {h : H} {s : Sl} {l : List Sl} (r : Rd h s 1 (l.map .sl)) {i : Int} (h0 : 0 ≤ i) (h1 : i < l.length) {K : Sl → Prop} (hk : ∀ x, l[i.toNat]? = some x → K x) : ixS s 1 i fun p => ldS p h K := by
  have hlen : l.length = s.len := by have := r.len; simp at this; omega
  have hx : l[i.toNat]? = some l[i.toNat] := List.getElem?_eq_getElem (by omega)
  obtain hl | ⟨a, b, c⟩ := r.at_
  · omega
  · refine ⟨⟨h0, by omega⟩, a, b, l[i.toNat], ?_, hk _ hx⟩
    have := cell_of_range c (i := i.toNat) (by omega)
    rw [Nat.mul_one, this, List.getElem?_map, hx]
    rfl
theorem Rd.ldB {h : H} {s : Sl} {l : List Bool} (r : Rd h s 1 (l.map .bool)) {i : Int} (h0 : 0 ≤ i) (h1 : i < l.length) {K : Bool → Prop} (hk : ∀ x, l[i.toNat]? = some x → K x) : ixS s 1 i fun p => ldB p h K := by
  have hlen : l.length = s.len := by have := r.len; simp at this; omega
  have hx : l[i.toNat]? = some l[i.toNat] := List.getElem?_eq_getElem (by omega)
  obtain hl | ⟨a, b, c⟩ := r.at_
  · omega
  · refine ⟨⟨h0, by omega⟩, a, b, l[i.toNat], ?_, hk _ hx⟩
    have := cell_of_range c (i := i.toNat) (by omega)
    rw [Nat.mul_one, this, List.getElem?_map, hx]
    rfl
theorem Rd.sread {h : H} {s : Sl} {z : Nat} {cs : List AVal} (r : Rd h s z cs) (hz : 0 < z) : sread h s = some cs := by
  unfold Cl.sread
  obtain hl | ⟨a, b, c⟩ := r.at_
  · have := r.len
    rw [hl, Nat.zero_mul, List.length_eq_zero_iff] at this
    simp [hl, this]
  · rw [a]
    split
    · next e =>
      have := r.len
      rw [e, List.length_eq_zero_iff] at this
      rw [this]
    · exact c
/-! ### views that are owned whole -/
/-- The view s is the whole of an own object that begins with the view's first cell (or of none). -/
structure Ow (h : H) (s : Sl) (z : Nat) (cs : List AVal) : Prop where
  len : cs.length = s.len * z
  at_ : (s.o = none ∧ s.len = 0) ∨ (∃ o, s.o = some o ∧ s.sz = z ∧ s.off = 0 ∧ s.n = s.len * z ∧ h[o]? = some (.own cs))
theorem Ow.nil (h : H) (z : Nat) : Ow h Sl.nil z [] := ⟨by simp [Sl.nil], .inl ⟨rfl, rfl⟩⟩
theorem Ow.rd {h s z cs} (r : Ow h s z cs) : Rd h s z cs := by
  refine ⟨r.len, ?_⟩
  obtain ⟨a, b⟩ | ⟨o, a, b, c, d, e⟩ := r.at_
  · exact .inl b
  · refine .inr ⟨b, by simp [a], ?_⟩
    rw [a, range_of (xs := cs) (by unfold cells; simp [e, d, r.len]) (by rw [r.len]; omega), c]
    rw [List.drop_zero, ← r.len, List.take_length]
theorem Ow.ext {h h' : H} {s z cs} (r : Ow h s z cs) (x : Ext h h') : Ow h' s z cs :=
  ⟨r.len, r.at_.imp id fun ⟨o, a, b, c, d, e⟩ => ⟨o, a, b, c, d, x.own e⟩⟩
/-- h' is h but for the object o, and for what is new. -/
def But (o : Option Nat) (h h' : H) : Prop := h.length ≤ h'.length ∧ ∀ i, i < h.length → o ≠ some i → h'[i]? = h[i]?
theorem But.refl (o h) : But o h h := ⟨Nat.le_refl _, fun _ _ _ => rfl⟩
theorem Ext.but {h h' : H} (x : Ext h h') (o) : But o h h' := ⟨x.len, fun i hi _ => x.get hi⟩
theorem But.ext {h h' : H} {o} (b : But o h h') (hn : ∀ i, o = some i → h.length ≤ i) : Ext h h' :=
  Ext.of b.1 fun i hi => b.2 i hi fun e => by have := hn i e; omega
theorem But.get {h h' : H} {o : Option Nat} (b : But o h h') {i : Nat} {v : AObj} (e : h[i]? = some v) (hn : o ≠ some i) : h'[i]? = some v := by
  rw [b.2 i (List.getElem?_eq_some_iff.1 e).1 hn, e]
/-- append to a view that is owned whole -/
theorem app_ow {h : H} {s x : Sl} {z : Nat} {cs xs : List AVal} (hz : 0 < z) (r : Ow h s z cs) (y : Rd h x z xs) (hl : ((s.len + x.len : Nat) : Int) ≤ lim) {K : Sl → H → Prop}
    (hk : ∀ s' h', Ow h' s' z (cs ++ xs) → s'.len = s.len + x.len → But s.o h h' → (∀ o, s.o = some o → s'.o = some o) → (s.o = none → ∀ o, s'.o = some o → h.length ≤ o) → K s' h') : app s x z h K := by
  have hsr := y.sread hz
  have hxz : x.len ≠ 0 → x.sz = z := fun hx => by
    obtain a | ⟨a, _⟩ := y.at_
    · exact absurd a hx
    · exact a
  by_cases h0 : x.len = 0
  · have hxs : xs = [] := by have := y.len; rw [h0, Nat.zero_mul, List.length_eq_zero_iff] at this; exact this
    subst hxs
    exact ⟨_, s, h, hsr, hxz, hl, .zero h0, hk s h (by simpa using r) (by omega) (But.refl _ _) (fun o e => e) (fun e o e2 => by rw [e] at e2; cases e2)⟩
  · have hpos : 0 < x.len := by omega
    obtain ⟨a, b⟩ | ⟨o, a, b, c, d, e⟩ := r.at_
    · have hcs : cs = [] := by have := r.len; rw [b, Nat.zero_mul, List.length_eq_zero_iff] at this; exact this
      subst hcs
      refine ⟨_, _, _, hsr, hxz, hl, .fresh a hpos, hk _ _ ⟨by simpa using y.len, .inr ⟨h.length, rfl, rfl, rfl, rfl, by simp⟩⟩ (by simp [b]) ⟨by simp, fun i hi _ => get_lt _ hi⟩ (fun o e => by rw [a] at e; cases e) (fun _ o e => by injection e with e; omega)⟩
    · have ho : o < h.length := (List.getElem?_eq_some_iff.1 e).1
      refine ⟨_, _, _, hsr, hxz, hl, .grows (o := o) (cs := cs) hpos b a c d.symm (by unfold owned; simp [e, d, r.len]), hk _ _ ⟨by simp [r.len, y.len, Nat.add_mul], .inr ⟨o, rfl, rfl, rfl, by simp [d, Nat.add_mul], by simp [List.getElem?_set, ho]⟩⟩ rfl ⟨by simp, fun i hi hne => ?_⟩ (fun o e => by rw [a] at e; exact e) (fun e => by rw [a] at e; cases e)⟩
      rw [List.getElem?_set, if_neg (fun e2 => hne (by rw [a, e2]))]
/-- a new slice of known cells -/
theorem newS_ow {h : H} {n z : Nat} {cs : List AVal} (hc : cs.length = n * z) {K : Sl → H → Prop} (hk : ∀ s' h', Ow h' s' z cs → s'.len = n → s'.o = some h.length → h' = h ++ [.own cs] → K s' h') : newS n z cs h K :=
  hk _ _ ⟨hc, .inr ⟨h.length, rfl, rfl, rfl, rfl, by simp⟩⟩ rfl rfl rfl
theorem mkS_ow {h : H} {n : Int} {z : List AVal} (h0 : 0 ≤ n) (h1 : n ≤ lim) {K : Sl → H → Prop} (hk : ∀ s' h', Ow h' s' z.length (List.replicate n.toNat z).flatten → s'.len = n.toNat → s'.o = some h.length → h' = h ++ [.own (List.replicate n.toNat z).flatten] → K s' h') : mkS n z h K :=
  ⟨⟨h0, h1⟩, hk _ _ ⟨by simp, .inr ⟨h.length, rfl, rfl, rfl, by simp, by simp⟩⟩ rfl rfl rfl⟩
/-! ### branches -/
theorem bif_dec {p : Prop} [Decidable p] {a b : Prop} (h1 : p → a) (h2 : ¬ p → b) : bif decide p then a else b := by
  by_cases hp : p
  · rw [decide_eq_true hp]; exact h1 hp
  · rw [decide_eq_false hp]; exact h2 hp
theorem bif_b {c : Bool} {a b : Prop} (h1 : c = true → a) (h2 : c = false → b) : bif c then a else b := by
  cases c
  · exact h2 rfl
  · exact h1 rfl
theorem bif_not {c : Bool} {a b : Prop} (h1 : c = false → a) (h2 : c = true → b) : bif !c then a else b := by
  cases c
  · exact h1 rfl
  · exact h2 rfl
theorem bif_ne {x y : Int} {a b : Prop} (h1 : x ≠ y → a) (h2 : x = y → b) : bif x != y then a else b := by
  by_cases hp : x = y
  · rw [show (x != y) = false by simp [hp]]; exact h2 hp
  · rw [show (x != y) = true by simp [hp]]; exact h1 hp
theorem bif_eq {x y : Int} {a b : Prop} (h1 : x = y → a) (h2 : x ≠ y → b) : bif x == y then a else b := by
  by_cases hp : x = y
  · rw [show (x == y) = true by simp [hp]]; exact h1 hp
  · rw [show (x == y) = false by simp [hp]]; exact h2 hp
/-! ### changes -/
theorem But.trans {o : Option Nat} {a b c : H} (x : But o a b) (y : But o b c) : But o a c :=
  ⟨Nat.le_trans x.1 y.1, fun i hi hn => by rw [y.2 i (by have := x.1; omega) hn, x.2 i hi hn]⟩
theorem Ext.but_ {h a b : H} {o : Option Nat} (x : Ext h a) (y : But o a b) (hn : ∀ i, o = some i → h.length ≤ i) : Ext h b :=
  Ext.of (Nat.le_trans x.len y.1) fun i hi => by
    rw [y.2 i (by have := x.len; omega) (fun e => by have := hn i e; omega), x.get hi]
theorem some_le {n i : Nat} (hn : n ≤ i) : ∀ j, some i = some j → n ≤ j := fun j e => by cases e; exact hn
theorem But.range {o' : Option Nat} {h h' : H} (b : But o' h h') {o n off k cs} (e : range h o n off k = some cs) (hn : o' ≠ o) : range h' o n off k = some cs := by
  obtain ⟨i, xs, rfl, hc, hl, rfl⟩ := range_some e
  refine range_of ?_ hl
  have := cells_lt hc
  unfold Cl.cells at hc ⊢
  rw [b.2 i this hn]; exact hc
theorem Rd.but {o : Option Nat} {h h' : H} {s z cs} (r : Rd h s z cs) (b : But o h h') (hn : o ≠ s.o ∨ o = none) : Rd h' s z cs := by
  refine ⟨r.len, r.at_.imp id fun ⟨x, y, e⟩ => ⟨x, y, ?_⟩⟩
  obtain hn | rfl := hn
  · exact b.range e hn
  · exact b.range e (fun e => by rw [← e] at y; cases y)
theorem Ow.but {o : Option Nat} {h h' : H} {s z cs} (r : Ow h s z cs) (b : But o h h') (hn : o ≠ s.o ∨ o = none) : Ow h' s z cs := by
  refine ⟨r.len, r.at_.imp id fun ⟨i, a, x, c, d, e⟩ => ⟨i, a, x, c, d, b.get e fun e2 => ?_⟩⟩
  obtain hn | rfl := hn
  · exact hn (by rw [e2, a])
  · cases e2
/-- The view's object, if there is one, is none of the first n. -/
def Fr (n : Nat) (s : Sl) : Prop := ∀ o, s.o = some o → n ≤ o
theorem Fr.le {n m : Nat} {s : Sl} (f : Fr n s) (h : m ≤ n) : Fr m s := fun o e => Nat.le_trans h (f o e)
theorem Fr.nil (n) : Fr n Sl.nil := fun o e => by cases e
theorem Ow.lt {h s z cs} (r : Ow h s z cs) {o : Nat} (e : s.o = some o) : o < h.length := by
  obtain ⟨a, _⟩ | ⟨i, a, _, _, _, x⟩ := r.at_
  · rw [a] at e; cases e
  · rw [a] at e; cases e; exact (List.getElem?_eq_some_iff.1 x).1
theorem ld_own {h : H} {o : Nat} {cs : List AVal} (e : h[o]? = some (.own cs)) {k : Nat} (hk : cs.length = k) {K : List AVal → Prop} (x : K cs) : ldA ⟨some o, k, 0⟩ k h K := by
  subst hk
  exact ⟨cs, by rw [range_of (xs := cs) (by unfold cells; simp [e]) (by simp)]; simp, x⟩
theorem st_own {h : H} {o : Nat} {cs vs : List AVal} (e : h[o]? = some (.own cs)) {k : Nat} (hk : cs.length = k) (hv : vs.length = k) {K : H → Prop} (x : But (some o) h (h.set o (.own vs)) → (h.set o (.own vs))[o]? = some (.own vs) → K (h.set o (.own vs))) : stN ⟨some o, k, 0⟩ k vs h K := by
  have ho : o < h.length := (List.getElem?_eq_some_iff.1 e).1
  refine ⟨_, hv, ?_, x ⟨by simp, fun i hi hn => by rw [List.getElem?_set, if_neg (fun e => hn (by rw [e]))]⟩ (by simp [List.getElem?_set, ho])⟩
  unfold putN owned splice
  subst hk
  simp [e, hv]
theorem ixA_ldI {h : H} {o n len : Nat} {cs : List AVal} {i : Int} {x : Int} (e : h[o]? = some (.own cs)) (hn : cs.length = n) (h0 : 0 ≤ i) (h1 : i < len) (hx : cs[i.toNat]? = some (i64 x)) {K : Int → Prop} (k : K x) : ixA ⟨some o, n, 0⟩ len 1 i fun p => ldI .i64 p h K := by
  refine ⟨⟨h0, h1⟩, rfl, x, ?_, k⟩
  unfold cell Pt.add cells
  simp [e, hn, hx, i64]
theorem ic_at {l : List Int} {i : Nat} {x : Int} (e : l[i]? = some x) : (ic l)[i]? = some (i64 x) := by unfold ic; rw [List.getElem?_map, e]; rfl
end Go.Proofs.Ytdmhchgaeepdmaa.Cl
