/- Lasting edges: the plain law (ways without end over finitely many colours). No claim is stated here. -/
set_option linter.unusedVariables false
set_option linter.unusedSimpArgs false
namespace Go.Proofs.Ytdmhchgaeepdmaa.Cl
/-- An edge leads from its first colour to its second one. -/
abbrev Edge := Nat × Nat
def stepB (es : List Edge) (A : Nat → Bool) (w : Nat) : Bool := es.any fun e => e.1 == w && A e.2
def itB (es : List Edge) : Nat → Nat → Bool
  | 0 => fun _ => true
  | k + 1 => stepB es (itB es k)
theorem stepB_iff {es : List Edge} {A : Nat → Bool} {w : Nat} : stepB es A w = true ↔ ∃ e ∈ es, e.1 = w ∧ A e.2 = true := by
  unfold stepB
  simp [List.any_eq_true]
theorem stepB_mono {es : List Edge} {A B : Nat → Bool} (h : ∀ w, A w = true → B w = true) (w : Nat) (a : stepB es A w = true) : stepB es B w = true := by
  obtain ⟨e, he, h1, h2⟩ := stepB_iff.1 a
  exact stepB_iff.2 ⟨e, he, h1, h _ h2⟩
theorem itB_dec (es : List Edge) : ∀ k w, itB es (k + 1) w = true → itB es k w = true
  | 0, w, _ => rfl
  | k + 1, w, h => stepB_mono (itB_dec es k) w h
theorem stepB_congr {es : List Edge} {n : Nat} (hn : ∀ e ∈ es, e.2 < n) {A B : Nat → Bool} (h : ∀ w, w < n → A w = B w) (w : Nat) : stepB es A w = stepB es B w := by
  have key : ∀ A B : Nat → Bool, (∀ w, w < n → A w = B w) → stepB es A w = true → stepB es B w = true := fun A B h a => by
    obtain ⟨e, he, h1, h2⟩ := stepB_iff.1 a
    exact stepB_iff.2 ⟨e, he, h1, by rw [← h _ (hn e he)]; exact h2⟩
  have a := key A B h
  have b := key B A fun w hw => (h w hw).symm
  revert a b
  cases stepB es A w <;> cases stepB es B w <;> simp
def cntB (n : Nat) (A : Nat → Bool) : Nat := (List.range n).countP A
theorem countP_lt {α : Type} {p q : α → Bool} : ∀ (l : List α), (∀ x ∈ l, q x = true → p x = true) → (∃ x ∈ l, p x = true ∧ q x = false) → l.countP q < l.countP p
  | [], _, h => by obtain ⟨x, hx, _⟩ := h; cases hx
  | a :: l, h, ⟨x, hx, h1, h2⟩ => by
    rw [List.countP_cons, List.countP_cons]
    have hle : l.countP q ≤ l.countP p := List.countP_mono_left fun y hy hq => h y (by simp [hy]) hq
    rcases List.mem_cons.1 hx with rfl | hx
    · rw [h1, h2]; simp; omega
    · have ih := countP_lt l (fun y hy => h y (by simp [hy])) ⟨x, hx, h1, h2⟩
      by_cases hq : q a = true
      · rw [hq, h a (by simp) hq]; omega
      · rw [if_neg hq]; split <;> omega
theorem cntB_lt {n : Nat} {A B : Nat → Bool} (h : ∀ w, w < n → B w = true → A w = true) (hne : ∃ w, w < n ∧ A w ≠ B w) : cntB n B < cntB n A := by
  obtain ⟨w, hw, hd⟩ := hne
  refine countP_lt _ (fun x hx => h x (List.mem_range.1 hx)) ⟨w, List.mem_range.2 hw, ?_⟩
  have := h w hw
  revert hd this
  cases A w <;> cases B w <;> simp
theorem itB_stable {es : List Edge} {n : Nat} (hn : ∀ e ∈ es, e.2 < n) {k : Nat} (h : ∀ w, w < n → itB es (k + 1) w = itB es k w) (w : Nat) : itB es (k + 2) w = itB es (k + 1) w := stepB_congr hn h w
theorem itB_fix {es : List Edge} {n : Nat} (hn : ∀ e ∈ es, e.2 < n) : ∀ k, (∀ w, w < n → itB es (k + 1) w = itB es k w) ∨ cntB n (itB es k) + k ≤ n
  | 0 => .inr (by unfold cntB; have := List.countP_le_length (p := itB es 0) (l := List.range n); rw [List.length_range] at this; omega)
  | k + 1 => by
    rcases itB_fix hn k with h | h
    · exact .inl fun w _ => itB_stable hn h w
    · by_cases e : ∀ w, w < n → itB es (k + 1) w = itB es k w
      · exact .inl fun w _ => itB_stable hn e w
      · have hex : ∃ w, w < n ∧ itB es k w ≠ itB es (k + 1) w := by
          refine Classical.byContradiction fun c => e fun w hw => ?_
          exact Classical.byContradiction fun d => c ⟨w, hw, fun q => d q.symm⟩
        have := cntB_lt (n := n) (A := itB es k) (B := itB es (k + 1)) (fun w _ => itB_dec es k w) hex
        exact .inr (by omega)
/-- After as many steps as there are colours, nothing changes any more. -/
theorem itB_end {es : List Edge} {n : Nat} (hn : ∀ e ∈ es, e.2 < n) (w : Nat) (hw : w < n) : itB es (n + 1) w = itB es n w := by
  rcases itB_fix hn n with h | h
  · exact h w hw
  · have h0 : cntB n (itB es n) = 0 := by omega
    have hf : itB es n w = false := by
      unfold cntB at h0
      rw [List.countP_eq_zero] at h0
      have := h0 w (List.mem_range.2 hw)
      simpa using this
    rw [hf]
    have := itB_dec es n w
    rw [hf] at this
    cases hq : itB es (n + 1) w
    · rfl
    · exact absurd (this hq) (by simp)
/-- A stable and greatest set of colours. -/
structure Endless (n : Nat) (es : List Edge) (A : Nat → Bool) : Prop where
  fix : ∀ w, w < n → stepB es A w = A w
  top : ∀ G : Nat → Bool, (∀ w, G w = true → stepB es G w = true) → ∀ w, G w = true → A w = true
theorem itB_top {es : List Edge} {G : Nat → Bool} (hG : ∀ w, G w = true → stepB es G w = true) : ∀ k w, G w = true → itB es k w = true
  | 0, _, _ => rfl
  | k + 1, w, h => stepB_mono (itB_top hG k) w (hG w h)
theorem endless_it {es : List Edge} {n k : Nat} (h : ∀ w, w < n → itB es (k + 1) w = itB es k w) : Endless n es (itB es k) := ⟨h, fun G hG w hw => itB_top hG k w hw⟩
def flipE (es : List Edge) : List Edge := es.map fun e => (e.2, e.1)
/-- Is an edge lasting? A: colours to which endless ways lead; B: colours from which endless ways lead on. -/
def lastE (A B : Nat → Bool) (e : Edge) : Bool := A e.1 && B e.2
structure Lst (n : Nat) (es : List Edge) (A B : Nat → Bool) : Prop where
  hn : ∀ e ∈ es, e.1 < n ∧ e.2 < n
  a : Endless n (flipE es) A
  b : Endless n es B
section
variable {n : Nat} {es : List Edge} {A B : Nat → Bool}
theorem Lst.pred (L : Lst n es A B) {e : Edge} (he : e ∈ es) (h : lastE A B e = true) : ∃ e' ∈ es, lastE A B e' = true ∧ e'.2 = e.1 := by
  unfold lastE at h ⊢
  rw [Bool.and_eq_true] at h
  have h1 := L.a.fix e.1 (L.hn e he).1
  rw [h.1] at h1
  obtain ⟨x, hx, x1, x2⟩ := stepB_iff.1 h1
  obtain ⟨y, hy, rfl⟩ := List.mem_map.1 hx
  refine ⟨y, hy, ?_, x1⟩
  rw [Bool.and_eq_true]
  refine ⟨x2, ?_⟩
  rw [show y.2 = e.1 from x1, ← L.b.fix e.1 (L.hn e he).1]
  exact stepB_iff.2 ⟨e, he, rfl, h.2⟩
theorem Lst.succ (L : Lst n es A B) {e : Edge} (he : e ∈ es) (h : lastE A B e = true) : ∃ e' ∈ es, lastE A B e' = true ∧ e'.1 = e.2 := by
  unfold lastE at h ⊢
  rw [Bool.and_eq_true] at h
  have h1 := L.b.fix e.2 (L.hn e he).2
  rw [h.2] at h1
  obtain ⟨y, hy, y1, y2⟩ := stepB_iff.1 h1
  refine ⟨y, hy, ?_, y1⟩
  rw [Bool.and_eq_true]
  refine ⟨?_, y2⟩
  rw [show y.1 = e.2 from y1, ← L.a.fix e.2 (L.hn e he).2]
  exact stepB_iff.2 ⟨(e.2, e.1), List.mem_map.2 ⟨e, he, rfl⟩, rfl, h.1⟩
/-- Each stable set of edges is lasting. -/
theorem Lst.top (L : Lst n es A B) {Q : Edge → Bool} (hp : ∀ e ∈ es, Q e = true → ∃ e' ∈ es, Q e' = true ∧ e'.2 = e.1) (hs : ∀ e ∈ es, Q e = true → ∃ e' ∈ es, Q e' = true ∧ e'.1 = e.2) {e : Edge} (he : e ∈ es) (h : Q e = true) : lastE A B e = true := by
  unfold lastE
  rw [Bool.and_eq_true]
  constructor
  · refine L.a.top (fun w => es.any fun e => Q e && e.1 == w) (fun w hw => ?_) e.1 (List.any_eq_true.2 ⟨e, he, by simp [h]⟩)
    obtain ⟨x, hx, h2⟩ := List.any_eq_true.1 hw
    simp at h2
    obtain ⟨y, hy, y1, y2⟩ := hp x hx h2.1
    refine stepB_iff.2 ⟨(y.2, y.1), List.mem_map.2 ⟨y, hy, rfl⟩, by simp [y2, h2.2], List.any_eq_true.2 ⟨y, hy, by simp [y1]⟩⟩
  · refine L.b.top (fun w => es.any fun e => Q e && e.2 == w) (fun w hw => ?_) e.2 (List.any_eq_true.2 ⟨e, he, by simp [h]⟩)
    obtain ⟨x, hx, h2⟩ := List.any_eq_true.1 hw
    simp at h2
    obtain ⟨y, hy, y1, y2⟩ := hs x hx h2.1
    refine stepB_iff.2 ⟨y, hy, by simp [y2, h2.2], List.any_eq_true.2 ⟨y, hy, by simp [y1]⟩⟩
/-- A colour that lies on an endless way in both directions is that of a lasting edge. -/
theorem Lst.word (L : Lst n es A B) {w : Nat} (hw : w < n) : (A w && B w) = true ↔ (∃ e ∈ es, lastE A B e = true ∧ (e.1 = w ∨ e.2 = w)) := by
  rw [Bool.and_eq_true]
  constructor
  · rintro ⟨h1, h2⟩
    have h3 := L.b.fix w hw
    rw [h2] at h3
    obtain ⟨y, hy, y1, y2⟩ := stepB_iff.1 h3
    refine ⟨y, hy, ?_, .inl y1⟩
    unfold lastE
    rw [y1, h1, y2]; rfl
  · rintro ⟨e, he, h, q⟩
    rcases q with rfl | rfl
    · have h' := h
      unfold lastE at h
      rw [Bool.and_eq_true] at h
      refine ⟨h.1, ?_⟩
      rw [← L.b.fix e.1 hw]
      exact stepB_iff.2 ⟨e, he, rfl, h.2⟩
    · unfold lastE at h
      rw [Bool.and_eq_true] at h
      refine ⟨?_, h.2⟩
      rw [← L.a.fix e.2 hw]
      exact stepB_iff.2 ⟨(e.2, e.1), List.mem_map.2 ⟨e, he, rfl⟩, rfl, h.1⟩
end
end Go.Proofs.Ytdmhchgaeepdmaa.Cl
