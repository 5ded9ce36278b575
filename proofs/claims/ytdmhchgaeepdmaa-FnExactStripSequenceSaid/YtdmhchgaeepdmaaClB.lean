/- The clean machine: how its heap stands to the model's memory. No claim is stated here. -/
import Derived.Test.YtdmhchgaeepdmaaClA
import Derived.WalkKit
import Derived.Below
import Derived.Laws.IdiomCopy
import Derived.Laws.Cells
import Derived.Laws.NewBlocks
set_option linter.unusedVariables false
set_option linter.unusedSimpArgs false
namespace Go.Proofs.Ytdmhchgaeepdmaa.Cl
open Go

/-- Where an object lies: the block, the cell of the block at which it begins, how many cells the block has. -/
structure Loc where
  b : Nat
  off : Nat
  size : Nat
abbrev Mu := Nat → Loc
def place (l : Loc) (i : Nat) : Addr := ⟨l.b, l.off + i, none⟩
/-- An object's kind and length. -/
def inf (h : H) (o : Nat) : Option (Nat × Nat) :=
  match h[o]? with
  | some (.own cs) => some (0, cs.length)
  | some (.ro cs) => some (1, cs.length)
  | some (.mp _) => some (2, 0)
  | _ => none
def PR (μ : Mu) (h : H) (p : Pt) (v : Value) : Prop :=
  match p.o with
  | none => v = .pointer none
  | some o => (inf h o).isSome = true ∧ ∃ a, v = .pointer (some a) ∧ ∀ t m, inf h o = some (t, m) → p.n ≤ m ∧ (m = p.n → a = place (μ o) p.off)
def SR (μ : Mu) (h : H) (s : Sl) (v : Value) : Prop :=
  match s.o with
  | none => s.len = 0 ∧ v = .slice none 0 0
  | some o => (inf h o).isSome = true ∧ 0 < s.sz ∧ ∃ a cap, v = .slice (some a) s.len cap ∧ s.len ≤ cap ∧ ∀ t m, inf h o = some (t, m) → s.n ≤ m ∧ (m = s.n →
      s.n ≤ s.off + cap * s.sz ∧ s.off + s.len * s.sz ≤ s.n ∧ ((s.n = 0 ∧ t = 1) ∨ cap = 0 ∨ a = place (μ o) s.off) ∧ (t = 0 → (μ o).off + s.off + cap * s.sz ≤ (μ o).size))
def MR (μ : Mu) (h : H) (r : Option Nat) (v : Value) : Prop :=
  match r with
  | none => v = .map none
  | some o => (inf h o).isSome = true ∧ ∃ q, v = .map (some q) ∧ ∀ m, inf h o = some (2, m) → q = (μ o).b
mutual
def VR (μ : Mu) (h : H) : AVal → Value → Prop
  | .undef, _ => True
  | .gone, v => v = .tuple #[]
  | .bool b, v => v = .bool b
  | .int k n, v => v = .int k n
  | .str s, v => v = .string s
  | .ptr p, v => PR μ h p v
  | .sl s, v => SR μ h s v
  | .func f cap, v => ∃ ds : Array Value, v = .func (.func f) #[] ds ∧ VRs μ h cap ds.toList
  | .nilFunc, v => v = .nilFunc
  | .map r, v => MR μ h r v
  | .agg cs, v => ∃ ds : Array Value, v = .agg ds ∧ VRs μ h cs ds.toList ∧ cs.all AVal.isCell = true
  | .tuple vs, v => ∃ ds : Array Value, v = .tuple ds ∧ VRs μ h vs ds.toList
def VRs (μ : Mu) (h : H) : List AVal → List Value → Prop
  | [], ds => ds = []
  | c :: cs, ds => ∃ d ds', ds = d :: ds' ∧ VR μ h c d ∧ VRs μ h cs ds'
end
theorem VRs.len {μ h} : ∀ {cs ds}, VRs μ h cs ds → ds.length = cs.length
  | [], ds, H => by simp only [VRs] at H; simp [H]
  | c :: cs, ds, H => by
    simp only [VRs] at H
    obtain ⟨d, ds', rfl, _, H⟩ := H
    simp [VRs.len H]
theorem VRs.get {μ h} : ∀ {cs ds}, VRs μ h cs ds → ∀ {i : Nat} {v}, cs[i]? = some v → ∃ d, ds[i]? = some d ∧ VR μ h v d
  | [], _, _, i, v, e => by simp at e
  | c :: cs, ds, H, i, v, e => by
    simp only [VRs] at H
    obtain ⟨d, ds', rfl, h1, H⟩ := H
    cases i with
    | zero => simp at e; subst e; exact ⟨d, rfl, h1⟩
    | succ i => simpa using VRs.get H (by simpa using e)
theorem VRs.mk {μ h} : ∀ {cs ds}, ds.length = cs.length → (∀ (i : Nat) v d, cs[i]? = some v → ds[i]? = some d → VR μ h v d) → VRs μ h cs ds
  | [], ds, hl, _ => by simp only [VRs]; exact List.length_eq_zero_iff.1 hl
  | c :: cs, [], hl, _ => by simp at hl
  | c :: cs, d :: ds, hl, H => by
    simp only [VRs]
    exact ⟨d, ds, rfl, H 0 c d rfl rfl, VRs.mk (by simpa using hl) fun i v d h1 h2 => H (i + 1) v d (by simpa using h1) (by simpa using h2)⟩
theorem VRs.append {μ h cs ds cs' ds'} (a : VRs μ h cs ds) (b : VRs μ h cs' ds') : VRs μ h (cs ++ cs') (ds ++ ds') := by
  refine VRs.mk (by simp [a.len, b.len]) fun i v d h1 h2 => ?_
  rw [List.getElem?_append] at h1 h2
  rw [a.len] at h2
  by_cases hi : i < cs.length
  · rw [if_pos hi] at h1 h2
    obtain ⟨d', h3, h4⟩ := a.get h1
    rw [h2] at h3; cases h3; exact h4
  · rw [if_neg hi] at h1 h2
    obtain ⟨d', h3, h4⟩ := b.get h1
    rw [h2] at h3; cases h3; exact h4
theorem VRs.drop {μ h cs ds} (a : VRs μ h cs ds) (k : Nat) : VRs μ h (cs.drop k) (ds.drop k) := by
  refine VRs.mk (by simp [a.len]) fun i v d h1 h2 => ?_
  rw [List.getElem?_drop] at h1 h2
  obtain ⟨d', h3, h4⟩ := a.get h1
  rw [h2] at h3; cases h3; exact h4
theorem VRs.take {μ h cs ds} (a : VRs μ h cs ds) (k : Nat) : VRs μ h (cs.take k) (ds.take k) := by
  refine VRs.mk (by simp [a.len]) fun i v d h1 h2 => ?_
  rw [List.getElem?_take] at h1 h2
  by_cases hi : i < k
  · rw [if_pos hi] at h1 h2
    obtain ⟨d', h3, h4⟩ := a.get h1
    rw [h2] at h3; cases h3; exact h4
  · rw [if_neg hi] at h1; cases h1
theorem VRs.set {μ h cs ds v d} (a : VRs μ h cs ds) (k : Nat) (hv : VR μ h v d) : VRs μ h (cs.set k v) (ds.set k d) := by
  refine VRs.mk (by simp [a.len]) fun i v' d' h1 h2 => ?_
  rw [List.getElem?_set] at h1 h2
  by_cases hi : k = i
  · subst hi
    rw [if_pos rfl] at h1 h2
    rw [a.len] at h2
    by_cases hl : k < cs.length
    · rw [if_pos hl] at h1 h2; cases h1; cases h2; exact hv
    · rw [if_neg hl] at h1; cases h1
  · rw [if_neg hi] at h1 h2
    obtain ⟨d'', h3, h4⟩ := a.get h1
    rw [h2] at h3; cases h3; exact h4
theorem VRs.nil {μ h} : VRs μ h [] [] := by simp only [VRs]
theorem VRs.cons {μ h c cs d ds} (a : VR μ h c d) (b : VRs μ h cs ds) : VRs μ h (c :: cs) (d :: ds) := by simp only [VRs]; exact ⟨d, ds, rfl, a, b⟩

/-- What a heap may become: no object grows shorter or turns its kind, and one that is as long as it was lies where it lay. -/
structure Step (μ : Mu) (h : H) (μ' : Mu) (h' : H) : Prop where
  len : h.length ≤ h'.length
  alive : ∀ o, (inf h o).isSome = true → (inf h' o).isSome = true
  same : ∀ o t m, o < h.length → inf h' o = some (t, m) → ∃ n, inf h o = some (t, n) ∧ n ≤ m ∧ (m = n → μ' o = μ o)
theorem Step.refl (μ h) : Step μ h μ h := ⟨Nat.le_refl _, fun _ h => h, fun o t m _ e => ⟨m, e, Nat.le_refl _, fun _ => rfl⟩⟩
theorem Step.trans {μ h μ1 h1 μ2 h2} (a : Step μ h μ1 h1) (b : Step μ1 h1 μ2 h2) : Step μ h μ2 h2 := by
  refine ⟨Nat.le_trans a.len b.len, fun o h => b.alive o (a.alive o h), fun o t m ho e => ?_⟩
  obtain ⟨n, e1, h1, h2⟩ := b.same o t m (Nat.lt_of_lt_of_le ho a.len) e
  obtain ⟨k, e2, h3, h4⟩ := a.same o t n ho e1
  exact ⟨k, e2, by omega, fun hm => by rw [h2 (by omega), h4 (by omega)]⟩
theorem isSome_lt {h : H} {o : Nat} (e : (inf h o).isSome = true) : o < h.length := by
  rcases Nat.lt_or_ge o h.length with hl | hl
  · exact hl
  · unfold inf at e
    rw [List.getElem?_eq_none hl] at e; simp at e
theorem PR.step {μ h μ' h'} (s : Step μ h μ' h') {p v} (r : PR μ h p v) : PR μ' h' p v := by
  unfold PR at *
  split
  · next e => rw [e] at r; exact r
  · next o e =>
    rw [e] at r
    obtain ⟨ho, a, rfl, r⟩ := r
    refine ⟨s.alive o ho, a, rfl, fun t m hi => ?_⟩
    obtain ⟨n, e1, h1, h2⟩ := s.same o t m (isSome_lt ho) hi
    obtain ⟨r1, r2⟩ := r t n e1
    exact ⟨by omega, fun hm => by rw [h2 (by omega)]; exact r2 (by omega)⟩
theorem SR.step {μ h μ' h'} (s : Step μ h μ' h') {p v} (r : SR μ h p v) : SR μ' h' p v := by
  unfold SR at *
  split
  · next e => rw [e] at r; exact r
  · next o e =>
    rw [e] at r
    obtain ⟨ho, hz, a, cap, rfl, hc, r⟩ := r
    refine ⟨s.alive o ho, hz, a, cap, rfl, hc, fun t m hi => ?_⟩
    obtain ⟨n, e1, h1, h2⟩ := s.same o t m (isSome_lt ho) hi
    obtain ⟨r1, r2⟩ := r t n e1
    exact ⟨by omega, fun hm => by rw [h2 (by omega)]; exact r2 (by omega)⟩
theorem MR.step {μ h μ' h'} (s : Step μ h μ' h') {p v} (r : MR μ h p v) : MR μ' h' p v := by
  unfold MR at *
  split
  · exact r
  · next o =>
    obtain ⟨ho, q, rfl, r⟩ := r
    refine ⟨s.alive o ho, q, rfl, fun m hi => ?_⟩
    obtain ⟨n, e1, h1, h2⟩ := s.same o 2 m (isSome_lt ho) hi
    have e0 : m = 0 := by
      unfold inf at hi; split at hi <;> simp at hi; exact hi.symm
    have e0' : n = 0 := by
      unfold inf at e1; split at e1 <;> simp at e1; exact e1.symm
    rw [h2 (by omega)]
    exact r n e1
mutual
theorem VR.step {μ h μ' h'} (s : Step μ h μ' h') : ∀ {c v}, VR μ h c v → VR μ' h' c v
  | .undef, v, _ => by simp only [VR]
  | .gone, v, r => by simpa only [VR] using r
  | .bool b, v, r => by simpa only [VR] using r
  | .int k n, v, r => by simpa only [VR] using r
  | .str _, v, r => by simpa only [VR] using r
  | .ptr p, v, r => by simp only [VR] at *; exact r.step s
  | .sl p, v, r => by simp only [VR] at *; exact r.step s
  | .func f cap, v, r => by
    simp only [VR] at *
    obtain ⟨ds, e, r⟩ := r
    exact ⟨ds, e, VRs.step s r⟩
  | .nilFunc, v, r => by simpa only [VR] using r
  | .map p, v, r => by simp only [VR] at *; exact r.step s
  | .agg cs, v, r => by
    simp only [VR] at *
    obtain ⟨ds, e, r, c⟩ := r
    exact ⟨ds, e, VRs.step s r, c⟩
  | .tuple cs, v, r => by
    simp only [VR] at *
    obtain ⟨ds, e, r⟩ := r
    exact ⟨ds, e, VRs.step s r⟩
theorem VRs.step {μ h μ' h'} (s : Step μ h μ' h') : ∀ {cs ds}, VRs μ h cs ds → VRs μ' h' cs ds
  | [], ds, r => by simpa only [VRs] using r
  | c :: cs, ds, r => by
    simp only [VRs] at *
    obtain ⟨d, ds', e, h1, h2⟩ := r
    exact ⟨d, ds', e, VR.step s h1, VRs.step s h2⟩
end
theorem VR.cell {μ h} : ∀ {c v}, VR μ h c v → c.isCell = true → v.oneCell' = true
  | .undef, _, _, e => by simp [AVal.isCell] at e
  | .gone, _, _, e => by simp [AVal.isCell] at e
  | .agg _, _, _, e => by simp [AVal.isCell] at e
  | .tuple _, _, _, e => by simp [AVal.isCell] at e
  | .bool _, _, r, _ => by simp only [VR] at r; subst r; rfl
  | .int _ _, _, r, _ => by simp only [VR] at r; subst r; rfl
  | .str _, _, r, _ => by simp only [VR] at r; subst r; rfl
  | .nilFunc, _, r, _ => by simp only [VR] at r; subst r; rfl
  | .func _ _, _, r, _ => by simp only [VR] at r; obtain ⟨_, rfl, _⟩ := r; rfl
  | .ptr p, _, r, _ => by
    simp only [VR, PR] at r
    split at r
    · subst r; rfl
    · obtain ⟨_, _, rfl, _⟩ := r; rfl
  | .sl p, _, r, _ => by
    simp only [VR, SR] at r
    split at r
    · obtain ⟨_, rfl⟩ := r; rfl
    · obtain ⟨_, _, _, _, rfl, _⟩ := r; rfl
  | .map p, _, r, _ => by
    simp only [VR, MR] at r
    split at r
    · subst r; rfl
    · obtain ⟨_, _, rfl, _⟩ := r; rfl

/-- The heap tells of the memory. -/
structure Rel (μ : Mu) (h : H) (w : World) : Prop where
  own : ∀ o cs, h[o]? = some (.own cs) → (μ o).b < w.heap.size ∧ (μ o).off + cs.length ≤ (μ o).size ∧
    (∀ i, (μ o).off + i < (μ o).size → (w.cell? (place (μ o) i)).isSome = true ∧ w.frozen? (place (μ o) i) = false) ∧
    ∀ (i : Nat) v, cs[i]? = some v → v.isCell = true ∧ ∃ d, w.cell? (place (μ o) i) = some d ∧ VR μ h v d
  ro : ∀ o cs, h[o]? = some (.ro cs) → ∀ (i : Nat) v, cs[i]? = some v → v.isCell = true ∧ ∃ d, w.cell? (place (μ o) i) = some d ∧ VR μ h v d
  mp : ∀ o es, h[o]? = some (.mp es) → (μ o).b < w.heap.size ∧ ∃ ms ck, w.heap[(μ o).b]? = some (.map ms ck) ∧ ms.size = es.length ∧
    ∀ (i : Nat) k v, es[i]? = some (k, v) → k.isCell = true ∧ ∃ m, ms[i]? = some m ∧ VR μ h k m.key ∧ VR μ h v m.val
  sep : ∀ o o' t m t' m', inf h o = some (t, m) → t ≠ 1 → inf h o' = some (t', m') → (t' = 1 → 0 < m') → o ≠ o' → (μ o).b = (μ o').b → False
/-- The blocks of which the heap has the word. -/
def Mine (μ : Mu) (h : H) (b : Nat) : Prop := ∃ o t m, inf h o = some (t, m) ∧ t ≠ 1 ∧ (μ o).b = b
/-- The blocks in which an object of the heap lies. -/
def Has (μ : Mu) (h : H) (b : Nat) : Prop := ∃ o t m, inf h o = some (t, m) ∧ (t = 1 → 0 < m) ∧ (μ o).b = b
structure Keep (B : Nat → Prop) (w w' : World) : Prop where
  os : w'.os = w.os
  tape : w'.tape = w.tape
  output : w'.output = w.output
  size : w.heap.size ≤ w'.heap.size
  block : ∀ k, k < w.heap.size → ¬ B k → w'.heap[k]? = w.heap[k]?
theorem Keep.refl (B w) : Keep B w w := ⟨rfl, rfl, rfl, Nat.le_refl _, fun _ _ _ => rfl⟩
/-- From one state to a later one. -/
structure Tr (μ : Mu) (h : H) (w : World) (μ' : Mu) (h' : H) (w' : World) : Prop where
  rel : Rel μ' h' w'
  step : Step μ h μ' h'
  keep : Keep (Mine μ h) w w'
  mine : ∀ b, Mine μ' h' b → Mine μ h b ∨ w.heap.size ≤ b
  has : ∀ b, Has μ' h' b → Has μ h b ∨ w.heap.size ≤ b
theorem Tr.refl {μ h w} (r : Rel μ h w) : Tr μ h w μ h w := ⟨r, Step.refl _ _, Keep.refl _ _, fun _ h => .inl h, fun _ h => .inl h⟩
theorem Tr.trans {μ h w μ1 h1 w1 μ2 h2 w2} (a : Tr μ h w μ1 h1 w1) (b : Tr μ1 h1 w1 μ2 h2 w2) : Tr μ h w μ2 h2 w2 := by
  refine ⟨b.rel, a.step.trans b.step, ⟨b.keep.os.trans a.keep.os, b.keep.tape.trans a.keep.tape, b.keep.output.trans a.keep.output, Nat.le_trans a.keep.size b.keep.size, fun k hk hn => ?_⟩, fun x hx => ?_, fun x hx => ?_⟩
  · rw [b.keep.block k (Nat.lt_of_lt_of_le hk a.keep.size) (fun hm => ?_), a.keep.block k hk hn]
    rcases a.mine k hm with h | h
    · exact hn h
    · omega
  · rcases b.mine x hx with h | h
    · exact a.mine x h
    · exact .inr (Nat.le_trans a.keep.size h)
  · rcases b.has x hx with h | h
    · exact a.has x h
    · exact .inr (Nat.le_trans a.keep.size h)
theorem inf_lt {h : H} {o t m} (e : inf h o = some (t, m)) : o < h.length := by
  unfold inf at e
  rcases Nat.lt_or_ge o h.length with hl | hl
  · exact hl
  · rw [List.getElem?_eq_none hl] at e; simp at e
/-- The draw of an order or a capacity changes nothing here. -/
theorem Rel.drew {μ h w} (r : Rel μ h w) : Rel μ h w.drew := ⟨r.own, r.ro, r.mp, r.sep⟩
theorem Tr.drew {μ h w} (r : Rel μ h w) : Tr μ h w μ h w.drew := ⟨r.drew, Step.refl _ _, ⟨rfl, rfl, rfl, Nat.le_refl _, fun _ _ _ => rfl⟩, fun _ h => .inl h, fun _ h => .inl h⟩

/-! ### a new object -/
def Mu.upd (μ : Mu) (o : Nat) (l : Loc) : Mu := fun i => if i = o then l else μ i
theorem inf_push (h : H) (x : AObj) (o : Nat) (ho : o < h.length) : inf (h ++ [x]) o = inf h o := by
  unfold inf; rw [List.getElem?_append_left ho]
theorem Step.push (μ : Mu) (h : H) (x : AObj) (l : Loc) : Step μ h (μ.upd h.length l) (h ++ [x]) := by
  refine ⟨by simp, fun o e => by rw [inf_push h x o (isSome_lt e)]; exact e, fun o t m ho e => ⟨m, ?_, Nat.le_refl _, fun _ => ?_⟩⟩
  · rw [inf_push h x o ho] at e; exact e
  · unfold Mu.upd; rw [if_neg (by omega)]
theorem upd_self (μ : Mu) (o : Nat) (l : Loc) : (μ.upd o l) o = l := by simp [Mu.upd]
theorem upd_other (μ : Mu) (o : Nat) (l : Loc) (i : Nat) (h : i ≠ o) : (μ.upd o l) i = μ i := by simp [Mu.upd, h]
theorem cell?_alloc_lt' (w : World) (x : Obj) (a : Addr) (h : a.block < w.heap.size) : (w.alloc x).cell? a = w.cell? a := World.cell?_alloc_lt _ _ _ h
theorem frozen?_alloc_lt' (w : World) (x : Obj) (a : Addr) (h : a.block < w.heap.size) : (w.alloc x).frozen? a = w.frozen? a := World.frozen?_alloc_old _ _ _ (by omega)
theorem cell_lt {w : World} {a : Addr} {d : Value} (h : w.cell? a = some d) : a.block < w.heap.size := by
  rcases Nat.lt_or_ge a.block w.heap.size with hl | hl
  · exact hl
  · unfold World.cell? at h
    rw [Array.getElem?_eq_none hl] at h
    simp at h
theorem alloc_size (w : World) (x : Obj) : (w.alloc x).heap.size = w.heap.size + 1 := by show (w.heap.push x).size = _; simp
theorem alloc_get (w : World) (x : Obj) (k : Nat) (h : k < w.heap.size) : (w.alloc x).heap[k]? = w.heap[k]? := by
  show (w.heap.push x)[k]? = _
  rw [Array.getElem?_push, if_neg (by omega)]
/-- The memory after 'new': a block c, of which the first cells are those of the new object. -/
theorem Tr.new {μ h w} (r : Rel μ h w) (cs : List AVal) (c : Array Value) (e : TypeId) (ds : List Value) (hd : VRs μ h cs ds)
    (hc : cs.all AVal.isCell = true) (hp : ∃ rest, c.toList = ds ++ rest) :
    Tr μ h w (μ.upd h.length ⟨w.heap.size, 0, c.size⟩) (h ++ [.own cs]) (w.alloc (.cells c e)) := by
  obtain ⟨rest, hp⟩ := hp
  have st := Step.push μ h (.own cs) ⟨w.heap.size, 0, c.size⟩
  have hlen : ds.length = cs.length := hd.len
  have hsz : cs.length ≤ c.size := by rw [← Array.length_toList, hp]; simp [hlen]
  have hcell : ∀ i, (w.alloc (.cells c e)).cell? ⟨w.heap.size, i, none⟩ = c[i]? := fun i => World.cell?_alloc_at c e _ i rfl
  have hfro : ∀ i, (w.alloc (.cells c e)).frozen? ⟨w.heap.size, i, none⟩ = false := fun i => World.frozen?_alloc_at c e _ i rfl
  have hold : ∀ o x, h[o]? = some x → o ≠ h.length := fun o x hx => by
    have : o < h.length := by
      rcases Nat.lt_or_ge o h.length with hl | hl
      · exact hl
      · rw [List.getElem?_eq_none hl] at hx; cases hx
    omega
  refine ⟨⟨?_, ?_, ?_, ?_⟩, st, ⟨rfl, rfl, rfl, by rw [alloc_size]; omega, fun k hk _ => alloc_get _ _ _ hk⟩, ?_, ?_⟩
  · intro o cs' ho
    rw [List.getElem?_append] at ho
    split at ho
    · next hl =>
      obtain ⟨h1, h2, h3, h4⟩ := r.own o cs' ho
      rw [upd_other _ _ _ _ (by omega)]
      refine ⟨by rw [alloc_size]; omega, h2, fun i hi => ?_, fun i v hv => ?_⟩
      · rw [cell?_alloc_lt' _ _ _ h1, frozen?_alloc_lt' _ _ _ h1]; exact h3 i hi
      · obtain ⟨q, d, h5, h6⟩ := h4 i v hv
        exact ⟨q, d, by rw [cell?_alloc_lt' _ _ _ h1]; exact h5, h6.step st⟩
    · next hl =>
      have : o = h.length := by
        rcases Nat.lt_or_ge (o - h.length) 1 with h1 | h1
        · omega
        · rw [List.getElem?_eq_none (by simpa using h1)] at ho; cases ho
      subst this
      simp at ho
      subst ho
      rw [upd_self]
      refine ⟨by rw [alloc_size]; simp, by simpa using hsz, fun i hi => ?_, fun i v hv => ?_⟩
      · simp only [place, Nat.zero_add] at hi ⊢
        rw [hcell, hfro]
        exact ⟨by simp [hi], rfl⟩
      · refine ⟨?_, ?_⟩
        · rw [List.all_eq_true] at hc
          exact hc v (List.mem_of_getElem? hv)
        · obtain ⟨d, h5, h6⟩ := hd.get hv
          refine ⟨d, ?_, h6.step st⟩
          simp only [place, Nat.zero_add]
          rw [hcell, ← Array.getElem?_toList, hp, List.getElem?_append_left]
          · exact h5
          · exact (List.getElem?_eq_some_iff.1 h5).1
  · intro o cs' ho i v hv
    rw [List.getElem?_append] at ho
    split at ho
    · next hl =>
      obtain ⟨q, d, h5, h6⟩ := r.ro o cs' ho i v hv
      rw [upd_other _ _ _ _ (by omega)]
      exact ⟨q, d, by rw [cell?_alloc_lt' _ _ _ (cell_lt h5)]; exact h5, h6.step st⟩
    · next hl =>
      have : o = h.length := by
        rcases Nat.lt_or_ge (o - h.length) 1 with h1 | h1
        · omega
        · rw [List.getElem?_eq_none (by simpa using h1)] at ho; cases ho
      subst this
      simp at ho
  · intro o es ho
    rw [List.getElem?_append] at ho
    split at ho
    · next hl =>
      obtain ⟨h1, ms, ck, h2, h3, h4⟩ := r.mp o es ho
      rw [upd_other _ _ _ _ (by omega)]
      refine ⟨by rw [alloc_size]; omega, ms, ck, ?_, h3, fun i k v hv => ?_⟩
      · rw [alloc_get _ _ _ h1]; exact h2
      · obtain ⟨q, m, h5, h6, h7⟩ := h4 i k v hv
        exact ⟨q, m, h5, h6.step st, h7.step st⟩
    · next hl =>
      have : o = h.length := by
        rcases Nat.lt_or_ge (o - h.length) 1 with h1 | h1
        · omega
        · rw [List.getElem?_eq_none (by simpa using h1)] at ho; cases ho
      subst this
      simp at ho
  · intro o o' t m t' m' h1 ht h2 hz hne hb
    have hlt : ∀ o t m, o < h.length → inf (h ++ [.own cs]) o = some (t, m) → inf h o = some (t, m) := fun o t m hl e => by rwa [inf_push _ _ _ hl] at e
    have hmine : ∀ o t m, inf h o = some (t, m) → t ≠ 1 → (μ o).b < w.heap.size := fun o t m e ht => by
      unfold inf at e
      split at e <;> simp at e
      · next cs' hx => exact (r.own o cs' hx).1
      · exact absurd e.1.symm ht
      · next es hx => exact (r.mp o es hx).1
    have hro : ∀ o m, inf h o = some (1, m) → 0 < m → (μ o).b < w.heap.size := fun o m e h0 => by
      unfold inf at e
      split at e <;> simp at e
      next cs' hx =>
        obtain ⟨_, d, h5, _⟩ := r.ro o cs' hx 0 cs'[0] (by simp)
        exact cell_lt h5
    have hl1 := inf_lt h1
    have hl2 := inf_lt h2
    simp at hl1 hl2
    by_cases e1 : o = h.length
    · subst e1
      have hl : o' < h.length := by omega
      rw [upd_self, upd_other _ _ _ _ (by omega)] at hb
      have h2' := hlt o' t' m' hl h2
      by_cases ht' : t' = 1
      · subst ht'
        have h3 := hro o' m' h2' (hz rfl)
        have hb' : w.heap.size = (μ o').b := hb
        omega
      · have h3 := hmine o' t' m' h2' ht'
        have hb' : w.heap.size = (μ o').b := hb
        omega
    · have hl : o < h.length := by omega
      have h1' := hlt o t m hl h1
      by_cases e2 : o' = h.length
      · subst e2
        rw [upd_self, upd_other _ _ _ _ e1] at hb
        have h3 := hmine o t m h1' ht
        have hb' : (μ o).b = w.heap.size := hb
        omega
      · rw [upd_other _ _ _ _ e1, upd_other _ _ _ _ e2] at hb
        exact r.sep o o' t m t' m' h1' ht (hlt o' t' m' (by omega) h2) hz hne hb
  · rintro b ⟨o, t, m, e, ht, hb⟩
    have hl := inf_lt e
    simp at hl
    by_cases e1 : o = h.length
    · subst e1
      rw [upd_self] at hb
      exact .inr (by have hb' : w.heap.size = b := hb; omega)
    · rw [upd_other _ _ _ _ e1] at hb
      exact .inl ⟨o, t, m, by rwa [inf_push _ _ _ (by omega)] at e, ht, hb⟩
  · rintro b ⟨o, t, m, e, ht, hb⟩
    have hl := inf_lt e
    simp at hl
    by_cases e1 : o = h.length
    · subst e1
      rw [upd_self] at hb
      exact .inr (by have hb' : w.heap.size = b := hb; omega)
    · rw [upd_other _ _ _ _ e1] at hb
      exact .inl ⟨o, t, m, by rwa [inf_push _ _ _ (by omega)] at e, ht, hb⟩

/-! ### reading -/
theorem cells_inf {h : H} {o n cs} (e : cells h o n = some cs) : (∃ t, inf h o = some (t, n) ∧ (t = 0 ∨ t = 1)) ∧ cs.length = n := by
  unfold cells at e
  unfold inf
  split at e
  · next hx => rw [hx]; split at e <;> cases e; next hl => exact ⟨⟨0, by simp [hl], .inl rfl⟩, hl⟩
  · next hx => rw [hx]; split at e <;> cases e; next hl => exact ⟨⟨1, by simp [hl], .inr rfl⟩, hl⟩
  · cases e
theorem owned_inf {h : H} {o n cs} (e : owned h o n = some cs) : inf h o = some (0, n) ∧ cs.length = n ∧ h[o]? = some (.own cs) := by
  unfold owned at e
  split at e
  · next cs' hx =>
    split at e <;> cases e
    next hl => exact ⟨by unfold inf; rw [hx]; simp [hl], hl, hx⟩
  · cases e
theorem Rel.cells {μ h w} (r : Rel μ h w) {o n cs} (e : cells h o n = some cs) {i : Nat} {v} (hv : cs[i]? = some v) :
    v.isCell = true ∧ ∃ d, w.cell? (place (μ o) i) = some d ∧ VR μ h v d := by
  unfold Cl.cells at e
  split at e
  · next hx => split at e <;> cases e; exact (r.own _ _ hx).2.2.2 i v hv
  · next hx => split at e <;> cases e; exact r.ro _ _ hx i v hv
  · cases e
theorem Rel.cell {μ h w} (r : Rel μ h w) {p : Pt} {v x} (hp : PR μ h p x) (e : cell h p = some v) :
    v.isCell = true ∧ ∃ a d, x = .pointer (some a) ∧ w.cell? a = some d ∧ VR μ h v d := by
  unfold Cl.cell at e
  unfold PR at hp
  split at e
  · next o ho =>
    rw [ho] at hp
    obtain ⟨_, a, rfl, hp⟩ := hp
    rw [Option.bind_eq_some_iff] at e
    obtain ⟨cs, hc, hv⟩ := e
    obtain ⟨⟨t, ht, _⟩, _⟩ := cells_inf hc
    obtain ⟨q, d, h1, h2⟩ := r.cells hc hv
    exact ⟨q, a, d, rfl, by rw [(hp t p.n ht).2 rfl]; exact h1, h2⟩
  · cases e
/-- A run of cells: what is read of them. -/
theorem list_read {w : World} {P : Nat → Value → Prop} : ∀ (k : Nat) (f : Nat → Addr), (∀ i, i < k → ∃ d, w.cell? (f i) = some d ∧ P i d) →
    ∃ ds : List Value, ds.length = k ∧ ∀ (i : Nat) d, ds[i]? = some d → w.cell? (f i) = some d ∧ P i d
  | 0, f, _ => ⟨[], rfl, fun i d h => by simp at h⟩
  | k + 1, f, H => by
    obtain ⟨ds, hl, hd⟩ := list_read k f fun i hi => H i (by omega)
    obtain ⟨d, h1, h2⟩ := H k (by omega)
    refine ⟨ds ++ [d], by simp [hl], fun i x hx => ?_⟩
    rw [List.getElem?_append] at hx
    split at hx
    · exact hd i x hx
    · next hi =>
      have : i = k := by
        rcases Nat.lt_or_ge (i - ds.length) 1 with h3 | h3
        · omega
        · rw [List.getElem?_eq_none (by simpa using h3)] at hx; cases hx
      subst this
      simp [hl] at hx
      subst hx
      exact ⟨h1, h2⟩
theorem Rel.range {μ h w} (r : Rel μ h w) {o n off k cs} (e : range h (some o) n off k = some cs) :
    (∃ t, inf h o = some (t, n) ∧ (t = 0 ∨ t = 1)) ∧ off + k ≤ n ∧ cs.length = k ∧ cs.all AVal.isCell = true ∧
    ∃ ds : List Value, ds.length = k ∧ VRs μ h cs ds ∧ ∀ (i : Nat) d, ds[i]? = some d → w.cell? (place (μ o) (off + i)) = some d := by
  unfold Cl.range at e
  simp only [Option.bind_eq_some_iff] at e
  obtain ⟨all, hc, he⟩ := e
  split at he <;> cases he
  next hk =>
  obtain ⟨hi, hl⟩ := cells_inf hc
  have hlen : ((all.drop off).take k).length = k := by simp; omega
  have hget : ∀ i v, ((all.drop off).take k)[i]? = some v → all[off + i]? = some v := fun i v hv => by
    rw [List.getElem?_take] at hv
    split at hv
    · rwa [List.getElem?_drop] at hv
    · cases hv
  obtain ⟨ds, h1, h2⟩ := list_read (w := w) (P := fun i d => ∀ v, ((all.drop off).take k)[i]? = some v → VR μ h v d) k (fun i => place (μ o) (off + i)) fun i hi => by
    have hv := List.getElem?_eq_getElem (l := (all.drop off).take k) (i := i) (by omega)
    obtain ⟨q, d, h3, h4⟩ := r.cells hc (hget _ _ hv)
    exact ⟨d, h3, fun v hv' => by rw [hv] at hv'; cases hv'; exact h4⟩
  refine ⟨hi, by omega, hlen, ?_, ds, h1, VRs.mk (by rw [h1, hlen]) fun i v d hv hd => (h2 i d hd).2 v hv, fun i d hd => (h2 i d hd).1⟩
  rw [List.all_eq_true]
  intro v hv
  obtain ⟨i, hi, rfl⟩ := List.mem_iff_getElem.1 hv
  exact (r.cells hc (hget i _ (List.getElem?_eq_getElem hi))).1

/-! ### writing -/
theorem inf_set (h : H) (o : Nat) (x : AObj) (o' : Nat) : inf (h.set o x) o' = if o = o' ∧ o < h.length then (match x with | .own cs => some (0, cs.length) | .ro cs => some (1, cs.length) | .mp _ => some (2, 0) | .dead => none) else inf h o' := by
  unfold inf
  rw [List.getElem?_set]
  by_cases e : o = o'
  · subst e
    by_cases hl : o < h.length
    · cases x <;> simp [hl]
    · simp [hl, List.getElem?_eq_none (Nat.le_of_not_lt hl)]
  · simp [e]
/-- One object of the heap's own turns: it keeps its length and its place, or it grows, in its block or in a new one. -/
theorem Tr.turned {μ h w} (r : Rel μ h w) {o : Nat} {cs cs' : List AVal} (ho : h[o]? = some (.own cs)) (l : Loc) (hl : cs.length ≤ cs'.length) (hle : cs'.length = cs.length → l = μ o) {w' : World}
    (hos : w'.os = w.os) (htp : w'.tape = w.tape) (hout : w'.output = w.output) (hsz : w.heap.size ≤ w'.heap.size) (hblk : ∀ k, k < w.heap.size → k ≠ (μ o).b → w'.heap[k]? = w.heap[k]?)
    (hlb : l.b = (μ o).b ∨ w.heap.size ≤ l.b) (hlw : l.b < w'.heap.size) (hls : l.off + cs'.length ≤ l.size)
    (hall : cs'.all AVal.isCell = true)
    (hthere : ∀ i, l.off + i < l.size → (w'.cell? (place l i)).isSome = true ∧ w'.frozen? (place l i) = false)
    (hcs : ∀ (i : Nat) v, cs'[i]? = some v → ∃ d, w'.cell? (place l i) = some d ∧ VR μ h v d) :
    Tr μ h w (μ.upd o l) (h.set o (.own cs')) w' := by
  have hol : o < h.length := by
    rcases Nat.lt_or_ge o h.length with hx | hx
    · exact hx
    · rw [List.getElem?_eq_none hx] at ho; cases ho
  have hio : inf h o = some (0, cs.length) := by unfold inf; rw [ho]
  have hinf : ∀ o', o' ≠ o → inf (h.set o (.own cs')) o' = inf h o' := fun o' hne => by
    rw [inf_set, if_neg (fun e => hne e.1.symm)]
  have hinfo : inf (h.set o (.own cs')) o = some (0, cs'.length) := by rw [inf_set, if_pos ⟨rfl, hol⟩]
  have st : Step μ h (μ.upd o l) (h.set o (.own cs')) := by
    refine ⟨by simp, fun o' e => by
      by_cases he : o' = o
      · rw [he, hinfo]; rfl
      · rw [hinf _ he]; exact e, fun o' t m _ e => ?_⟩
    by_cases he : o' = o
    · subst he
      rw [hinfo] at e
      simp at e
      obtain ⟨rfl, rfl⟩ := e
      exact ⟨_, hio, hl, fun e => by rw [upd_self]; exact hle e⟩
    · rw [hinf _ he] at e
      exact ⟨m, e, Nat.le_refl _, fun _ => upd_other _ _ _ _ he⟩
  have hcell : ∀ a : Addr, a.block < w.heap.size → a.block ≠ (μ o).b → w'.cell? a = w.cell? a := fun a hb ha => World.cell?_of_block (hblk _ hb ha)
  have hfro : ∀ a : Addr, a.block < w.heap.size → a.block ≠ (μ o).b → w'.frozen? a = w.frozen? a := fun a hb ha => World.frozen?_of_block (hblk _ hb ha)
  have hothers : ∀ o' x, o' ≠ o → (h.set o (.own cs'))[o']? = some x → h[o']? = some x := fun o' x hne hx => by
    rwa [List.getElem?_set_ne (Ne.symm hne)] at hx
  have hro : ∀ o m, inf h o = some (1, m) → 0 < m → (μ o).b < w.heap.size := fun o m e h0 => by
    unfold inf at e
    split at e <;> simp at e
    next cs' hx =>
      obtain ⟨_, d, h5, _⟩ := r.ro o cs' hx 0 cs'[0] (by simp)
      exact cell_lt h5
  have hmine : ∀ o t m, inf h o = some (t, m) → (t = 1 → 0 < m) → (μ o).b < w.heap.size := fun o t m e ht => by
    have e0 := e
    unfold inf at e
    split at e <;> simp at e
    · next cs' hx => exact (r.own o cs' hx).1
    · obtain ⟨rfl, rfl⟩ := e; exact hro o _ e0 (ht rfl)
    · next es hx => exact (r.mp o es hx).1
  have hlt := (r.own o cs ho).1
  refine ⟨⟨?_, ?_, ?_, ?_⟩, st, ⟨hos, htp, hout, hsz, fun k hk hn => hblk k hk fun e => hn ⟨o, 0, _, hio, by omega, e.symm⟩⟩, ?_, ?_⟩
  · intro o' cs2 hx
    by_cases e : o' = o
    · subst e
      rw [List.getElem?_set_self hol] at hx
      cases hx
      rw [upd_self]
      refine ⟨hlw, hls, hthere, fun i v hv => ⟨?_, ?_⟩⟩
      · rw [List.all_eq_true] at hall; exact hall v (List.mem_of_getElem? hv)
      · obtain ⟨d, h3, h4⟩ := hcs i v hv; exact ⟨d, h3, h4.step st⟩
    · have hx' := hothers o' _ e hx
      obtain ⟨h1, h2, h3, h4⟩ := r.own o' cs2 hx'
      have hb : (μ o').b ≠ (μ o).b := fun hb => r.sep o o' 0 _ 0 cs2.length hio (by omega) (by unfold inf; rw [hx']) (by omega) (Ne.symm e) hb.symm
      rw [upd_other _ _ _ _ e]
      refine ⟨by omega, h2, fun i hi => ?_, fun i v hv => ?_⟩
      · rw [hcell _ h1 hb, hfro _ h1 hb]; exact h3 i hi
      · obtain ⟨q, d, h5, h6⟩ := h4 i v hv
        exact ⟨q, d, by rw [hcell _ h1 hb]; exact h5, h6.step st⟩
  · intro o' cs2 hx i v hv
    have e : o' ≠ o := fun e => by subst e; rw [List.getElem?_set_self hol] at hx; cases hx
    have hx' := hothers o' _ e hx
    obtain ⟨q, d, h5, h6⟩ := r.ro o' cs2 hx' i v hv
    have hpos : 0 < cs2.length := by have := (List.getElem?_eq_some_iff.1 hv).1; omega
    have hb : (μ o').b ≠ (μ o).b := fun hb => r.sep o o' 0 _ 1 cs2.length hio (by omega) (by unfold inf; rw [hx']) (fun _ => hpos) (Ne.symm e) hb.symm
    rw [upd_other _ _ _ _ e]
    exact ⟨q, d, by rw [hcell _ (cell_lt h5) hb]; exact h5, h6.step st⟩
  · intro o' es hx
    have e : o' ≠ o := fun e => by subst e; rw [List.getElem?_set_self hol] at hx; cases hx
    have hx' := hothers o' _ e hx
    obtain ⟨h1, ms, ck, h2, h3, h4⟩ := r.mp o' es hx'
    have hb : (μ o').b ≠ (μ o).b := fun hb => r.sep o o' 0 _ 2 0 hio (by omega) (by unfold inf; rw [hx']) (by omega) (Ne.symm e) hb.symm
    rw [upd_other _ _ _ _ e]
    refine ⟨by omega, ms, ck, by rw [hblk _ h1 hb]; exact h2, h3, fun i k v hv => ?_⟩
    obtain ⟨q, m, h5, h6, h7⟩ := h4 i k v hv
    exact ⟨q, m, h5, h6.step st, h7.step st⟩
  · intro a b t m t' m' h1 ht h2 hz hne hb
    by_cases e1 : a = o
    · subst e1
      have e2 : b ≠ a := Ne.symm hne
      rw [upd_self, upd_other _ _ _ _ e2] at hb
      rw [hinf _ e2] at h2
      rcases hlb with hlb | hlb
      · exact r.sep a b 0 _ t' m' hio (by omega) h2 hz hne (by rw [← hlb]; exact hb)
      · have := hmine b t' m' h2 hz; omega
    · rw [upd_other _ _ _ _ e1] at hb
      rw [hinf _ e1] at h1
      by_cases e2 : b = o
      · subst e2
        rw [upd_self] at hb
        rcases hlb with hlb | hlb
        · exact r.sep a b t m 0 _ h1 ht hio (by omega) hne (by rw [hb, hlb])
        · have := hmine a t m h1 (fun e => absurd e ht); omega
      · rw [upd_other _ _ _ _ e2] at hb
        rw [hinf _ e2] at h2
        exact r.sep a b t m t' m' h1 ht h2 hz hne hb
  · rintro b ⟨a, t, m, e, ht, hb⟩
    by_cases e1 : a = o
    · subst e1
      rw [upd_self] at hb
      subst hb
      rcases hlb with hlb | hlb
      · exact .inl ⟨a, 0, _, hio, by omega, hlb.symm⟩
      · exact .inr hlb
    · rw [upd_other _ _ _ _ e1] at hb
      rw [hinf _ e1] at e
      exact .inl ⟨a, t, m, e, ht, hb⟩
  · rintro b ⟨a, t, m, e, ht, hb⟩
    by_cases e1 : a = o
    · subst e1
      rw [upd_self] at hb
      subst hb
      rcases hlb with hlb | hlb
      · exact .inl ⟨a, 0, _, hio, (fun e => by cases e), hlb.symm⟩
      · exact .inr hlb
    · rw [upd_other _ _ _ _ e1] at hb
      rw [hinf _ e1] at e
      exact .inl ⟨a, t, m, e, ht, hb⟩
theorem upd_same (μ : Mu) (o : Nat) : μ.upd o (μ o) = μ := by funext i; unfold Mu.upd; split <;> simp_all
theorem Tr.wrote {μ h w} (r : Rel μ h w) {o : Nat} {cs cs' : List AVal} (ho : h[o]? = some (.own cs)) (hl : cs'.length = cs.length) {w' : World}
    (hos : w'.os = w.os) (htp : w'.tape = w.tape) (hout : w'.output = w.output) (hsz : w'.heap.size = w.heap.size) (hblk : ∀ k, k ≠ (μ o).b → w'.heap[k]? = w.heap[k]?)
    (hall : cs'.all AVal.isCell = true)
    (hthere : ∀ i, (μ o).off + i < (μ o).size → (w'.cell? (place (μ o) i)).isSome = true ∧ w'.frozen? (place (μ o) i) = false)
    (hcs : ∀ (i : Nat) v, cs'[i]? = some v → ∃ d, w'.cell? (place (μ o) i) = some d ∧ VR μ h v d) :
    Tr μ h w μ (h.set o (.own cs')) w' := by
  have hr := r.own o cs ho
  have := Tr.turned r ho (μ o) (by omega) (fun _ => rfl) hos htp hout (by omega) (fun k _ => hblk k) (.inl rfl) (by omega) (by omega) hall hthere hcs
  rwa [upd_same] at this
theorem setCells_blocks (b : Nat) : ∀ (vs : List Value) (o : Nat) (w : World), (w.setCells b o vs).os = w.os ∧ (w.setCells b o vs).tape = w.tape ∧ (w.setCells b o vs).output = w.output ∧
    (w.setCells b o vs).heap.size = w.heap.size ∧ ∀ k, k ≠ b → (w.setCells b o vs).heap[k]? = w.heap[k]?
  | [], o, w => ⟨rfl, rfl, rfl, rfl, fun _ _ => rfl⟩
  | v :: r, o, w => by
    obtain ⟨h1, h2, h3, h4, h5⟩ := setCells_blocks b r (o + 1) (w.setCell ⟨b, o, none⟩ v)
    refine ⟨h1, h2, h3, h4.trans (by simp [World.setCell]), fun k hk => (h5 k hk).trans ?_⟩
    exact Go.RowKit.Below.heap_setCell _ _ _ _ hk
/-- Values are stored over an object's cells from off on (they may reach into what the block has to spare). -/
theorem Tr.putN {μ h w} (r : Rel μ h w) {o n off : Nat} {vs : List AVal} {ds : List Value} {h' : H} (e : putN h (some o) n off vs = some h') (hd : VRs μ h vs ds)
    (hall : vs.all AVal.isCell = true) : inf h o = some (0, n) ∧ off + vs.length ≤ n ∧
    (∀ j, j < ds.length → (w.cell? (place (μ o) (off + j))).isSome = true ∧ w.frozen? (place (μ o) (off + j)) = false) ∧ (∀ d ∈ ds, d.oneCell' = true) ∧
    Tr μ h w μ h' (w.setCells (μ o).b ((μ o).off + off) ds) := by
  unfold Cl.putN at e
  simp only [Option.bind_eq_some_iff] at e
  obtain ⟨cs, hc, he⟩ := e
  split at he <;> cases he
  next hk =>
  obtain ⟨hi, hl, ho⟩ := owned_inf hc
  obtain ⟨h1, h2, h3, h4⟩ := r.own o cs ho
  have hdl := hd.len
  have hth : ∀ j, j < ds.length → (w.cell? (place (μ o) (off + j))).isSome = true ∧ w.frozen? (place (μ o) (off + j)) = false := fun j hj => h3 (off + j) (by omega)
  refine ⟨hi, by omega, hth, fun d hd' => ?_, ?_⟩
  · obtain ⟨i, hi', rfl⟩ := List.mem_iff_getElem.1 hd'
    rw [List.all_eq_true] at hall
    have hv := List.getElem?_eq_getElem (l := vs) (i := i) (by omega)
    obtain ⟨d, h5, h6⟩ := hd.get hv
    rw [List.getElem?_eq_getElem hi'] at h5
    cases h5
    exact h6.cell (hall _ (List.getElem_mem _))
  · have hwc : ∀ j, j < ds.length → (w.cell? ⟨(μ o).b, (μ o).off + off + j, none⟩).isSome = true := fun j hj => by
      have := (hth j hj).1; simp only [place] at this; rwa [Nat.add_assoc]
    obtain ⟨k1, k2, k3, k4, k5⟩ := setCells_blocks (μ o).b ds ((μ o).off + off) w
    have hin : ∀ j (hj : j < ds.length), (w.setCells (μ o).b ((μ o).off + off) ds).cell? (place (μ o) (off + j)) = some ds[j] := fun j hj => by
      have := World.cell?_setCells_in (μ o).b ds ((μ o).off + off) w hwc j hj
      simp only [place]; rwa [Nat.add_assoc] at this
    have hout : ∀ i, (i < off ∨ off + ds.length ≤ i) → (w.setCells (μ o).b ((μ o).off + off) ds).cell? (place (μ o) i) = w.cell? (place (μ o) i) := fun i hi' =>
      World.cell?_setCells_out _ _ _ _ _ fun _ _ => by simp only [place]; omega
    have hspl : (splice cs off vs).length = cs.length := by simp [splice]; omega
    have hsp : ∀ i v, (splice cs off vs)[i]? = some v → (i < off ∧ cs[i]? = some v) ∨ (off ≤ i ∧ i < off + vs.length ∧ vs[i - off]? = some v) ∨ (off + vs.length ≤ i ∧ cs[i]? = some v) := fun i v hv => by
      unfold splice at hv
      rw [List.append_assoc, List.getElem?_append] at hv
      have ht : (cs.take off).length = off := by simp; omega
      rw [ht] at hv
      split at hv
      · next hlt => rw [List.getElem?_take, if_pos hlt] at hv; exact .inl ⟨hlt, hv⟩
      · next hge =>
        rw [List.getElem?_append] at hv
        split at hv
        · next hlt => exact .inr (.inl ⟨by omega, by omega, hv⟩)
        · next hge2 =>
          rw [List.getElem?_drop] at hv
          rw [show off + vs.length + (i - off - vs.length) = i by omega] at hv
          exact .inr (.inr ⟨by omega, hv⟩)
    refine Tr.wrote r ho hspl k1 k2 k3 k4 k5 ?_ ?_ ?_
    · rw [List.all_eq_true] at hall ⊢
      intro v hv
      obtain ⟨i, hi', rfl⟩ := List.mem_iff_getElem.1 hv
      rcases hsp i _ (List.getElem?_eq_getElem hi') with ⟨_, h5⟩ | ⟨_, _, h5⟩ | ⟨_, h5⟩
      · exact (h4 i _ h5).1
      · exact hall _ (List.mem_of_getElem? h5)
      · exact (h4 i _ h5).1
    · intro i hi'
      rw [World.frozen?_setCells]
      refine ⟨?_, (h3 i hi').2⟩
      by_cases hr : i < off ∨ off + ds.length ≤ i
      · rw [hout i hr]; exact (h3 i hi').1
      · have := hin (i - off) (by omega)
        rw [show off + (i - off) = i by omega] at this
        rw [this]; rfl
    · intro i v hv
      rcases hsp i v hv with ⟨hr, h5⟩ | ⟨hr1, hr2, h5⟩ | ⟨hr, h5⟩
      · rw [hout i (.inl hr)]; exact (h4 i v h5).2
      · obtain ⟨d, h6, h7⟩ := hd.get h5
        refine ⟨d, ?_, h7⟩
        have := hin (i - off) (by omega)
        rw [show off + (i - off) = i by omega] at this
        rw [this, ← h6, List.getElem?_eq_getElem]
      · rw [hout i (.inr (by omega))]; exact (h4 i v h5).2
/-- Values are stored behind an object's last cell, within its block. -/
theorem Tr.grew {μ h w} (r : Rel μ h w) {o : Nat} {cs vs : List AVal} {ds : List Value} (ho : h[o]? = some (.own cs)) (hd : VRs μ h vs ds) (hall : vs.all AVal.isCell = true)
    (hroom : (μ o).off + cs.length + vs.length ≤ (μ o).size) :
    (∀ j, j < ds.length → (w.cell? (place (μ o) (cs.length + j))).isSome = true ∧ w.frozen? (place (μ o) (cs.length + j)) = false) ∧ (∀ d ∈ ds, d.oneCell' = true) ∧
    Tr μ h w μ (h.set o (.own (cs ++ vs))) (w.setCells (μ o).b ((μ o).off + cs.length) ds) := by
  obtain ⟨h1, h2, h3, h4⟩ := r.own o cs ho
  have hdl := hd.len
  have hth : ∀ j, j < ds.length → (w.cell? (place (μ o) (cs.length + j))).isSome = true ∧ w.frozen? (place (μ o) (cs.length + j)) = false := fun j hj => h3 (cs.length + j) (by omega)
  refine ⟨hth, fun d hd' => ?_, ?_⟩
  · obtain ⟨i, hi', rfl⟩ := List.mem_iff_getElem.1 hd'
    rw [List.all_eq_true] at hall
    have hv := List.getElem?_eq_getElem (l := vs) (i := i) (by omega)
    obtain ⟨d, h5, h6⟩ := hd.get hv
    rw [List.getElem?_eq_getElem hi'] at h5
    cases h5
    exact h6.cell (hall _ (List.getElem_mem _))
  · have hwc : ∀ j, j < ds.length → (w.cell? ⟨(μ o).b, (μ o).off + cs.length + j, none⟩).isSome = true := fun j hj => by
      have := (hth j hj).1; simp only [place] at this; rwa [Nat.add_assoc]
    obtain ⟨k1, k2, k3, k4, k5⟩ := setCells_blocks (μ o).b ds ((μ o).off + cs.length) w
    have hin : ∀ j (hj : j < ds.length), (w.setCells (μ o).b ((μ o).off + cs.length) ds).cell? (place (μ o) (cs.length + j)) = some ds[j] := fun j hj => by
      have := World.cell?_setCells_in (μ o).b ds ((μ o).off + cs.length) w hwc j hj
      simp only [place]; rwa [Nat.add_assoc] at this
    have hout : ∀ i, (i < cs.length ∨ cs.length + ds.length ≤ i) → (w.setCells (μ o).b ((μ o).off + cs.length) ds).cell? (place (μ o) i) = w.cell? (place (μ o) i) := fun i hi' =>
      World.cell?_setCells_out _ _ _ _ _ fun _ _ => by simp only [place]; omega
    have := Tr.turned (cs' := cs ++ vs) r ho (μ o) (by simp) (fun _ => rfl) k1 k2 k3 (by omega) (fun k _ => k5 k) (.inl rfl) (by omega) (by simp; omega)
      (by
        rw [List.all_append, Bool.and_eq_true]
        refine ⟨?_, hall⟩
        rw [List.all_eq_true]
        intro v hv
        obtain ⟨i, hi', rfl⟩ := List.mem_iff_getElem.1 hv
        exact (h4 i _ (List.getElem?_eq_getElem hi')).1)
      (fun i hi' => by
        rw [World.frozen?_setCells]
        refine ⟨?_, (h3 i hi').2⟩
        by_cases hr : i < cs.length ∨ cs.length + ds.length ≤ i
        · rw [hout i hr]; exact (h3 i hi').1
        · have := hin (i - cs.length) (by omega)
          rw [show cs.length + (i - cs.length) = i by omega] at this
          rw [this]; rfl)
      (fun i v hv => by
        rw [List.getElem?_append] at hv
        split at hv
        · next hlt => rw [hout i (.inl hlt)]; exact (h4 i v hv).2
        · next hge =>
          obtain ⟨d, h6, h7⟩ := hd.get hv
          refine ⟨d, ?_, h7⟩
          have hlt := (List.getElem?_eq_some_iff.1 h6).1
          have := hin (i - cs.length) hlt
          rw [show cs.length + (i - cs.length) = i by omega] at this
          rw [this, ← h6, List.getElem?_eq_getElem])
    rwa [upd_same] at this
end Go.Proofs.Ytdmhchgaeepdmaa.Cl
