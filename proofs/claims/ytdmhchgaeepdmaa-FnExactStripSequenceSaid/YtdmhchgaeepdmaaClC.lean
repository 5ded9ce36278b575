/- The clean machine: each of its operations tells of the model's. No claim is stated here. -/
import Derived.Test.YtdmhchgaeepdmaaClB
import Derived.Calls
set_option linter.unusedVariables false
set_option linter.unusedSimpArgs false
namespace Go.Proofs.Ytdmhchgaeepdmaa.Cl
open Go

/-! ### the table of types -/
def tdOf (P : Program) : TypeDesc → TD
  | .int k => .int k
  | .bool => .bool
  | .string => .str
  | .pointer _ => .ptr
  | .slice e => .sl e
  | .array n e => .arr n e
  | .struct fs => bif fs.toList.all (fun f => (P.info? f.type).any fun i => i.size != 0) then .struct (fs.toList.map fun f => (f.offset, f.type)) else .other
  | .func _ _ _ => .func
  | .map k e => .map k e
  | .tuple ts => .tuple ts.toList
  | _ => .other
def infoOf (P : Program) (t : Nat) : TInfo :=
  match P.info? t, P.underlying t with
  | some i, some d => match i.zero with
    | some z => bif (z.cells.size == i.size) && (z.cells.toList.all fun v => (cv v).isCell) then ⟨tdOf P d, i.size, i.bytes, z.cells.toList.map cv⟩ else TInfo.none
    | none => TInfo.none
  | _, _ => TInfo.none
def tabOf (P : Program) (n : Nat) : Tab := (List.range n).map (infoOf P)
structure TOK (P : Program) (T : Tab) : Prop where
  eq : ∃ n, T = tabOf P n
structure Told (P : Program) (T : Tab) (t : Nat) where
  i : TypeInfo
  d : TypeDesc
  z : Value
  hi : P.info? t = some i
  hd : P.underlying t = some d
  td : (tget T t).d = tdOf P d
  size : (tget T t).size = i.size
  bytes : (tget T t).bytes = i.bytes
  hz : i.zero = some z
  zero : (tget T t).zero = z.cells.toList.map cv
  zsize : z.cells.size = i.size
  zcell : (z.cells.toList.all fun v => (cv v).isCell) = true
theorem TOK.told0 {P : Program} {T : Tab} (hT : TOK P T) (t : Nat) (h : tget T t ≠ TInfo.none) : Nonempty (Told P T t) := by
  obtain ⟨n, rfl⟩ := hT.eq
  unfold tget tabOf at *
  by_cases ht : t < n
  · rw [List.getD_eq_getElem?_getD, List.getElem?_map, List.getElem?_range ht] at h
    simp only [Option.map_some, Option.getD_some] at h
    have e : ((List.range n).map (infoOf P)).getD t TInfo.none = infoOf P t := by
      rw [List.getD_eq_getElem?_getD, List.getElem?_map, List.getElem?_range ht]; rfl
    unfold infoOf at h
    split at h
    · next i d hi hd =>
      split at h
      · next z hz =>
        cases hb : (z.cells.size == i.size) && (z.cells.toList.all fun v => (cv v).isCell) with
        | false => rw [hb] at h; exact absurd rfl h
        | true =>
          have e2 : infoOf P t = ⟨tdOf P d, i.size, i.bytes, z.cells.toList.map cv⟩ := by
            unfold infoOf; simp only [hi, hd, hz, hb, cond_true]
          rw [Bool.and_eq_true] at hb
          exact ⟨⟨i, d, z, hi, hd, by unfold tget; rw [e, e2], by unfold tget; rw [e, e2], by unfold tget; rw [e, e2], hz, by unfold tget; rw [e, e2], by simpa using hb.1, hb.2⟩⟩
      · exact absurd rfl h
    · exact absurd rfl h
  · rw [List.getD_eq_getElem?_getD, List.getElem?_map, List.getElem?_eq_none (by simp; omega)] at h
    exact absurd rfl h
theorem TOK.told {P : Program} {T : Tab} (hT : TOK P T) (t : Nat) (h : (tget T t).d ≠ .other) : Nonempty (Told P T t) := hT.told0 t fun e => h (by rw [e]; rfl)
theorem TOK.toldS {P : Program} {T : Tab} (hT : TOK P T) (t : Nat) (h : 0 < (tget T t).size) : Nonempty (Told P T t) := hT.told0 t fun e => by rw [e] at h; simp [TInfo.none] at h
theorem cv_VR {μ h} (v : Value) : VR μ h (cv v) v := by
  cases v with
  | pointer a => cases a <;> simp [cv, VR, PR, Pt.nil]
  | slice a n c =>
    cases a with
    | some a => simp [cv, VR]
    | none => cases n with
      | succ n => simp [cv, VR]
      | zero => cases c with
        | succ n => simp [cv, VR]
        | zero => simp [cv, VR, SR, Sl.nil]
  | map r => cases r <;> simp [cv, VR, MR]
  | _ => simp [cv, VR]
theorem cvs_VR {μ h} (l : List Value) : VRs μ h (l.map cv) l := by
  refine VRs.mk (by simp) fun i v d h1 h2 => ?_
  rw [List.getElem?_map, h2] at h1
  cases h1
  exact cv_VR d
section
variable {P : Program} {T : Tab} {μ : Mu} {h : H} {w : World}
theorem tdOf_int {d k} (e : TD.int k = tdOf P d) : d = .int k := by
  cases d <;> simp [tdOf] at e
  · rw [e]
  · next fs => revert e; generalize fs.all _ = b; cases b <;> simp
theorem tdOf_bool {d} (e : TD.bool = tdOf P d) : d = .bool := by
  cases d <;> simp [tdOf] at e
  · rfl
  · next fs => revert e; generalize fs.all _ = b; cases b <;> simp
theorem tdOf_str {d} (e : TD.str = tdOf P d) : d = .string := by
  cases d <;> simp [tdOf] at e
  · rfl
  · next fs => revert e; generalize fs.all _ = b; cases b <;> simp
theorem tdOf_ptr {d} (e : TD.ptr = tdOf P d) : ∃ u, d = .pointer u := by
  cases d <;> simp [tdOf] at e
  · exact ⟨_, rfl⟩
  · next fs => revert e; generalize fs.all _ = b; cases b <;> simp
theorem tdOf_sl {d x} (e : TD.sl x = tdOf P d) : d = .slice x := by
  cases d <;> simp [tdOf] at e
  · rw [e]
  · next fs => revert e; generalize fs.all _ = b; cases b <;> simp
theorem tdOf_func {d} (e : TD.func = tdOf P d) : ∃ a b c, d = .func a b c := by
  cases d <;> simp [tdOf] at e
  · next fs => revert e; generalize fs.all _ = b; cases b <;> simp
  · exact ⟨_, _, _, rfl⟩
theorem tdOf_map {d k x} (e : TD.map k x = tdOf P d) : d = .map k x := by
  cases d <;> simp [tdOf] at e
  · rw [e.1, e.2]
  · next fs => revert e; generalize fs.all _ = b; cases b <;> simp
theorem tdOf_arr {d n x} (e : TD.arr n x = tdOf P d) : d = .array n x := by
  cases d <;> simp [tdOf] at e
  · rw [e.1, e.2]
  · next fs => revert e; generalize fs.all _ = b; cases b <;> simp
theorem tdOf_struct {d l} (e : TD.struct l = tdOf P d) : ∃ fs, d = .struct fs ∧ l = fs.toList.map (fun f => (f.offset, f.type)) ∧ ∀ f ∈ fs.toList, ∃ i, P.info? f.type = some i ∧ i.size ≠ 0 := by
  cases d with
  | struct fs =>
    refine ⟨fs, rfl, ?_⟩
    unfold tdOf at e
    cases hb : fs.toList.all (fun f => (P.info? f.type).any fun i => i.size != 0) with
    | false => simp only [hb, cond_false] at e; cases e
    | true =>
      simp only [hb, cond_true] at e
      injection e with e
      refine ⟨e, fun f hf => ?_⟩
      rw [List.all_eq_true] at hb
      have := hb f hf
      cases hi : P.info? f.type with
      | none => rw [hi] at this; simp at this
      | some i => rw [hi] at this; exact ⟨i, rfl, by simpa using this⟩
  | _ => simp [tdOf] at e

/-! ### reading -/
theorem place_add (l : Loc) (i j : Nat) : (place l i).add j = place l (i + j) := by
  unfold Addr.add place
  split
  · next e => subst e; rfl
  · simp [Nat.add_assoc]
def isRowD : TypeDesc → Bool
  | .struct _ => true
  | .array _ _ => true
  | _ => false
theorem run_isAgg {t d} (hd : P.underlying t = some d) : (isAgg t).run P w = .ok (isRowD d) w := by
  unfold isAgg
  rw [Sem.run_bind, run_underlying hd]
  cases d <;> rfl
theorem run_sizeOf {t i} (hi : P.info? t = some i) : (sizeOf t).run P w = .ok i.size w := by simp [sizeOf, typeInfo, hi]
theorem run_loadCell {t d a v} (hd : P.underlying t = some d) (hn : isRowD d = false) (hc : w.cell? a = some v) :
    (Instr.loadAt t (.pointer (some a))).run P w = .ok v w := by
  simp only [Instr.loadAt, Instr.sureAddr, loadVar, Sem.run_bind, Sem.run_pure, Result.andThen_ok, run_isAgg hd, hn]
  simp [hc]
theorem run_loadRow {t d i a} (hd : P.underlying t = some d) (hn : isRowD d = true) (hi : P.info? t = some i)
    {cs : List Value} (hl : cs.length = i.size) (hc : ∀ (j : Nat) v, cs[j]? = some v → w.cell? (a.add j) = some v) :
    (Instr.loadAt t (.pointer (some a))).run P w = .ok (.agg cs.toArray) w := by
  have := run_loadCells_list (P := P) w a cs hc
  simp only [Instr.loadAt, Instr.sureAddr, loadVar, Sem.run_bind, Sem.run_pure, Result.andThen_ok, run_isAgg hd, hn, if_true, run_sizeOf hi, ← hl, this]
theorem load_cell (r : Rel μ h w) {t d p x v} (hd : P.underlying t = some d) (hn : isRowD d = false) (hp : PR μ h p x) (e : cell h p = some v) :
    ∃ d', (Instr.loadAt t x).run P w = .ok d' w ∧ VR μ h v d' := by
  obtain ⟨_, a, d', rfl, h1, h2⟩ := r.cell hp e
  exact ⟨d', run_loadCell hd hn h1, h2⟩
theorem load_row (r : Rel μ h w) {t} (th : Told P T t) {p x cs} (hn : isRowD th.d = true) (hp : PR μ h p x) (e : range h p.o p.n p.off (tget T t).size = some cs) :
    ∃ d', (Instr.loadAt t x).run P w = .ok d' w ∧ VR μ h (.agg cs) d' := by
  unfold PR at hp
  cases ho : p.o with
  | none => rw [ho] at e; simp [range] at e
  | some o =>
    rw [ho] at hp e
    obtain ⟨_, a, rfl, hp⟩ := hp
    obtain ⟨⟨t', ht', _⟩, h1, h2, h3, ds, h4, h5, h6⟩ := r.range e
    obtain rfl := (hp _ _ ht').2 rfl
    refine ⟨.agg ds.toArray, run_loadRow th.hd hn th.hi (by rw [h4, th.size]) fun j v hv => by rw [place_add]; exact h6 j v hv, ?_⟩
    simp only [VR]; exact ⟨_, rfl, h5, h3⟩
theorem ldT_sound (hT : TOK P T) (r : Rel μ h w) {t p x K} (hp : PR μ h p x) (H : ldT T t p h K) : ∃ v d', (Instr.loadAt t x).run P w = .ok d' w ∧ K v ∧ VR μ h v d' := by
  unfold ldT at H
  have hk : (tget T t).d ≠ .other := fun e => by rw [e] at H; exact H
  obtain ⟨th⟩ := hT.told t hk
  have htd := th.td
  split at H
  · next k e =>
    obtain ⟨n, h1, h2⟩ := H
    obtain ⟨d', h3, h4⟩ := load_cell (P := P) r th.hd (by rw [tdOf_int (P := P) (d := th.d) (by rw [← htd, e])]; rfl) hp h1
    exact ⟨_, d', h3, h2, h4⟩
  · next e =>
    obtain ⟨n, h1, h2⟩ := H
    obtain ⟨d', h3, h4⟩ := load_cell (P := P) r th.hd (by rw [tdOf_bool (P := P) (d := th.d) (by rw [← htd, e])]; rfl) hp h1
    exact ⟨_, d', h3, h2, h4⟩
  · next e =>
    obtain ⟨n, h1, h2⟩ := H
    obtain ⟨d', h3, h4⟩ := load_cell (P := P) r th.hd (by rw [tdOf_sl (P := P) (d := th.d) (by rw [← htd, e])]; rfl) hp h1
    exact ⟨_, d', h3, h2, h4⟩
  · next e =>
    obtain ⟨n, h1, h2⟩ := H
    obtain ⟨u, hu⟩ := tdOf_ptr (P := P) (d := th.d) (by rw [← htd, e])
    obtain ⟨d', h3, h4⟩ := load_cell (P := P) r th.hd (by rw [hu]; rfl) hp h1
    exact ⟨_, d', h3, h2, h4⟩
  · next e =>
    obtain ⟨n, h1, h2⟩ := H
    obtain ⟨d', h3, h4⟩ := load_row r th (by rw [tdOf_arr (P := P) (d := th.d) (by rw [← htd, e])]; rfl) hp h1
    exact ⟨_, d', h3, h2, h4⟩
  · next e =>
    obtain ⟨n, h1, h2⟩ := H
    obtain ⟨fs, hu, _⟩ := tdOf_struct (P := P) (d := th.d) (by rw [← htd, e])
    obtain ⟨d', h3, h4⟩ := load_row r th (by rw [hu]; rfl) hp h1
    exact ⟨_, d', h3, h2, h4⟩
  · next e =>
    obtain ⟨n, h1, h2⟩ := H
    obtain ⟨d', h3, h4⟩ := load_cell (P := P) r th.hd (by rw [tdOf_str (P := P) (d := th.d) (by rw [← htd, e])]; rfl) hp h1
    exact ⟨_, d', h3, h2, h4⟩
  · next e =>
    obtain ⟨n, h1, h2⟩ := H
    obtain ⟨_, _, _, hu⟩ := tdOf_func (P := P) (d := th.d) (by rw [← htd, e])
    obtain ⟨d', h3, h4⟩ := load_cell (P := P) r th.hd (by rw [hu]; rfl) hp h1
    exact ⟨_, d', h3, h2, h4⟩
  · next e =>
    obtain ⟨n, h1, h2⟩ := H
    obtain ⟨d', h3, h4⟩ := load_cell (P := P) r th.hd (by rw [tdOf_map (P := P) (d := th.d) (by rw [← htd, e])]; rfl) hp h1
    exact ⟨_, d', h3, h2, h4⟩
  · exact H.elim
end
end Go.Proofs.Ytdmhchgaeepdmaa.Cl
