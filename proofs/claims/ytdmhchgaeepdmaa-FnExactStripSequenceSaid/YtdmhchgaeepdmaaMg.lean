/- Contracts of ShiftTorus, LeastForm, ShiftsKept and ShiftNumber. No claim is stated here. -/
import Derived.Test.YtdmhchgaeepdmaaMf
set_option linter.unusedVariables false
set_option linter.unusedSimpArgs false
namespace Go.Proofs.Ytdmhchgaeepdmaa.Cl
open Go
/-- append of a new view to a slice of views, of objects of P -/
theorem NewP.app {P : Nat → Prop} {h s ls} (r : NewP P h s ls) {v : Sl} {l : List Int} (ov : Ow h v 1 (ic l)) (fv : ∀ o, v.o = some o → P o) (hap : ∀ o, v.o = some o → s.o ≠ some o ∧ ∀ vs : List Sl, Ow h s 1 (vs.map .sl) → ∀ w ∈ vs, w.o ≠ some o)
    {x : Sl} (rx : Rd h x 1 [.sl v]) (hl : (ls.length : Int) + 1 ≤ lim) (hnh : ∀ i, h.length ≤ i → P i) {K : Sl → H → Prop} (hk : ∀ s' h', NewP P h' s' (ls ++ [l]) → But s.o h h' → (∀ o, s.o = some o → s'.o = some o) → (s.o = none → ∀ o, s'.o = some o → h.length ≤ o) → K s' h') : Cl.app s x 1 h K := by
  obtain ⟨vs, h1, h2, h3, h4, h5, h6⟩ := r
  have hx : x.len = 1 := by have := rx.len; simp at this; omega
  have hs : s.len = ls.length := by have := h2.len; simp at this; omega
  refine app_ow (by omega) h2 rx (by rw [hs, hx]; exact_mod_cast hl) fun s' h' o' ln b k1 k2 => ?_
  have hso : ∀ o, s'.o = some o → s.o = some o ∨ h.length ≤ o := fun o e => by
    cases hq : s.o with
    | none => exact .inr (k2 hq o e)
    | some p => rw [k1 p hq] at e; exact .inl e
  refine hk s' h' ⟨vs ++ [v], by simp [h1], by simpa using o', ?_, ?_, ?_, ?_⟩ b k1 k2
  · intro o e
    rcases hso o e with e | e
    · exact h3 o e
    · exact hnh o e
  · intro i w l' a c
    rw [List.getElem?_append] at a c
    rw [h1] at a
    split at a
    · next hi =>
      rw [if_pos hi] at c
      obtain ⟨p, q⟩ := h4 i w l' a c
      refine ⟨p.but b ?_, q⟩
      cases hw : w.o with
      | none => 
        cases hq : s.o with
        | none => exact .inr rfl
        | some _ => exact .inl (by simp)
      | some o => exact .inl (by rw [← hw]; intro e; exact h6 i w a o hw (by rw [e, hw]))
    · next hi =>
      rw [if_neg hi] at c
      have : i = ls.length := by
        have := (List.getElem?_eq_some_iff.1 c).1
        simp at this; omega
      subst this
      simp at a c
      subst a c
      refine ⟨ov.but b ?_, fv⟩
      cases hw : v.o with
      | none =>
        cases hq : s.o with
        | none => exact .inr rfl
        | some _ => exact .inl (by simp)
      | some o => exact .inl (by intro e; exact (hap o hw).1 e)
  · intro i j w u hne a c o e
    have hwl : ∀ {k : Nat} {y : Sl}, (vs ++ [v])[k]? = some y → vs[k]? = some y ∨ (k = vs.length ∧ y = v) := fun {k y} e => by
      rw [List.getElem?_append] at e
      split at e
      · exact .inl e
      · have : k = vs.length := by
          have := (List.getElem?_eq_some_iff.1 e).1
          simp at this; omega
        subst this
        simp at e
        exact .inr ⟨rfl, e.symm⟩
    rcases hwl a with a1 | ⟨rfl, rfl⟩
    · rcases hwl c with c1 | ⟨rfl, rfl⟩
      · exact h5 i j w u hne a1 c1 o e
      · intro e2
        exact (hap o e2).2 vs h2 w (List.mem_of_getElem? a1) e
    · rcases hwl c with c1 | ⟨rfl, rfl⟩
      · exact (hap o e).2 vs h2 u (List.mem_of_getElem? c1)
      · exact absurd rfl hne
  · intro i w a o e
    have hlt : o < h.length ∧ s.o ≠ some o := by
      rw [List.getElem?_append] at a
      split at a
      · obtain ⟨l', hl'⟩ := mem_idx h1 a
        exact ⟨(h4 i w l' a hl').1.lt e, h6 i w a o e⟩
      · have : w = v := by
          have := List.mem_of_getElem? a
          simpa using this
        subst this
        exact ⟨ov.lt e, (hap o e).1⟩
    intro e2
    rcases hso o e2 with e3 | e3
    · exact hlt.2 e3
    · omega
theorem NewP.push {P : Nat → Prop} {h : H} {s : Sl} {ls : List (List Int)} (r : NewP P h s ls) {v : Sl} {l : List Int} {h0 : H} (r0 : NewP P h0 s ls) (x0 : Ext h0 h) (ov : Ow h v 1 (ic l)) (fv : Fr h0.length v) (hP : ∀ i, h0.length ≤ i → P i)
    (hl : (ls.length : Int) + 1 ≤ lim) {K : Sl → H → Prop} (hk : ∀ s' h', NewP P h' s' (ls ++ [l]) → But s.o h h' → K s' h') : newS 1 1 [.sl v] h fun t h1 => Cl.app s t 1 h1 K := by
  refine newS_ow (by rfl) fun t h1 ot tl to e1 => ?_
  have e1' : Ext h h1 := by rw [e1]; exact Ext.app _ _
  have l0 := x0.len
  have l1 := e1'.len
  refine (r.ext e1').app (ov.ext e1') (fun o e => hP o (fv o e)) (fun o e => ?_) ot.rd hl (fun i hi => hP i (by omega)) fun s' h' n' b _ _ => hk s' h' n' ((e1'.but _).trans b)
  obtain ⟨vs, h1', h2, h3, h4, h5, h6⟩ := r0
  have ho := fv o e
  refine ⟨fun e2 => by have := h2.lt e2; omega, fun us hu w hw => ?_⟩
  intro e2
  have hq : us = vs := by
    have a := hu.rd.sread (by omega)
    have b := (h2.ext (x0.trans e1')).rd.sread (by omega)
    rw [a] at b
    have : us.map AVal.sl = vs.map AVal.sl := Option.some.inj b
    exact List.map_inj_right (fun a b e => by simpa using e) |>.1 this
  subst hq
  obtain ⟨i, hi⟩ := List.getElem?_of_mem hw
  obtain ⟨l', hl'⟩ := mem_idx h1' hi
  have := (h4 i w l' hi hl').1.lt e2
  omega
theorem NewP.notin {P : Nat → Prop} {h : H} {s : Sl} {ls : List (List Int)} (r : NewP P h s ls) {i : Nat} (hp : ¬ P i) : s.o ≠ some i := by
  obtain ⟨vs, _, _, a3, _⟩ := r
  exact fun e => hp (a3 _ e)
theorem cmpLL_nz (x : Int) : (¬ x < 0 ∧ ¬ -x < 0) ↔ x = 0 := by omega
/-- A function over all shifts, in order. -/
def nest {α : Type} (f : α → Nat → Nat → α) (init : α) (H W : Nat) : α := (List.range H).foldl (fun acc a => (List.range W).foldl (fun acc b => f acc a b) acc) init
def leastStep (rows best : List (List Int)) (a b : Nat) : List (List Int) := if cmpLL (shiftG rows a b) best < 0 then shiftG rows a b else best
def leastG (rows : List (List Int)) : List (List Int) := nest (leastStep rows) (shiftG rows 0 0) rows.length (wide rows)
def keptStep (rows acc : List (List Int)) (a b : Nat) : List (List Int) := if cmpLL (shiftG rows a b) rows = 0 then acc ++ [[(a : Int), (b : Int)]] else acc
def keptG (rows : List (List Int)) : List (List Int) := nest (keptStep rows) [] rows.length (wide rows)
/-- What the step keeps holds to the end. -/
theorem foldl_keeps {α β : Type} {I : α → Prop} {g : α → β → α} : ∀ (l : List β) (x : α), I x → (∀ x b, b ∈ l → I x → I (g x b)) → I (l.foldl g x)
  | [], x, h, _ => h
  | b :: l, x, h, hs => foldl_keeps l (g x b) (hs x b (by simp) h) fun x c hc => hs x c (by simp [hc])
theorem nest_keeps {α : Type} {I : α → Prop} {f : α → Nat → Nat → α} {x : α} {H W : Nat} (h : I x) (hs : ∀ x a b, a < H → b < W → I x → I (f x a b)) : I (nest f x H W) :=
  foldl_keeps _ _ h fun x a ha hx => foldl_keeps _ _ hx fun x b hb hx => hs x a b (List.mem_range.1 ha) (List.mem_range.1 hb) hx
/-- Of the form of the rows. -/
def Like (rows s : List (List Int)) : Prop := s.length = rows.length ∧ ∀ y, y < rows.length → (rw_ s y).length = wide rows
theorem shift_like (rows a b) : Like rows (shiftG rows a b) := ⟨shiftG_len _ _ _, fun y hy => shiftG_row hy⟩
theorem leastStep_like {rows best a b} (h : Like rows best) : Like rows (leastStep rows best a b) := by
  unfold leastStep
  split
  · exact shift_like _ _ _
  · exact h
theorem Like.mem {rows s} (h : Like rows s) {l} (hl : l ∈ s) : l.length = wide rows := by
  obtain ⟨i, hi⟩ := List.getElem?_of_mem hl
  have := (List.getElem?_eq_some_iff.1 hi).1
  rw [← rw_at hi]
  exact h.2 i (by have := h.1; omega)
theorem sumLen_le {ls : List (List Int)} {n : Nat} (h : ∀ l ∈ ls, l.length ≤ n) : sumLen ls ≤ ls.length * n := by
  unfold sumLen
  induction ls with
  | nil => simp
  | cons a ls ih =>
    have h1 := h a (by simp)
    have h2 := ih fun l hl => h l (by simp [hl])
    simp only [List.map_cons, List.sum_cons, List.length_cons, Nat.add_mul, Nat.one_mul]
    omega
theorem Like.small {rows s} (R : Rect rows) (h : Like rows s) : s.length < 1000000 ∧ sumLen s < 1000000 := by
  have := R.h1
  have hw := R.w1
  have h1 := sumLen_le (ls := s) (n := 8) fun l hl => by rw [h.mem hl]; exact hw
  have := h.1
  constructor <;> omega
theorem keptStep_kept {rows acc a b} {n : Nat} (h : acc.length ≤ n ∧ ∀ l ∈ acc, l.length = 2) : (keptStep rows acc a b).length ≤ n + 1 ∧ ∀ l ∈ keptStep rows acc a b, l.length = 2 := by
  unfold keptStep
  split
  · refine ⟨by simp; omega, fun l hl => ?_⟩
    rcases List.mem_append.1 hl with hl | hl
    · exact h.2 l hl
    · simp at hl; subst hl; rfl
  · exact ⟨by omega, h.2⟩
theorem foldl_count {α β : Type} {I : Nat → α → Prop} {g : α → β → α} (c : Nat) : ∀ (l : List β) (x : α) (n : Nat), I n x → (∀ x n b, I n x → I (n + c) (g x b)) → I (n + c * l.length) (l.foldl g x)
  | [], x, n, h, _ => by simpa using h
  | b :: l, x, n, h, hs => by
    have := foldl_count (I := I) c l (g x b) (n + c) (hs x n b h) hs
    simp only [List.foldl_cons, List.length_cons]
    rw [show n + c * (l.length + 1) = n + c + c * l.length by rw [Nat.mul_add]; omega]
    exact this
theorem kept_upto (rows : List (List Int)) (i k : Nat) : ((List.range k).foldl (fun acc b => keptStep rows acc i b) ((List.range i).foldl (fun acc a => (List.range (wide rows)).foldl (fun acc b => keptStep rows acc a b) acc) [])).length ≤ wide rows * i + k ∧
    ∀ l ∈ (List.range k).foldl (fun acc b => keptStep rows acc i b) ((List.range i).foldl (fun acc a => (List.range (wide rows)).foldl (fun acc b => keptStep rows acc a b) acc) []), l.length = 2 := by
  have h1 := foldl_count (I := fun n (x : List (List Int)) => x.length ≤ n ∧ ∀ l ∈ x, l.length = 2) (wide rows) (List.range i) [] 0 ⟨by simp, fun l h => by simp at h⟩ (g := fun acc a => (List.range (wide rows)).foldl (fun acc b => keptStep rows acc a b) acc)
    fun x n a hx => by
      have := foldl_count (I := fun n (x : List (List Int)) => x.length ≤ n ∧ ∀ l ∈ x, l.length = 2) 1 (List.range (wide rows)) x n hx (g := fun acc b => keptStep rows acc a b) fun x n b hx => keptStep_kept hx
      simpa using this
  have h2 := foldl_count (I := fun n (x : List (List Int)) => x.length ≤ n ∧ ∀ l ∈ x, l.length = 2) 1 (List.range k) _ _ h1 (g := fun acc b => keptStep rows acc i b) fun x n b hx => keptStep_kept hx
  simpa using h2
section
variable {h0 : H} {q : Sl} {rows : List (List Int)}
end
end Go.Proofs.Ytdmhchgaeepdmaa.Cl
