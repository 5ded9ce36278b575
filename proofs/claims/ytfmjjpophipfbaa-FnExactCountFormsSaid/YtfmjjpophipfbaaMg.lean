/- Contracts of ShiftTorus, LeastForm, ShiftsKept and ShiftNumber. No claim is stated here. -/
import Derived.Test.YtfmjjpophipfbaaMf
set_option linter.unusedVariables false
set_option linter.unusedSimpArgs false
namespace Go.Proofs.Ytfmjjpophipfbaa.Cl
open Go
/-- append of a new view to a slice of views, of objects of P -/
theorem NewP.app {P : Nat → Prop} {h s ls} (r : NewP P h s ls) {v : Sl} {l : List Int} (ov : Ow h v 1 (ic l)) (fv : ∀ o, v.o = some o → P o) (hap : ∀ o, v.o = some o → s.o ≠ some o ∧ ∀ vs : List Sl, Ow h s 1 (vs.map .sl) → ∀ w ∈ vs, w.o ≠ some o)
    {x : Sl} (rx : Rd h x 1 [.sl v]) (hl : (ls.length : Int) + 1 ≤ lim) (hnh : ∀ i, h.length ≤ i → P i) {K : Sl → H → Prop} (hk : ∀ s' h', NewP P h' s' (ls ++ [l]) → But s.o h h' → (∀ o, s.o = some o → s'.o = some o) → (s.o = none → ∀ o, s'.o = some o → h.length ≤ o) → K s' h') : Cl.app s x 1 h K := by
  obtain ⟨vs, h1, h2, h3, h4, h5, h6⟩ := r
  have hx : x.len = 1 := by have := rx.len; simp at this; omega
  have hs : s.len = ls.length := by have := h2.len; simp at this; omega
  refine app_ow (by omega) h2 rx (by rw [hs, hx]; exact_mod_cast hl) fun s' h' o' ln b k1 k2 => ?_
  have hso : ∀ o, s'.o = some o → s.o = some o ∨ h.length ≤ o := fun o e => by
    cases hq : s.o with
    | none => exact .inr (k2 hq o e)
    | some p => rw [k1 p hq] at e; exact .inl e
  refine hk s' h' ⟨vs ++ [v], by simp [h1], by simpa using o', ?_, ?_, ?_, ?_⟩ b k1 k2
  · intro o e
    rcases hso o e with e | e
    · exact h3 o e
    · exact hnh o e
  · intro i w l' a c
    rw [List.getElem?_append] at a c
    rw [h1] at a
    split at a
    · next hi =>
      rw [if_pos hi] at c
      obtain ⟨p, q⟩ := h4 i w l' a c
      refine ⟨p.but b ?_, q⟩
      cases hw : w.o with
      | none => 
        cases hq : s.o with
        | none => exact .inr rfl
        | some _ => exact .inl (by simp)
      | some o => exact .inl (by rw [← hw]; intro e; exact h6 i w a o hw (by rw [e, hw]))
    · next hi =>
      rw [if_neg hi] at c
      have : i = ls.length := by
        have := (List.getElem?_eq_some_iff.1 c).1
        simp at this; omega
      subst this
      simp at a c
      subst a c
      refine ⟨ov.but b ?_, fv⟩
      cases hw : v.o with
      | none =>
        cases hq : s.o with
        | none => exact .inr rfl
        | some _ => exact .inl (by simp)
      | some o => exact .inl (by intro e; exact (hap o hw).1 e)
  · intro i j w u hne a c o e
    have hwl : ∀ {k : Nat} {y : Sl}, (vs ++ [v])[k]? = some y → vs[k]? = some y ∨ (k = vs.length ∧ y = v) := fun {k y} e => by
      rw [List.getElem?_append] at e
      split at e
      · exact .inl e
      · have : k = vs.length := by
          have := (List.getElem?_eq_some_iff.1 e).1
          simp at this; omega
        subst this
        simp at e
        exact .inr ⟨rfl, e.symm⟩
    rcases hwl a with a1 | ⟨rfl, rfl⟩
    · rcases hwl c with c1 | ⟨rfl, rfl⟩
      · exact h5 i j w u hne a1 c1 o e
      · intro e2
        exact (hap o e2).2 vs h2 w (List.mem_of_getElem? a1) e
    · rcases hwl c with c1 | ⟨rfl, rfl⟩
      · exact (hap o e).2 vs h2 u (List.mem_of_getElem? c1)
      · exact absurd rfl hne
  · intro i w a o e
    have hlt : o < h.length ∧ s.o ≠ some o := by
      rw [List.getElem?_append] at a
      split at a
      · obtain ⟨l', hl'⟩ := mem_idx h1 a
        exact ⟨(h4 i w l' a hl').1.lt e, h6 i w a o e⟩
      · have : w = v := by
          have := List.mem_of_getElem? a
          simpa using this
        subst this
        exact ⟨ov.lt e, (hap o e).1⟩
    intro e2
    rcases hso o e2 with e3 | e3
    · exact hlt.2 e3
    · omega
theorem NewP.push {P : Nat → Prop} {h : H} {s : Sl} {ls : List (List Int)} (r : NewP P h s ls) {v : Sl} {l : List Int} {h0 : H} (r0 : NewP P h0 s ls) (x0 : Ext h0 h) (ov : Ow h v 1 (ic l)) (fv : Fr h0.length v) (hP : ∀ i, h0.length ≤ i → P i)
    (hl : (ls.length : Int) + 1 ≤ lim) {K : Sl → H → Prop} (hk : ∀ s' h', NewP P h' s' (ls ++ [l]) → But s.o h h' → K s' h') : newS 1 1 [.sl v] h fun t h1 => Cl.app s t 1 h1 K := by
  refine newS_ow (by rfl) fun t h1 ot tl to e1 => ?_
  have e1' : Ext h h1 := by rw [e1]; exact Ext.app _ _
  have l0 := x0.len
  have l1 := e1'.len
  refine (r.ext e1').app (ov.ext e1') (fun o e => hP o (fv o e)) (fun o e => ?_) ot.rd hl (fun i hi => hP i (by omega)) fun s' h' n' b _ _ => hk s' h' n' ((e1'.but _).trans b)
  obtain ⟨vs, h1', h2, h3, h4, h5, h6⟩ := r0
  have ho := fv o e
  refine ⟨fun e2 => by have := h2.lt e2; omega, fun us hu w hw => ?_⟩
  intro e2
  have hq : us = vs := by
    have a := hu.rd.sread (by omega)
    have b := (h2.ext (x0.trans e1')).rd.sread (by omega)
    rw [a] at b
    have : us.map AVal.sl = vs.map AVal.sl := Option.some.inj b
    exact List.map_inj_right (fun a b e => by simpa using e) |>.1 this
  subst hq
  obtain ⟨i, hi⟩ := List.getElem?_of_mem hw
  obtain ⟨l', hl'⟩ := mem_idx h1' hi
  have := (h4 i w l' hi hl').1.lt e2
  omega
theorem NewP.notin {P : Nat → Prop} {h : H} {s : Sl} {ls : List (List Int)} (r : NewP P h s ls) {i : Nat} (hp : ¬ P i) : s.o ≠ some i := by
  obtain ⟨vs, _, _, a3, _⟩ := r
  exact fun e => hp (a3 _ e)
theorem cmpLL_nz (x : Int) : (¬ x < 0 ∧ ¬ -x < 0) ↔ x = 0 := by omega
/-- A function over all shifts, in order. -/
def nest {α : Type} (f : α → Nat → Nat → α) (init : α) (H W : Nat) : α := (List.range H).foldl (fun acc a => (List.range W).foldl (fun acc b => f acc a b) acc) init
def leastStep (rows best : List (List Int)) (a b : Nat) : List (List Int) := if cmpLL (shiftG rows a b) best < 0 then shiftG rows a b else best
def leastG (rows : List (List Int)) : List (List Int) := nest (leastStep rows) (shiftG rows 0 0) rows.length (wide rows)
def keptStep (rows acc : List (List Int)) (a b : Nat) : List (List Int) := if cmpLL (shiftG rows a b) rows = 0 then acc ++ [[(a : Int), (b : Int)]] else acc
def keptG (rows : List (List Int)) : List (List Int) := nest (keptStep rows) [] rows.length (wide rows)
/-- What the step keeps holds to the end. -/
theorem foldl_keeps {α β : Type} {I : α → Prop} {g : α → β → α} : ∀ (l : List β) (x : α), I x → (∀ x b, b ∈ l → I x → I (g x b)) → I (l.foldl g x)
  | [], x, h, _ => h
  | b :: l, x, h, hs => foldl_keeps l (g x b) (hs x b (by simp) h) fun x c hc => hs x c (by simp [hc])
theorem nest_keeps {α : Type} {I : α → Prop} {f : α → Nat → Nat → α} {x : α} {H W : Nat} (h : I x) (hs : ∀ x a b, a < H → b < W → I x → I (f x a b)) : I (nest f x H W) :=
  foldl_keeps _ _ h fun x a ha hx => foldl_keeps _ _ hx fun x b hb hx => hs x a b (List.mem_range.1 ha) (List.mem_range.1 hb) hx
/-- Of the form of the rows. -/
def Like (rows s : List (List Int)) : Prop := s.length = rows.length ∧ ∀ y, y < rows.length → (rw_ s y).length = wide rows
theorem shift_like (rows a b) : Like rows (shiftG rows a b) := ⟨shiftG_len _ _ _, fun y hy => shiftG_row hy⟩
theorem leastStep_like {rows best a b} (h : Like rows best) : Like rows (leastStep rows best a b) := by
  unfold leastStep
  split
  · exact shift_like _ _ _
  · exact h
theorem Like.mem {rows s} (h : Like rows s) {l} (hl : l ∈ s) : l.length = wide rows := by
  obtain ⟨i, hi⟩ := List.getElem?_of_mem hl
  have := (List.getElem?_eq_some_iff.1 hi).1
  rw [← rw_at hi]
  exact h.2 i (by have := h.1; omega)
theorem sumLen_le {ls : List (List Int)} {n : Nat} (h : ∀ l ∈ ls, l.length ≤ n) : sumLen ls ≤ ls.length * n := by
  unfold sumLen
  induction ls with
  | nil => simp
  | cons a ls ih =>
    have h1 := h a (by simp)
    have h2 := ih fun l hl => h l (by simp [hl])
    simp only [List.map_cons, List.sum_cons, List.length_cons, Nat.add_mul, Nat.one_mul]
    omega
theorem Like.small {rows s} (R : Rect rows) (h : Like rows s) : s.length < 1000000 ∧ sumLen s < 1000000 := by
  have := R.h1
  have hw := R.w1
  have h1 := sumLen_le (ls := s) (n := 8) fun l hl => by rw [h.mem hl]; exact hw
  have := h.1
  constructor <;> omega
theorem keptStep_kept {rows acc a b} {n : Nat} (h : acc.length ≤ n ∧ ∀ l ∈ acc, l.length = 2) : (keptStep rows acc a b).length ≤ n + 1 ∧ ∀ l ∈ keptStep rows acc a b, l.length = 2 := by
  unfold keptStep
  split
  · refine ⟨by simp; omega, fun l hl => ?_⟩
    rcases List.mem_append.1 hl with hl | hl
    · exact h.2 l hl
    · simp at hl; subst hl; rfl
  · exact ⟨by omega, h.2⟩
theorem foldl_count {α β : Type} {I : Nat → α → Prop} {g : α → β → α} (c : Nat) : ∀ (l : List β) (x : α) (n : Nat), I n x → (∀ x n b, I n x → I (n + c) (g x b)) → I (n + c * l.length) (l.foldl g x)
  | [], x, n, h, _ => by simpa using h
  | b :: l, x, n, h, hs => by
    have := foldl_count (I := I) c l (g x b) (n + c) (hs x n b h) hs
    simp only [List.foldl_cons, List.length_cons]
    rw [show n + c * (l.length + 1) = n + c + c * l.length by rw [Nat.mul_add]; omega]
    exact this
theorem kept_upto (rows : List (List Int)) (i k : Nat) : ((List.range k).foldl (fun acc b => keptStep rows acc i b) ((List.range i).foldl (fun acc a => (List.range (wide rows)).foldl (fun acc b => keptStep rows acc a b) acc) [])).length ≤ wide rows * i + k ∧
    ∀ l ∈ (List.range k).foldl (fun acc b => keptStep rows acc i b) ((List.range i).foldl (fun acc a => (List.range (wide rows)).foldl (fun acc b => keptStep rows acc a b) acc) []), l.length = 2 := by
  have h1 := foldl_count (I := fun n (x : List (List Int)) => x.length ≤ n ∧ ∀ l ∈ x, l.length = 2) (wide rows) (List.range i) [] 0 ⟨by simp, fun l h => by simp at h⟩ (g := fun acc a => (List.range (wide rows)).foldl (fun acc b => keptStep rows acc a b) acc)
    fun x n a hx => by
      have := foldl_count (I := fun n (x : List (List Int)) => x.length ≤ n ∧ ∀ l ∈ x, l.length = 2) 1 (List.range (wide rows)) x n hx (g := fun acc b => keptStep rows acc a b) fun x n b hx => keptStep_kept hx
      simpa using this
  have h2 := foldl_count (I := fun n (x : List (List Int)) => x.length ≤ n ∧ ∀ l ∈ x, l.length = 2) 1 (List.range k) _ _ h1 (g := fun acc b => keptStep rows acc i b) fun x n b hx => keptStep_kept hx
  simpa using h2
section
variable {h0 : H} {q : Sl} {rows : List (List Int)}
theorem l05Least_c (rr : RdSS h0 q rows) (R : Rect rows) : callS SP i_spec_l05Least [.sl q] h0 fun s h' => NewSS h0.length h' s (leastG rows) ∧ Ext h0 h' := by
  have hq := rr.len
  have R0 := R.h0; have R1 := R.h1; have W0 := R.w0; have W1 := R.w1
  apply spec_l05Least_call
  unfold spec_l05Least_main
  refine (l05Shift_c rr R 0 0 (by omega) (by omega) (by omega) (by omega)).to ?_
  rintro s h1 ⟨n1, x1⟩
  refine spec_l05Least_rule0 _ _ _ (fun s i h => 0 ≤ i ∧ i ≤ rows.length ∧ Ext h0 h ∧ NewSS h0.length h s ((List.range i.toNat).foldl (fun acc a => (List.range (wide rows)).foldl (fun acc b => leastStep rows acc a b) acc) (shiftG rows 0 0))) (fun _ i _ => (rows.length - i).toNat) ?_ _ _ ⟨by omega, by omega, x1, by simpa using n1⟩
  rintro X s i h ⟨i0, i1, x, n⟩ hX
  unfold spec_l05Least_b0 spec_l05Least_C0
  refine bif_dec (fun hi => ?_) (fun hi => ⟨_, rfl, ?_, x⟩)
  · refine spec_l05Least_rule2 _ _ X _ _ (fun s k h' => 0 ≤ k ∧ k ≤ wide rows ∧ Ext h0 h' ∧ NewSS h0.length h' s ((List.range k.toNat).foldl (fun acc b => leastStep rows acc i.toNat b) ((List.range i.toNat).foldl (fun acc a => (List.range (wide rows)).foldl (fun acc b => leastStep rows acc a b) acc) (shiftG rows 0 0)))) (fun _ k _ => (wide rows - k).toNat) ?_ _ _ ⟨by omega, by omega, x, by simpa using n⟩
    rintro Y t k h' ⟨k0, k1, x', nt⟩ hY
    unfold spec_l05Least_b2 spec_l05Least_C2 spec_l05Least_C1
    refine (rr.ext x').ldG (by omega) (by omega) fun v rv lv => ?_
    have lv0 : v.len = wide rows := lv
    refine bif_dec (fun hki => ?_) (fun hki => ?_)
    · refine (l05Shift_c (rr.ext x') R i k (by omega) (by omega) (by omega) (by omega)).to ?_
      rintro u h2 ⟨n2, x2⟩
      generalize hacc : (List.range k.toNat).foldl (fun acc b => leastStep rows acc i.toNat b) ((List.range i.toNat).foldl (fun acc a => (List.range (wide rows)).foldl (fun acc b => leastStep rows acc a b) acc) (shiftG rows 0 0)) = acc at nt
      have hlike : Like rows acc := by
        rw [← hacc]
        exact foldl_keeps _ _ (foldl_keeps _ _ (shift_like _ _ _) fun x a _ hx => foldl_keeps _ _ hx fun x b _ hx => leastStep_like hx) fun x b _ hx => leastStep_like hx
      have hsl := shift_like rows i.toNat k.toNat
      refine (l05Less_c n2.rd (nt.ext x2).rd (by rw [hsl.1, hlike.1]) (fun y hy => by rw [hsl.1] at hy; rw [hsl.2 y hy, hlike.2 y hy]) (by rw [hsl.1]; omega) (fun y hy => by rw [hsl.1] at hy; rw [hsl.2 y hy]; omega)).to ?_
      rintro _ _ ⟨rfl, rfl⟩
      have hn : (k + 1).toNat = k.toNat + 1 := by omega
      refine bif_dec (fun hc => ?_) (fun hc => ?_)
      · rw [w64_of (by omega) (by omega)]
        refine hY _ _ _ ⟨by omega, by omega, x'.trans x2, ?_⟩ (by omega)
        rw [hn, foldl_range_succ, hacc, leastStep, if_pos hc]
        exact n2.le x'.len
      · rw [w64_of (by omega) (by omega)]
        refine hY _ _ _ ⟨by omega, by omega, x'.trans x2, ?_⟩ (by omega)
        rw [hn, foldl_range_succ, hacc, leastStep, if_neg hc]
        exact nt.ext x2
    · rw [w64_of (by omega) (by omega)]
      refine hX _ _ _ ⟨by omega, by omega, x', ?_⟩ (by omega)
      rw [show (i + 1).toNat = i.toNat + 1 by omega, foldl_range_succ]
      rw [show k.toNat = wide rows by omega] at nt
      exact nt
  · rw [show i.toNat = rows.length by omega] at n
    exact n
theorem l05Kept_c (rr : RdSS h0 q rows) (R : Rect rows) : callS SP i_spec_l05Kept [.sl q] h0 fun s h' => NewSS h0.length h' s (keptG rows) ∧ Ext h0 h' := by
  have hq := rr.len
  have R0 := R.h0; have R1 := R.h1; have W0 := R.w0; have W1 := R.w1
  apply spec_l05Kept_call
  unfold spec_l05Kept_main
  refine newS_ow (by rfl) fun s h1 os ls so e1 => ?_
  have x1 : Ext h0 h1 := by rw [e1]; exact Ext.app _ _
  have ns : NewSS h0.length h1 s [] := NewSS.mk0 os (fun o e => by rw [so] at e; cases e; exact Nat.le_refl _)
  refine spec_l05Kept_rule0 _ _ _ (fun s i h => 0 ≤ i ∧ i ≤ rows.length ∧ Ext h0 h ∧ NewSS h0.length h s ((List.range i.toNat).foldl (fun acc a => (List.range (wide rows)).foldl (fun acc b => keptStep rows acc a b) acc) [])) (fun _ i _ => (rows.length - i).toNat) ?_ _ _ ⟨by omega, by omega, x1, by simpa using ns⟩
  rintro X s i h ⟨i0, i1, x, n⟩ hX
  unfold spec_l05Kept_b0 spec_l05Kept_C0
  refine bif_dec (fun hi => ?_) (fun hi => ⟨_, rfl, ?_, x⟩)
  · refine spec_l05Kept_rule2 _ _ X _ _ (fun s k h' => 0 ≤ k ∧ k ≤ wide rows ∧ Ext h0 h' ∧ NewSS h0.length h' s ((List.range k.toNat).foldl (fun acc b => keptStep rows acc i.toNat b) ((List.range i.toNat).foldl (fun acc a => (List.range (wide rows)).foldl (fun acc b => keptStep rows acc a b) acc) []))) (fun _ k _ => (wide rows - k).toNat) ?_ _ _ ⟨by omega, by omega, x, by simpa using n⟩
    rintro Y t k h' ⟨k0, k1, x', nt⟩ hY
    unfold spec_l05Kept_b2 spec_l05Kept_C2 spec_l05Kept_C1
    refine (rr.ext x').ldG (by omega) (by omega) fun v rv lv => ?_
    have lv0 : v.len = wide rows := lv
    refine bif_dec (fun hki => ?_) (fun hki => ?_)
    · refine (l05Shift_c (rr.ext x') R i k (by omega) (by omega) (by omega) (by omega)).to ?_
      rintro u h2 ⟨n2, x2⟩
      have hup := (kept_upto rows i.toNat k.toNat).1
      have hmul : wide rows * i.toNat ≤ 8 * 8 := Nat.mul_le_mul W1 (by omega)
      generalize hacc : (List.range k.toNat).foldl (fun acc b => keptStep rows acc i.toNat b) ((List.range i.toNat).foldl (fun acc a => (List.range (wide rows)).foldl (fun acc b => keptStep rows acc a b) acc) []) = acc at nt hup
      have hsl := shift_like rows i.toNat k.toNat
      have hn : (k + 1).toNat = k.toNat + 1 := by omega
      have hx2 := x2.len
      have hx' := x'.len
      have stay : cmpLL (shiftG rows i.toNat k.toNat) rows ≠ 0 → Y (spec_l05Kept_e2 q t i (w64 (k + 1))) h2 := fun hc => by
        rw [w64_of (by omega) (by omega)]
        refine hY _ _ _ ⟨by omega, by omega, x'.trans x2, ?_⟩ (by omega)
        rw [hn, foldl_range_succ, hacc, keptStep, if_neg hc]
        exact nt.ext x2
      refine l05Less_k n2.rd ((rr.ext x').ext x2) hsl.1 (fun y hy => by rw [hsl.1] at hy; rw [hsl.2 y hy]; exact (R.w y hy).symm) (by rw [hsl.1]; omega) (fun y hy => by rw [hsl.1] at hy; rw [hsl.2 y hy]; omega) ?_
      refine bif_not (fun hc => ?_) (fun hc => stay (by have := of_decide_eq_true hc; omega))
      refine l05Less_k ((rr.ext x').ext x2) n2.rd hsl.1.symm (fun y hy => by rw [hsl.2 y hy]; exact R.w y hy) (by omega) (fun y hy => by rw [R.w y hy]; omega) ?_
      rw [cmpLL_anti]
      refine bif_not (fun hc2 => ?_) (fun hc2 => stay (by have := of_decide_eq_true hc2; omega))
      have hz : cmpLL (shiftG rows i.toNat k.toNat) rows = 0 := by
        have a1 := of_decide_eq_false hc
        have a2 := of_decide_eq_false hc2
        omega
      refine newS_ow (cs := [i64 i, i64 k]) (by rfl) fun w h3 ow lw wo e3 => ?_
      have x3 : Ext h2 h3 := by rw [e3]; exact Ext.app _ _
      have ow' : Ow h3 w 1 (ic [((i.toNat : Nat) : Int), ((k.toNat : Nat) : Int)]) := by
        rw [show ((i.toNat : Nat) : Int) = i by omega, show ((k.toNat : Nat) : Int) = k by omega]; exact ow
      refine (nt.ext (x2.trans x3)).push ow' (m := h'.length) (fun o e => by rw [wo] at e; cases e; omega) hx' ⟨h', nt, Nat.le_refl _, x2.trans x3⟩ (by unfold lim; omega) (Nat.le_trans hx' (x2.trans x3).len) fun s' h'' n' bt => ?_
      rw [w64_of (by omega) (by omega)]
      refine hY _ _ _ ⟨by omega, by omega, (x'.trans (x2.trans x3)).but_ bt (fun o e => nt.fr o e), ?_⟩ (by omega)
      rw [hn, foldl_range_succ, hacc, keptStep, if_pos hz]
      exact n'
    · rw [w64_of (by omega) (by omega)]
      refine hX _ _ _ ⟨by omega, by omega, x', ?_⟩ (by omega)
      rw [show (i + 1).toNat = i.toNat + 1 by omega, foldl_range_succ]
      rw [show k.toNat = wide rows by omega] at nt
      exact nt
  · rw [show i.toNat = rows.length by omega] at n
    exact n
/-- All shifts, each handed to a function. I is what holds between. -/
theorem shifts_c (rr : RdSS h0 q rows) (R : Rect rows) (g : Nat) (cap : List AVal) (I : Nat → Nat → H → Prop) (hI : I 0 0 h0) (hx : ∀ a b h, I a b h → RdSS h q rows) (hrow : ∀ a h, I a (wide rows) h → I (a + 1) 0 h)
    (hg : ∀ (a b : Nat) h s h', a < rows.length → b < wide rows → I a b h → NewSS h.length h' s (shiftG rows a b) → Ext h h' → callV SP g (i64 a :: i64 b :: .sl s :: cap) h' fun _ h'' => I a (b + 1) h'') :
    callV SP i_impl_shifts [.sl q, .func g cap] h0 fun _ h' => I rows.length 0 h' := by
  have hq := rr.len
  have R0 := R.h0; have R1 := R.h1; have W0 := R.w0; have W1 := R.w1
  apply impl_shifts_call
  unfold impl_shifts_main
  refine impl_shifts_rule0 _ _ _ _ _ (fun i h => 0 ≤ i ∧ i ≤ rows.length ∧ I i.toNat 0 h) (fun i _ => (rows.length - i).toNat) ?_ _ ⟨by omega, by omega, hI⟩
  rintro X i h ⟨i0, i1, hi0⟩ hX
  unfold impl_shifts_b0
  refine bif_dec (fun hi => ?_) (fun hi => ?_)
  · refine (hx _ _ _ hi0).ldG (by omega) (by omega) fun v rv lv => ?_
    have lv0 : v.len = wide rows := lv
    refine impl_shifts_rule2 _ _ X _ _ _ _ _ _ (fun k h' => 0 ≤ k ∧ k ≤ wide rows ∧ I i.toNat k.toNat h') (fun k _ => (wide rows - k).toNat) ?_ _ ⟨by omega, by omega, hi0⟩
    rintro Y k h' ⟨k0, k1, hk⟩ hY
    unfold impl_shifts_b2 impl_shifts_C2 impl_shifts_C1
    refine bif_dec (fun hki => ?_) (fun hki => ?_)
    · refine (shifted_c (hx _ _ _ hk) R i k i0 (by omega) k0 (by omega)).to ?_
      rintro s h2 ⟨ns, x2⟩
      refine via_func ?_
      have := hg i.toNat k.toNat h' s h2 (by omega) (by omega) hk ns x2
      rw [show ((i.toNat : Nat) : Int) = i by omega, show ((k.toNat : Nat) : Int) = k by omega] at this
      refine this.to fun _ h3 h => ?_
      rw [w64_of (by omega) (by omega)]
      exact hY _ _ ⟨by omega, by omega, by rw [show (k + 1).toNat = k.toNat + 1 by omega]; exact h⟩ (by omega)
    · rw [w64_of (by omega) (by omega)]
      refine hX _ _ ⟨by omega, by omega, ?_⟩ (by omega)
      rw [show (i + 1).toNat = i.toNat + 1 by omega]
      rw [show k.toNat = wide rows by omega] at hk
      exact hrow _ _ hk
  · rw [show i.toNat = rows.length by omega] at hi0
    exact hi0
theorem leastForm_c (rr : RdSS h0 q rows) (R : Rect rows) : callS SP i_impl_leastForm [.sl q] h0 fun s h' => NewSS h0.length h' s (leastG rows) ∧ Ext h0 h' := by
  have hq := rr.len
  have R0 := R.h0; have R1 := R.h1; have W0 := R.w0; have W1 := R.w1
  apply impl_leastForm_call
  unfold impl_leastForm_main
  refine (shifted_c rr R 0 0 (by omega) (by omega) (by omega) (by omega)).to ?_
  rintro s h1 ⟨n1, x1⟩
  refine newO_var fun h2 v2 x2 m2 => ?_
  refine v2.st _ fun h3 v3 b3 m3 => ?_
  have hx1 := x1.len
  have x3 : Ext h1 h3 := x2.but_ b3 (some_le (Nat.le_refl _))
  have hlike : ∀ i k, Like rows ((List.range k).foldl (fun acc b => leastStep rows acc i b) ((List.range i).foldl (fun acc a => (List.range (wide rows)).foldl (fun acc b => leastStep rows acc a b) acc) (shiftG rows 0 0))) := fun i k =>
    foldl_keeps _ _ (foldl_keeps _ _ (shift_like _ _ _) fun x a _ hx => foldl_keeps _ _ hx fun x b _ hx => leastStep_like hx) fun x b _ hx => leastStep_like hx
  have n3 : NewP (fun i => h0.length ≤ i ∧ i ≠ h1.length) h3 s (shiftG rows 0 0) := (n1.p fun i a b => ⟨a, by omega⟩).ext x3
  have l1 : h1.length < h3.length := v3.lt
  refine (shifts_c (rr.ext (x1.trans x3)) R i_impl_leastForm_1 [.ptr (pt h1.length)] (fun a b h => Ext h0 h ∧ ∃ s, Var h h1.length (.sl s) ∧
      NewP (fun i => h0.length ≤ i ∧ i ≠ h1.length) h s ((List.range b).foldl (fun acc b => leastStep rows acc a b) ((List.range a).foldl (fun acc a => (List.range (wide rows)).foldl (fun acc b => leastStep rows acc a b) acc) (shiftG rows 0 0))))
      ⟨x1.trans x3, s, v3, by simpa using n3⟩ (fun a b h i => rr.ext i.1) (fun a h ⟨e, s, v, n⟩ => ⟨e, s, v, by rw [foldl_range_succ]; simpa using n⟩) ?_).to ?_
  · rintro a b h t h' ha hb ⟨e, s, v, n⟩ nt xt
    have vl := v.lt
    have el := e.len
    have xl := xt.len
    generalize hacc : (List.range b).foldl (fun acc b => leastStep rows acc a b) ((List.range a).foldl (fun acc a => (List.range (wide rows)).foldl (fun acc b => leastStep rows acc a b) acc) (shiftG rows 0 0)) = acc at n
    have hl : Like rows acc := by rw [← hacc]; exact hlike a b
    have hsl := shift_like rows a b
    apply impl_leastForm_1_call
    unfold impl_leastForm_1_main
    refine (v.ext xt).ldS ?_
    refine compareRows_k nt.rd (n.ext xt).rd (by rw [hsl.1]; omega) (by rw [hl.1]; omega) (fun l hm => by rw [hsl.mem hm]; omega) ?_
    have hs : (List.range (b + 1)).foldl (fun acc b => leastStep rows acc a b) ((List.range a).foldl (fun acc a => (List.range (wide rows)).foldl (fun acc b => leastStep rows acc a b) acc) (shiftG rows 0 0)) = leastStep rows acc a b := by
      rw [foldl_range_succ, hacc]
    rw [hs, leastStep]
    refine bif_dec (fun hc => ?_) (fun hc => ?_)
    · rw [if_pos hc]
      refine (v.ext xt).st _ fun h4 v4 b4 m4 => ?_
      refine ⟨(e.trans xt).but_ b4 (some_le (by omega)), t, v4, ?_⟩
      exact ((nt.p (P := fun i => h0.length ≤ i ∧ i ≠ h1.length) fun i p _ => ⟨by omega, by omega⟩).chg (b4.chg (P := fun i => i = h1.length) fun i e => by cases e; rfl) fun i p _ => p.2)
    · rw [if_neg hc]
      exact ⟨e.trans xt, s, v.ext xt, n.ext xt⟩
  · rintro _ h5 ⟨e, s, v, n⟩
    refine v.ldS ⟨_, rfl, ?_, e⟩
    exact n.ss fun i p => p.1
theorem keeping_c (rr : RdSS h0 q rows) (R : Rect rows) : callS SP i_impl_keeping [.sl q] h0 fun s h' => NewSS h0.length h' s (keptG rows) ∧ Ext h0 h' := by
  have hq := rr.len
  have R0 := R.h0; have R1 := R.h1; have W0 := R.w0; have W1 := R.w1
  apply impl_keeping_call
  unfold impl_keeping_main
  refine newO_var fun h1 v1 x1 m1 => ?_
  refine newS_ow (by rfl) fun s h2 os ls so e2 => ?_
  have x2 : Ext h1 h2 := by rw [e2]; exact Ext.app _ _
  refine newO_var fun h3 v3 x3 m3 => ?_
  refine v3.st _ fun h4 v4 b4 m4 => ?_
  have l2 := x2.len
  have x4 : Ext h2 h4 := x3.but_ b4 (some_le (Nat.le_refl _))
  have X4 := (x1.trans x2).trans x4
  have v14 := (v1.ext x2).ext x4
  refine v14.ldS ?_
  have n2 : NewSS h0.length h2 s [] := NewSS.mk0 os (fun o e => by rw [so] at e; cases e; omega)
  have n4 : NewP (fun i => h0.length < i ∧ i ≠ h2.length) h4 s [] := (n2.p (P := fun i => h0.length ≤ i ∧ i < h2.length) fun i a b => ⟨a, b⟩).ext x4 |> fun r => by
    obtain ⟨vs, a1, a2, a3, a4, a5⟩ := r
    exact ⟨vs, a1, a2, fun o e => ⟨by rw [so] at e; cases e; omega, by have := a3 o e; omega⟩, fun i v l c d => by simp at d, a5⟩
  refine (shifts_c (rr.ext X4) R i_impl_keeping_1 [.ptr (pt h0.length), .ptr (pt h2.length)] (fun a b h => Ext h0 h ∧ Var h h0.length (.sl q) ∧ ∃ s, Var h h2.length (.sl s) ∧
      NewP (fun i => h0.length < i ∧ i ≠ h2.length) h s ((List.range b).foldl (fun acc b => keptStep rows acc a b) ((List.range a).foldl (fun acc a => (List.range (wide rows)).foldl (fun acc b => keptStep rows acc a b) acc) [])))
      ⟨X4, v14, s, v4, by simpa using n4⟩ (fun a b h i => rr.ext i.1) (fun a h ⟨e, w, s, v, n⟩ => ⟨e, w, s, v, by rw [foldl_range_succ]; simpa using n⟩) ?_).to ?_
  · rintro a b h t h' ha hb ⟨e, w, s, v, n⟩ nt xt
    have vl := v.lt
    have el := e.len
    have xl := xt.len
    have hup := (kept_upto rows a b).1
    have hmul : wide rows * a ≤ 8 * 8 := Nat.mul_le_mul W1 (by omega)
    generalize hacc : (List.range b).foldl (fun acc b => keptStep rows acc a b) ((List.range a).foldl (fun acc a => (List.range (wide rows)).foldl (fun acc b => keptStep rows acc a b) acc) []) = acc at n hup
    have hsl := shift_like rows a b
    apply impl_keeping_1_call
    unfold impl_keeping_1_main
    refine (w.ext xt).ldS ?_
    refine compareRows_k nt.rd ((rr.ext e).ext xt) (by rw [hsl.1]; omega) (by omega) (fun l hm => by rw [hsl.mem hm]; omega) ?_
    have hs : (List.range (b + 1)).foldl (fun acc b => keptStep rows acc a b) ((List.range a).foldl (fun acc a => (List.range (wide rows)).foldl (fun acc b => keptStep rows acc a b) acc) []) = keptStep rows acc a b := by
      rw [foldl_range_succ, hacc]
    rw [hs, keptStep]
    refine bif_eq (fun hc => ?_) (fun hc => ?_)
    · rw [if_pos hc]
      refine (v.ext xt).ldS ?_
      refine newS_ow (cs := [i64 a, i64 b]) (by rfl) fun u h5 ou lu uo e5 => ?_
      have x5 : Ext h' h5 := by rw [e5]; exact Ext.app _ _
      have ou' : Ow h5 u 1 (ic [(a : Int), (b : Int)]) := ou
      have x56 := x5.len
      have ho2 : ¬ (h0.length < h2.length ∧ h2.length ≠ h2.length) := fun p => p.2 rfl
      have ho0 : ¬ (h0.length < h0.length ∧ h0.length ≠ h2.length) := fun p => absurd p.1 (Nat.lt_irrefl _)
      refine NewP.push (n.ext (xt.trans x5)) (h0 := h') (n.ext xt) x5 ou' (fun o e => by rw [uo] at e; cases e; exact Nat.le_refl _) (fun i hi => ⟨by omega, by omega⟩) (by unfold lim; omega) fun s' h6 n6 b6 => ?_
      have v6 := (v.ext (xt.trans x5)).but b6 (n.notin ho2)
      have w6 := (w.ext (xt.trans x5)).but b6 (n.notin ho0)
      refine v6.st _ fun h7 v7 b7 m7 => ?_
      have E6 : Ext h0 h6 := (e.trans (xt.trans x5)).but_ b6 fun i hi => by
        obtain ⟨vs', _, _, a3, _⟩ := n
        exact Nat.le_of_lt (a3 _ hi).1
      refine ⟨E6.but_ b7 (some_le (by omega)), w6.but b7 (by intro e; have := Option.some.inj e; omega), s', v7, ?_⟩
      exact n6.chg (b7.chg (P := fun i => i = h2.length) fun i e => by cases e; rfl) fun i p _ => p.2
    · rw [if_neg hc]
      exact ⟨e.trans xt, w.ext xt, s, v.ext xt, n.ext xt⟩
  · rintro _ h5 ⟨e, w, s, v, n⟩
    refine v.ldS ⟨_, rfl, ?_, e⟩
    exact n.ss fun i p => by omega
end
end Go.Proofs.Ytfmjjpophipfbaa.Cl
