/- Contracts of shifted tori: shifts, comparing, least forms, shifts that keep. No claim is stated here. -/
import Derived.Test.YtfmjjpophipfbaaMe
set_option linter.unusedVariables false
set_option linter.unusedSimpArgs false
namespace Go.Proofs.Ytfmjjpophipfbaa.Cl
open Go
/-! ### one element more -/
theorem push_c {h : H} {s : Sl} {l : List AVal} {x : AVal} (r : Ow h s 1 l) (hl : (s.len : Int) + 1 ≤ lim) {K : Sl → H → Prop}
    (hk : ∀ s' h', Ow h' s' 1 (l ++ [x]) → s'.len = s.len + 1 → But s.o h h' → (∀ n, Fr n s → n ≤ h.length → Fr n s') → K s' h') : newS 1 1 [x] h fun t h1 => app s t 1 h1 K := by
  refine newS_ow (by rfl) fun t h1 ot tl to e1 => ?_
  subst e1
  refine app_ow (by omega) (r.ext (Ext.app _ _)) ot.rd (by rw [tl]; exact_mod_cast hl) fun s' h' o' ln b k1 k2 => hk s' h' o' (by omega) ?_ fun n fn hn o e => ?_
  · exact ((Ext.app h _).but _).trans b
  · cases hq : s.o with
    | none => have := k2 hq o e; simp at this; omega
    | some p => rw [k1 p hq] at e; cases e; exact fn _ hq
theorem pushI {h : H} {s : Sl} {l : List Int} {x : Int} (r : Ow h s 1 (ic l)) (hl : (l.length : Int) + 1 ≤ lim) {K : Sl → H → Prop}
    (hk : ∀ s' h', Ow h' s' 1 (ic (l ++ [x])) → But s.o h h' → (∀ n, Fr n s → n ≤ h.length → Fr n s') → K s' h') : newS 1 1 [.int .i64 x] h fun t h1 => app s t 1 h1 K := by
  refine push_c r (by have := r.rd.ilen; omega) fun s' h' o' _ b f => hk s' h' ?_ b f
  rw [ic_app]; exact o'
theorem NewSS.push {n m : Nat} {h : H} {s : Sl} {ls : List (List Int)} (r : NewSS n h s ls) {v : Sl} {l : List Int} (ov : Ow h v 1 (ic l)) (fv : Fr m v) (hnm : n ≤ m) (hm : ∃ h0 : H, NewSS n h0 s ls ∧ h0.length ≤ m ∧ Ext h0 h)
    (hl : (ls.length : Int) + 1 ≤ lim) (hnh : n ≤ h.length) {K : Sl → H → Prop} (hk : ∀ s' h', NewSS n h' s' (ls ++ [l]) → But s.o h h' → K s' h') : newS 1 1 [.sl v] h fun t h1 => Cl.app s t 1 h1 K := by
  refine newS_ow (by rfl) fun t h1 ot tl to e1 => ?_
  have e1' : Ext h h1 := by rw [e1]; exact Ext.app _ _
  obtain ⟨h0, r0, l0, x0⟩ := hm
  refine (r.ext e1').app_new (ov.ext e1') fv hnm ⟨h0, r0, l0, x0.trans e1'⟩ ot.rd hl (Nat.le_trans hnh e1'.len) fun s' h' n' b _ _ => hk s' h' n' ((e1'.but _).trans b)
theorem NewSS.fr {n h s ls} (r : NewSS n h s ls) : Fr n s := by obtain ⟨_, _, _, f, _⟩ := r; exact f
/-! ### tables of numbers -/
def tab1 (n : Nat) (f : Nat → Int) : List Int := (List.range n).map f
def tab2 (n : Nat) (f : Nat → List Int) : List (List Int) := (List.range n).map f
theorem tab1_len (n f) : (tab1 n f).length = n := by simp [tab1]
theorem tab2_len (n f) : (tab2 n f).length = n := by simp [tab2]
theorem tab1_succ (n f) : tab1 (n + 1) f = tab1 n f ++ [f n] := by simp [tab1, List.range_succ]
theorem tab2_succ (n f) : tab2 (n + 1) f = tab2 n f ++ [f n] := by simp [tab2, List.range_succ]
theorem tab2_row {n f y} (h : y < n) : rw_ (tab2 n f) y = f y := by
  unfold rw_ tab2
  rw [List.getD_eq_getElem?_getD, List.getElem?_map, List.getElem?_range h]; rfl
theorem tab1_at {n f y} (h : y < n) : (tab1 n f).getD y 0 = f y := by
  unfold tab1
  rw [List.getD_eq_getElem?_getD, List.getElem?_map, List.getElem?_range h]; rfl
theorem foldl_range_succ {α : Type} (g : α → Nat → α) (x : α) (n : Nat) : (List.range (n + 1)).foldl g x = g ((List.range n).foldl g x) n := by
  rw [List.range_succ, List.foldl_append]; rfl
/-! ### shifts -/
abbrev wide (rows : List (List Int)) : Nat := (rw_ rows 0).length
def shiftG (rows : List (List Int)) (a b : Nat) : List (List Int) := tab2 rows.length fun y => tab1 (wide rows) fun x => G rows ((y + a) % rows.length) ((x + b) % wide rows)
/-- Rows of one length, not too many. -/
structure Rect (rows : List (List Int)) : Prop where
  h0 : 1 ≤ rows.length
  h1 : rows.length ≤ 8
  w : ∀ y, y < rows.length → (rw_ rows y).length = wide rows
  w0 : 1 ≤ wide rows
  w1 : wide rows ≤ 8
theorem Nums.rect {n rows} (h : Nums n rows) : Rect rows := by
  have h2 := h.2.2
  have h1 := h.2.1
  have := h2 0 (by omega)
  exact ⟨by omega, by omega, fun y hy => (h2 y hy).1, this.2.1, by have := this.2.2; unfold wide; omega⟩
theorem shiftG_len (rows a b) : (shiftG rows a b).length = rows.length := tab2_len _ _
theorem shiftG_row {rows a b y} (h : y < rows.length) : (rw_ (shiftG rows a b) y).length = wide rows := by unfold shiftG; rw [tab2_row h, tab1_len]
theorem Rect.shift {rows} (r : Rect rows) (a b) : Rect (shiftG rows a b) := by
  have w : wide (shiftG rows a b) = wide rows := shiftG_row r.h0
  exact ⟨by rw [shiftG_len]; exact r.h0, by rw [shiftG_len]; exact r.h1, fun y hy => by rw [w]; rw [shiftG_len] at hy; exact shiftG_row hy, by rw [w]; exact r.w0, by rw [w]; exact r.w1⟩
theorem wrapmod {i a n : Int} (h0 : 0 ≤ i) (h1 : i < 1000) (a0 : 0 ≤ a) (a1 : a < 1000) (n0 : 0 < n) : 0 ≤ Int.tmod (w64 (i + a)) n ∧ Int.tmod (w64 (i + a)) n < n ∧ (Int.tmod (w64 (i + a)) n).toNat = (i.toNat + a.toNat) % n.toNat := by
  rw [w64_of (by omega) (by omega)]
  have e : Int.tmod (i + a) n = (i + a) % n := Int.tmod_eq_emod_of_nonneg (by omega)
  rw [e]
  have h2 := Int.emod_nonneg (i + a) (show n ≠ 0 by omega)
  have h3 := Int.emod_lt_of_pos (i + a) n0
  refine ⟨h2, h3, ?_⟩
  have : ((i.toNat + a.toNat : Nat) : Int) % ((n.toNat : Nat) : Int) = (i + a) % n := by
    rw [show ((i.toNat + a.toNat : Nat) : Int) = i + a by omega, show ((n.toNat : Nat) : Int) = n by omega]
  omega
section
variable {h0 : H} {q : Sl} {rows : List (List Int)}
theorem shifted_c (rr : RdSS h0 q rows) (R : Rect rows) (a b : Int) (a0 : 0 ≤ a) (a1 : a < 1000) (b0 : 0 ≤ b) (b1 : b < 1000) : callS SP i_impl_shifted [.sl q, i64 a, i64 b] h0 fun s h' => NewSS h0.length h' s (shiftG rows a.toNat b.toNat) ∧ Ext h0 h' := by
  have hq := rr.len
  have R0 := R.h0; have R1 := R.h1; have W0 := R.w0; have W1 := R.w1
  apply impl_shifted_call
  unfold impl_shifted_main
  refine newS_ow (by rfl) fun s h1 os ls so e1 => ?_
  have x1 : Ext h0 h1 := by rw [e1]; exact Ext.app _ _
  refine rr.ixC (by omega) (by omega) fun p v e3 rv lv => ⟨v, x1.cell e3, (x1.cellE e3).symm, ?_⟩
  have lv0 : v.len = wide rows := lv
  have ns : NewSS h0.length h1 s [] := NewSS.mk0 os (fun o e => by rw [so] at e; cases e; exact Nat.le_refl _)
  refine impl_shifted_rule0 _ _ _ _ _ _ _ _ (fun s i h => 0 ≤ i ∧ i ≤ rows.length ∧ Ext h0 h ∧ NewSS h0.length h s (tab2 i.toNat fun y => tab1 (wide rows) fun x => G rows ((y + a.toNat) % rows.length) ((x + b.toNat) % wide rows))) (fun _ i _ => (rows.length - i).toNat) ?_ _ _ ⟨by omega, by omega, x1, by simpa [tab2] using ns⟩
  rintro X s i h ⟨i0, i1, x, n⟩ hX
  unfold impl_shifted_b0 impl_shifted_C0
  refine bif_dec (fun hi => ?_) (fun hi => ⟨_, rfl, ?_, x⟩)
  · refine newS_ow (by rfl) fun t h2 ot lt to e2 => ?_
    have x2 : Ext h h2 := by rw [e2]; exact Ext.app _ _
    refine impl_shifted_rule2 _ _ X _ _ _ _ _ _ _ _ _ _ (fun t k h' => 0 ≤ k ∧ k ≤ wide rows ∧ Ext h h' ∧ Ow h' t 1 (ic (tab1 k.toNat fun x => G rows ((i.toNat + a.toNat) % rows.length) ((x + b.toNat) % wide rows))) ∧ Fr h.length t) (fun _ k _ => (wide rows - k).toNat) ?_ _ _ ⟨by omega, by omega, x2, by simpa [tab1, ic] using ot, fun o e => by rw [to] at e; cases e; exact Nat.le_refl _⟩
    rintro Y t k h' ⟨k0, k1, x', ot, ft⟩ hY
    unfold impl_shifted_b2 impl_shifted_C2 impl_shifted_C1
    refine bif_dec (fun hki => ?_) (fun hki => ?_)
    · obtain ⟨m1, m2, m3⟩ := wrapmod (n := q.len) i0 (by omega) a0 a1 (by omega)
      obtain ⟨m4, m5, m6⟩ := wrapmod (n := v.len) k0 (by omega) b0 b1 (by omega)
      refine ⟨by omega, ?_⟩
      refine (rr.ext (x.trans x')).ldG m1 (by omega) fun u ru lu => ?_
      have hw := R.w (Int.tmod (w64 (i + a)) q.len).toNat (by omega)
      refine ⟨by omega, ?_⟩
      refine ru.ldG m4 (by omega) ?_
      rw [m3, m6, show ((q.len : Int)).toNat = rows.length by omega, show ((v.len : Int)).toNat = wide rows by omega]
      refine pushI ot (by rw [tab1_len]; unfold lim; omega) fun t' h'' ot' bt ft' => ?_
      rw [w64_of (by omega) (by omega)]
      refine hY _ _ _ ⟨by omega, by omega, x'.but_ bt (fun o e => ft o e), ?_, ft' _ ft x'.len⟩ (by omega)
      rw [show (k + 1).toNat = k.toNat + 1 by omega, tab1_succ]
      exact ot'
    · have hk : k.toNat = wide rows := by omega
      rw [hk] at ot
      refine (n.ext x').push ot ft x.len ⟨h, n, Nat.le_refl _, x'⟩ (by rw [tab2_len]; unfold lim; omega) (Nat.le_trans x.len x'.len) fun s' h'' n' bt => ?_
      rw [w64_of (by omega) (by omega)]
      refine hX _ _ _ ⟨by omega, by omega, (x.trans x').but_ bt (fun o e => n.fr o e), ?_⟩ (by omega)
      rw [show (i + 1).toNat = i.toNat + 1 by omega, tab2_succ]
      exact n'
  · rw [show i.toNat = rows.length by omega] at n
    exact n
theorem l05Shift_c (rr : RdSS h0 q rows) (R : Rect rows) (a b : Int) (a0 : 0 ≤ a) (a1 : a < 1000) (b0 : 0 ≤ b) (b1 : b < 1000) : callS SP i_spec_l05Shift [.sl q, i64 a, i64 b] h0 fun s h' => NewSS h0.length h' s (shiftG rows a.toNat b.toNat) ∧ Ext h0 h' := by
  have hq := rr.len
  have R0 := R.h0; have R1 := R.h1; have W0 := R.w0; have W1 := R.w1
  apply spec_l05Shift_call
  unfold spec_l05Shift_main
  refine rr.ixC (by omega) (by omega) fun p v e3 rv lv => ⟨v, e3, ?_⟩
  have lv0 : v.len = wide rows := lv
  refine newS_ow (by rfl) fun s h1 os ls so e1 => ?_
  have x1 : Ext h0 h1 := by rw [e1]; exact Ext.app _ _
  refine ⟨x1.cellE e3, ?_⟩
  have ns : NewSS h0.length h1 s [] := NewSS.mk0 os (fun o e => by rw [so] at e; cases e; exact Nat.le_refl _)
  refine spec_l05Shift_rule0 _ _ _ _ _ _ _ (fun s i h => 0 ≤ i ∧ i ≤ rows.length ∧ Ext h0 h ∧ NewSS h0.length h s (tab2 i.toNat fun y => tab1 (wide rows) fun x => G rows ((y + a.toNat) % rows.length) ((x + b.toNat) % wide rows))) (fun _ i _ => (rows.length - i).toNat) ?_ _ _ ⟨by omega, by omega, x1, by simpa [tab2] using ns⟩
  rintro X s i h ⟨i0, i1, x, n⟩ hX
  unfold spec_l05Shift_b0 spec_l05Shift_C0
  refine bif_dec (fun hi => ?_) (fun hi => ⟨_, rfl, ?_, x⟩)
  · refine newS_ow (by rfl) fun t h2 ot lt to e2 => ?_
    have x2 : Ext h h2 := by rw [e2]; exact Ext.app _ _
    refine spec_l05Shift_rule2 _ _ X _ _ _ _ _ _ _ (fun t k h' => 0 ≤ k ∧ k ≤ wide rows ∧ Ext h h' ∧ Ow h' t 1 (ic (tab1 k.toNat fun x => G rows ((i.toNat + a.toNat) % rows.length) ((x + b.toNat) % wide rows))) ∧ Fr h.length t) (fun _ k _ => (wide rows - k).toNat) ?_ _ _ ⟨by omega, by omega, x2, by simpa [tab1, ic] using ot, fun o e => by rw [to] at e; cases e; exact Nat.le_refl _⟩
    rintro Y t k h' ⟨k0, k1, x', ot, ft⟩ hY
    unfold spec_l05Shift_b2 spec_l05Shift_C2 spec_l05Shift_C1
    refine bif_dec (fun hki => ?_) (fun hki => ?_)
    · obtain ⟨m1, m2, m3⟩ := wrapmod (n := q.len) i0 (by omega) a0 a1 (by omega)
      obtain ⟨m4, m5, m6⟩ := wrapmod (n := v.len) k0 (by omega) b0 b1 (by omega)
      refine ⟨by omega, ?_⟩
      refine (rr.ext (x.trans x')).ldG m1 (by omega) fun u ru lu => ?_
      have hw := R.w (Int.tmod (w64 (i + a)) q.len).toNat (by omega)
      refine ⟨by omega, ?_⟩
      refine ru.ldG m4 (by omega) ?_
      rw [m3, m6, show ((q.len : Int)).toNat = rows.length by omega, show ((v.len : Int)).toNat = wide rows by omega]
      refine pushI ot (by rw [tab1_len]; unfold lim; omega) fun t' h'' ot' bt ft' => ?_
      rw [w64_of (by omega) (by omega)]
      refine hY _ _ _ ⟨by omega, by omega, x'.but_ bt (fun o e => ft o e), ?_, ft' _ ft x'.len⟩ (by omega)
      rw [show (k + 1).toNat = k.toNat + 1 by omega, tab1_succ]
      exact ot'
    · have hk : k.toNat = wide rows := by omega
      rw [hk] at ot
      refine (n.ext x').push ot ft x.len ⟨h, n, Nat.le_refl _, x'⟩ (by rw [tab2_len]; unfold lim; omega) (Nat.le_trans x.len x'.len) fun s' h'' n' bt => ?_
      rw [w64_of (by omega) (by omega)]
      refine hX _ _ _ ⟨by omega, by omega, (x.trans x').but_ bt (fun o e => n.fr o e), ?_⟩ (by omega)
      rw [show (i + 1).toNat = i.toNat + 1 by omega, tab2_succ]
      exact n'
  · rw [show i.toNat = rows.length by omega] at n
    exact n
end
/-! ### comparing rows -/
def cmpLL : List (List Int) → List (List Int) → Int
  | [], [] => 0
  | [], _ :: _ => -1
  | _ :: _, [] => 1
  | a :: l, b :: m => if cmpL a b ≠ 0 then cmpL a b else cmpLL l m
theorem cmpL_anti : ∀ a b, cmpL b a = - cmpL a b
  | [], [] => rfl
  | [], _ :: _ => rfl
  | _ :: _, [] => rfl
  | a :: l, b :: m => by
    simp only [cmpL]
    rw [cmpL_anti l m]
    split <;> split <;> first | omega | (split <;> first | omega | rfl) | skip
theorem cmpLL_anti : ∀ a b, cmpLL b a = - cmpLL a b
  | [], [] => rfl
  | [], _ :: _ => rfl
  | _ :: _, [] => rfl
  | a :: l, b :: m => by
    simp only [cmpLL]
    rw [cmpLL_anti l m, cmpL_anti a b]
    split <;> split <;> first | omega | rfl
theorem cmpL_self : ∀ a, cmpL a a = 0
  | [] => rfl
  | a :: l => by simp [cmpL, cmpL_self l]
theorem cmpLL_self : ∀ a, cmpLL a a = 0
  | [] => rfl
  | a :: l => by simp [cmpLL, cmpL_self a, cmpLL_self l]
theorem cmpL_bound : ∀ a b, -1 ≤ cmpL a b ∧ cmpL a b ≤ 1
  | [], [] => by simp [cmpL]
  | [], _ :: _ => by simp [cmpL]
  | _ :: _, [] => by simp [cmpL]
  | a :: l, b :: m => by
    have := cmpL_bound l m
    simp only [cmpL]
    split
    · omega
    · split
      · omega
      · exact this
section
variable {h0 : H} {q q' : Sl} {A B : List (List Int)}
theorem compareRows_c (ra : RdSS h0 q A) (rb : RdSS h0 q' B) (ha : A.length < 1000000) (hb : B.length < 1000000) (hal : ∀ l ∈ A, l.length < 1000000) : callI SP .i64 i_impl_compareRows [.sl q, .sl q'] h0 fun n h' => n = cmpLL A B ∧ h' = h0 := by
  have hq := ra.len
  have hq' := rb.len
  apply impl_compareRows_call
  unfold impl_compareRows_main
  have main : callI SP .i64 i_slices_CompareFunc_ss_int64_s_s_int64_s_int64_s_int64_ [.sl q, .sl q', .func i_impl_compareRows_1 []] h0 fun n h' => n = cmpLL A B ∧ h' = h0 := by
    apply slices_CompareFunc_ss_int64_s_s_int64_s_int64_s_int64__call
    unfold slices_CompareFunc_ss_int64_s_s_int64_s_int64_s_int64__main
    refine slices_CompareFunc_ss_int64_s_s_int64_s_int64_s_int64__rule0 _ _ _ _ _ _ _ (fun i h => 0 ≤ i ∧ i ≤ A.length ∧ i ≤ B.length ∧ h = h0 ∧ cmpLL A B = cmpLL (A.drop i.toNat) (B.drop i.toNat)) (fun i _ => (A.length - i).toNat) ?_ _ ⟨by omega, by omega, by omega, rfl, rfl⟩
    rintro X i h ⟨i0, i1, i2, e, hc⟩ hX
    rw [e]
    unfold slices_CompareFunc_ss_int64_s_s_int64_s_int64_s_int64__b0 slices_CompareFunc_ss_int64_s_s_int64_s_int64_s_int64__C0
    refine bif_dec (fun hi => ?_) (fun hi => ?_)
    · refine ra.ldG i0 (by omega) fun u ru lu => ?_
      rw [drop_cons (at_rw (rows := A) (y := i.toNat) (by omega))] at hc
      refine bif_dec (fun hj => ⟨_, rfl, ?_, rfl⟩) (fun hj => ?_)
      · rw [hc, show B.drop i.toNat = [] from List.drop_eq_nil_of_le (by omega)]; rfl
      refine rb.ldG i0 (by omega) fun w rw1 lw => ?_
      rw [drop_cons (at_rw (rows := B) (y := i.toNat) (by omega))] at hc
      refine via_func ?_
      have hl : (rw_ A i.toNat).length < 1000000 := hal _ (List.mem_of_getElem? (at_rw (rows := A) (y := i.toNat) (by omega)))
      have c1 : callI SP .i64 i_impl_compareRows_1 [.sl u, .sl w] h0 fun n h' => n = cmpL (rw_ A i.toNat) (rw_ B i.toNat) ∧ h' = h0 := by
        apply impl_compareRows_1_call
        unfold impl_compareRows_1_main
        refine (sCompare_c ru rw1 (by omega)).to ?_
        rintro _ _ ⟨rfl, rfl⟩
        exact ⟨_, rfl, rfl, rfl⟩
      refine c1.to ?_
      rintro n _ ⟨en, eh⟩
      rw [en, eh]
      simp only [cmpLL] at hc
      refine bif_ne (fun hn => ⟨_, rfl, ?_, rfl⟩) (fun hn => ?_)
      · rw [hc, if_pos hn]
      · rw [if_neg (by simpa using hn)] at hc
        rw [w64_of (by omega) (by omega)]
        refine hX _ _ ⟨by omega, by omega, by omega, rfl, ?_⟩ (by omega)
        rw [show (i + 1).toNat = i.toNat + 1 by omega]; exact hc
    · rw [show A.drop i.toNat = [] from List.drop_eq_nil_of_le (by omega)] at hc
      refine bif_dec (fun hj => ⟨_, rfl, ?_, rfl⟩) (fun hj => ⟨_, rfl, ?_, rfl⟩)
      · rw [hc, drop_cons (at_rw (rows := B) (y := i.toNat) (by omega))]; rfl
      · rw [hc, show B.drop i.toNat = [] from List.drop_eq_nil_of_le (by omega)]; rfl
  refine main.to ?_
  rintro _ _ ⟨rfl, rfl⟩
  exact ⟨_, rfl, rfl, rfl⟩
theorem l05Less_c (ra : RdSS h0 q A) (rb : RdSS h0 q' B) (hs : A.length = B.length) (hw : ∀ y, y < A.length → (rw_ A y).length = (rw_ B y).length) (ha : A.length < 1000000) (hal : ∀ y, y < A.length → (rw_ A y).length < 1000000) : callB SP i_spec_l05Less [.sl q, .sl q'] h0 fun b h' => b = decide (cmpLL A B < 0) ∧ h' = h0 := by
  have hq := ra.len
  have hq' := rb.len
  apply spec_l05Less_call
  unfold spec_l05Less_main
  refine spec_l05Less_rule0 _ _ _ _ (fun i h => 0 ≤ i ∧ i ≤ A.length ∧ h = h0 ∧ cmpLL A B = cmpLL (A.drop i.toNat) (B.drop i.toNat)) (fun i _ => (A.length - i).toNat) ?_ _ ⟨by omega, by omega, rfl, rfl⟩
  rintro X i h ⟨i0, i1, e, hc⟩ hX
  rw [e]
  unfold spec_l05Less_b0 spec_l05Less_C0
  refine bif_dec (fun hi => ?_) (fun hi => ⟨_, rfl, ?_, rfl⟩)
  · have hwi := hw i.toNat (by omega)
    have hli := hal i.toNat (by omega)
    rw [drop_cons (at_rw (rows := A) (y := i.toNat) (by omega)), drop_cons (at_rw (rows := B) (y := i.toNat) (by omega))] at hc
    simp only [cmpLL] at hc
    refine spec_l05Less_rule2 _ _ X _ _ _ (fun k h => 0 ≤ k ∧ k ≤ (rw_ A i.toNat).length ∧ h = h0 ∧ cmpL (rw_ A i.toNat) (rw_ B i.toNat) = cmpL ((rw_ A i.toNat).drop k.toNat) ((rw_ B i.toNat).drop k.toNat)) (fun k _ => ((rw_ A i.toNat).length - k).toNat) ?_ _ ⟨by omega, by omega, rfl, rfl⟩
    rintro Y k h' ⟨k0, k1, e', hk⟩ hY
    rw [e']
    unfold spec_l05Less_b2 spec_l05Less_C2 spec_l05Less_C1
    refine ra.ldG i0 (by omega) fun u ru lu => ?_
    refine bif_dec (fun hki => ?_) (fun hki => ?_)
    · refine ra.ldG i0 (by omega) fun u1 ru1 lu1 => ?_
      refine ru1.ldG k0 (by omega) ?_
      refine rb.ldG i0 (by omega) fun u2 ru2 lu2 => ?_
      refine ru2.ldG k0 (by omega) ?_
      have d1 : (rw_ A i.toNat)[k.toNat]? = some ((rw_ A i.toNat).getD k.toNat 0) := by rw [List.getD_eq_getElem?_getD, List.getElem?_eq_getElem (by omega)]; rfl
      have d2 : (rw_ B i.toNat)[k.toNat]? = some ((rw_ B i.toNat).getD k.toNat 0) := by rw [List.getD_eq_getElem?_getD, List.getElem?_eq_getElem (by omega)]; rfl
      rw [drop_cons d1, drop_cons d2] at hk
      simp only [cmpL] at hk
      refine bif_ne (fun hn => ?_) (fun hn => ?_)
      · refine ra.ldG i0 (by omega) fun u3 ru3 lu3 => ?_
        refine ru3.ldG k0 (by omega) ?_
        refine rb.ldG i0 (by omega) fun u4 ru4 lu4 => ?_
        refine ru4.ldG k0 (by omega) ⟨_, rfl, ?_, rfl⟩
        rw [hc]
        by_cases hlt : (rw_ A i.toNat).getD k.toNat 0 < (rw_ B i.toNat).getD k.toNat 0
        · rw [if_pos hlt] at hk; rw [if_pos (by omega), hk, decide_eq_true hlt]; rfl
        · rw [if_neg hlt, if_pos (by omega)] at hk; rw [if_pos (by omega), hk, decide_eq_false hlt]; rfl
      · rw [if_neg (by omega), if_neg (by omega)] at hk
        rw [w64_of (by omega) (by omega)]
        refine hY _ _ ⟨by omega, by omega, rfl, ?_⟩ (by omega)
        rw [show (k + 1).toNat = k.toNat + 1 by omega]; exact hk
    · rw [List.drop_eq_nil_of_le (by omega), List.drop_eq_nil_of_le (by omega)] at hk
      have hk0 : cmpL (rw_ A i.toNat) (rw_ B i.toNat) = 0 := hk
      rw [if_neg (by simpa using hk0)] at hc
      rw [w64_of (by omega) (by omega)]
      refine hX _ _ ⟨by omega, by omega, rfl, ?_⟩ (by omega)
      rw [show (i + 1).toNat = i.toNat + 1 by omega]; exact hc
  · rw [List.drop_eq_nil_of_le (by omega), List.drop_eq_nil_of_le (by omega)] at hc
    rw [hc]; rfl
theorem compareRows_k (ra : RdSS h0 q A) (rb : RdSS h0 q' B) (ha : A.length < 1000000) (hb : B.length < 1000000) (hal : ∀ l ∈ A, l.length < 1000000) {K : Int → H → Prop} (hk : K (cmpLL A B) h0) : callI SP .i64 i_impl_compareRows [.sl q, .sl q'] h0 K :=
  (compareRows_c ra rb ha hb hal).to (by rintro _ _ ⟨rfl, rfl⟩; exact hk)
theorem l05Less_k (ra : RdSS h0 q A) (rb : RdSS h0 q' B) (hs : A.length = B.length) (hw : ∀ y, y < A.length → (rw_ A y).length = (rw_ B y).length) (ha : A.length < 1000000) (hal : ∀ y, y < A.length → (rw_ A y).length < 1000000) {K : Bool → H → Prop} (hk : K (decide (cmpLL A B < 0)) h0) : callB SP i_spec_l05Less [.sl q, .sl q'] h0 K :=
  (l05Less_c ra rb hs hw ha hal).to (by rintro _ _ ⟨rfl, rfl⟩; exact hk)
end
end Go.Proofs.Ytfmjjpophipfbaa.Cl
