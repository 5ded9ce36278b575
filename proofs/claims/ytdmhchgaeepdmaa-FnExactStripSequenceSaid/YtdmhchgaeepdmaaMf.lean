/- Contracts of shifted tori: shifts, comparing, least forms, shifts that keep. No claim is stated here. -/
import Derived.Test.YtdmhchgaeepdmaaMe
set_option linter.unusedVariables false
set_option linter.unusedSimpArgs false
namespace Go.Proofs.Ytdmhchgaeepdmaa.Cl
open Go
/-! ### one element more -/
theorem push_c {h : H} {s : Sl} {l : List AVal} {x : AVal} (r : Ow h s 1 l) (hl : (s.len : Int) + 1 ≤ lim) {K : Sl → H → Prop}
    (hk : ∀ s' h', Ow h' s' 1 (l ++ [x]) → s'.len = s.len + 1 → But s.o h h' → (∀ n, Fr n s → n ≤ h.length → Fr n s') → K s' h') : newS 1 1 [x] h fun t h1 => app s t 1 h1 K := by
  refine newS_ow (by rfl) fun t h1 ot tl to e1 => ?_
  subst e1
  refine app_ow (by omega) (r.ext (Ext.app _ _)) ot.rd (by rw [tl]; exact_mod_cast hl) fun s' h' o' ln b k1 k2 => hk s' h' o' (by omega) ?_ fun n fn hn o e => ?_
  · exact ((Ext.app h _).but _).trans b
  · cases hq : s.o with
    | none => have := k2 hq o e; simp at this; omega
    | some p => rw [k1 p hq] at e; cases e; exact fn _ hq
theorem pushI {h : H} {s : Sl} {l : List Int} {x : Int} (r : Ow h s 1 (ic l)) (hl : (l.length : Int) + 1 ≤ lim) {K : Sl → H → Prop}
    (hk : ∀ s' h', Ow h' s' 1 (ic (l ++ [x])) → But s.o h h' → (∀ n, Fr n s → n ≤ h.length → Fr n s') → K s' h') : newS 1 1 [.int .i64 x] h fun t h1 => app s t 1 h1 K := by
  refine push_c r (by have := r.rd.ilen; omega) fun s' h' o' _ b f => hk s' h' ?_ b f
  rw [ic_app]; exact o'
theorem NewSS.push {n m : Nat} {h : H} {s : Sl} {ls : List (List Int)} (r : NewSS n h s ls) {v : Sl} {l : List Int} (ov : Ow h v 1 (ic l)) (fv : Fr m v) (hnm : n ≤ m) (hm : ∃ h0 : H, NewSS n h0 s ls ∧ h0.length ≤ m ∧ Ext h0 h)
    (hl : (ls.length : Int) + 1 ≤ lim) (hnh : n ≤ h.length) {K : Sl → H → Prop} (hk : ∀ s' h', NewSS n h' s' (ls ++ [l]) → But s.o h h' → K s' h') : newS 1 1 [.sl v] h fun t h1 => Cl.app s t 1 h1 K := by
  refine newS_ow (by rfl) fun t h1 ot tl to e1 => ?_
  have e1' : Ext h h1 := by rw [e1]; exact Ext.app _ _
  obtain ⟨h0, r0, l0, x0⟩ := hm
  refine (r.ext e1').app_new (ov.ext e1') fv hnm ⟨h0, r0, l0, x0.trans e1'⟩ ot.rd hl (Nat.le_trans hnh e1'.len) fun s' h' n' b _ _ => hk s' h' n' ((e1'.but _).trans b)
theorem NewSS.fr {n h s ls} (r : NewSS n h s ls) : Fr n s := by obtain ⟨_, _, _, f, _⟩ := r; exact f
/-! ### tables of numbers -/
def tab1 (n : Nat) (f : Nat → Int) : List Int := (List.range n).map f
def tab2 (n : Nat) (f : Nat → List Int) : List (List Int) := (List.range n).map f
theorem tab1_len (n f) : (tab1 n f).length = n := by simp [tab1]
theorem tab2_len (n f) : (tab2 n f).length = n := by simp [tab2]
theorem tab1_succ (n f) : tab1 (n + 1) f = tab1 n f ++ [f n] := by simp [tab1, List.range_succ]
theorem tab2_succ (n f) : tab2 (n + 1) f = tab2 n f ++ [f n] := by simp [tab2, List.range_succ]
theorem tab2_row {n f y} (h : y < n) : rw_ (tab2 n f) y = f y := by
  unfold rw_ tab2
  rw [List.getD_eq_getElem?_getD, List.getElem?_map, List.getElem?_range h]; rfl
theorem tab1_at {n f y} (h : y < n) : (tab1 n f).getD y 0 = f y := by
  unfold tab1
  rw [List.getD_eq_getElem?_getD, List.getElem?_map, List.getElem?_range h]; rfl
theorem foldl_range_succ {α : Type} (g : α → Nat → α) (x : α) (n : Nat) : (List.range (n + 1)).foldl g x = g ((List.range n).foldl g x) n := by
  rw [List.range_succ, List.foldl_append]; rfl
/-! ### shifts -/
abbrev wide (rows : List (List Int)) : Nat := (rw_ rows 0).length
def shiftG (rows : List (List Int)) (a b : Nat) : List (List Int) := tab2 rows.length fun y => tab1 (wide rows) fun x => G rows ((y + a) % rows.length) ((x + b) % wide rows)
/-- Rows of one length, not too many. -/
structure Rect (rows : List (List Int)) : Prop where
  h0 : 1 ≤ rows.length
  h1 : rows.length ≤ 8
  w : ∀ y, y < rows.length → (rw_ rows y).length = wide rows
  w0 : 1 ≤ wide rows
  w1 : wide rows ≤ 8
theorem Nums.rect {n rows} (h : Nums n rows) : Rect rows := by
  have h2 := h.2.2
  have h1 := h.2.1
  have := h2 0 (by omega)
  exact ⟨by omega, by omega, fun y hy => (h2 y hy).1, this.2.1, by have := this.2.2; unfold wide; omega⟩
theorem shiftG_len (rows a b) : (shiftG rows a b).length = rows.length := tab2_len _ _
theorem shiftG_row {rows a b y} (h : y < rows.length) : (rw_ (shiftG rows a b) y).length = wide rows := by unfold shiftG; rw [tab2_row h, tab1_len]
theorem Rect.shift {rows} (r : Rect rows) (a b) : Rect (shiftG rows a b) := by
  have w : wide (shiftG rows a b) = wide rows := shiftG_row r.h0
  exact ⟨by rw [shiftG_len]; exact r.h0, by rw [shiftG_len]; exact r.h1, fun y hy => by rw [w]; rw [shiftG_len] at hy; exact shiftG_row hy, by rw [w]; exact r.w0, by rw [w]; exact r.w1⟩
theorem wrapmod {i a n : Int} (h0 : 0 ≤ i) (h1 : i < 1000) (a0 : 0 ≤ a) (a1 : a < 1000) (n0 : 0 < n) : 0 ≤ Int.tmod (w64 (i + a)) n ∧ Int.tmod (w64 (i + a)) n < n ∧ (Int.tmod (w64 (i + a)) n).toNat = (i.toNat + a.toNat) % n.toNat := by
  rw [w64_of (by omega) (by omega)]
  have e : Int.tmod (i + a) n = (i + a) % n := Int.tmod_eq_emod_of_nonneg (by omega)
  rw [e]
  have h2 := Int.emod_nonneg (i + a) (show n ≠ 0 by omega)
  have h3 := Int.emod_lt_of_pos (i + a) n0
  refine ⟨h2, h3, ?_⟩
  have : ((i.toNat + a.toNat : Nat) : Int) % ((n.toNat : Nat) : Int) = (i + a) % n := by
    rw [show ((i.toNat + a.toNat : Nat) : Int) = i + a by omega, show ((n.toNat : Nat) : Int) = n by omega]
  omega
section
variable {h0 : H} {q : Sl} {rows : List (List Int)}
end
/-! ### comparing rows -/
def cmpLL : List (List Int) → List (List Int) → Int
  | [], [] => 0
  | [], _ :: _ => -1
  | _ :: _, [] => 1
  | a :: l, b :: m => if cmpL a b ≠ 0 then cmpL a b else cmpLL l m
theorem cmpL_anti : ∀ a b, cmpL b a = - cmpL a b
  | [], [] => rfl
  | [], _ :: _ => rfl
  | _ :: _, [] => rfl
  | a :: l, b :: m => by
    simp only [cmpL]
    rw [cmpL_anti l m]
    split <;> split <;> first | omega | (split <;> first | omega | rfl) | skip
theorem cmpLL_anti : ∀ a b, cmpLL b a = - cmpLL a b
  | [], [] => rfl
  | [], _ :: _ => rfl
  | _ :: _, [] => rfl
  | a :: l, b :: m => by
    simp only [cmpLL]
    rw [cmpLL_anti l m, cmpL_anti a b]
    split <;> split <;> first | omega | rfl
theorem cmpL_self : ∀ a, cmpL a a = 0
  | [] => rfl
  | a :: l => by simp [cmpL, cmpL_self l]
theorem cmpLL_self : ∀ a, cmpLL a a = 0
  | [] => rfl
  | a :: l => by simp [cmpLL, cmpL_self a, cmpLL_self l]
theorem cmpL_bound : ∀ a b, -1 ≤ cmpL a b ∧ cmpL a b ≤ 1
  | [], [] => by simp [cmpL]
  | [], _ :: _ => by simp [cmpL]
  | _ :: _, [] => by simp [cmpL]
  | a :: l, b :: m => by
    have := cmpL_bound l m
    simp only [cmpL]
    split
    · omega
    · split
      · omega
      · exact this
section
variable {h0 : H} {q q' : Sl} {A B : List (List Int)}
end
end Go.Proofs.Ytdmhchgaeepdmaa.Cl
