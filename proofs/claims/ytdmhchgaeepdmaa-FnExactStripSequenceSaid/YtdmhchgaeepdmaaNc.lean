/- Columns: the plain law (cell by cell, and layer by layer). No claim is stated here. -/
import Derived.Test.YtdmhchgaeepdmaaMc
import Derived.Test.YtdmhchgaeepdmaaNa
set_option linter.unusedVariables false
set_option linter.unusedSimpArgs false
namespace Go.Proofs.Ytdmhchgaeepdmaa.Cl
open Go
/-- All sides of the tiles are colours. -/
def TS (c : Int) (ts : List Tile) : Prop := 1 ≤ c ∧ ∀ t ∈ ts, ∀ k, k < 4 → 0 ≤ sd t k ∧ sd t k < c
theorem setOK.ts {c : Int} {ts : List Tile} (h : setOK c ts) : TS c ts := by
  refine ⟨h.1.1, fun t ht k hk => ?_⟩
  obtain ⟨i, hi, rfl⟩ := List.getElem_of_mem ht
  have := (h.2.2 i hi).1
  rw [tat_at (n := (i : Int)) (t := ts[i]) (by rw [Int.toNat_natCast]; exact List.getElem?_eq_getElem hi)] at this
  unfold tileok at this
  simp only [Bool.and_eq_true, decide_eq_true_eq] at this
  match k, hk with
  | 0, _ => show 0 ≤ ts[i].1 ∧ ts[i].1 < c; omega
  | 1, _ => show 0 ≤ ts[i].2.1 ∧ ts[i].2.1 < c; omega
  | 2, _ => show 0 ≤ ts[i].2.2.1 ∧ ts[i].2.2.1 < c; omega
  | 3, _ => show 0 ≤ ts[i].2.2.2 ∧ ts[i].2.2.2 < c; omega
section
variable (c : Int) (ts : List Tile)
def colP : Nat → Int → Int → Int → List (Int × Int)
  | 0, _, l, r => [(l, r)]
  | m + 1, s, l, r => ts.flatMap fun t => if 0 ≤ s ∧ s ≠ sd t 1 then [] else colP m (sd t 3) (l * c + sd t 0) (r * c + sd t 2)
/-- The program's columns: west word, east word, north colour. -/
def colI (h : Nat) : Nat → Int → Int → Int → Int → List (Int × Int × Int)
  | 0, top, _, l, r => [(l, r, top)]
  | m + 1, top, last, l, r => ts.flatMap fun t => if m + 1 < h ∧ sd t 1 ≠ last then [] else colI h m (if m + 1 = h then sd t 1 else top) (sd t 3) (l * c + sd t 0) (r * c + sd t 2)
def layS (x : Int × Int × Int) : List (Int × Int × Int) := ts.flatMap fun t => if 0 ≤ x.2.2 ∧ x.2.2 ≠ sd t 1 then [] else [(x.1 * c + sd t 0, x.2.1 * c + sd t 2, sd t 3)]
def lay (l : List (Int × Int × Int)) : List (Int × Int × Int) := l.flatMap (layS c ts)
def layN : Nat → List (Int × Int × Int) → List (Int × Int × Int)
  | 0, l => l
  | m + 1, l => layN m (lay c ts l)
def chain : Nat → Int × Int × Int → List (Int × Int × Int)
  | 0, x => [x]
  | m + 1, x => (layS c ts x).flatMap (chain m)
end
def pr (x : Int × Int × Int) : Int × Int := (x.1, x.2.1)
variable {c : Int} {ts : List Tile}
theorem fm_congr {α β : Type} {l : List α} {f g : α → List β} (h : ∀ x ∈ l, f x = g x) : l.flatMap f = l.flatMap g := by
  induction l with
  | nil => rfl
  | cons a l ih => rw [List.flatMap_cons, List.flatMap_cons, h a (by simp), ih fun x hx => h x (by simp [hx])]
theorem layN_chain : ∀ (m : Nat) (l : List (Int × Int × Int)), layN c ts m l = l.flatMap (chain c ts m)
  | 0, l => by
    rw [layN]
    induction l with
    | nil => rfl
    | cons a l ih => rw [List.flatMap_cons, ← ih]; rfl
  | m + 1, l => by
    rw [layN, layN_chain m, lay, List.flatMap_assoc]
    rfl
theorem layN_succ : ∀ (m : Nat) (l : List (Int × Int × Int)), layN c ts (m + 1) l = lay c ts (layN c ts m l)
  | 0, l => rfl
  | m + 1, l => by rw [layN, layN_succ m]; rfl
theorem chain_pr : ∀ (m : Nat) (x : Int × Int × Int), (chain c ts m x).map pr = colP c ts m x.2.2 x.1 x.2.1
  | 0, x => rfl
  | m + 1, x => by
    rw [chain, colP, layS, List.flatMap_assoc, List.map_flatMap]
    refine fm_congr fun t _ => ?_
    by_cases h : 0 ≤ x.2.2 ∧ x.2.2 ≠ sd t 1
    · rw [if_pos h, if_pos h]; rfl
    · rw [if_neg h, if_neg h, List.flatMap_cons, List.flatMap_nil, List.append_nil]
      exact chain_pr m _
theorem lay_pr (h : Nat) : (layN c ts h [(0, 0, -1)]).map pr = colP c ts h (-1) 0 0 := by
  rw [layN_chain, List.flatMap_cons, List.flatMap_nil, List.append_nil]
  exact chain_pr h _
theorem colI_pr (T : TS c ts) (h : Nat) : ∀ (m : Nat) (top last l r : Int), m ≤ h → (m < h → 0 ≤ last) → (colI c ts h m top last l r).map pr = colP c ts m (if m = h then -1 else last) l r
  | 0, top, last, l, r, _, _ => rfl
  | m + 1, top, last, l, r, hm, hl => by
    rw [colI, colP, List.map_flatMap]
    refine fm_congr fun t ht => ?_
    have h3 := T.2 t ht 3 (by omega)
    by_cases e : m + 1 = h
    · rw [if_neg (by omega), if_pos e, if_neg (by omega), colI_pr T h m _ _ _ _ (by omega) (fun _ => h3.1), if_neg (by omega)]
    · simp only [if_neg e]
      by_cases q : sd t 1 = last
      · rw [if_neg (by omega), if_neg (by omega), colI_pr T h m _ _ _ _ (by omega) (fun _ => h3.1), if_neg (by omega)]
      · rw [if_pos (by omega), if_pos ⟨hl (by omega), fun f => q f.symm⟩]; rfl
theorem colP_bound (T : TS c ts) : ∀ (m : Nat) (s l r b : Int), 0 ≤ l ∧ l < b → 0 ≤ r ∧ r < b → ∀ p ∈ colP c ts m s l r, (0 ≤ p.1 ∧ p.1 < b * c ^ m) ∧ 0 ≤ p.2 ∧ p.2 < b * c ^ m
  | 0, s, l, r, b, hl, hr, p, hp => by
    simp only [colP, List.mem_singleton] at hp
    subst hp
    simpa using ⟨hl, hr⟩
  | m + 1, s, l, r, b, hl, hr, p, hp => by
    rw [colP] at hp
    obtain ⟨t, ht, hp⟩ := List.mem_flatMap.1 hp
    split at hp
    · cases hp
    · have h0 := T.2 t ht 0 (by omega)
      have h2 := T.2 t ht 2 (by omega)
      have hc := T.1
      have key : ∀ x d : Int, 0 ≤ x ∧ x < b → 0 ≤ d ∧ d < c → 0 ≤ x * c + d ∧ x * c + d < b * c := fun x d hx hd => by
        have h1 : 0 ≤ x * c := Int.mul_nonneg hx.1 (by omega)
        have h2 : (x + 1) * c ≤ b * c := Int.mul_le_mul_of_nonneg_right (by omega) (by omega)
        rw [Int.add_mul, Int.one_mul] at h2
        omega
      have := colP_bound T m _ _ _ (b * c) (key _ _ hl h0) (key _ _ hr h2) p hp
      rw [Int.pow_succ, Int.mul_comm (c ^ m), ← Int.mul_assoc]
      exact this
theorem colP_len : ∀ (m : Nat) (s l r : Int), (colP c ts m s l r).length ≤ ts.length ^ m
  | 0, s, l, r => by simp [colP]
  | m + 1, s, l, r => by
    rw [colP, List.length_flatMap, Nat.pow_succ, Nat.mul_comm]
    have : ∀ (l' : List Tile), (l'.map fun t => (if 0 ≤ s ∧ s ≠ sd t 1 then [] else colP c ts m (sd t 3) (l * c + sd t 0) (r * c + sd t 2)).length).sum ≤ l'.length * ts.length ^ m := fun l' => by
      induction l' with
      | nil => simp
      | cons a l' ih =>
        rw [List.map_cons, List.sum_cons, List.length_cons, Nat.add_mul, Nat.one_mul]
        have : (if 0 ≤ s ∧ s ≠ sd a 1 then [] else colP c ts m (sd a 3) (l * c + sd a 0) (r * c + sd a 2)).length ≤ ts.length ^ m := by
          split
          · simp
          · exact colP_len m _ _ _
        omega
    exact this ts
theorem lay_len (h : Nat) : (layN c ts h [(0, 0, -1)]).length = (colP c ts h (-1) 0 0).length := by rw [← lay_pr, List.length_map]
/-- The columns of a height: west words and east words. -/
def colsOf (c : Int) (ts : List Tile) (h : Int) : List (Int × Int) := colP c ts h.toNat (-1) 0 0
end Go.Proofs.Ytdmhchgaeepdmaa.Cl
