/- Contracts of functions, joined. No claim is stated here. -/
import Derived.Test.YtlbglfgienklfaaFG0
import Derived.Test.YtlbglfgienklfaaFG1
import Derived.Test.YtlbglfgienklfaaFa2
import Derived.Test.YtlbglfgienklfaaFaR0
import Derived.Shelf.SlSortCmp.NoneTotal
import Derived.Ground.SlsfProg
/- Contracts of the functions on tiles, of the search in slices and of the laws' helpers. No claim is stated here. -/
set_option linter.unusedVariables false
set_option linter.unusedSimpArgs false
namespace Go.Proofs.Ytlbglfgienklfaa.Cl
open Go
abbrev SP : SatT := Sat Try.prog
abbrev Tile := Int × Int × Int × Int
def tc (t : Tile) : List AVal := [i64 t.1, i64 t.2.1, i64 t.2.2.1, i64 t.2.2.2]
def tcs (ts : List Tile) : List AVal := (ts.map tc).flatten
theorem tc_len (t : Tile) : (tc t).length = 4 := rfl
theorem tcs_len : ∀ ts : List Tile, (tcs ts).length = ts.length * 4
  | [] => rfl
  | t :: ts => by
    have := tcs_len ts
    unfold tcs at *
    simp only [List.map_cons, List.flatten_cons, List.length_append, tc_len, List.length_cons]
    omega
theorem tcs_app (a b : List Tile) : tcs (a ++ b) = tcs a ++ tcs b := by simp [tcs]
theorem tcs_cons (a : Tile) (b : List Tile) : tcs (a :: b) = tc a ++ tcs b := by simp [tcs]
theorem tcs_at : ∀ (ts : List Tile) (i : Nat) (t : Tile), ts[i]? = some t → ((tcs ts).drop (i * 4)).take 4 = tc t
  | [], i, t, e => by simp at e
  | a :: ts, 0, t, e => by
    simp at e; subst e
    rw [tcs_cons]; simp [List.take_append, tc_len]
    rw [List.take_of_length_le (by simp [tc_len])]
  | a :: ts, i + 1, t, e => by
    rw [tcs_cons, show (i + 1) * 4 = (tc a).length + i * 4 by rw [tc_len]; omega, ← List.drop_drop, List.drop_left]
    exact tcs_at ts i t (by simpa using e)
/-- A slice of tiles. -/
theorem Rd.ldT {h : H} {s : Sl} {ts : List Tile} (r : Rd h s 4 (tcs ts)) {i : Int} (h0 : 0 ≤ i) (h1 : i < ts.length) {K : List AVal → Prop} (hk : ∀ t, ts[i.toNat]? = some t → K (tc t)) : ixS s 4 i fun p => Cl.ldA p 4 h K := by
  have hlen : ts.length = s.len := by have := r.len; rw [tcs_len] at this; omega
  have hx : ts[i.toNat]? = some ts[i.toNat] := List.getElem?_eq_getElem (by omega)
  exact r.ldA h0 (by omega) (by rw [tcs_at ts _ _ hx]; exact hk _ hx)
theorem Rd.tlen {h : H} {s : Sl} {ts : List Tile} (r : Rd h s 4 (tcs ts)) : s.len = ts.length := by have := r.len; rw [tcs_len] at this; omega

def turn (t : Tile) : Tile := (t.2.2.2, t.1, t.2.1, t.2.2.1)
def turnN : Nat → Tile → Tile
  | 0, t => t
  | n + 1, t => turnN n (turn t)
theorem turnN_succ : ∀ n t, turnN (n + 1) t = turn (turnN n t)
  | 0, t => rfl
  | n + 1, t => by rw [turnN, turnN_succ n (turn t), turnN]
def i64ok (n : Int) : Prop := -9223372036854775808 ≤ n ∧ n < 9223372036854775808
def tileok (c : Int) (t : Tile) : Bool := decide (0 ≤ t.1 ∧ t.1 ≤ c - 1) && decide (0 ≤ t.2.1 ∧ t.2.1 ≤ c - 1) && decide (0 ≤ t.2.2.1 ∧ t.2.2.1 ≤ c - 1) && decide (0 ≤ t.2.2.2 ∧ t.2.2.2 ≤ c - 1)
attribute [local simp] newK newO ixA ldI ldA stN st1 Cl.range cell Cl.cells putN put1 owned get_app get_app0 set_app set_app0 Pt.add splice Ext.app Ext.refl cutA isPt

theorem sides_c (t : Tile) (h : H) : callA SP i_impl_Tile_sides [.agg (tc t), i64 3, i64 0, i64 1, i64 2] h fun r h' => r = tc (turn t) ∧ Ext h h' := by
  apply impl_Tile_sides_call
  simp [impl_Tile_sides_main, tc, turn]
theorem l01In_c (a b c : Int) (h : H) : callB SP i_spec_l01In [i64 a, i64 b, i64 c] h fun r h' => r = decide (b ≤ a ∧ a ≤ c) ∧ h' = h := by
  apply spec_l01In_call
  unfold spec_l01In_main
  refine bif_dec (fun h1 => ?_) (fun h1 => ?_)
  all_goals simp; try omega
theorem within_c (a b c : Int) (h : H) : callB SP i_impl_within [i64 a, i64 b, i64 c] h fun r h' => r = decide (b ≤ a ∧ a ≤ c) ∧ h' = h := by
  apply impl_within_call
  unfold impl_within_main
  refine bif_dec (fun h1 => ?_) (fun h1 => ?_)
  all_goals simp; try omega
/-! ### search -/
def findI {α : Type} (q : α → Bool) (l : List α) : Int := match l.findIdx? q with | some i => (i : Int) | none => -1
theorem findI_hit {α : Type} {q : α → Bool} {l : List α} {i : Nat} {x : α} (hx : l[i]? = some x) (hq : q x = true) (hn : ∀ j y, j < i → l[j]? = some y → q y = false) : findI q l = i := by
  unfold findI
  have : l.findIdx? q = some i := by
    rw [List.findIdx?_eq_some_iff_getElem]
    obtain ⟨h1, h2⟩ := List.getElem?_eq_some_iff.1 hx
    refine ⟨h1, by rw [h2]; exact hq, fun j hj => ?_⟩
    rw [hn j _ hj (List.getElem?_eq_getElem (by omega))]; simp
  rw [this]
theorem findI_none {α : Type} {q : α → Bool} {l : List α} (hn : ∀ y ∈ l, q y = false) : findI q l = -1 := by
  unfold findI
  have : l.findIdx? q = none := by
    rw [List.findIdx?_eq_none_iff]
    intro x hx; rw [hn x hx]
  rw [this]
theorem findI_ge {α : Type} (q : α → Bool) (l : List α) : decide (findI q l ≥ 0) = l.any q := by
  unfold findI
  cases h : l.findIdx? q with
  | none =>
    rw [List.findIdx?_eq_none_iff] at h
    have : l.any q = false := by rw [List.any_eq_false]; intro x hx; rw [h x hx]; simp
    rw [this]; simp
  | some i =>
    have h2 : l.any q = true := by
      rw [List.findIdx?_eq_some_iff_getElem] at h
      obtain ⟨h1, h2, _⟩ := h
      exact List.any_eq_true.2 ⟨_, List.getElem_mem h1, h2⟩
    rw [h2]; simp
theorem indexFunc_int_c {h0 : H} {s : Sl} {l : List Int} (r : Rd h0 s 1 (ic l)) (hl : l.length < 4000000000000000000) (g : Nat) (cap : List AVal) (q : Int → Bool)
    (hg : ∀ x ∈ l, ∀ h, Ext h0 h → callB SP g (i64 x :: cap) h fun b h' => b = q x ∧ Ext h h') : callI SP .i64 i_slices_IndexFunc_s_int64_int64_ [.sl s, .func g cap] h0 fun n h' => n = findI q l ∧ Ext h0 h' := by
  have hlen : s.len = l.length := by have := r.len; rw [ic_len] at this; omega
  apply slices_IndexFunc_s_int64_int64__call
  unfold slices_IndexFunc_s_int64_int64__main
  refine slices_IndexFunc_s_int64_int64__rule0 _ _ s _ _ (fun i h => 0 ≤ i ∧ i ≤ l.length ∧ Ext h0 h ∧ ∀ j y, j < i.toNat → l[j]? = some y → q y = false) (fun i _ => (l.length - i).toNat) ?_ _ ⟨by omega, by omega, Ext.refl _, fun j y hj => by omega⟩
  intro X i h ⟨i0, i1, hx, hn⟩ hX
  unfold slices_IndexFunc_s_int64_int64__b0
  refine bif_dec (fun hi => ?_) (fun hi => ?_)
  · refine (r.ext hx).ldI i0 (by omega) fun x hxe => via_func ?_
    refine (hg x (List.mem_of_getElem? hxe) h hx).to ?_
    rintro _ h' ⟨rfl, hx'⟩
    refine bif_b (fun hq => ?_) (fun hq => ?_)
    · refine ⟨i, rfl, ?_, hx.trans hx'⟩
      rw [findI_hit hxe hq hn]; omega
    · rw [w64_of (by omega) (by omega)]
      refine hX _ _ ⟨by omega, by omega, hx.trans hx', fun j y hj hy => ?_⟩ (by omega)
      by_cases hji : j = i.toNat
      · subst hji; rw [hxe] at hy; cases hy; exact hq
      · exact hn j y (by omega) hy
  · refine ⟨_, rfl, ?_, hx⟩
    rw [findI_none]
    intro y hy
    obtain ⟨j, hj, rfl⟩ := List.mem_iff_getElem.1 hy
    exact hn j _ (by omega) (List.getElem?_eq_getElem hj)
theorem containsFunc_int_c {h0 : H} {s : Sl} {l : List Int} (r : Rd h0 s 1 (ic l)) (hl : l.length < 4000000000000000000) (g : Nat) (cap : List AVal) (q : Int → Bool)
    (hg : ∀ x ∈ l, ∀ h, Ext h0 h → callB SP g (i64 x :: cap) h fun b h' => b = q x ∧ Ext h h') : callB SP i_slices_ContainsFunc_s_int64_int64_ [.sl s, .func g cap] h0 fun b h' => b = l.any q ∧ Ext h0 h' := by
  apply slices_ContainsFunc_s_int64_int64__call
  unfold slices_ContainsFunc_s_int64_int64__main
  refine (indexFunc_int_c r hl g cap q hg).to ?_
  rintro _ h' ⟨rfl, hx⟩
  exact ⟨_, rfl, findI_ge q l, hx⟩
/-! ### tiles -/
theorem isTile1_w (x c : Int) (o : Nat) (h : H) (ho : h[o]? = some (.own [i64 c])) : callB SP i_impl_isTile_1 [i64 x, .ptr ⟨some o, 1, 0⟩] h fun b h' => b = (!decide (0 ≤ x ∧ x ≤ w64 (c - 1))) ∧ h' = h := by
  apply impl_isTile_1_call
  unfold impl_isTile_1_main
  refine ⟨c, by simp [ho], ?_⟩
  dsimp only
  refine (within_c _ _ _ _).to ?_
  rintro _ _ ⟨rfl, rfl⟩
  exact ⟨_, rfl, rfl, rfl⟩
theorem isTile_w (t : Tile) (c : Int) (h : H) : callB SP i_impl_isTile [.agg (tc t), i64 c] h fun b h' => b = tileok (w64 (c - 1) + 1) t ∧ Ext h h' := by
  apply impl_isTile_call
  simp only [impl_isTile_main, newK, newO]
  refine ⟨rfl, ⟨by omega, by omega, by omega⟩, rfl, rfl, ?_⟩
  refine (containsFunc_int_c (l := [t.1, t.2.1, t.2.2.1, t.2.2.2]) ⟨rfl, .inr ⟨rfl, rfl, ?_⟩⟩ (by simp) i_impl_isTile_1 _ (fun x => !decide (0 ≤ x ∧ x ≤ w64 (c - 1))) ?_).to ?_
  · simp [tc, ic]
  · intro x _ h' hx
    refine (isTile1_w x c _ h' (hx.own (by simp))).to ?_
    rintro _ _ ⟨rfl, rfl⟩
    exact ⟨rfl, Ext.refl _⟩
  · rintro _ h' ⟨rfl, l, rfl⟩
    refine ⟨_, rfl, ?_, by simp⟩
    simp [tileok, Bool.and_assoc]
theorem isTile_c (t : Tile) (c : Int) (hc : i64ok (c - 1)) (h : H) : callB SP i_impl_isTile [.agg (tc t), i64 c] h fun b h' => b = tileok c t ∧ Ext h h' := by
  have := isTile_w t c h
  rw [w64_of hc.1 hc.2, Int.sub_add_cancel] at this
  exact this
theorem tcs_one (t : Tile) : tcs [t] = tc t := by simp [tcs]
theorem Rd.of_ow {h s z cs} (r : Ow h s z cs) : Rd h s z cs := r.rd
/-- The first n turns. -/
def turnsN : Nat → Tile → List Tile
  | 0, _ => []
  | n + 1, t => t :: turnsN n (turn t)
theorem turnsN_succ : ∀ n t, turnsN (n + 1) t = turnsN n t ++ [turnN n t]
  | 0, t => rfl
  | n + 1, t => by
    rw [turnsN, turnsN_succ n (turn t), turnsN]; rfl
theorem turnsN_len : ∀ n t, (turnsN n t).length = n
  | 0, t => rfl
  | n + 1, t => by rw [turnsN, List.length_cons, turnsN_len n]
theorem l01Tile_c (c : Int) (hc : i64ok (c - 1)) (t : Tile) (h : H) : callB SP i_spec_l01Tile [i64 c, .agg (tc t)] h fun b h' => b = tileok c t ∧ Ext h h' := by
  apply spec_l01Tile_call
  simp only [spec_l01Tile_main, newK]
  refine ⟨rfl, ?_⟩
  refine spec_l01Tile_rule0 _ _ _ _ (fun i h' => 0 ≤ i ∧ i ≤ 4 ∧ h' = h ++ [.own (tc t)] ∧ ∀ j y, j < i.toNat → [t.1, t.2.1, t.2.2.1, t.2.2.2][j]? = some y → 0 ≤ y ∧ y ≤ c - 1) (fun i _ => (4 - i).toNat) ?_ _ ⟨by omega, by omega, rfl, fun j y hj => by omega⟩
  rintro X i _ ⟨i0, i1, rfl, hn⟩ hX
  unfold spec_l01Tile_b0 spec_l01Tile_C0
  refine bif_dec (fun hi => ?_) (fun hi => ?_)
  · have hx : ∃ x, [t.1, t.2.1, t.2.2.1, t.2.2.2][i.toNat]? = some x := ⟨_, List.getElem?_eq_getElem (by simp; omega)⟩
    obtain ⟨x, hx⟩ := hx
    refine ⟨⟨i0, hi⟩, rfl, x, ?_, ?_⟩
    · have hg : (tc t)[i.toNat]? = some (i64 x) := by
        rw [show tc t = ic [t.1, t.2.1, t.2.2.1, t.2.2.2] from rfl]
        unfold ic
        rw [List.getElem?_map, hx]; rfl
      simp [hg, tc_len]
    · dsimp only
      rw [w64_of hc.1 hc.2, w64_of (by omega) (by omega)]
      refine (l01In_c _ _ _ _).to ?_
      rintro _ _ ⟨rfl, rfl⟩
      refine bif_not (fun hq => ?_) (fun hq => ?_)
      · refine ⟨_, rfl, ?_, by simp⟩
        rw [decide_eq_false_iff_not] at hq
        have hm := List.mem_of_getElem? hx
        simp only [List.mem_cons, List.not_mem_nil, or_false] at hm
        unfold tileok
        rcases hm with rfl | rfl | rfl | rfl <;> simp [hq]
      · refine hX _ _ ⟨by omega, by omega, rfl, fun j y hj hy => ?_⟩ (by omega)
        by_cases hji : j = i.toNat
        · subst hji; rw [hx] at hy; cases hy; exact of_decide_eq_true hq
        · exact hn j y (by omega) hy
  · refine ⟨_, rfl, ?_, by simp⟩
    unfold tileok
    have h4 : i.toNat = 4 := by omega
    rw [h4] at hn
    have a0 := hn 0 _ (by omega) rfl
    have a1 := hn 1 _ (by omega) rfl
    have a2 := hn 2 _ (by omega) rfl
    have a3 := hn 3 _ (by omega) rfl
    simp [a0, a1, a2, a3]
def tilesCode (l : List Tile) : Int := if l.all (tileok 6) then 0 else 2
/-! ### TurnsOf -/
def turnsOf (t : Tile) : List Tile × Int := if tileok 6 t then (turnsN 4 t, 0) else ([], 2)
/-! ### the laws' helpers -/
theorem toTile_c (t : Tile) (h : H) : callA SP i_laws_toTile [.agg (tc t)] h fun r h' => r = tc t ∧ Ext h h' := by
  apply laws_toTile_call
  simp only [laws_toTile_main, newK, newO]
  refine ⟨rfl, ?_⟩
  refine laws_toTile_unroll0 _ _ _ _ _ _ _ (bif_dec (fun _ => ?_) (fun hn => absurd (by omega) hn))
  have e1 : w64 (0 + 1) = 1 := w64_of (by omega) (by omega)
  have e2 : w64 (1 + 1) = 2 := w64_of (by omega) (by omega)
  have e3 : w64 (2 + 1) = 3 := w64_of (by omega) (by omega)
  have e4 : w64 (3 + 1) = 4 := w64_of (by omega) (by omega)
  rw [e1]
  simp [tc]
  refine laws_toTile_unroll0 _ _ _ _ _ _ _ (bif_dec (fun _ => ?_) (fun hn => absurd (by omega) hn))
  rw [e2]
  simp
  refine laws_toTile_unroll0 _ _ _ _ _ _ _ (bif_dec (fun _ => ?_) (fun hn => absurd (by omega) hn))
  rw [e3]
  simp
  refine laws_toTile_unroll0 _ _ _ _ _ _ _ (bif_dec (fun _ => ?_) (fun hn => absurd (by omega) hn))
  rw [e4]
  simp
  refine laws_toTile_unroll0 _ _ _ _ _ _ _ (bif_dec (fun hn => absurd hn (by omega)) (fun hn => ?_))
  simp [laws_toTile_C0]
def tl (t : Tile) : List Int := [t.1, t.2.1, t.2.2.1, t.2.2.2]
theorem tc_tl (t : Tile) : tc t = ic (tl t) := rfl
theorem tl_inj {a b : Tile} (h : tl a = tl b) : a = b := by
  obtain ⟨a1, a2, a3, a4⟩ := a
  obtain ⟨b1, b2, b3, b4⟩ := b
  simp [tl] at h
  simp [h]
theorem eqTile_c (a b : Tile) (h : H) : callB SP i_laws_eqTile [.agg (tc a), .agg (tc b)] h fun r h' => r = (a == b) ∧ Ext h h' := by
  apply laws_eqTile_call
  simp only [laws_eqTile_main, newK]
  refine ⟨rfl, rfl, ?_⟩
  refine laws_eqTile_rule0 _ _ _ _ (fun i h' => 0 ≤ i ∧ i ≤ 4 ∧ h' = h ++ [.own (tc a)] ++ [.own (tc b)] ∧ ∀ j, j < i.toNat → (tl a)[j]? = (tl b)[j]?) (fun i _ => (4 - i).toNat) ?_ _ ⟨by omega, by omega, rfl, fun j hj => by omega⟩
  rintro X i _ ⟨i0, i1, rfl, hn⟩ hX
  unfold laws_eqTile_b0 laws_eqTile_C0
  refine bif_dec (fun hi => ?_) (fun hi => ?_)
  · have hx : (tl a)[i.toNat]? = some _ := List.getElem?_eq_getElem (by simp [tl]; omega)
    have hy : (tl b)[i.toNat]? = some _ := List.getElem?_eq_getElem (by simp [tl]; omega)
    refine ixA_ldI (cs := tc a) (by simp) rfl i0 hi (ic_at hx) (ixA_ldI (cs := tc b) (by simp) rfl i0 hi (ic_at hy) (bif_ne (fun hq => ?_) (fun hq => ?_)))
    · refine ⟨_, rfl, ?_, by simp⟩
      symm
      rw [beq_eq_false_iff_ne]
      rintro rfl
      exact hq rfl
    · rw [w64_of (by omega) (by omega)]
      refine hX _ _ ⟨by omega, by omega, rfl, fun j hj => ?_⟩ (by omega)
      by_cases hji : j = i.toNat
      · subst hji; rw [hx, hy, hq]
      · exact hn j (by omega)
  · refine ⟨_, rfl, ?_, by simp⟩
    symm
    rw [beq_iff_eq]
    apply tl_inj
    apply List.ext_getElem?
    intro j
    by_cases hj : j < 4
    · exact hn j (by omega)
    · rw [List.getElem?_eq_none (by simp [tl]; omega), List.getElem?_eq_none (by simp [tl]; omega)]
theorem eqTileS_c {h0 : H} {s s' : Sl} {l l' : List Tile} (r : Rd h0 s 4 (tcs l)) (r' : Rd h0 s' 4 (tcs l')) (hl : l.length < 4000000000000000000) : callB SP i_laws_eqTileS [.sl s, .sl s'] h0 fun b h' => b = (l == l') ∧ Ext h0 h' := by
  have hlen : s.len = l.length := r.tlen
  have hlen' : s'.len = l'.length := r'.tlen
  apply laws_eqTileS_call
  unfold laws_eqTileS_main
  refine bif_ne (fun hq => ?_) (fun hq => ?_)
  · refine ⟨_, rfl, ?_, Ext.refl _⟩
    cases hb : l == l' with
    | false => rfl
    | true => rw [beq_iff_eq] at hb; subst hb; omega
  refine laws_eqTileS_rule0 _ _ _ _ (fun i h => 0 ≤ i ∧ i ≤ l.length ∧ Ext h0 h ∧ ∀ j, j < i.toNat → l[j]? = l'[j]?) (fun i _ => (l.length - i).toNat) ?_ _ ⟨by omega, by omega, Ext.refl _, fun j hj => by omega⟩
  intro X i h ⟨i0, i1, hx, hn⟩ hX
  unfold laws_eqTileS_b0 laws_eqTileS_C0
  refine bif_dec (fun hi => ?_) (fun hi => ?_)
  · refine (r.ext hx).ldT i0 (by omega) fun x hxe => (r'.ext hx).ldT i0 (by omega) fun y hye => ?_
    refine (eqTile_c x y h).to ?_
    rintro _ h' ⟨rfl, hx'⟩
    refine bif_not (fun hq => ?_) (fun hq => ?_)
    · refine ⟨_, rfl, ?_, hx.trans hx'⟩
      cases hb : l == l' with
      | false => rfl
      | true =>
        rw [beq_iff_eq] at hb; subst hb
        rw [hxe] at hye; cases hye
        simp at hq
    · rw [w64_of (by omega) (by omega)]
      refine hX _ _ ⟨by omega, by omega, hx.trans hx', fun j hj => ?_⟩ (by omega)
      by_cases hji : j = i.toNat
      · subst hji
        rw [beq_iff_eq] at hq
        rw [hxe, hye, hq]
      · exact hn j (by omega)
  · refine ⟨_, rfl, ?_, hx⟩
    symm
    rw [beq_iff_eq]
    apply List.ext_getElem?
    intro j
    by_cases hj : j < l.length
    · exact hn j (by omega)
    · rw [List.getElem?_eq_none (by omega), List.getElem?_eq_none (by omega)]
/-- k, k + 1, .. -/
def upto (k : Int) : Nat → List Int
  | 0 => []
  | n + 1 => k :: upto (k + 1) n
theorem upto_len : ∀ n k, (upto k n).length = n
  | 0, _ => rfl
  | n + 1, k => by simp [upto, upto_len n]
theorem upto_at : ∀ n k i, i < n → (upto k n)[i]? = some (k + i)
  | n + 1, k, 0, _ => by simp [upto]
  | n + 1, k, i + 1, h => by
    rw [upto, List.getElem?_cons_succ, upto_at n (k + 1) i (by omega)]
    congr 1; push_cast; omega
/-- a store into a view that is owned whole -/
theorem Ow.st1 {h : H} {s : Sl} {z : Nat} {l : List Int} (r : Ow h s z (ic l)) {i j : Int} (hz : 0 < z) (h0 : 0 ≤ i) (h1 : i < s.len) (j0 : 0 ≤ j) (j1 : j < z) (x : Int) {K : H → Prop}
    (hk : ∀ h', Ow h' s z (ic (l.set (i.toNat * z + j.toNat) x)) → But s.o h h' → h'.length = h.length → K h') : ixS s z i fun p => ixA p z 1 j fun q => Cl.st1 q (i64 x) h K := by
  obtain ⟨a, b⟩ | ⟨o, a, b, c, d, e⟩ := r.at_
  · omega
  · have hlen := r.len
    rw [ic_len] at hlen
    have hb : i.toNat * z + j.toNat < l.length := by
      have : (i.toNat + 1) * z ≤ s.len * z := Nat.mul_le_mul_right _ (by omega)
      rw [Nat.add_mul] at this; omega
    have ho : o < h.length := (List.getElem?_eq_some_iff.1 e).1
    refine ⟨⟨h0, h1⟩, b, by simp [a], ⟨j0, j1⟩, by simp [Pt.add, a], h.set o (.own (ic (l.set (i.toNat * z + j.toNat) x))), ?_, hk _ ⟨by rw [ic_len]; simpa using hlen, .inr ⟨o, a, b, c, d, by simp [List.getElem?_set, ho]⟩⟩ ?_ (by simp)⟩
    · unfold put1 owned Pt.add
      have : (ic l).set (i.toNat * z + j.toNat) (i64 x) = ic (l.set (i.toNat * z + j.toNat) x) := by unfold ic; rw [List.map_set]
      simp [a, c, d, e, ic_len, hlen, this]
      omega
    · rw [a]
      exact ⟨by simp, fun k hk hn => by rw [List.getElem?_set, if_neg (fun e => hn (by rw [e]))]⟩
theorem markTileS_k {h0 : H} {s : Sl} {l : List Int} (r : Ow h0 s 4 (ic l)) (k0 : Int) (hk0 : 0 ≤ k0) (hk1 : k0 ≤ 1000000000000000000) (hl : s.len < 1000000000000000000) : callI SP .i64 i_laws_markTileS [.sl s, i64 k0] h0 fun n h' => n = k0 + 4 * s.len ∧ Ow h' s 4 (ic (upto k0 (s.len * 4))) ∧ But s.o h0 h' ∧ h'.length = h0.length := by
  have hlen := r.len
  rw [ic_len] at hlen
  apply laws_markTileS_call
  unfold laws_markTileS_main
  refine laws_markTileS_rule0 _ _ _ (fun k i h => 0 ≤ i ∧ i ≤ s.len ∧ k = k0 + 4 * i ∧ ∃ l', Ow h s 4 (ic l') ∧ (∀ j : Nat, j < i.toNat * 4 → l'[j]? = some (k0 + (j : Int))) ∧ But s.o h0 h ∧ h.length = h0.length) (fun k i _ => (s.len - i).toNat) ?_ _ _ ⟨by omega, by omega, by omega, l, r, fun j hj => by omega, But.refl _ _, rfl⟩
  rintro X k i h ⟨i0, i1, rfl, l1, o1, e1, b1, n1⟩ hX
  unfold laws_markTileS_b0 laws_markTileS_C0
  refine bif_dec (fun hi => ?_) (fun hi => ?_)
  · refine laws_markTileS_rule2 _ _ X s i (fun k j h => 0 ≤ j ∧ j ≤ 4 ∧ k = k0 + 4 * i + j ∧ ∃ l', Ow h s 4 (ic l') ∧ (∀ j2 : Nat, j2 < i.toNat * 4 + j.toNat → l'[j2]? = some (k0 + (j2 : Int))) ∧ But s.o h0 h ∧ h.length = h0.length) (fun k j _ => (4 - j).toNat) ?_ _ _ ⟨by omega, by omega, by omega, l1, o1, fun j hj => e1 j (by omega), b1, n1⟩
    rintro Y k j h' ⟨j0, j1, rfl, l2, o2, e2, b2, n2⟩ hY
    unfold laws_markTileS_b2 laws_markTileS_C2 laws_markTileS_C1
    refine bif_dec (fun hj => ?_) (fun hj => ?_)
    · refine o2.st1 (by omega) i0 hi j0 hj _ fun h3 o3 b3 n3 => ?_
      rw [w64_of (by omega) (by omega), w64_of (by omega) (by omega)]
      refine hY _ _ _ ⟨by omega, by omega, by omega, _, o3, fun j2 hj2 => ?_, b2.trans b3, by omega⟩ (by omega)
      have hl2 := o2.len
      rw [ic_len] at hl2
      rw [List.getElem?_set]
      split
      · next e =>
        rw [if_pos (by omega)]
        congr 1; omega
      · exact e2 j2 (by omega)
    · rw [w64_of (by omega) (by omega)]
      have : j = 4 := by omega
      subst this
      refine hX _ _ _ ⟨by omega, by omega, by omega, l2, o2, fun j hj => e2 j (by omega), b2, n2⟩ (by omega)
  · have : i = s.len := by omega
    subst this
    refine ⟨_, rfl, by omega, ?_, b1, n1⟩
    have : l1 = upto k0 (s.len * 4) := by
      have hl1 := o1.len
      rw [ic_len] at hl1
      apply List.ext_getElem?
      intro j
      by_cases hj : j < s.len * 4
      · rw [e1 j (by omega), upto_at _ _ _ hj]
      · rw [List.getElem?_eq_none (by omega), List.getElem?_eq_none (by rw [upto_len]; omega)]
    rw [← this]; exact o1
theorem heldTileS_k {h0 : H} {s : Sl} (k0 : Int) (hk0 : 0 ≤ k0) (hk1 : k0 ≤ 1000000000000000000) (r : Rd h0 s 4 (ic (upto k0 (s.len * 4)))) (hl : s.len < 1000000000000000000) : callI SP .i64 i_laws_heldTileS [.sl s, i64 k0] h0 fun n h' => n = k0 + 4 * s.len ∧ h' = h0 := by
  apply laws_heldTileS_call
  unfold laws_heldTileS_main
  refine laws_heldTileS_rule0 _ _ _ (fun k i h => 0 ≤ i ∧ i ≤ s.len ∧ k = k0 + 4 * i ∧ h = h0) (fun k i _ => (s.len - i).toNat) ?_ _ _ ⟨by omega, by omega, by omega, rfl⟩
  rintro X k i _ ⟨i0, i1, rfl, rfl⟩ hX
  unfold laws_heldTileS_b0 laws_heldTileS_C0
  refine bif_dec (fun hi => ?_) (fun hi => ?_)
  · refine laws_heldTileS_rule2 _ _ X s i (fun k j h' => 0 ≤ j ∧ j ≤ 4 ∧ k = k0 + 4 * i + j ∧ h' = _) (fun k j _ => (4 - j).toNat) ?_ _ _ ⟨by omega, by omega, by omega, rfl⟩
    rintro Y k j _ ⟨j0, j1, rfl, rfl⟩ hY
    unfold laws_heldTileS_b2 laws_heldTileS_C2 laws_heldTileS_C1
    refine bif_dec (fun hj => ?_) (fun hj => ?_)
    · refine r.ix i0 hi fun p po pr => ⟨⟨j0, hj⟩, po, k0 + 4 * i + j, ?_, ?_⟩
      · have := cell_of_range pr (i := j.toNat) (by omega)
        rw [Pt.add, Nat.mul_one, this, List.getElem?_take, if_pos (by omega), List.getElem?_drop, ic_at (upto_at _ _ _ (by omega))]
        unfold i64; congr 2; push_cast; omega
      · refine bif_ne (fun hq => absurd rfl hq) (fun _ => ?_)
        rw [w64_of (by omega) (by omega), w64_of (by omega) (by omega)]
        exact hY _ _ _ ⟨by omega, by omega, by omega, rfl⟩ (by omega)
    · rw [w64_of (by omega) (by omega)]
      exact hX _ _ _ ⟨by omega, by omega, by omega, rfl⟩ (by omega)
  · exact ⟨_, rfl, by omega, rfl⟩
theorem markTileS_c {h0 : H} {s : Sl} {l : List Int} (r : Ow h0 s 4 (ic l)) (hl : s.len < 1000000000000000000) : callI SP .i64 i_laws_markTileS [.sl s, i64 1] h0 fun n h' => n = 1 + 4 * s.len ∧ Ow h' s 4 (ic (upto 1 (s.len * 4))) ∧ But s.o h0 h' ∧ h'.length = h0.length := markTileS_k r 1 (by omega) (by omega) hl
theorem heldTileS_c {h0 : H} {s : Sl} (r : Rd h0 s 4 (ic (upto 1 (s.len * 4)))) (hl : s.len < 1000000000000000000) : callI SP .i64 i_laws_heldTileS [.sl s, i64 1] h0 fun n h' => n = 1 + 4 * s.len ∧ h' = h0 := heldTileS_k 1 (by omega) (by omega) r hl
attribute [local simp] newK newO ixA ldI ldA stN st1 Cl.range cell Cl.cells putN put1 owned get_app get_app0 set_app set_app0 Pt.add splice Ext.app Ext.refl cutA isPt
/-! ### comparing -/
def cmpL : List Int → List Int → Int
  | [], [] => 0
  | [], _ :: _ => -1
  | _ :: _, [] => 1
  | a :: l, b :: m => if a < b then -1 else if a > b then 1 else cmpL l m
theorem isNaN_c (x : Int) (h : H) : callB SP i_cmp_isNaN_int64_ [i64 x] h fun b h' => b = false ∧ h' = h := by
  apply cmp_isNaN_int64__call
  unfold cmp_isNaN_int64__main
  exact ⟨_, rfl, by simp, rfl⟩
theorem cmpCompare_c (x y : Int) (h : H) : callI SP .i64 i_cmp_Compare_int64_ [i64 x, i64 y] h fun n h' => n = (if x < y then -1 else if x > y then 1 else 0) ∧ h' = h := by
  apply cmp_Compare_int64__call
  unfold cmp_Compare_int64__main
  refine (isNaN_c x h).to ?_
  rintro _ _ ⟨rfl, rfl⟩
  refine (isNaN_c y _).to ?_
  rintro _ _ ⟨rfl, rfl⟩
  refine bif_dec (fun h1 => ⟨_, rfl, by simp [h1], rfl⟩) (fun h1 => bif_dec (fun h2 => ⟨_, rfl, by simp [h1, h2], rfl⟩) (fun h2 => ⟨_, rfl, by simp [h1, h2], rfl⟩))
theorem drop_cons {α : Type} {l : List α} {i : Nat} {x : α} (e : l[i]? = some x) : l.drop i = x :: l.drop (i + 1) := by
  obtain ⟨h, rfl⟩ := List.getElem?_eq_some_iff.1 e
  exact List.drop_eq_getElem_cons h
theorem sCompare_c {h0 : H} {s s' : Sl} {l l' : List Int} (r : Rd h0 s 1 (ic l)) (r' : Rd h0 s' 1 (ic l')) (hl : l.length < 4000000000000000000) : callI SP .i64 i_slices_Compare_s_int64_int64_ [.sl s, .sl s'] h0 fun n h' => n = cmpL l l' ∧ h' = h0 := by
  have hlen : s.len = l.length := by have := r.len; rw [ic_len] at this; omega
  have hlen' : s'.len = l'.length := by have := r'.len; rw [ic_len] at this; omega
  apply slices_Compare_s_int64_int64__call
  unfold slices_Compare_s_int64_int64__main
  refine slices_Compare_s_int64_int64__rule0 _ _ s s' s _ (fun i h => 0 ≤ i ∧ i ≤ l.length ∧ i ≤ l'.length ∧ h = h0 ∧ cmpL l l' = cmpL (l.drop i.toNat) (l'.drop i.toNat)) (fun i _ => (l.length - i).toNat) ?_ _ ⟨by omega, by omega, by omega, rfl, by simp⟩
  rintro X i _ ⟨i0, i1, i2, rfl, he⟩ hX
  unfold slices_Compare_s_int64_int64__b0 slices_Compare_s_int64_int64__C0
  refine bif_dec (fun hi => ?_) (fun hi => ?_)
  · refine r.ldI i0 (by omega) fun x hx => bif_dec (fun hj => ?_) (fun hj => ?_)
    · refine ⟨_, rfl, ?_, rfl⟩
      rw [he, drop_cons hx, List.drop_eq_nil_of_le (show l'.length ≤ i.toNat by omega)]; rfl
    · refine r'.ldI i0 (by omega) fun y hy => ?_
      refine (cmpCompare_c x y _).to ?_
      rintro _ _ ⟨rfl, rfl⟩
      rw [drop_cons hx, drop_cons hy, cmpL] at he
      refine bif_ne (fun hq => ⟨_, rfl, ?_, rfl⟩) (fun hq => ?_)
      · rw [he]
        split
        · rfl
        · split
          · rfl
          · next h1 h2 => simp [h1, h2] at hq
      · rw [w64_of (by omega) (by omega)]
        refine hX _ _ ⟨by omega, by omega, by omega, rfl, ?_⟩ (by omega)
        rw [he, show (i + 1).toNat = i.toNat + 1 by omega]
        split
        · next h1 => simp [h1] at hq
        · split
          · next h1 h2 => simp [h1, h2] at hq
          · rfl
  · have e1 : l.drop i.toNat = [] := List.drop_eq_nil_of_le (by omega)
    refine bif_dec (fun hj => ⟨_, rfl, ?_, rfl⟩) (fun hj => ⟨_, rfl, ?_, rfl⟩)
    · have hy : l'[i.toNat]? = some _ := List.getElem?_eq_getElem (by omega)
      rw [he, e1, drop_cons hy]; rfl
    · rw [he, e1, List.drop_eq_nil_of_le (show l'.length ≤ i.toNat by omega)]; rfl
def cmpT (a b : Tile) : Int := cmpL (tl a) (tl b)
theorem compare_c (a b : Tile) (h : H) : callI SP .i64 i_impl_compare [.agg (tc a), .agg (tc b)] h fun n h' => n = cmpT a b ∧ Ext h h' := by
  apply impl_compare_call
  simp only [impl_compare_main, newK]
  refine ⟨rfl, rfl, ⟨by omega, by omega, by omega⟩, rfl, rfl, ⟨by omega, by omega, by omega⟩, rfl, rfl, ?_⟩
  refine (sCompare_c (l := tl a) (l' := tl b) ⟨rfl, .inr ⟨rfl, rfl, ?_⟩⟩ ⟨rfl, .inr ⟨rfl, rfl, ?_⟩⟩ (by simp [tl])).to ?_
  · simp [tc, tl, ic]
  · simp [tc, tl, ic]
  · rintro _ _ ⟨rfl, rfl⟩
    exact ⟨_, rfl, rfl, by simp⟩
/-- The less of two tiles; the first, if they are alike. -/
def lessT (m x : Tile) : Tile := if cmpT x m < 0 then x else m
/-- The class: the least turn. -/
def cls (t : Tile) : Tile := (turnsN 3 (turn t)).foldl lessT t
theorem l01Before_c (a b : Tile) (h : H) : callB SP i_spec_l01Before [.agg (tc a), .agg (tc b)] h fun r h' => r = decide (cmpT a b < 0) ∧ Ext h h' := by
  apply spec_l01Before_call
  simp only [spec_l01Before_main, newK]
  refine ⟨rfl, rfl, ?_⟩
  refine spec_l01Before_rule0 _ _ _ _ (fun i h' => 0 ≤ i ∧ i ≤ 4 ∧ h' = h ++ [.own (tc a)] ++ [.own (tc b)] ∧ cmpT a b = cmpL ((tl a).drop i.toNat) ((tl b).drop i.toNat)) (fun i _ => (4 - i).toNat) ?_ _ ⟨by omega, by omega, rfl, by simp [cmpT]⟩
  rintro X i _ ⟨i0, i1, rfl, he⟩ hX
  unfold spec_l01Before_b0 spec_l01Before_C0
  refine bif_dec (fun hi => ?_) (fun hi => ?_)
  · have hx : (tl a)[i.toNat]? = some _ := List.getElem?_eq_getElem (by simp [tl]; omega)
    have hy : (tl b)[i.toNat]? = some _ := List.getElem?_eq_getElem (by simp [tl]; omega)
    rw [drop_cons hx, drop_cons hy, cmpL] at he
    have gx := ic_at hx
    have gy := ic_at hy
    refine ixA_ldI (cs := tc a) (by simp) rfl i0 hi gx (ixA_ldI (cs := tc b) (by simp) rfl i0 hi gy (bif_ne (fun hq => ?_) (fun hq => ?_)))
    · refine ixA_ldI (cs := tc a) (by simp) rfl i0 hi gx (ixA_ldI (cs := tc b) (by simp) rfl i0 hi gy ⟨_, rfl, ?_, by simp⟩)
      rw [he]
      by_cases h1 : (tl a)[i.toNat]'(by simp [tl]; omega) < (tl b)[i.toNat]'(by simp [tl]; omega)
      · simp [h1]
      · have h2 : (tl a)[i.toNat]'(by simp [tl]; omega) > (tl b)[i.toNat]'(by simp [tl]; omega) := by omega
        simp [h1, h2]
    · rw [w64_of (by omega) (by omega)]
      refine hX _ _ ⟨by omega, by omega, rfl, ?_⟩ (by omega)
      rw [he, if_neg (by omega), if_neg (by omega), show (i + 1).toNat = i.toNat + 1 by omega]
  · refine ⟨_, rfl, ?_, by simp⟩
    rw [he, List.drop_eq_nil_of_le (by simp [tl]; omega), List.drop_eq_nil_of_le (by simp [tl]; omega)]
    rfl
/-- a store of one cell into a view that is owned whole -/
theorem Ow.stC {h : H} {s : Sl} {cs : List AVal} (r : Ow h s 1 cs) {i : Int} (h0 : 0 ≤ i) (h1 : i < s.len) (v : AVal) {K : H → Prop}
    (hk : ∀ h', Ow h' s 1 (cs.set i.toNat v) → But s.o h h' → h'.length = h.length → K h') : ixS s 1 i fun p => Cl.st1 p v h K := by
  obtain ⟨a, b⟩ | ⟨o, a, b, c, d, e⟩ := r.at_
  · omega
  · have hlen := r.len
    have ho : o < h.length := (List.getElem?_eq_some_iff.1 e).1
    refine ⟨⟨h0, h1⟩, b, by simp [a], h.set o (.own (cs.set i.toNat v)), ?_, hk _ ⟨by simpa using hlen, .inr ⟨o, a, b, c, d, by simp [List.getElem?_set, ho]⟩⟩ ?_ (by simp)⟩
    · unfold put1 owned
      simp [a, c, d, e, hlen]
      omega
    · rw [a]
      exact ⟨by simp, fun k hk hn => by rw [List.getElem?_set, if_neg (fun e => hn (by rw [e]))]⟩
theorem Ow.stI {h : H} {s : Sl} {l : List Int} (r : Ow h s 1 (ic l)) {i : Int} (h0 : 0 ≤ i) (h1 : i < s.len) (x : Int) {K : H → Prop}
    (hk : ∀ h', Ow h' s 1 (ic (l.set i.toNat x)) → But s.o h h' → h'.length = h.length → K h') : ixS s 1 i fun p => Cl.st1 p (.int .i64 x) h K :=
  r.stC h0 h1 _ fun h' o b n => hk h' (by
    have : (ic l).set i.toNat (i64 x) = ic (l.set i.toNat x) := by unfold ic; rw [List.map_set]
    rw [← this]; exact o) b n
/-- a store of an element of several cells into a view that is owned whole -/
theorem Ow.stA {h : H} {s : Sl} {z : Nat} {cs : List AVal} (r : Ow h s z cs) {i : Int} (h0 : 0 ≤ i) (h1 : i < s.len) (vs : List AVal) (hv : vs.length = z) {K : H → Prop}
    (hk : ∀ h', Ow h' s z (splice cs (i.toNat * z) vs) → But s.o h h' → h'.length = h.length → K h') : ixS s z i fun p => Cl.stN p z vs h K := by
  obtain ⟨a, b⟩ | ⟨o, a, b, c, d, e⟩ := r.at_
  · omega
  · have hlen := r.len
    have ho : o < h.length := (List.getElem?_eq_some_iff.1 e).1
    have hb : i.toNat * z + z ≤ s.len * z := by
      have : (i.toNat + 1) * z ≤ s.len * z := Nat.mul_le_mul_right _ (by omega)
      rw [Nat.add_mul] at this; omega
    have hsl : (splice cs (i.toNat * z) vs).length = s.len * z := by
      unfold splice
      rw [List.length_append, List.length_append, List.length_take, List.length_drop, hlen, hv]; omega
    refine ⟨⟨h0, h1⟩, b, by simp [a], h.set o (.own (splice cs (i.toNat * z) vs)), hv, ?_, hk _ ⟨hsl, .inr ⟨o, a, b, c, d, by simp [List.getElem?_set, ho]⟩⟩ ?_ (by simp)⟩
    · unfold putN owned
      simp [a, c, d, e, hlen, hv]
      omega
    · rw [a]
      exact ⟨by simp, fun k hk hn => by rw [List.getElem?_set, if_neg (fun e => hn (by rw [e]))]⟩
theorem tcs_set : ∀ (l : List Tile) (i : Nat) (t : Tile), i < l.length → splice (tcs l) (i * 4) (tc t) = tcs (l.set i t)
  | [], i, t, h => by simp at h
  | a :: l, 0, t, h => by
    unfold splice
    simp [tcs_cons, tc]
  | a :: l, i + 1, t, h => by
    have ih := tcs_set l i t (by simpa using h)
    rw [List.set_cons_succ, tcs_cons, tcs_cons, ← ih]
    unfold splice
    rw [show (i + 1) * 4 = (tc a).length + i * 4 by rw [tc_len]; omega, show (tc a).length + i * 4 + (tc t).length = (tc a).length + (i * 4 + (tc t).length) by omega]
    rw [List.take_length_add_append, List.drop_length_add_append]
    simp
theorem toTileS_c {h0 : H} {s : Sl} {ts : List Tile} (r : Rd h0 s 4 (tcs ts)) (hl : ts.length ≤ 1048576) : callS SP i_laws_toTileS [.sl s] h0 fun s' h' => Ow h' s' 4 (tcs ts) ∧ Fr h0.length s' ∧ Ext h0 h' := by
  have hlen : s.len = ts.length := r.tlen
  apply laws_toTileS_call
  unfold laws_toTileS_main
  refine mkS_ow (by omega) (by unfold lim; omega) fun s' h1 ho hlen' hso he => ?_
  have hz : (List.replicate (s.len : Int).toNat [AVal.int .i64 0, .int .i64 0, .int .i64 0, .int .i64 0]).flatten = tcs (List.replicate ts.length ((0, 0, 0, 0) : Tile)) := by
    unfold tcs
    rw [List.map_replicate, ← hlen]; rfl
  rw [hz] at ho
  refine laws_toTileS_rule0 _ _ s s' (fun i h' => 0 ≤ i ∧ i ≤ ts.length ∧ Ext h0 h' ∧ ∃ l : List Tile, l.length = ts.length ∧ Ow h' s' 4 (tcs l) ∧ ∀ j, j < i.toNat → l[j]? = ts[j]?) (fun i _ => (ts.length - i).toNat) ?_ _ ⟨by omega, by omega, by rw [he]; exact Ext.app _ _, _, by simp, ho, fun j hj => by omega⟩
  rintro X i h' ⟨i0, i1, x, l, ll, ol, hj⟩ hX
  unfold laws_toTileS_b0 laws_toTileS_C0
  have hsl : s'.len = ts.length := by rw [hlen', ← hlen]; omega
  refine bif_dec (fun hi => ?_) (fun hi => ?_)
  · refine (r.ext x).ldT i0 (by omega) fun t ht => ?_
    refine (toTile_c t h').to ?_
    rintro _ h2 ⟨rfl, x2⟩
    refine (ol.ext x2).stA i0 (by omega) _ rfl fun h3 o3 b3 n3 => ?_
    rw [w64_of (by omega) (by omega)]
    rw [tcs_set l i.toNat t (by omega)] at o3
    refine hX _ _ ⟨by omega, by omega, (x.trans x2).but_ b3 (by rw [hso]; exact some_le (Nat.le_refl _)), _, by simpa using ll, o3, fun j hj2 => ?_⟩ (by omega)
    rw [List.getElem?_set]
    split
    · next e => subst e; rw [if_pos (by omega), ht]
    · exact hj j (by omega)
  · refine ⟨_, rfl, ?_, fun o e => by rw [hso] at e; cases e; exact Nat.le_refl _, x⟩
    have : l = ts := by
      apply List.ext_getElem?
      intro j
      by_cases h : j < ts.length
      · exact hj j (by omega)
      · rw [List.getElem?_eq_none (by omega), List.getElem?_eq_none (by omega)]
    rw [← this]; exact ol
theorem szTileS_c (s : Sl) (left : Int) (hl : s.len ≤ 9223372036854775807) (h1 : 0 ≤ left) (h2 : left ≤ 1048576) (h : H) : callI SP .i64 i_laws_szTileS [.sl s, i64 left] h fun n h' => n = (if left - s.len < 0 then -1 else left - s.len) ∧ h' = h := by
  apply laws_szTileS_call
  unfold laws_szTileS_main
  rw [w64_of (by omega) (by omega)]
  refine bif_dec (fun hi => ⟨_, rfl, by simp [hi], rfl⟩) (fun hi => ⟨_, rfl, by simp [hi], rfl⟩)
theorem eqInt64S_c {h0 : H} {s s' : Sl} {l l' : List Int} (r : Rd h0 s 1 (ic l)) (r' : Rd h0 s' 1 (ic l')) (hl : l.length < 4000000000000000000) : callB SP i_laws_eqInt64S [.sl s, .sl s'] h0 fun b h' => b = (l == l') ∧ h' = h0 := by
  have hlen : s.len = l.length := by have := r.len; rw [ic_len] at this; omega
  have hlen' : s'.len = l'.length := by have := r'.len; rw [ic_len] at this; omega
  apply laws_eqInt64S_call
  unfold laws_eqInt64S_main
  refine bif_ne (fun hq => ?_) (fun hq => ?_)
  · refine ⟨_, rfl, ?_, rfl⟩
    cases hb : l == l' with
    | false => rfl
    | true => rw [beq_iff_eq] at hb; subst hb; omega
  refine laws_eqInt64S_rule0 _ _ _ _ (fun i h => 0 ≤ i ∧ i ≤ l.length ∧ h = h0 ∧ ∀ j, j < i.toNat → l[j]? = l'[j]?) (fun i _ => (l.length - i).toNat) ?_ _ ⟨by omega, by omega, rfl, fun j hj => by omega⟩
  rintro X i _ ⟨i0, i1, rfl, hn⟩ hX
  unfold laws_eqInt64S_b0 laws_eqInt64S_C0
  refine bif_dec (fun hi => ?_) (fun hi => ?_)
  · refine r.ldI i0 (by omega) fun x hxe => r'.ldI i0 (by omega) fun y hye => ?_
    refine bif_ne (fun hq => ?_) (fun hq => ?_)
    · refine ⟨_, rfl, ?_, rfl⟩
      cases hb : l == l' with
      | false => rfl
      | true =>
        rw [beq_iff_eq] at hb; subst hb
        rw [hxe] at hye; cases hye
        exact absurd rfl hq
    · rw [w64_of (by omega) (by omega)]
      refine hX _ _ ⟨by omega, by omega, rfl, fun j hj => ?_⟩ (by omega)
      by_cases hji : j = i.toNat
      · subst hji
        rw [hxe, hye, hq]
      · exact hn j (by omega)
  · refine ⟨_, rfl, ?_, rfl⟩
    symm
    rw [beq_iff_eq]
    apply List.ext_getElem?
    intro j
    by_cases hj : j < l.length
    · exact hn j (by omega)
    · rw [List.getElem?_eq_none (by omega), List.getElem?_eq_none (by omega)]
theorem markInt64S_c {h0 : H} {s : Sl} {l : List Int} (r : Ow h0 s 1 (ic l)) (k0 : Int) (hk0 : 0 ≤ k0) (hk1 : k0 ≤ 1000000000000000000) (hl : s.len < 1000000000000000000) : callI SP .i64 i_laws_markInt64S [.sl s, i64 k0] h0 fun n h' => n = k0 + s.len ∧ Ow h' s 1 (ic (upto k0 s.len)) ∧ But s.o h0 h' ∧ h'.length = h0.length := by
  have hlen := r.len
  rw [ic_len] at hlen
  apply laws_markInt64S_call
  unfold laws_markInt64S_main
  refine laws_markInt64S_rule0 _ _ _ (fun k i h => 0 ≤ i ∧ i ≤ s.len ∧ k = k0 + i ∧ ∃ l', Ow h s 1 (ic l') ∧ (∀ j : Nat, j < i.toNat → l'[j]? = some (k0 + (j : Int))) ∧ But s.o h0 h ∧ h.length = h0.length) (fun k i _ => (s.len - i).toNat) ?_ _ _ ⟨by omega, by omega, by omega, l, r, fun j hj => by omega, But.refl _ _, rfl⟩
  rintro X k i h ⟨i0, i1, rfl, l1, o1, e1, b1, n1⟩ hX
  unfold laws_markInt64S_b0 laws_markInt64S_C0
  refine bif_dec (fun hi => ?_) (fun hi => ?_)
  · refine o1.stI i0 hi _ fun h3 o3 b3 n3 => ?_
    rw [w64_of (by omega) (by omega), w64_of (by omega) (by omega)]
    refine hX _ _ _ ⟨by omega, by omega, by omega, _, o3, fun j2 hj2 => ?_, b1.trans b3, by omega⟩ (by omega)
    have hl2 := o1.len
    rw [ic_len] at hl2
    rw [List.getElem?_set]
    split
    · next e =>
      rw [if_pos (by omega)]
      congr 1; omega
    · exact e1 j2 (by omega)
  · refine ⟨_, rfl, by omega, ?_, b1, n1⟩
    have : l1 = upto k0 s.len := by
      have hl1 := o1.len
      rw [ic_len] at hl1
      apply List.ext_getElem?
      intro j
      by_cases hj : j < s.len
      · rw [e1 j (by omega), upto_at _ _ _ hj]
      · rw [List.getElem?_eq_none (by omega), List.getElem?_eq_none (by rw [upto_len]; omega)]
    rw [← this]; exact o1
theorem heldInt64S_c {h0 : H} {s : Sl} (k0 : Int) (hk0 : 0 ≤ k0) (hk1 : k0 ≤ 1000000000000000000) (r : Rd h0 s 1 (ic (upto k0 s.len))) (hl : s.len < 1000000000000000000) : callI SP .i64 i_laws_heldInt64S [.sl s, i64 k0] h0 fun n h' => n = k0 + s.len ∧ h' = h0 := by
  apply laws_heldInt64S_call
  unfold laws_heldInt64S_main
  refine laws_heldInt64S_rule0 _ _ _ (fun k i h => 0 ≤ i ∧ i ≤ s.len ∧ k = k0 + i ∧ h = h0) (fun k i _ => (s.len - i).toNat) ?_ _ _ ⟨by omega, by omega, by omega, rfl⟩
  rintro X k i _ ⟨i0, i1, rfl, rfl⟩ hX
  unfold laws_heldInt64S_b0 laws_heldInt64S_C0
  refine bif_dec (fun hi => ?_) (fun hi => ?_)
  · refine r.ldI i0 (by rw [upto_len]; omega) fun x hx => ?_
    rw [upto_at _ _ _ (by omega)] at hx
    cases hx
    refine bif_ne (fun hq => absurd (by omega) hq) (fun _ => ?_)
    rw [w64_of (by omega) (by omega), w64_of (by omega) (by omega)]
    exact hX _ _ _ ⟨by omega, by omega, by omega, rfl⟩ (by omega)
  · exact ⟨_, rfl, by omega, rfl⟩
end Go.Proofs.Ytlbglfgienklfaa.Cl

/- Contracts of the laws' helpers for sets and for slices of slices, and of the functions that tell sets. No claim is stated here. -/
set_option linter.unusedVariables false
set_option linter.unusedSimpArgs false
namespace Go.Proofs.Ytlbglfgienklfaa.Cl
open Go
/-! ### sets -/
abbrev TSet := Int × List Tile
/-- The cells of a set. -/
def SetC (c : Int) (s : Sl) : List AVal := [i64 c, .sl s]
theorem szSet_c (c : Int) (s : Sl) (left : Int) (hl : s.len ≤ 9223372036854775807) (h1 : 0 ≤ left) (h2 : left ≤ 1048576) (h : H) : callI SP .i64 i_laws_szSet [.agg (SetC c s), i64 left] h fun n h' => n = (if left - s.len < 0 then -1 else left - s.len) ∧ Ext h h' := by
  apply laws_szSet_call
  unfold laws_szSet_main
  refine newK_obj fun h1 o1 x1 n1 => ?_
  refine isPt_in (o1.ldS rfl rfl ?_)
  refine (szTileS_c s left hl (by omega) (by omega) h1).to ?_
  rintro _ _ ⟨rfl, rfl⟩
  refine bif_dec (fun hq => ⟨_, rfl, ?_, x1⟩) (fun hq => ⟨_, rfl, rfl, x1⟩)
  split at hq
  · next e => rw [if_pos e]
  · next e => omega
theorem toSet_c {h0 : H} {c : Int} {s : Sl} {ts : List Tile} (r : Rd h0 s 4 (tcs ts)) (hl : ts.length ≤ 1048576) : callA SP i_laws_toSet [.agg (SetC c s)] h0 fun v h' => ∃ s', v = SetC c s' ∧ Ow h' s' 4 (tcs ts) ∧ Fr h0.length s' ∧ Ext h0 h' := by
  apply laws_toSet_call
  unfold laws_toSet_main
  refine newK_obj fun h1 o1 x1 n1 => ?_
  refine newO_obj fun h2 o2 x2 n2 => ?_
  refine newO_obj fun h3 o3 x3 n3 => ?_
  refine isPt_in ?_
  have x13 := x1.trans (x2.trans x3)
  have o1' := o1.ext (x2.trans x3)
  refine o1'.ldI rfl rfl (isPt_in ?_)
  refine o3.st1 rfl (by simp) _ fun h4 o4 b4 n4 => ?_
  refine isPt_in ?_
  have x4 : Ext h1 h4 := (x2.trans x3).but_ b4 (some_le (by omega))
  refine (o1.ext x4).ldS rfl rfl ?_
  refine (toTileS_c (r.ext (x1.trans x4)) hl).to ?_
  rintro s' h5 ⟨os, fs, x5⟩
  refine isPt_in ?_
  refine (o4.ext x5).st1 rfl (by simp) _ fun h6 o6 b6 n6 => ?_
  refine o6.ldA rfl ?_
  have o2' := ((o2.ext x3).but b4 (fun e => by have := Option.some.inj e; omega)).ext x5 |>.but b6 (fun e => by have := Option.some.inj e; omega)
  have hne : ∀ o, s'.o = some o → h4.length ≤ o := fun o e => fs o e
  refine o2'.stA fun h7 o7 b7 n7 => ?_
  refine o7.ldA rfl ⟨_, rfl, s', rfl, ?_, ?_, ?_⟩
  · refine (os.but b6 ?_).but b7 ?_
    · refine .inl fun e => ?_
      have := hne _ e.symm
      omega
    · refine .inl fun e => ?_
      have := hne _ e.symm
      omega
  · exact fs.le (by omega)
  · refine Ext.but_ (Ext.but_ ((x1.trans x4).trans x5) b6 (some_le (by omega))) b7 (some_le (by omega))
theorem eqSet_c {h0 : H} {c c' : Int} {s s' : Sl} {ts ts' : List Tile} (r : Rd h0 s 4 (tcs ts)) (r' : Rd h0 s' 4 (tcs ts')) (hl : ts.length < 4000000000000000000) : callB SP i_laws_eqSet [.agg (SetC c s), .agg (SetC c' s')] h0 fun b h' => b = (c == c' && ts == ts') ∧ Ext h0 h' := by
  apply laws_eqSet_call
  unfold laws_eqSet_main
  refine newK_obj fun h1 o1 x1 n1 => ?_
  refine newK_obj fun h2 o2 x2 n2 => ?_
  refine isPt_in ?_
  have x := x1.trans x2
  refine (o1.ext x2).ldI rfl rfl (isPt_in (o2.ldI rfl rfl ?_))
  refine bif_ne (fun hq => ⟨_, rfl, by simp [hq], x⟩) (fun hq => ?_)
  subst hq
  refine isPt_in ((o1.ext x2).ldS rfl rfl (isPt_in (o2.ldS rfl rfl ?_)))
  refine (eqTileS_c (r.ext x) (r'.ext x) hl).to ?_
  rintro _ h3 ⟨rfl, x3⟩
  refine bif_not (fun hq => ⟨_, rfl, by simp [hq], x.trans x3⟩) (fun hq => ⟨_, rfl, by simp [hq], x.trans x3⟩)
theorem markSet_c {h0 : H} {c : Int} {s : Sl} {l : List Int} (r : Ow h0 s 4 (ic l)) (k0 : Int) (hk0 : 0 ≤ k0) (hk1 : k0 ≤ 1000000000000000000) (hl : s.len < 1000000000000000000) : callI SP .i64 i_laws_markSet [.agg (SetC c s), i64 k0] h0 fun n h' => n = k0 + 4 * s.len ∧ Ow h' s 4 (ic (upto k0 (s.len * 4))) ∧ Chg (fun i => s.o = some i) h0 h' := by
  apply laws_markSet_call
  unfold laws_markSet_main
  refine newK_obj fun h1 o1 x1 n1 => ?_
  refine isPt_in (o1.ldS rfl rfl ?_)
  refine (markTileS_k (r.ext x1) k0 hk0 hk1 hl).to ?_
  rintro _ h2 ⟨rfl, o2, b2, n2⟩
  exact ⟨_, rfl, rfl, o2, (x1.chg _).trans (b2.chg fun i e => e)⟩
theorem heldSet_c {h0 : H} {c : Int} {s : Sl} (k0 : Int) (hk0 : 0 ≤ k0) (hk1 : k0 ≤ 1000000000000000000) (r : Rd h0 s 4 (ic (upto k0 (s.len * 4)))) (hl : s.len < 1000000000000000000) : callI SP .i64 i_laws_heldSet [.agg (SetC c s), i64 k0] h0 fun n h' => n = k0 + 4 * s.len ∧ Ext h0 h' := by
  apply laws_heldSet_call
  unfold laws_heldSet_main
  refine newK_obj fun h1 o1 x1 n1 => ?_
  refine isPt_in (o1.ldS rfl rfl ?_)
  refine (heldTileS_k k0 hk0 hk1 (r.ext x1) hl).to ?_
  rintro _ h2 ⟨rfl, rfl⟩
  exact bif_dec (fun hq => by omega) (fun _ => ⟨_, rfl, rfl, x1⟩)
theorem tcs_ic' : ∀ ts : List Tile, ∃ l, tcs ts = ic l
  | [] => ⟨[], rfl⟩
  | t :: ts => by
    obtain ⟨l, e⟩ := tcs_ic' ts
    exact ⟨tl t ++ l, by rw [tcs_cons, e, ic_app, tc_tl]⟩
/-! ### slices of integers and of slices -/
/-- All lengths of a slice of slices, and its own. -/
def sumLen (ls : List (List Int)) : Nat := (ls.map List.length).sum
theorem sumLen_mem {ls : List (List Int)} {l : List Int} (h : l ∈ ls) : l.length ≤ sumLen ls := by
  unfold sumLen
  induction ls with
  | nil => simp at h
  | cons a ls ih =>
    simp only [List.map_cons, List.sum_cons]
    rcases List.mem_cons.1 h with rfl | h
    · omega
    · have := ih h; omega
theorem sumLen_take (ls : List (List Int)) (i : Nat) (l : List Int) (h : ls[i]? = some l) : sumLen (ls.take (i + 1)) = sumLen (ls.take i) + l.length := by
  unfold sumLen
  rw [List.take_add_one, h]
  simp
theorem sumLen_take_le (ls : List (List Int)) (i : Nat) : sumLen (ls.take i) ≤ sumLen ls := by
  unfold sumLen
  conv => rhs; rw [← List.take_append_drop i ls]
  rw [List.map_append, List.sum_append]
  omega
theorem toInt64S_c {h0 : H} {s : Sl} {l : List Int} (r : Rd h0 s 1 (ic l)) (hl : l.length ≤ 1048576) : callS SP i_laws_toInt64S [.sl s] h0 fun s' h' => Ow h' s' 1 (ic l) ∧ Fr h0.length s' ∧ Ext h0 h' := by
  have hlen := r.ilen
  apply laws_toInt64S_call
  unfold laws_toInt64S_main
  refine mkS_ow (by omega) (by unfold lim; omega) fun s' h1 ho hlen' hso he => ?_
  have hz : (List.replicate (s.len : Int).toNat [AVal.int .i64 0]).flatten = ic (List.replicate l.length 0) := by
    unfold ic
    rw [List.map_replicate, ← hlen]; simp
  rw [hz] at ho
  refine laws_toInt64S_rule0 _ _ s s' (fun i h' => 0 ≤ i ∧ i ≤ l.length ∧ Ext h0 h' ∧ ∃ l' : List Int, l'.length = l.length ∧ Ow h' s' 1 (ic l') ∧ ∀ j, j < i.toNat → l'[j]? = l[j]?) (fun i _ => (l.length - i).toNat) ?_ _ ⟨by omega, by omega, by rw [he]; exact Ext.app _ _, _, by simp, ho, fun j hj => by omega⟩
  rintro X i h' ⟨i0, i1, x, l1, ll, ol, hj⟩ hX
  unfold laws_toInt64S_b0 laws_toInt64S_C0
  have hsl : s'.len = l.length := by rw [hlen', ← hlen]; omega
  refine bif_dec (fun hi => ?_) (fun hi => ?_)
  · refine (r.ext x).ldI i0 (by omega) fun t ht => ?_
    refine ol.stI i0 (by omega) _ fun h3 o3 b3 n3 => ?_
    rw [w64_of (by omega) (by omega)]
    refine hX _ _ ⟨by omega, by omega, x.but_ b3 (by rw [hso]; exact some_le (Nat.le_refl _)), _, by simpa using ll, o3, fun j hj2 => ?_⟩ (by omega)
    rw [List.getElem?_set]
    split
    · next e => subst e; rw [if_pos (by omega), ht]
    · exact hj j (by omega)
  · refine ⟨_, rfl, ?_, fun o e => by rw [hso] at e; cases e; exact Nat.le_refl _, x⟩
    have : l1 = l := by
      apply List.ext_getElem?
      intro j
      by_cases h : j < l.length
      · exact hj j (by omega)
      · rw [List.getElem?_eq_none (by omega), List.getElem?_eq_none (by omega)]
    rw [← this]; exact ol
/-- What marks make of the rows. -/
def marks (k : Int) : List (List Int) → List (List Int)
  | [] => []
  | l :: ls => upto k l.length :: marks (k + l.length) ls
theorem marks_len : ∀ (ls : List (List Int)) (k : Int), (marks k ls).length = ls.length
  | [], k => rfl
  | l :: ls, k => by simp [marks, marks_len ls]
theorem marks_at : ∀ (ls : List (List Int)) (k : Int) (i : Nat) (l : List Int), ls[i]? = some l → (marks k ls)[i]? = some (upto (k + sumLen (ls.take i)) l.length)
  | [], k, i, l, h => by simp at h
  | a :: ls, k, 0, l, h => by simp at h; subst h; simp [marks, sumLen]
  | a :: ls, k, i + 1, l, h => by
    simp at h
    simp only [marks, List.getElem?_cons_succ, List.take_succ_cons]
    rw [marks_at ls _ i l h]
    congr 2
    simp [sumLen]; omega
theorem NewSS.top {n : Nat} {hx h0 : H} {s : Sl} {ls : List (List Int)} (r : NewSS n hx s ls) {Q : Nat → Prop} (c : Chg Q hx h0) (hq : ∀ o, n ≤ o → ¬ Q o) (vs : List Sl) (hv : Ow h0 s 1 (vs.map .sl)) : ∀ v ∈ vs, ∀ o, v.o = some o → n ≤ o ∧ o < hx.length := by
  obtain ⟨us, h1, h2, h3, h4, _⟩ := r
  have hu := h2.chg c fun o e => hq o (h3 o e)
  have hq : vs = us := by
    have a := hu.rd.sread (by omega)
    have b := hv.rd.sread (by omega)
    rw [a] at b
    have : us.map AVal.sl = vs.map AVal.sl := Option.some.inj b
    exact (List.map_inj_right (fun a b e => by simpa using e) |>.1 this).symm
  subst hq
  intro v hm o e
  obtain ⟨i, hi⟩ := List.getElem?_of_mem hm
  obtain ⟨l, hl⟩ := mem_idx h1 hi
  obtain ⟨p, q⟩ := h4 i v l hi hl
  exact ⟨q o e, p.lt e⟩
end Go.Proofs.Ytlbglfgienklfaa.Cl

/- Contracts of the functions that tell sets, rows of numbers of tiles, fillings, cylinders and tori. No claim is stated here. -/
set_option linter.unusedVariables false
set_option linter.unusedSimpArgs false
namespace Go.Proofs.Ytlbglfgienklfaa.Cl
open Go
/-! ### reading, by place -/
def sd (t : Tile) : Nat → Int | 0 => t.1 | 1 => t.2.1 | 2 => t.2.2.1 | _ => t.2.2.2
def tat (ts : List Tile) (n : Int) : Tile := ts.getD n.toNat (0, 0, 0, 0)
theorem tat_at {ts : List Tile} {n : Int} {t : Tile} (h : ts[n.toNat]? = some t) : tat ts n = t := by unfold tat; rw [List.getD_eq_getElem?_getD, h]; rfl
theorem at_tat {ts : List Tile} {n : Int} (h1 : n.toNat < ts.length) : ts[n.toNat]? = some (tat ts n) := by unfold tat; rw [List.getD_eq_getElem?_getD, List.getElem?_eq_getElem h1]; rfl
theorem tc_sd (t : Tile) {k : Nat} (hk : k < 4) : (tc t)[k]? = some (i64 (sd t k)) := by
  match k with
  | 0 => rfl
  | 1 => rfl
  | 2 => rfl
  | 3 => rfl
theorem Rd.sideG {h : H} {s : Sl} {ts : List Tile} (r : Rd h s 4 (tcs ts)) {n k : Int} (h0 : 0 ≤ n) (h1 : n < ts.length) (k0 : 0 ≤ k) (k1 : k < 4) {K : Int → Prop} (hk : K (sd (tat ts n) k.toNat)) : ixS s 4 n fun p => ixA p 4 1 k fun q => Cl.ldI .i64 q h K := by
  have hl := r.tlen
  refine r.ix h0 (by omega) fun p po pr => ⟨⟨k0, by omega⟩, po, _, ?_, hk⟩
  have := cell_of_range pr (i := k.toNat) (by omega)
  rw [Pt.add, Nat.mul_one, this, tcs_at ts n.toNat _ (at_tat (by omega)), tc_sd _ (by omega)]
theorem Rd.tileG {h : H} {s : Sl} {ts : List Tile} (r : Rd h s 4 (tcs ts)) {n : Int} (h0 : 0 ≤ n) (h1 : n < ts.length) {K : List AVal → Prop} (hk : K (tc (tat ts n))) : ixS s 4 n fun p => Cl.ldA p 4 h K :=
  r.ldT h0 h1 fun t ht => by rw [← tat_at ht]; exact hk
theorem Rd.ldG {h : H} {s : Sl} {l : List Int} (r : Rd h s 1 (ic l)) {i : Int} (h0 : 0 ≤ i) (h1 : i < l.length) {K : Int → Prop} (hk : K (l.getD i.toNat 0)) : ixS s 1 i fun p => Cl.ldI .i64 p h K :=
  r.ldI h0 h1 fun x hx => by rw [List.getD_eq_getElem?_getD, hx] at hk; exact hk
theorem Rd.ixC {h : H} {s : Sl} {l : List Int} (r : Rd h s 1 (ic l)) {i : Int} (h0 : 0 ≤ i) (h1 : i < l.length) {K : Pt → Prop} (hk : ∀ p : Pt, cell h p = some (i64 (l.getD i.toNat 0)) → K p) : ixS s 1 i K := by
  have hlen := r.ilen
  obtain hl | ⟨a, b, c⟩ := r.at_
  · omega
  · refine ⟨⟨h0, by omega⟩, a, b, hk _ ?_⟩
    have := cell_of_range c (i := i.toNat) (by omega)
    rw [Nat.mul_one, this]
    unfold ic
    rw [List.getElem?_map, List.getElem?_eq_getElem (by omega), List.getD_eq_getElem?_getD, List.getElem?_eq_getElem (by omega)]
    rfl
theorem Rd.ixT {h : H} {s : Sl} {ts : List Tile} (r : Rd h s 4 (tcs ts)) {n : Int} (h0 : 0 ≤ n) (h1 : n < ts.length) {K : Pt → Prop} (hk : ∀ p : Pt, p.o.isSome = true → range h p.o p.n p.off 4 = some (tc (tat ts n)) → K p) : ixS s 4 n K := by
  have hl := r.tlen
  refine r.ix h0 (by omega) fun p po pr => hk p po ?_
  rw [pr, tcs_at ts n.toNat _ (at_tat (by omega))]
theorem Ext.rangeE {h h' : H} (x : Ext h h') {o n off k cs} (e : Cl.range h o n off k = some cs) : Cl.range h' o n off k = Cl.range h o n off k := by rw [x.range e, e]
theorem Obj.sdI {h : H} {o : Nat} {t : Tile} (x : Obj h o (tc t)) {k : Int} (k0 : 0 ≤ k) (k1 : k < 4) {K : Int → Prop} (hk : K (sd t k.toNat)) : ixA ⟨some o, 4, 0⟩ 4 1 k fun p => Cl.ldI .i64 p h K :=
  ixA_ldI x rfl k0 (by omega) (tc_sd t (by omega)) hk
def rw_ (rows : List (List Int)) (y : Nat) : List Int := rows.getD y []
def G (rows : List (List Int)) (y x : Nat) : Int := (rw_ rows y).getD x 0
theorem rw_at {rows : List (List Int)} {y : Nat} {l : List Int} (h : rows[y]? = some l) : rw_ rows y = l := by unfold rw_; rw [List.getD_eq_getElem?_getD, h]; rfl
theorem at_rw {rows : List (List Int)} {y : Nat} (h : y < rows.length) : rows[y]? = some (rw_ rows y) := by unfold rw_; rw [List.getD_eq_getElem?_getD, List.getElem?_eq_getElem h]; rfl
theorem RdSS.ldG {h s ls} (r : RdSS h s ls) {i : Int} (h0 : 0 ≤ i) (h1 : i < ls.length) {K : Sl → Prop} (hk : ∀ v, Rd h v 1 (ic (rw_ ls i.toNat)) → v.len = (rw_ ls i.toNat).length → K v) : ixS s 1 i fun p => Cl.ldS p h K :=
  r.ld h0 h1 fun v l hv rv lv => by rw [← rw_at hv] at rv lv; exact hk v rv lv
theorem RdSS.ixC {h s ls} (r : RdSS h s ls) {i : Int} (h0 : 0 ≤ i) (h1 : i < ls.length) {K : Pt → Prop} (hk : ∀ (p : Pt) v, cell h p = some (.sl v) → Rd h v 1 (ic (rw_ ls i.toNat)) → v.len = (rw_ ls i.toNat).length → K p) : ixS s 1 i K := by
  have hlen := r.len
  obtain ⟨vs, e1, e2, e3⟩ := r
  have hv : vs[i.toNat]? = some vs[i.toNat] := List.getElem?_eq_getElem (by omega)
  have hr := e3 _ _ _ hv (at_rw (by omega))
  obtain hl | ⟨a, b, c⟩ := e2.at_
  · omega
  · refine ⟨⟨h0, by omega⟩, a, b, hk _ _ ?_ hr hr.ilen⟩
    have := cell_of_range c (i := i.toNat) (by omega)
    rw [Nat.mul_one, this, List.getElem?_map, hv]
    rfl
theorem within_k {a b c : Int} {h : H} {K : Bool → H → Prop} (hk : K (decide (b ≤ a ∧ a ≤ c)) h) : callB SP i_impl_within [i64 a, i64 b, i64 c] h K :=
  (within_c a b c h).to (by rintro _ _ ⟨rfl, rfl⟩; exact hk)
theorem l01In_k {a b c : Int} {h : H} {K : Bool → H → Prop} (hk : K (decide (b ≤ a ∧ a ≤ c)) h) : callB SP i_spec_l01In [i64 a, i64 b, i64 c] h K :=
  (l01In_c a b c h).to (by rintro _ _ ⟨rfl, rfl⟩; exact hk)
/-! ### sets -/
def Qset (c : Int) (ts : List Tile) (j : Nat) : Prop := tileok c (tat ts j) = true ∧ (0 < j → cmpT (tat ts ((j : Int) - 1)) (tat ts j) < 0)
def setOK (c : Int) (ts : List Tile) : Prop := (1 ≤ c ∧ c ≤ 6) ∧ ts.length ≤ 16 ∧ ∀ j, j < ts.length → Qset c ts j
theorem l01Is_c {h0 : H} {c : Int} {s : Sl} {ts : List Tile} (r : Rd h0 s 4 (tcs ts)) : callB SP i_spec_l01Is [.agg (SetC c s)] h0 fun b h' => (b = true ↔ setOK c ts) ∧ Ext h0 h' := by
  have hl := r.tlen
  apply spec_l01Is_call
  unfold spec_l01Is_main
  refine newK_obj fun h1 o1 x1 n1 => ?_
  refine isPt_in (o1.ldI rfl rfl ?_)
  refine l01In_k ?_
  refine bif_not (fun hc => ⟨_, rfl, ?_, x1⟩) (fun hc => ?_)
  · simp only [Bool.false_eq_true, false_iff]
    intro hs
    simp at hc
    have := hs.1; omega
  have hc' : 1 ≤ c ∧ c ≤ 6 := by simpa using hc
  refine isPt_in (o1.ldS rfl rfl ?_)
  refine bif_dec (fun hq => ⟨_, rfl, ?_, x1⟩) (fun hq => ?_)
  · simp only [Bool.false_eq_true, false_iff]
    intro hs
    have := hs.2.1; omega
  refine spec_l01Is_rule0 _ _ _ (fun i h => 0 ≤ i ∧ i ≤ ts.length ∧ Ext h1 h ∧ ∀ j, j < i.toNat → Qset c ts j) (fun i _ => (ts.length - i).toNat) ?_ _ ⟨by omega, by omega, Ext.refl _, fun j hj => by omega⟩
  rintro X i h ⟨i0, i1, x, hj⟩ hX
  unfold spec_l01Is_b0 spec_l01Is_C0
  have o := o1.ext x
  refine isPt_in (o.ldS rfl rfl ?_)
  have no : ∀ {h'}, Ext h h' → ¬ Qset c ts i.toNat → i < ts.length → ∃ b, AVal.bool false = .bool b ∧ (b = true ↔ setOK c ts) ∧ Ext h0 h' := fun {h'} x' hn hi =>
    ⟨_, rfl, by simp only [Bool.false_eq_true, false_iff]; exact fun hs => hn (hs.2.2 _ (by omega)), (x1.trans x).trans x'⟩
  refine bif_dec (fun hi => ?_) (fun hi => ?_)
  · refine isPt_in (o.ldI rfl rfl ?_)
    refine isPt_in (o.ldS rfl rfl ?_)
    have hn : ((i.toNat : Nat) : Int) = i := by omega
    refine (r.ext (x1.trans x)).tileG i0 (by omega) ?_
    refine (l01Tile_c c ⟨by omega, by omega⟩ (tat ts i) h).to ?_
    rintro _ h2 ⟨rfl, x2⟩
    refine bif_not (fun hq => no x2 (fun q => ?_) (by omega)) (fun hq => ?_)
    · have := q.1; rw [hn, hq] at this; cases this
    refine bif_dec (fun hp => ?_) (fun hp => ?_)
    · have o2 := o.ext x2
      have r2 := r.ext ((x1.trans x).trans x2)
      refine isPt_in (o2.ldS rfl rfl ?_)
      rw [w64_of (by omega) (by omega)]
      refine r2.tileG (by omega) (by omega) ?_
      refine isPt_in (o2.ldS rfl rfl ?_)
      refine r2.tileG i0 (by omega) ?_
      refine (l01Before_c _ _ _).to ?_
      rintro _ h3 ⟨rfl, x3⟩
      refine bif_not (fun hb => no (x2.trans x3) (fun q => ?_) (by omega)) (fun hb => ?_)
      · have := q.2 (by omega); rw [hn] at this; simp at hb; omega
      · rw [w64_of (by omega) (by omega)]
        refine hX _ _ ⟨by omega, by omega, (x.trans x2).trans x3, fun j hjj => ?_⟩ (by omega)
        by_cases e : j = i.toNat
        · subst e; refine ⟨by rw [hn]; exact hq, fun _ => ?_⟩; rw [hn]; simpa using hb
        · exact hj j (by omega)
    · rw [w64_of (by omega) (by omega)]
      refine hX _ _ ⟨by omega, by omega, x.trans x2, fun j hjj => ?_⟩ (by omega)
      by_cases e : j = i.toNat
      · subst e; exact ⟨by rw [hn]; exact hq, fun h => by omega⟩
      · exact hj j (by omega)
  · exact ⟨_, rfl, ⟨fun _ => ⟨hc', by omega, fun j hjj => hj j (by omega)⟩, fun _ => rfl⟩, x1.trans x⟩
theorem IsSet_c {h0 : H} {c : Int} {s : Sl} {ts : List Tile} (r : Rd h0 s 4 (tcs ts)) (hbig : ts.length < 4000000000000000000) : callB SP i_impl_IsSet [.agg (SetC c s)] h0 fun b h' => (b = true ↔ setOK c ts) ∧ Ext h0 h' := by
  have hl := r.tlen
  apply impl_IsSet_call
  unfold impl_IsSet_main
  refine newK_obj fun h1 o1 x1 n1 => ?_
  refine isPt_in (o1.ldS rfl rfl ?_)
  have hw : 1 ≤ c ∧ c ≤ 6 → w64 (c - 1) + 1 = c := fun hc => by rw [w64_of (by omega) (by omega)]; omega
  refine impl_IsSet_rule0 _ _ _ _ _ (fun i h => 0 ≤ i ∧ i ≤ ts.length ∧ Ext h1 h ∧ (1 ≤ c ∧ c ≤ 6 → ∀ j, j < i.toNat → Qset c ts j)) (fun i _ => (ts.length - i).toNat) ?_ _ ⟨by omega, by omega, Ext.refl _, fun _ j hj => by omega⟩
  rintro X i h ⟨i0, i1, x, hj⟩ hX
  unfold impl_IsSet_b0 impl_IsSet_C0
  have o := o1.ext x
  have no : ∀ {h'}, Ext h h' → (1 ≤ c ∧ c ≤ 6 → ¬ Qset c ts i.toNat) → i < ts.length → ∃ b, AVal.bool false = .bool b ∧ (b = true ↔ setOK c ts) ∧ Ext h0 h' := fun {h'} x' hn hi =>
    ⟨_, rfl, by simp only [Bool.false_eq_true, false_iff]; exact fun hs => hn hs.1 (hs.2.2 _ (by omega)), (x1.trans x).trans x'⟩
  refine bif_dec (fun hi => ?_) (fun hi => ?_)
  · have hn : ((i.toNat : Nat) : Int) = i := by omega
    refine (r.ext (x1.trans x)).tileG i0 (by omega) ?_
    refine newO_obj fun h2 o2 x2 n2 => ?_
    refine o2.stA fun h3 o3 b3 n3 => ?_
    have x3 : Ext h h3 := x2.but_ b3 (some_le (Nat.le_refl _))
    refine o3.ldA rfl ?_
    refine isPt_in ((o.ext x3).ldI rfl rfl ?_)
    refine (isTile_w (tat ts i) c h3).to ?_
    rintro _ h4 ⟨rfl, x4⟩
    refine bif_not (fun hq => no (x3.trans x4) (fun hc q => ?_) (by omega)) (fun hq => ?_)
    · have := q.1; rw [hn] at this; rw [hw hc, this] at hq; cases hq
    refine bif_dec (fun hp => ?_) (fun hp => ?_)
    · have o4 := o.ext (x3.trans x4)
      have r4 := r.ext ((x1.trans x).trans (x3.trans x4))
      refine isPt_in (o4.ldS rfl rfl ?_)
      rw [w64_of (n := i - 1) (by omega) (by omega)]
      refine r4.tileG (by omega) (by omega) ?_
      refine (o3.ext x4).ldA rfl ?_
      refine (compare_c _ _ _).to ?_
      rintro _ h5 ⟨rfl, x5⟩
      refine bif_dec (fun hb => no ((x3.trans x4).trans x5) (fun hc q => ?_) (by omega)) (fun hb => ?_)
      · have := q.2 (by omega); rw [hn] at this; omega
      · rw [w64_of (n := i + 1) (by omega) (by omega)]
        refine hX _ _ ⟨by omega, by omega, x.trans ((x3.trans x4).trans x5), fun hc j hjj => ?_⟩ (by omega)
        by_cases e : j = i.toNat
        · subst e; refine ⟨by rw [hn, ← hw hc]; exact hq, fun _ => ?_⟩; rw [hn]; omega
        · exact hj hc j (by omega)
    · rw [w64_of (n := i + 1) (by omega) (by omega)]
      refine hX _ _ ⟨by omega, by omega, x.trans (x3.trans x4), fun hc j hjj => ?_⟩ (by omega)
      by_cases e : j = i.toNat
      · subst e; exact ⟨by rw [hn, ← hw hc]; exact hq, fun h => by omega⟩
      · exact hj hc j (by omega)
  · refine isPt_in (o.ldI rfl rfl ?_)
    refine within_k ?_
    refine bif_dec (fun hc => ?_) (fun hc => ⟨_, rfl, ?_, x1.trans x⟩)
    · refine isPt_in (o.ldS rfl rfl ⟨_, rfl, ?_, x1.trans x⟩)
      rw [decide_eq_true_eq]
      exact ⟨fun hs => ⟨hc, by omega, fun j hjj => hj hc j (by omega)⟩, fun hs => by have := hs.2.1; omega⟩
    · simp only [Bool.false_eq_true, false_iff]
      exact fun hs => hc hs.1
/-! ### codes -/
open Classical in
noncomputable def bP (A : Prop) : Bool := decide A
theorem bP_iff (A : Prop) : bP A = true ↔ A := by unfold bP; simp
theorem bP_of {b : Bool} {A : Prop} (h : b = true ↔ A) : b = bP A := by rw [Bool.eq_iff_iff, h, bP_iff]
theorem bP_yes {A : Prop} (h : A) : bP A = true := (bP_iff A).2 h
theorem bP_no {A : Prop} (h : ¬ A) : bP A = false := by
  cases hb : bP A with
  | false => rfl
  | true => exact absurd ((bP_iff A).1 hb) h
open Classical in
noncomputable def codeOf (A B : Prop) : Int := if A then (if B then 0 else 2) else 1
theorem codeOf_no {A B : Prop} (h : ¬ A) : codeOf A B = 1 := by unfold codeOf; rw [if_neg h]
theorem codeOf_range {A B : Prop} (h : A) (h2 : ¬ B) : codeOf A B = 2 := by unfold codeOf; rw [if_pos h, if_neg h2]
theorem codeOf_yes {A B : Prop} (h : A) (h2 : B) : codeOf A B = 0 := by unfold codeOf; rw [if_pos h, if_pos h2]
theorem codeOf_zero {A B : Prop} (h : codeOf A B = 0) : A ∧ B := by
  unfold codeOf at h
  split at h
  · split at h
    · exact ⟨by assumption, by assumption⟩
    · cases h
  · cases h
theorem codeOf_cond {A B : Prop} (h : codeOf A B ≠ 0) : ¬ (A ∧ B) := fun ⟨a, b⟩ => h (codeOf_yes a b)
theorem setCode_c {h0 : H} {c : Int} {s : Sl} {ts : List Tile} (r : Rd h0 s 4 (tcs ts)) (hbig : ts.length < 4000000000000000000) (g : Nat) (cap : List AVal) (Q : Prop)
    (hg : setOK c ts → ∀ h, Ext h0 h → callB SP g cap h fun b h' => (b = true ↔ Q) ∧ Ext h h') : callI SP .i64 i_impl_setCode [.agg (SetC c s), .func g cap] h0 fun n h' => n = codeOf (setOK c ts) Q ∧ Ext h0 h' := by
  apply impl_setCode_call
  unfold impl_setCode_main
  refine newK_obj fun h1 o1 x1 n1 => ?_
  refine o1.ldA rfl ?_
  refine (IsSet_c (r.ext x1) hbig).to ?_
  rintro b h2 ⟨hb, x2⟩
  refine bif_not (fun hq => ⟨_, rfl, (codeOf_no fun hs => ?_).symm, x1.trans x2⟩) (fun hq => ?_)
  · rw [hb.2 hs] at hq; cases hq
  have hs := hb.1 hq
  refine via_func ?_
  rw [List.nil_append]
  refine (hg hs h2 (x1.trans x2)).to ?_
  rintro b h3 ⟨hb3, x3⟩
  refine bif_not (fun hq => ⟨_, rfl, (codeOf_range hs fun q => ?_).symm, (x1.trans x2).trans x3⟩) (fun hq => ⟨_, rfl, (codeOf_yes hs (hb3.1 hq)).symm, (x1.trans x2).trans x3⟩)
  rw [hb3.2 q] at hq; cases hq
/-! ### rows of numbers -/
def Tabl (rows : List (List Int)) (most : Int) : Prop := (1 ≤ rows.length ∧ (rows.length : Int) ≤ most) ∧ ∀ y, y < rows.length → (rw_ rows y).length = (rw_ rows 0).length ∧ 1 ≤ (rw_ rows y).length ∧ ((rw_ rows y).length : Int) ≤ most
def Nums (n : Nat) (rows : List (List Int)) : Prop := (∀ y x, y < rows.length → x < (rw_ rows y).length → 0 ≤ G rows y x ∧ G rows y x < n) ∧ Tabl rows 8
theorem isNumber_c {h0 : H} {c : Int} {s : Sl} (i : Int) (hs : s.len < 9000000000000000000) : callB SP i_impl_Set_isNumber [.agg (SetC c s), i64 i] h0 fun b h' => b = decide (0 ≤ i ∧ i < s.len) ∧ Ext h0 h' := by
  apply impl_Set_isNumber_call
  unfold impl_Set_isNumber_main
  refine newK_obj fun h1 o1 x1 n1 => ?_
  refine isPt_in (o1.ldS rfl rfl ?_)
  refine within_k ?_
  refine ⟨_, rfl, ?_, x1⟩
  rw [w64_of (by omega) (by omega)]
  rw [Bool.eq_iff_iff, decide_eq_true_eq, decide_eq_true_eq]; omega
end Go.Proofs.Ytlbglfgienklfaa.Cl

/- Stacked pairs: the program's walk. No claim is stated here. -/
set_option linter.unusedVariables false
set_option linter.unusedSimpArgs false
namespace Go.Proofs.Ytlbglfgienklfaa.Cl
open Go
def pc (e : Int × Int) : List AVal := [i64 e.1, i64 e.2]
def pcs (R : List (Int × Int)) : List AVal := (R.map pc).flatten
theorem pcs_len : ∀ R : List (Int × Int), (pcs R).length = R.length * 2
  | [] => rfl
  | t :: ts => by
    have := pcs_len ts
    unfold pcs at *
    simp only [List.map_cons, List.flatten_cons, List.length_append, List.length_cons]
    simp only [pc, List.length_cons, List.length_nil]
    omega
theorem pcs_app (a b : List (Int × Int)) : pcs (a ++ b) = pcs a ++ pcs b := by simp [pcs]
theorem pcs_cons (a : Int × Int) (b : List (Int × Int)) : pcs (a :: b) = pc a ++ pcs b := by simp [pcs]
theorem pcs_at : ∀ (ts : List (Int × Int)) (i : Nat) (t : Int × Int), ts[i]? = some t → ((pcs ts).drop (i * 2)).take 2 = pc t
  | [], i, t, e => by simp at e
  | a :: ts, 0, t, e => by
    simp at e; subst e
    rw [pcs_cons]; simp [List.take_append, pc]
  | a :: ts, i + 1, t, e => by
    rw [pcs_cons, show (i + 1) * 2 = (pc a).length + i * 2 by simp only [pc, List.length_cons, List.length_nil]; omega, ← List.drop_drop, List.drop_left]
    exact pcs_at ts i t (by simpa using e)
theorem Rd.plen {h : H} {s : Sl} {R : List (Int × Int)} (r : Rd h s 2 (pcs R)) : s.len = R.length := by have := r.len; rw [pcs_len] at this; omega
theorem Rd.ldP {h : H} {s : Sl} {R : List (Int × Int)} (r : Rd h s 2 (pcs R)) {i : Nat} (hi : i < R.length) {K : List AVal → Prop} (hk : K (pc R[i])) : ixS s 2 (i : Int) fun p => Cl.ldA p 2 h K := by
  have hlen := r.plen
  refine r.ldA (by omega) (by omega) ?_
  rw [pcs_at R _ _ (List.getElem?_eq_getElem (by simpa using hi))]
  exact hk

theorem push_pc {h : H} {s : Sl} {l : List (Int × Int)} {e : Int × Int} (r : Ow h s 2 (pcs l)) (hl : (l.length : Int) + 1 ≤ lim) {K : Sl → H → Prop}
    (hk : ∀ s' h', Ow h' s' 2 (pcs (l ++ [e])) → But s.o h h' → (∀ o, s'.o = some o → s.o = some o ∨ h.length ≤ o) → h.length ≤ h'.length → K s' h') : newS 1 2 (pc e) h fun t h1 => app s t 2 h1 K := by
  refine newS_ow (by rfl) fun t h1 ot tl to e1 => ?_
  have e1' : Ext h h1 := by rw [e1]; exact Ext.app _ _
  have hln := e1'.len
  have hsl := r.rd.plen
  refine app_ow (by omega) (r.ext e1') ot.rd (by rw [tl, hsl]; exact_mod_cast hl) fun s' h' o' ln b k1 k2 => hk s' h' (by rw [pcs_app]; simpa [pcs] using o') ((e1'.but _).trans b) (fun o e => ?_) (Nat.le_trans hln b.1)
  cases hq : s.o with
  | none => have := k2 hq o e; exact .inr (by omega)
  | some p => rw [k1 p hq] at e; exact .inl e
theorem push_tc {h : H} {s : Sl} {l : List Tile} {t : Tile} (r : Ow h s 4 (tcs l)) (hl : (l.length : Int) + 1 ≤ lim) {K : Sl → H → Prop}
    (hk : ∀ s' h', Ow h' s' 4 (tcs (l ++ [t])) → But s.o h h' → (∀ o, s'.o = some o → s.o = some o ∨ h.length ≤ o) → h.length ≤ h'.length → K s' h') : newS 1 4 (tc t) h fun x h1 => app s x 4 h1 K := by
  refine newS_ow (by rfl) fun x h1 ot tl to e1 => ?_
  have e1' : Ext h h1 := by rw [e1]; exact Ext.app _ _
  have hln := e1'.len
  have hsl := r.rd.tlen
  refine app_ow (by omega) (r.ext e1') ot.rd (by rw [tl, hsl]; exact_mod_cast hl) fun s' h' o' ln b k1 k2 => hk s' h' (by rw [tcs_app]; simpa [tcs] using o') ((e1'.but _).trans b) (fun o e => ?_) (Nat.le_trans hln b.1)
  cases hq : s.o with
  | none => have := k2 hq o e; exact .inr (by omega)
  | some p => rw [k1 p hq] at e; exact .inl e
theorem Fr.push {n : Nat} {s s' : Sl} {h : H} (f : Fr n s) (hn : n ≤ h.length) (hs : ∀ o, s'.o = some o → s.o = some o ∨ h.length ≤ o) : Fr n s' := fun o e => by
  rcases hs o e with h1 | h1
  · exact f o h1
  · omega
/-! ### stacked pairs, by the numbers of their tiles -/
def stkR (S T : List Tile) (i : Nat) (k : Nat) : List (Int × Int) := (List.range k).flatMap fun (k : Nat) => if sd (tat S i) 3 = sd (tat T k) 1 then [((i : Int), (k : Int))] else []
def stkI (S T : List Tile) (z : Nat) : List (Int × Int) := (List.range z).flatMap fun i => stkR S T i T.length
theorem stkR_succ (S T : List Tile) (i k : Nat) : stkR S T i (k + 1) = stkR S T i k ++ if sd (tat S i) 3 = sd (tat T k) 1 then [((i : Int), (k : Int))] else [] := by
  unfold stkR
  rw [List.range_succ, List.flatMap_append]; simp
theorem stkI_succ (S T : List Tile) (z : Nat) : stkI S T (z + 1) = stkI S T z ++ stkR S T z T.length := by
  unfold stkI
  rw [List.range_succ, List.flatMap_append]; simp
theorem stkR_len (S T : List Tile) (i : Nat) : ∀ k, (stkR S T i k).length ≤ k
  | 0 => by simp [stkR]
  | k + 1 => by
    have := stkR_len S T i k
    rw [stkR_succ, List.length_append]
    split <;> simp <;> omega
theorem stkI_len (S T : List Tile) : ∀ z, (stkI S T z).length ≤ z * T.length
  | 0 => by simp [stkI]
  | z + 1 => by
    have := stkI_len S T z
    have := stkR_len S T z T.length
    rw [stkI_succ, List.length_append, Nat.add_mul]; omega
theorem stkI_mem {S T : List Tile} {z : Nat} {e : Int × Int} (h : e ∈ stkI S T z) : ∃ i k : Nat, e = ((i : Int), (k : Int)) ∧ i < z ∧ k < T.length ∧ sd (tat S i) 3 = sd (tat T k) 1 := by
  unfold stkI stkR at h
  obtain ⟨i, hi, h⟩ := List.mem_flatMap.1 h
  obtain ⟨k, hk, h⟩ := List.mem_flatMap.1 h
  split at h
  · next hq => exact ⟨i, k, by simpa using h, List.mem_range.1 hi, List.mem_range.1 hk, hq⟩
  · cases h
section
variable {h0 : H} {s t : Sl} {S T : List Tile}
theorem stacked_c (rs : Rd h0 s 4 (tcs S)) (rt : Rd h0 t 4 (tcs T)) (hS : S.length ≤ 100000) (hT : T.length ≤ 16) :
    callS SP i_impl_stacked [.sl s, .sl t] h0 fun u h' => Ow h' u 2 (pcs (stkI S T S.length)) ∧ Fr h0.length u ∧ Ext h0 h' := by
  have hsl := rs.tlen
  have htl := rt.tlen
  apply impl_stacked_call
  unfold impl_stacked_main
  refine newS_ow (by rfl) fun u h1 ou lu uo e1 => ?_
  have x1 : Ext h0 h1 := by rw [e1]; exact Ext.app _ _
  refine impl_stacked_rule0 _ _ _ _ _ (fun u i h => ∃ z : Nat, i = z ∧ z ≤ S.length ∧ Ow h u 2 (pcs (stkI S T z)) ∧ Fr h0.length u ∧ Ext h0 h) (fun _ i _ => (S.length - i).toNat) ?_ _ _ ⟨0, rfl, by omega, by simpa [stkI, pcs] using ou, fun o e => by rw [uo] at e; cases e; exact Nat.le_refl _, x1⟩
  rintro X0 u _ h ⟨z, rfl, hz, ou, fu, x⟩ hX
  unfold impl_stacked_b0 impl_stacked_C0
  refine bif_dec (fun hi => ?_) (fun hi => ?_)
  rotate_left
  · rw [show z = S.length by omega] at ou
    exact ⟨u, rfl, ou, fu, x⟩
  have hz' : z < S.length := by omega
  refine (rs.ext x).tileG (by omega) (by omega) ?_
  refine newO_obj fun h2 o2 x2 l2 => ?_
  refine o2.stA fun h3 o3 b3 l3 => ?_
  have y3 : Ext h h3 := x2.but_ b3 (some_le (Nat.le_refl _))
  have hy3 := y3.len
  have hlenI := stkI_len S T z
  have hbnd : z * T.length ≤ 100000 * 16 := Nat.mul_le_mul (by omega) hT
  refine impl_stacked_rule2 _ _ X0 _ _ _ _ _ _ _ _ (fun u k g => ∃ w : Nat, k = w ∧ w ≤ T.length ∧ Ow g u 2 (pcs (stkI S T z ++ stkR S T z w)) ∧ Fr h0.length u ∧ Ext h0 g ∧ Obj g h.length (tc (tat S (z : Int))) ∧ (∀ o, u.o = some o → o ≠ h.length) ∧ h.length < g.length) (fun _ k _ => (T.length - k).toNat) ?_ _ _
    ⟨0, rfl, by omega, by simpa [stkR] using ou.ext y3, fu, x.trans y3, o3, fun o e => by have := ou.lt e; omega, by omega⟩
  rintro X2 u' _ g ⟨w, rfl, hw, ou', fu', x', og, hne, hlg⟩ hY
  unfold impl_stacked_b2 impl_stacked_C2 impl_stacked_C1
  refine bif_dec (fun hj => ?_) (fun hj => ?_)
  · have hw' : w < T.length := by omega
    refine (rt.ext x').tileG (by omega) (by omega) ?_
    refine newO_obj fun g1 p1 y1 m1 => ?_
    refine p1.stA fun g2 p2 c2 m2 => ?_
    have z2 : Ext g g2 := y1.but_ c2 (some_le (Nat.le_refl _))
    have hz2 := z2.len
    refine (og.ext z2).sdI (by omega) (by omega) ?_
    refine p2.sdI (by omega) (by omega) ?_
    have hst : ((w : Int) + 1) = ((w + 1 : Nat) : Int) := by push_cast; rfl
    rw [w64_of (n := (w : Int) + 1) (by omega) (by omega)]
    refine bif_eq (fun hq => ?_) (fun hq => ?_)
    · refine ⟨rfl, ?_⟩
      have hl1 := stkR_len S T z w
      refine push_pc (e := ((z : Int), (w : Int))) (ou'.ext z2) (by rw [List.length_append]; unfold lim; omega) fun u2 g3 ou2 b3 hu2 hln => ?_
      have fu2 : Fr h0.length u2 := fu'.push (h := g2) (by have := x'.len; omega) hu2
      refine hY _ _ _ ⟨w + 1, hst, hw', ?_, fu2, (x'.trans z2).but_ b3 fun o e => fu' o e, (og.ext z2).but b3 (fun e => hne _ e rfl), fun o e => ?_, by omega⟩ (by omega)
      · rw [stkR_succ, if_pos (show sd (tat S (z : Int)) 3 = sd (tat T (w : Int)) 1 from hq), ← List.append_assoc]
        exact ou2
      · rcases hu2 o e with h' | h'
        · exact hne o h'
        · omega
    · refine hY _ _ _ ⟨w + 1, hst, hw', ?_, fu', x'.trans z2, og.ext z2, hne, by omega⟩ (by omega)
      rw [stkR_succ, if_neg (show ¬ sd (tat S (z : Int)) 3 = sd (tat T (w : Int)) 1 from hq), List.append_nil]
      exact ou'.ext z2
  · rw [w64_of (n := (z : Int) + 1) (by omega) (by omega)]
    refine hX _ _ _ ⟨z + 1, by push_cast; rfl, hz', ?_, fu', x'⟩ (by omega)
    rw [stkI_succ, show T.length = w by omega]
    exact ou'
end
end Go.Proofs.Ytlbglfgienklfaa.Cl

/- Orders, lists without repetition in order: plain. No claim is stated here. -/
set_option linter.unusedVariables false
set_option linter.unusedSimpArgs false
namespace Go.Proofs.Ytlbglfgienklfaa.Cl
open Go
/-- a strict total order -/
structure STO {α : Type} (lt : α → α → Prop) : Prop where
  irr : ∀ a, ¬ lt a a
  trans : ∀ a b c, lt a b → lt b c → lt a c
  tri : ∀ a b, a ≠ b → lt a b ∨ lt b a
theorem STO.asym {α : Type} {lt : α → α → Prop} (o : STO lt) {a b : α} (h : lt a b) : ¬ lt b a := fun h2 => o.irr a (o.trans _ _ _ h h2)
theorem srt_unique {α : Type} {lt : α → α → Prop} (o : STO lt) : ∀ {l m : List α}, l.Pairwise lt → m.Pairwise lt → (∀ x, x ∈ l ↔ x ∈ m) → l = m
  | [], [], _, _, _ => rfl
  | [], b :: m, _, _, h => by have := (h b).2 (by simp); cases this
  | a :: l, [], _, _, h => by have := (h a).1 (by simp); cases this
  | a :: l, b :: m, hl, hm, h => by
    have h1 := List.pairwise_cons.1 hl
    have h2 := List.pairwise_cons.1 hm
    have hab : a = b := Classical.byContradiction fun hne => by
      rcases o.tri a b hne with h3 | h3
      · have := (h a).1 (by simp)
        rcases List.mem_cons.1 this with h4 | h4
        · exact hne h4
        · exact o.asym h3 (h2.1 a h4)
      · have := (h b).2 (by simp)
        rcases List.mem_cons.1 this with h4 | h4
        · exact hne h4.symm
        · exact o.asym h3 (h1.1 b h4)
    subst hab
    congr 1
    refine srt_unique o h1.2 h2.2 fun x => ⟨fun hx => ?_, fun hx => ?_⟩
    · rcases List.mem_cons.1 ((h x).1 (by simp [hx])) with h4 | h4
      · subst h4; exact absurd (h1.1 x hx) (o.irr x)
      · exact h4
    · rcases List.mem_cons.1 ((h x).2 (by simp [hx])) with h4 | h4
      · subst h4; exact absurd (h2.1 x hx) (o.irr x)
      · exact h4
open Classical in
noncomputable def insD {α : Type} (lt : α → α → Prop) (x : α) : List α → List α
  | [] => [x]
  | y :: l => if x = y then y :: l else if lt x y then x :: y :: l else y :: insD lt x l
theorem mem_insD {α : Type} {lt : α → α → Prop} {x z : α} : ∀ {l : List α}, z ∈ insD lt x l ↔ z = x ∨ z ∈ l
  | [] => by simp [insD]
  | y :: l => by
    unfold insD
    split
    · next h => subst h; simp
    · split
      · simp
      · simp only [List.mem_cons, mem_insD (l := l)]
        constructor
        · rintro (h | h | h)
          · exact .inr (.inl h)
          · exact .inl h
          · exact .inr (.inr h)
        · rintro (h | h | h)
          · exact .inr (.inl h)
          · exact .inl h
          · exact .inr (.inr h)
theorem pw_insD {α : Type} {lt : α → α → Prop} (o : STO lt) {x : α} : ∀ {l : List α}, l.Pairwise lt → (insD lt x l).Pairwise lt
  | [], _ => by simp [insD]
  | y :: l, h => by
    have h1 := List.pairwise_cons.1 h
    unfold insD
    split
    · exact h
    · next hne =>
      split
      · next hlt =>
        refine List.pairwise_cons.2 ⟨fun z hz => ?_, h⟩
        rcases List.mem_cons.1 hz with rfl | hz
        · exact hlt
        · exact o.trans _ _ _ hlt (h1.1 z hz)
      · next hnl =>
        refine List.pairwise_cons.2 ⟨fun z hz => ?_, pw_insD o h1.2⟩
        rcases mem_insD.1 hz with rfl | hz
        · exact (o.tri _ _ hne).resolve_left hnl
        · exact h1.1 z hz
noncomputable def dsort {α : Type} (lt : α → α → Prop) (l : List α) : List α := l.foldr (insD lt) []
theorem mem_dsort {α : Type} {lt : α → α → Prop} {z : α} : ∀ {l : List α}, z ∈ dsort lt l ↔ z ∈ l
  | [] => by simp [dsort]
  | x :: l => by
    show z ∈ insD lt x (dsort lt l) ↔ _
    rw [mem_insD, mem_dsort, List.mem_cons]
theorem pw_dsort {α : Type} {lt : α → α → Prop} (o : STO lt) : ∀ (l : List α), (dsort lt l).Pairwise lt
  | [] => by simp [dsort]
  | x :: l => pw_insD o (pw_dsort o l)
theorem dsort_eq {α : Type} {lt : α → α → Prop} (o : STO lt) {l m : List α} (hm : m.Pairwise lt) (h : ∀ x, x ∈ m ↔ x ∈ l) : m = dsort lt l :=
  srt_unique o hm (pw_dsort o l) fun x => by rw [h, mem_dsort]
theorem insD_len {α : Type} {lt : α → α → Prop} {x : α} : ∀ {l : List α}, (insD lt x l).length ≤ l.length + 1
  | [] => by simp [insD]
  | y :: l => by
    have := insD_len (lt := lt) (x := x) (l := l)
    unfold insD
    split
    · omega
    · split <;> simp <;> omega
theorem dsort_len {α : Type} {lt : α → α → Prop} : ∀ (l : List α), (dsort lt l).length ≤ l.length
  | [] => by simp [dsort]
  | x :: l => by
    have := dsort_len (lt := lt) l
    have := insD_len (lt := lt) (x := x) (l := dsort lt l)
    show (insD lt x (dsort lt l)).length ≤ _
    simp only [List.length_cons]; omega
/-! ### lists of numbers -/
def ltL (l m : List Int) : Prop := cmpL l m < 0
theorem cmpL_anti' : ∀ a b, cmpL b a = - cmpL a b
  | [], [] => rfl
  | [], _ :: _ => rfl
  | _ :: _, [] => rfl
  | a :: l, b :: m => by
    have := cmpL_anti' l m
    simp only [cmpL]
    by_cases h1 : a < b
    · rw [if_neg (by omega), if_pos (show b > a from h1), if_pos h1]; rfl
    · by_cases h2 : b < a
      · rw [if_pos h2, if_neg h1, if_pos (show a > b from h2)]
      · rw [if_neg h2, if_neg (show ¬ b > a from h1), if_neg h1, if_neg (show ¬ a > b from h2), this]
theorem cmpL_zero : ∀ a b, cmpL a b = 0 → a = b
  | [], [], _ => rfl
  | [], _ :: _, h => by simp [cmpL] at h
  | _ :: _, [], h => by simp [cmpL] at h
  | a :: l, b :: m, h => by
    simp only [cmpL] at h
    split at h
    · cases h
    · split at h
      · cases h
      · rw [cmpL_zero l m h, show a = b by omega]
theorem cmpL_self' : ∀ a, cmpL a a = 0
  | [] => rfl
  | a :: l => by simp only [cmpL]; rw [if_neg (by omega), if_neg (by omega), cmpL_self' l]
theorem ltL_trans : ∀ a b c, ltL a b → ltL b c → ltL a c
  | [], [], _, h, _ => by simp [ltL, cmpL] at h
  | [], _ :: _, [], _, h => by simp [ltL, cmpL] at h
  | [], _ :: _, _ :: _, _, _ => by simp [ltL, cmpL]
  | _ :: _, [], _, h, _ => by simp [ltL, cmpL] at h
  | _ :: _, _ :: _, [], _, h => by simp [ltL, cmpL] at h
  | a :: l, b :: m, c :: n, h1, h2 => by
    have ih := ltL_trans l m n
    unfold ltL at *
    simp only [cmpL] at h1 h2 ⊢
    by_cases e1 : a < b
    · by_cases e2 : b < c
      · rw [if_pos (by omega)]; decide
      · rw [if_neg e2] at h2
        by_cases e3 : b > c
        · rw [if_pos e3] at h2; omega
        · rw [if_pos (by omega)]; decide
    · rw [if_neg e1] at h1
      by_cases e3 : a > b
      · rw [if_pos e3] at h1; omega
      · rw [if_neg e3] at h1
        by_cases e2 : b < c
        · rw [if_pos (by omega)]; decide
        · rw [if_neg e2] at h2
          by_cases e4 : b > c
          · rw [if_pos e4] at h2; omega
          · rw [if_neg e4] at h2
            rw [if_neg (by omega), if_neg (by omega)]
            exact ih h1 h2
theorem ltL_sto : STO ltL := ⟨fun a h => by unfold ltL at h; rw [cmpL_self'] at h; omega, ltL_trans, fun a b h => by
  unfold ltL
  have := cmpL_anti' a b
  have : cmpL a b ≠ 0 := fun e => h (cmpL_zero a b e)
  omega⟩
theorem STO.inv {α β : Type} {lt : β → β → Prop} (o : STO lt) (f : α → β) (hf : ∀ a b, f a = f b → a = b) : STO fun a b => lt (f a) (f b) :=
  ⟨fun a => o.irr _, fun a b c => o.trans _ _ _, fun a b h => o.tri _ _ fun e => h (hf a b e)⟩
def ltT (a b : Tile) : Prop := cmpT a b < 0
theorem ltT_sto : STO ltT := ltL_sto.inv tl fun a b h => by
  obtain ⟨a1, a2, a3, a4⟩ := a
  obtain ⟨b1, b2, b3, b4⟩ := b
  simp [tl] at h
  obtain ⟨rfl, rfl, rfl, rfl⟩ := h
  rfl
def ltP (a b : Int × Int) : Prop := ltL [a.1, a.2] [b.1, b.2]
theorem ltP_sto : STO ltP := ltL_sto.inv (fun a : Int × Int => [a.1, a.2]) fun a b h => by
  obtain ⟨a1, a2⟩ := a
  obtain ⟨b1, b2⟩ := b
  simp at h
  obtain ⟨rfl, rfl⟩ := h
  rfl
end Go.Proofs.Ytlbglfgienklfaa.Cl

/- Sorting of tiles and of pairs. No claim is stated here. -/
set_option linter.unusedVariables false
set_option linter.unusedSimpArgs false
namespace Go.Proofs
open Go.Shelf
def sortT77_ren : Go.Shelf.Ren := ⟨fun | 6 => 77 | 15 => 90 | 14 => 89 | 28 => 103 | 29 => 104 | 20 => 95 | 21 => 96 | 22 => 97 | 23 => 98 | 24 => 99 | 25 => 100 | 26 => 101 | 27 => 102 | 46 => 115 | 47 => 116 | 48 => 117 | 49 => 118 | 50 => 119 | 57 => 123 | n => n, fun | 22 => 26 | 24 => 55 | 25 => 74 | 3 => 3 | 39 => 118 | 0 => 0 | 53 => 131 | 55 => 133 | 4 => 4 | 46 => 124 | 45 => 123 | 50 => 128 | 5 => 5 | 9 => 9 | 66 => 140 | 70 => 144 | 76 => 148 | 77 => 149 | n => n, fun | n => n⟩
theorem sortT77 : Go.Proofs.SlLaysF0.n6 Try.prog sortT77_ren := {
  mixed := by kernel_rfl
  f6 := ⟨Try.f77.name, by decide, Try.func77.trans (congrArg some (by kernel_rfl))⟩
  f14 := ⟨Try.f89.name, by decide, Try.func89.trans (congrArg some (by kernel_rfl))⟩
  f15 := Try.func90.trans (congrArg some (by kernel_rfl))
  f20 := ⟨Try.f95.name, by decide, Try.func95.trans (congrArg some (by kernel_rfl))⟩
  f21 := ⟨Try.f96.name, by decide, Try.func96.trans (congrArg some (by kernel_rfl))⟩
  f22 := ⟨Try.f97.name, by decide, Try.func97.trans (congrArg some (by kernel_rfl))⟩
  f23 := ⟨Try.f98.name, by decide, Try.func98.trans (congrArg some (by kernel_rfl))⟩
  f24 := ⟨Try.f99.name, by decide, Try.func99.trans (congrArg some (by kernel_rfl))⟩
  f25 := ⟨Try.f100.name, by decide, Try.func100.trans (congrArg some (by kernel_rfl))⟩
  f26 := ⟨Try.f101.name, by decide, Try.func101.trans (congrArg some (by kernel_rfl))⟩
  f27 := ⟨Try.f102.name, by decide, Try.func102.trans (congrArg some (by kernel_rfl))⟩
  f28 := Try.func103.trans (congrArg some (by kernel_rfl))
  f29 := Try.func104.trans (congrArg some (by kernel_rfl))
  f46 := ⟨Try.f115.name, by decide, Try.func115.trans (congrArg some (by kernel_rfl))⟩
  f47 := Try.func116.trans (congrArg some (by kernel_rfl))
  f48 := Try.func117.trans (congrArg some (by kernel_rfl))
  f49 := ⟨Try.f118.name, by decide, Try.func118.trans (congrArg some (by kernel_rfl))⟩
  f50 := ⟨Try.f119.name, by decide, Try.func119.trans (congrArg some (by kernel_rfl))⟩
  f57 := ⟨Try.f123.name, by decide, Try.func123.trans (congrArg some (by kernel_rfl))⟩
  t0 := Try.underlying0
  a0 := Try.isAgg0
  z0 := Try.sizeOf0
  v0 := Try.zeroValue0
  t3 := Try.underlying3
  a3 := Try.isAgg3
  z3 := Try.sizeOf3
  v3 := Try.zeroValue3
  t4 := Try.underlying4
  a4 := Try.isAgg4
  z4 := Try.sizeOf4
  v4 := Try.zeroValue4
  t5 := Try.underlying5
  a5 := Try.isAgg5
  z5 := Try.sizeOf5
  v5 := Try.zeroValue5
  t9 := Try.underlying9
  a9 := Try.isAgg9
  z9 := Try.sizeOf9
  v9 := Try.zeroValue9
  t22 := Try.underlying26
  a22 := Try.isAgg26
  z22 := Try.sizeOf26
  v22 := Try.zeroValue26
  t25 := Try.underlying74
  a25 := Try.isAgg74
  z25 := Try.sizeOf74
  v25 := Try.zeroValue74
  t39 := Try.underlying118
  a39 := Try.isAgg118
  z39 := Try.sizeOf118
  v39 := Try.zeroValue118
  t45 := Try.underlying123
  a45 := Try.isAgg123
  z45 := Try.sizeOf123
  v45 := Try.zeroValue123
  t46 := Try.underlying124
  a46 := Try.isAgg124
  z46 := Try.sizeOf124
  v46 := Try.zeroValue124
  t50 := Try.underlying128
  a50 := Try.isAgg128
  z50 := Try.sizeOf128
  v50 := Try.zeroValue128
  t53 := Try.underlying131
  a53 := Try.isAgg131
  z53 := Try.sizeOf131
  v53 := Try.zeroValue131
  t55 := Try.underlying133
  a55 := Try.isAgg133
  z55 := Try.sizeOf133
  v55 := Try.zeroValue133
  t66 := Try.underlying140
  a66 := Try.isAgg140
  z66 := Try.sizeOf140
  v66 := Try.zeroValue140
  t70 := Try.underlying144
  a70 := Try.isAgg144
  z70 := Try.sizeOf144
  v70 := Try.zeroValue144
  t76 := Try.underlying148
  a76 := Try.isAgg148
  z76 := Try.sizeOf148
  v76 := Try.zeroValue148
  t77 := Try.underlying149
  a77 := Try.isAgg149
  z77 := Try.sizeOf149
  v77 := Try.zeroValue149 }
def sortP86_ren : Go.Shelf.Ren := ⟨fun | 6 => 86 | 15 => 90 | 14 => 94 | 28 => 103 | 29 => 104 | 20 => 107 | 21 => 108 | 22 => 109 | 23 => 110 | 24 => 111 | 25 => 112 | 26 => 113 | 27 => 114 | 46 => 120 | 47 => 116 | 48 => 117 | 49 => 121 | 50 => 122 | 57 => 124 | n => n, fun | 22 => 86 | 24 => 88 | 25 => 114 | 3 => 3 | 39 => 118 | 0 => 0 | 53 => 131 | 55 => 133 | 4 => 4 | 46 => 124 | 45 => 123 | 50 => 128 | 5 => 5 | 9 => 9 | 66 => 140 | 70 => 144 | 76 => 148 | 77 => 149 | n => n, fun | n => n⟩
theorem sortP86 : Go.Proofs.SlLaysF0.n6 Try.prog sortP86_ren := {
  mixed := by kernel_rfl
  f6 := ⟨Try.f86.name, by decide, Try.func86.trans (congrArg some (by kernel_rfl))⟩
  f14 := ⟨Try.f94.name, by decide, Try.func94.trans (congrArg some (by kernel_rfl))⟩
  f15 := Try.func90.trans (congrArg some (by kernel_rfl))
  f20 := ⟨Try.f107.name, by decide, Try.func107.trans (congrArg some (by kernel_rfl))⟩
  f21 := ⟨Try.f108.name, by decide, Try.func108.trans (congrArg some (by kernel_rfl))⟩
  f22 := ⟨Try.f109.name, by decide, Try.func109.trans (congrArg some (by kernel_rfl))⟩
  f23 := ⟨Try.f110.name, by decide, Try.func110.trans (congrArg some (by kernel_rfl))⟩
  f24 := ⟨Try.f111.name, by decide, Try.func111.trans (congrArg some (by kernel_rfl))⟩
  f25 := ⟨Try.f112.name, by decide, Try.func112.trans (congrArg some (by kernel_rfl))⟩
  f26 := ⟨Try.f113.name, by decide, Try.func113.trans (congrArg some (by kernel_rfl))⟩
  f27 := ⟨Try.f114.name, by decide, Try.func114.trans (congrArg some (by kernel_rfl))⟩
  f28 := Try.func103.trans (congrArg some (by kernel_rfl))
  f29 := Try.func104.trans (congrArg some (by kernel_rfl))
  f46 := ⟨Try.f120.name, by decide, Try.func120.trans (congrArg some (by kernel_rfl))⟩
  f47 := Try.func116.trans (congrArg some (by kernel_rfl))
  f48 := Try.func117.trans (congrArg some (by kernel_rfl))
  f49 := ⟨Try.f121.name, by decide, Try.func121.trans (congrArg some (by kernel_rfl))⟩
  f50 := ⟨Try.f122.name, by decide, Try.func122.trans (congrArg some (by kernel_rfl))⟩
  f57 := ⟨Try.f124.name, by decide, Try.func124.trans (congrArg some (by kernel_rfl))⟩
  t0 := Try.underlying0
  a0 := Try.isAgg0
  z0 := Try.sizeOf0
  v0 := Try.zeroValue0
  t3 := Try.underlying3
  a3 := Try.isAgg3
  z3 := Try.sizeOf3
  v3 := Try.zeroValue3
  t4 := Try.underlying4
  a4 := Try.isAgg4
  z4 := Try.sizeOf4
  v4 := Try.zeroValue4
  t5 := Try.underlying5
  a5 := Try.isAgg5
  z5 := Try.sizeOf5
  v5 := Try.zeroValue5
  t9 := Try.underlying9
  a9 := Try.isAgg9
  z9 := Try.sizeOf9
  v9 := Try.zeroValue9
  t22 := Try.underlying86
  a22 := Try.isAgg86
  z22 := Try.sizeOf86
  v22 := Try.zeroValue86
  t25 := Try.underlying114
  a25 := Try.isAgg114
  z25 := Try.sizeOf114
  v25 := Try.zeroValue114
  t39 := Try.underlying118
  a39 := Try.isAgg118
  z39 := Try.sizeOf118
  v39 := Try.zeroValue118
  t45 := Try.underlying123
  a45 := Try.isAgg123
  z45 := Try.sizeOf123
  v45 := Try.zeroValue123
  t46 := Try.underlying124
  a46 := Try.isAgg124
  z46 := Try.sizeOf124
  v46 := Try.zeroValue124
  t50 := Try.underlying128
  a50 := Try.isAgg128
  z50 := Try.sizeOf128
  v50 := Try.zeroValue128
  t53 := Try.underlying131
  a53 := Try.isAgg131
  z53 := Try.sizeOf131
  v53 := Try.zeroValue131
  t55 := Try.underlying133
  a55 := Try.isAgg133
  z55 := Try.sizeOf133
  v55 := Try.zeroValue133
  t66 := Try.underlying140
  a66 := Try.isAgg140
  z66 := Try.sizeOf140
  v66 := Try.zeroValue140
  t70 := Try.underlying144
  a70 := Try.isAgg144
  z70 := Try.sizeOf144
  v70 := Try.zeroValue144
  t76 := Try.underlying148
  a76 := Try.isAgg148
  z76 := Try.sizeOf148
  v76 := Try.zeroValue148
  t77 := Try.underlying149
  a77 := Try.isAgg149
  z77 := Try.sizeOf149
  v77 := Try.zeroValue149 }
end Go.Proofs
namespace Go.Proofs.Ytlbglfgienklfaa.Cl
open Go Go.Proofs Go.Shelf Go.Lib
theorem swo_of {α : Type} {lt : α → α → Prop} (o : STO lt) {cf : α → α → Int} (h : ∀ a b, lt a b ↔ cf a b < 0) : Go.Sort.SWO (ltOf cf) := by
  have e : ∀ a b, ltOf cf a b = true ↔ lt a b := fun a b => by unfold ltOf; rw [decide_eq_true_eq, h]
  have e' : ∀ a b, ltOf cf a b = false ↔ ¬ lt a b := fun a b => by rw [← e, Bool.not_eq_true]
  refine ⟨fun x => (e' x x).2 (o.irr x), fun x y z h1 h2 => (e x z).2 (o.trans _ _ _ ((e _ _).1 h1) ((e _ _).1 h2)), fun x y z h1 h2 => (e' x z).2 fun h3 => ?_⟩
  have h1 := (e' _ _).1 h1
  have h2 := (e' _ _).1 h2
  by_cases hxy : x = y
  · subst hxy; exact h2 h3
  · have hyx := (o.tri x y hxy).resolve_left h1
    exact h2 (o.trans _ _ _ hyx h3)
theorem total_of {α : Type} {lt : α → α → Prop} (o : STO lt) {cf : α → α → Int} (h : ∀ a b, lt a b ↔ cf a b < 0) : ∀ x y, ltOf cf x y = false → ltOf cf y x = false → x = y := fun x y h1 h2 => Classical.byContradiction fun hne => by
  unfold ltOf at h1 h2
  rw [decide_eq_false_iff_not, ← h] at h1 h2
  rcases o.tri x y hne with h3 | h3
  · exact h1 h3
  · exact h2 h3
def srtOf {α : Type} (cf : α → α → Int) (d : Array α) : Array α := (d.toList.mergeSort fun x y => !(ltOf cf) y x).toArray
theorem srtOf_size {α : Type} (cf : α → α → Int) (d : Array α) : (srtOf cf d).size = d.size := by simp [srtOf]
theorem srtOf_perm {α : Type} (cf : α → α → Int) (l : List α) : (srtOf cf l.toArray).toList.Perm l := by simpa [srtOf] using List.mergeSort_perm l _
theorem srtOf_sorted {α : Type} {lt : α → α → Prop} (o : STO lt) {cf : α → α → Int} (h : ∀ a b, lt a b ↔ cf a b < 0) (l : List α) : (srtOf cf l.toArray).toList.Pairwise fun a b => ¬ lt b a := by
  have sw := swo_of o h
  have := List.pairwise_mergeSort (le := fun x y => !(ltOf cf) y x) (fun a b c h1 h2 => by
    simp only [Bool.not_eq_true'] at *
    exact sw.ntrans _ _ _ h2 h1) (fun a b => by
    rw [Bool.or_eq_true, Bool.not_eq_true', Bool.not_eq_true']
    by_cases h1 : ltOf cf b a = true
    · right
      rw [← Bool.not_eq_true]
      intro h2
      have := sw.trans _ _ _ h1 h2
      rw [sw.irrefl] at this; cases this
    · left; simpa using h1) l
  have e : (srtOf cf l.toArray).toList = l.mergeSort fun x y => !(ltOf cf) y x := by simp [srtOf]
  rw [e]
  refine this.imp fun {a b} h1 h2 => ?_
  simp only [Bool.not_eq_true'] at h1
  unfold ltOf at h1
  rw [decide_eq_false_iff_not, ← h] at h1
  exact h1 h2
def encT (t : Tile) : List Value := [.int .i64 t.1, .int .i64 t.2.1, .int .i64 t.2.2.1, .int .i64 t.2.2.2]
theorem agg55 : ∀ w, (isAgg 55).run Try.prog w = .ok true w := fun w => by kernel_rfl
theorem siz55 : ∀ w, (Go.sizeOf 55).run Try.prog w = .ok 4 w := fun w => by kernel_rfl
theorem ints_det {l : List Int} {μ : Mu} {h : H} {i : Nat} {v : AVal} {d : Value} (e : (l.map (AVal.int .i64))[i]? = some v) (hv : VR μ h v d) : (l.map (Value.int .i64))[i]? = some d := by
  rw [List.getElem?_map] at e ⊢
  cases hq : l[i]? with
  | none => rw [hq] at e; cases e
  | some x =>
    rw [hq] at e
    simp only [Option.map_some, Option.some.injEq] at e ⊢
    subst e
    simp only [VR] at hv
    exact hv.symm
theorem ints_VRl : ∀ (l : List Int) (μ : Mu) (h : H), VRs μ h (l.map (AVal.int .i64)) (l.map (Value.int .i64))
  | [], μ, h => VRs.nil
  | a :: l, μ, h => VRs.cons (by simp only [VR]) (ints_VRl l μ h)
theorem tc_tl2 (t : Tile) : tc t = (tl t).map (AVal.int .i64) := rfl
theorem encT_tl (t : Tile) : encT t = (tl t).map (Value.int .i64) := rfl
theorem ltOf_T (a b : Tile) : ltT a b ↔ cmpT a b < 0 := Iff.rfl
theorem sortT_c {h : H} {s : Sl} {l : List Tile} (o : Ow h s 4 (tcs l)) (hl : l.length ≤ 1000000000) :
    callV SP i_slices_SortFunc_s_impl_Tile_impl_Tile_ [.sl s, .func i_impl_compare []] h fun v h' => v = .tuple [] ∧ ∃ l', Ow h' s 4 (tcs l') ∧ l'.Perm l ∧ l'.Pairwise (fun a b => ¬ ltT b a) ∧ But s.o h h' ∧ h'.length = h.length := by
  have hcmp : ∀ x y, ∃ h2, Sat Try.prog i_impl_compare [.agg (tc x), .agg (tc y)] [] (.int .i64 (cmpT x y)) h2 := fun x y => by
    obtain ⟨n, h2, hs, rfl, _⟩ := compare_c x y []
    exact ⟨h2, hs⟩
  have hc : ∀ (a : Array Value) (w : World), (callFunc i_slices_SortFunc_s_impl_Tile_impl_Tile_ a).run Try.prog w = .ok (.enter i_slices_SortFunc_s_impl_Tile_impl_Tile_ a) w := calls_of (fn := Try.f77) (c := bodyOf Try.f77) (by kernel_rfl) (by kernel_rfl) (by kernel_rfl)
  have hcc : ∀ (a : Array Value) (w : World), (callFunc i_impl_compare a).run Try.prog w = .ok (.enter i_impl_compare a) w := calls_of (fn := Try.f55) (c := bodyOf Try.f55) (by kernel_rfl) (by kernel_rfl) (by kernel_rfl)
  refine (sort_sat (P := Try.prog) (f := i_slices_SortFunc_s_impl_Tile_impl_Tile_) (g := i_impl_compare) (k := 4) (enc := encT) (cl := tc) (srt := srtOf cmpT) (by omega) (fun _ => rfl) (fun x μ h => by rw [tc_tl2, encT_tl]; exact ints_VRl _ _ _) (fun _ => rfl)
    (fun x μ h i v d e hv => by rw [tc_tl2] at e; rw [encT_tl]; exact ints_det e hv) (srtOf_size _) hc ?_ ?_ o (by omega)).to ?_
  · intro blk off cap d w hH hb hsz
    exact AnyQ.slices_SortFunc_total sortT77 4 agg55 siz55 encT (fun _ => rfl) (fun x v hv => by rw [encT_tl] at hv; obtain ⟨n, _, rfl⟩ := List.mem_map.1 hv; rfl) cmpT (swo_of ltT_sto ltOf_T) i_impl_compare #[] blk off cap d w hcc
      (cmp_lays (fun x μ h => by rw [tc_tl2, encT_tl]; exact ints_VRl _ _ _) (fun _ => rfl) hcmp 4 blk off d.size w) hH hb hsz (total_of ltT_sto ltOf_T)
  · intro p cap fv w
    exact AnyF.slices_SortFunc_none sortT77 p cap fv w
  · rintro v h' ⟨rfl, o', b, ln⟩
    exact ⟨rfl, _, o', srtOf_perm _ _, srtOf_sorted ltT_sto ltOf_T l, b, ln⟩
/-! pairs -/
def cmpP (a b : Int × Int) : Int := cmpL [a.1, a.2] [b.1, b.2]
theorem ltOf_P (a b : Int × Int) : ltP a b ↔ cmpP a b < 0 := Iff.rfl
theorem cmpP_c (a b : Int × Int) (h : H) : callI SP .i64 i_impl_pairs_1 [.agg (pc a), .agg (pc b)] h fun n h' => n = cmpP a b ∧ Ext h h' := by
  apply impl_pairs_1_call
  unfold impl_pairs_1_main
  refine newK_obj fun h1 o1 x1 l1 => ?_
  refine newK_obj fun h2 o2 x2 l2 => ?_
  refine ⟨⟨by omega, by omega, by omega⟩, rfl, rfl, ⟨by omega, by omega, by omega⟩, rfl, rfl, ?_⟩
  have r1 : Rd h2 ⟨some h.length, 2, 0 + (0 : Int).toNat * 1, (((2 : Nat) : Int) - 0).toNat, 1⟩ 1 (ic [a.1, a.2]) := ⟨rfl, .inr ⟨rfl, rfl, by
    have : h2[h.length]? = some (.own (pc a)) := o1.ext x2
    simp [range, cells, this, pc, ic]⟩⟩
  have r2 : Rd h2 ⟨some h1.length, 2, 0 + (0 : Int).toNat * 1, (((2 : Nat) : Int) - 0).toNat, 1⟩ 1 (ic [b.1, b.2]) := ⟨rfl, .inr ⟨rfl, rfl, by
    have : h2[h1.length]? = some (.own (pc b)) := o2
    simp [range, cells, this, pc, ic]⟩⟩
  refine (sCompare_c r1 r2 (by simp)).to ?_
  rintro n h3 ⟨rfl, rfl⟩
  exact ⟨_, rfl, rfl, x1.trans x2⟩
def encP (e : Int × Int) : List Value := [.int .i64 e.1, .int .i64 e.2]
theorem agg88 : ∀ w, (isAgg 88).run Try.prog w = .ok true w := fun w => by kernel_rfl
theorem siz88 : ∀ w, (Go.sizeOf 88).run Try.prog w = .ok 2 w := fun w => by kernel_rfl
theorem pc_tl (t : Int × Int) : pc t = [t.1, t.2].map (AVal.int .i64) := rfl
theorem encP_tl (t : Int × Int) : encP t = [t.1, t.2].map (Value.int .i64) := rfl
theorem sortP_c {h : H} {s : Sl} {l : List (Int × Int)} (o : Ow h s 2 (pcs l)) (hl : l.length ≤ 1000000000) :
    callV SP i_slices_SortFunc_s__2_int64__2_int64_ [.sl s, .func i_impl_pairs_1 []] h fun v h' => v = .tuple [] ∧ ∃ l', Ow h' s 2 (pcs l') ∧ l'.Perm l ∧ l'.Pairwise (fun a b => ¬ ltP b a) ∧ But s.o h h' ∧ h'.length = h.length := by
  have hcmp : ∀ x y, ∃ h2, Sat Try.prog i_impl_pairs_1 [.agg (pc x), .agg (pc y)] [] (.int .i64 (cmpP x y)) h2 := fun x y => by
    obtain ⟨n, h2, hs, rfl, _⟩ := cmpP_c x y []
    exact ⟨h2, hs⟩
  have hc : ∀ (a : Array Value) (w : World), (callFunc i_slices_SortFunc_s__2_int64__2_int64_ a).run Try.prog w = .ok (.enter i_slices_SortFunc_s__2_int64__2_int64_ a) w := calls_of (fn := Try.f86) (c := bodyOf Try.f86) (by kernel_rfl) (by kernel_rfl) (by kernel_rfl)
  have hcc : ∀ (a : Array Value) (w : World), (callFunc i_impl_pairs_1 a).run Try.prog w = .ok (.enter i_impl_pairs_1 a) w := calls_of (fn := Try.f87) (c := bodyOf Try.f87) (by kernel_rfl) (by kernel_rfl) (by kernel_rfl)
  refine (sort_sat (P := Try.prog) (f := i_slices_SortFunc_s__2_int64__2_int64_) (g := i_impl_pairs_1) (k := 2) (enc := encP) (cl := pc) (srt := srtOf cmpP) (by omega) (fun _ => rfl) (fun x μ h => by rw [pc_tl, encP_tl]; exact ints_VRl _ _ _) (fun _ => rfl)
    (fun x μ h i v d e hv => by rw [pc_tl] at e; rw [encP_tl]; exact ints_det e hv) (srtOf_size _) hc ?_ ?_ o (by omega)).to ?_
  · intro blk off cap d w hH hb hsz
    exact AnyQ.slices_SortFunc_total sortP86 2 agg88 siz88 encP (fun _ => rfl) (fun x v hv => by rw [encP_tl] at hv; obtain ⟨n, _, rfl⟩ := List.mem_map.1 hv; rfl) cmpP (swo_of ltP_sto ltOf_P) i_impl_pairs_1 #[] blk off cap d w hcc
      (cmp_lays (fun x μ h => by rw [pc_tl, encP_tl]; exact ints_VRl _ _ _) (fun _ => rfl) hcmp 2 blk off d.size w) hH hb hsz (total_of ltP_sto ltOf_P)
  · intro p cap fv w
    exact AnyF.slices_SortFunc_none sortP86 p cap fv w
  · rintro v h' ⟨rfl, o', b, ln⟩
    exact ⟨rfl, _, o', srtOf_perm _ _, srtOf_sorted ltP_sto ltOf_P l, b, ln⟩
end Go.Proofs.Ytlbglfgienklfaa.Cl

/- slices.AppendSeq over slices.Values, at tiles. No claim is stated here. -/
set_option linter.unusedVariables false
set_option linter.unusedSimpArgs false
namespace Go.Proofs.Ytlbglfgienklfaa.Cl
open Go
noncomputable def opsAt : Code → Array Oper | .region _ o _ => o | _ => #[]
noncomputable def rfA : Code → Code | .rangeFunc _ _ a _ => a | c => c
noncomputable def rfB : Code → Code | .rangeFunc _ _ _ b => b | c => c
noncomputable def opN (l : Array Oper) (i : Nat) : Oper := l.toList.getD i ⟨none, .move (.tmp 0), 0, "", #[], none⟩
noncomputable def vpT : IterP := ⟨0, 11, 12, 13, 14, 8, opsAt (sub [0] (bodyOf Try.f78)), opsAt (sub [1, 0, 0, 0] (bodyOf Try.f78)), opsAt (sub [1, 0, 0, 1, 1, 0, 0, 0] (bodyOf Try.f78)), opsAt (sub [1, 0, 0, 1, 1, 1] (bodyOf Try.f78)),
  opN (opsAt (sub [1, 0, 0, 1, 1, 0, 0, 1, 0] (bodyOf Try.f78))) 1, [5, 6, 7]⟩
noncomputable def apT : AppP := ⟨7, opsAt (sub [0] (bodyOf Try.f88)), opsAt (sub [1, 0, 0] (bodyOf Try.f88)), opsAt (rfA (sub [1, 0, 1, 0] (bodyOf Try.f88))), opsAt (sub [0] (rfB (sub [1, 0, 1, 0] (bodyOf Try.f88)))), opsAt (sub [1, 1, 0] (bodyOf Try.f88)), 6⟩
def frV (s : Sl) (len i : Int) : Frame := [.undef, .undef, .undef, .undef, .undef, .sl s, i64 len, i64 i, .undef, .undef, .undef, .undef, .undef, .undef, .undef, .undef]
def frQ (s0 : Sl) (g : AVal) (p : Pt) : Frame := [.sl s0, g, .ptr p, .gone, .sl Sl.nil, .gone, g, .gone, .gone, .gone, .gone, .gone, .gone]
theorem A0_k (s0 : Sl) (g : AVal) (k : Frame → H → Prop) (h : H) : runOps SP tab apT.A0.toList apT.A0.toList k (fr0 Try.f88 [.sl s0, g]) h =
    newO [.sl s0] h fun p h1 => k [.sl s0, g, .ptr p, .gone, .sl Sl.nil, .gone, .gone, .gone, .gone, .gone, .gone, .gone, .gone] h1 := by kernel_rfl
theorem A1_k (s0 : Sl) (g : AVal) (p : Pt) (k : Frame → H → Prop) (h : H) : runOps SP tab apT.A1.toList apT.A1.toList k [.sl s0, g, .ptr p, .gone, .sl Sl.nil, .gone, .gone, .gone, .gone, .gone, .gone, .gone, .gone] h = k (frQ s0 g p) h := by kernel_rfl
theorem V0_k (ps : Pt) (k : Frame → H → Prop) (h : H) : runOps SP tab vpT.V0.toList vpT.V0.toList (fun fr h => k (mask vpT.mm fr) h) (fr0 Try.f78 [.undef, .ptr ps]) h = ldS ps h fun s => k (frV s s.len 0) h := by kernel_rfl
theorem A4_k (s0 : Sl) (g : AVal) (p : Pt) (K : AVal → H → Prop) (h : H) : runOps SP tab apT.A4.toList apT.A4.toList (fun fr h => resK tab Try.f88.results.toList fr h fun vs => K (one vs) h) (frQ s0 g p) h = ldS p h fun s => K (.sl s) h := by kernel_rfl
theorem L0_k (s : Sl) (s0 : Sl) (g : AVal) (p : Pt) (len i : Int) (K : H → Prop) (h : H) : seqLoop SP tab vpT apT (frQ s0 g p) K 0 (frV s len i) h = (AVal.bool (decide (i < len)) = .bool false ∧ K h) := by kernel_rfl
theorem L1_k (s : Sl) (s0 : Sl) (g : AVal) (p : Pt) (len i : Int) (n : Nat) (K : H → Prop) (h : H) : seqLoop SP tab vpT apT (frQ s0 g p) K (n + 1) (frV s len i) h =
    (AVal.bool (decide (i < len)) = .bool true ∧ ixS s 4 i fun a => ldA a 4 h fun cs => newO [i64 0, i64 0, i64 0, i64 0] h fun b h1 => stN b 4 cs h1 fun h2 => ldA b 4 h2 fun c2 =>
      newO [i64 0, i64 0, i64 0, i64 0] h2 fun d h3 => stN d 4 c2 h3 fun h4 => ldS p h4 fun x => ldA d 4 h4 fun c3 => lenA c3 4 (newS 1 4 (spl [i64 0, i64 0, i64 0, i64 0] 0 4 c3) h4 fun t h5 => app x t 4 h5 fun x' h6 => st1 p (.sl x') h6 fun h7 =>
        seqLoop SP tab vpT apT (frQ s0 g p) K n (frV s len (w64 (i + 1))) h7)) := by kernel_rfl
section
variable {h0 : H} {s : Sl} {ts : List Tile} {ps : Nat}
theorem seqLoop_c {ob : Nat} {s0 : Sl} {g : AVal} (r : Rd h0 s 4 (tcs ts)) (hl : ts.length ≤ 1000000) (hob : h0.length ≤ ob) {K : H → Prop} {ha : H} (ea : Ext h0 ha) :
    ∀ (n i : Nat) (x : Sl) (h : H), i + n = ts.length → Ext h0 h → ob < h.length → h0.length < h.length → Var h ob (.sl x) → Ow h x 4 (tcs (ts.take i)) → Fr h0.length x → x.o ≠ some ob → (0 < i → x.o.isSome = true) →
      (∀ x h, Ext h0 h → Var h ob (.sl x) → Ow h x 4 (tcs ts) → Fr h0.length x → (0 < ts.length → x.o.isSome = true) → K h) → seqLoop SP tab vpT apT (frQ s0 g (pt ob)) K n (frV s s.len i) h
  | 0, i, x, h, hi, e, hol, hln, vx, ox, fx, hx, hs, hK => by
    have hsl := r.tlen
    rw [L0_k]
    refine ⟨by rw [decide_eq_false (by omega)], hK x h e vx ?_ fx fun hp => hs (by omega)⟩
    rw [show i = ts.length by omega, List.take_length] at ox
    exact ox
  | n + 1, i, x, h, hi, e, hol, hln, vx, ox, fx, hx, hs, hK => by
    have hsl := r.tlen
    have hi' : i < ts.length := by omega
    rw [L1_k]
    refine ⟨by rw [decide_eq_true (by omega)], ?_⟩
    refine (r.ext e).tileG (by omega) (by omega) ?_
    refine newO_obj fun h1 o1 x1 l1 => ?_
    refine o1.stA fun h2 o2 b2 l2 => ?_
    have y2 : Ext h h2 := x1.but_ b2 (some_le (Nat.le_refl _))
    refine o2.ldA rfl ?_
    refine newO_obj fun h3 o3 x3 l3 => ?_
    refine o3.stA fun h4 o4 b4 l4 => ?_
    have y4 : Ext h2 h4 := x3.but_ b4 (some_le (Nat.le_refl _))
    have y := y2.trans y4
    refine (vx.ext y).ldS ?_
    refine o4.ldA rfl ⟨rfl, ?_⟩
    refine newS_ow (by rfl) fun t h5 ot lt to e5 => ?_
    have x5 : Ext h4 h5 := by rw [e5]; exact Ext.app _ _
    have y5 := y.trans x5
    have hxl := (ox.rd).tlen
    have htl : (ts.take i).length = i := by rw [List.length_take]; omega
    refine app_ow (by omega) (ox.ext y5) ot.rd (by rw [lt, hxl, htl]; unfold lim; omega) fun x' h6 ox' lx' b6 k1 k2 => ?_
    have hyl := y5.len
    have v6 : Var h6 ob (.sl x) := (vx.ext y5).but b6 hx
    have hx'o : ∀ o, x'.o = some o → x.o = some o ∨ h5.length ≤ o := fun o eo => by
      cases hq : x.o with
      | none => exact .inr (k2 hq o eo)
      | some p => rw [k1 p hq] at eo; exact .inl eo
    have hx' : x'.o ≠ some ob := fun eo => by
      rcases hx'o ob eo with h' | h'
      · exact hx h'
      · omega
    refine v6.st _ fun h7 v7 b7 l7 => ?_
    have e6 : Ext h0 h6 := (e.trans y5).but_ b6 fun o eo => fx o eo
    have e7 : Ext h0 h7 := e6.but_ b7 (some_le hob)
    have l6 := b6.1
    rw [w64_of (n := (i : Int) + 1) (by omega) (by omega), show (i : Int) + 1 = ((i + 1 : Nat) : Int) by push_cast; rfl]
    have hts : tcs (ts.take (i + 1)) = tcs (ts.take i) ++ tc (tat ts (i : Int)) := by
      rw [List.take_succ_eq_append_getElem hi', tcs_app]
      congr 1
      have : tat ts (i : Int) = ts[i] := tat_at (by rw [Int.toNat_natCast, List.getElem?_eq_getElem hi'])
      rw [this, tcs_cons]
      simp [tcs]
    refine seqLoop_c r hl hob ea n (i + 1) x' h7 (by omega) e7 (by omega) (by omega) v7 ?_ ?_ hx' (fun _ => ?_) hK
    · rw [hts]
      exact ox'.but b7 (.inl fun eo => hx' eo.symm)
    · intro o eo
      rcases hx'o o eo with h' | h'
      · exact fx o h'
      · omega
    · have hlen : 0 < x'.len := by rw [lx', lt]; omega
      obtain ⟨ha, hb⟩ | ⟨o, ha, _⟩ := ox'.at_
      · omega
      · rw [ha]; rfl
theorem appendSeq_c (hv : Var h0 ps (.sl s)) (r : Rd h0 s 4 (tcs ts)) (hl : ts.length ≤ 1000000) :
    callS SP i_slices_AppendSeq_s_impl_Tile_impl_Tile_ [.sl Sl.nil, .func i_slices_Values_s_impl_Tile_impl_Tile__1 [.ptr (pt ps)]] h0 fun u h' => Ow h' u 4 (tcs ts) ∧ Fr h0.length u ∧ Ext h0 h' ∧ (0 < ts.length → u.o.isSome = true) := by
  have key := appSeq_sat (P := Try.prog) (T := tab) tok (p := vpT) (q := apT) (fV := i_slices_Values_s_impl_Tile_impl_Tile__1) (f := i_slices_AppendSeq_s_impl_Tile_impl_Tile_) (fnv := Try.f78) (fna := Try.f88) (N := ts.length)
    (V3 := opsAt (sub [1, 0, 0, 1, 1, 0, 0, 1, 0] (bodyOf Try.f78))) (i0 := 0) (i1 := 1) (i2 := 2) (i3 := 3) (i4 := 4) (j0 := 0) (j1 := 1) (j2 := 2) (j3 := 3) (j4 := 4) (b0 := 0) (b1 := 1) (bb := 1) (c0 := 0) (tt := 4)
    (yc := ⟨.value (.tmp 11), #[.tmp 12], #[55]⟩)
    (by kernel_rfl) (by kernel_rfl) (by kernel_rfl) (by kernel_rfl) (by kernel_rfl) rfl rfl (by decide) ?_ rfl ?_ (by kernel_rfl) (by kernel_rfl) (calls_of (fn := Try.f88) (c := bodyOf Try.f88) (by kernel_rfl) (by kernel_rfl) (by kernel_rfl)) (calls_of (fn := Try.f78) (c := bodyOf Try.f78) (by kernel_rfl) (by kernel_rfl) (by kernel_rfl))
    (args := [.sl Sl.nil, .func i_slices_Values_s_impl_Tile_impl_Tile__1 [.ptr (pt ps)]]) (h := h0) (K := fun v h' => ∃ u, v = .sl u ∧ Ow h' u 4 (tcs ts) ∧ Fr h0.length u ∧ Ext h0 h' ∧ (0 < ts.length → u.o.isSome = true)) ?_ ?_
  · obtain ⟨v, h2, hs, u, rfl, hk⟩ := key
    exact ⟨u, h2, hs, hk⟩
  · have e0 : vpT.V0.toList.map (·.dst) = [some 5, some 6, some 7] := by kernel_rfl
    have e1 : vpT.V1.toList.map (·.dst) = [some 8] := by kernel_rfl
    have e2 : vpT.V2.toList.map (·.dst) = [some 9, some 10, some 4, none] := by kernel_rfl
    have e4 : vpT.V4.toList.map (·.dst) = [some 15, some 7] := by kernel_rfl
    intro V hV o ho d hd e
    have hm : o.dst ∈ V.toList.map (·.dst) := List.mem_map_of_mem ho
    simp only [List.mem_cons, List.not_mem_nil, or_false] at hV
    simp only [vpT, List.mem_cons, List.not_mem_nil, or_false] at hd
    rcases hV with rfl | rfl | rfl | rfl
    · rw [e0, e] at hm; simp at hm; omega
    · rw [e1, e] at hm; simp at hm; omega
    · rw [e2, e] at hm; simp at hm; omega
    · rw [e4, e] at hm; simp at hm; omega
  · have hn : Try.f78.ntmps = 16 := by kernel_rfl
    intro d hd
    simp only [vpT, List.mem_cons, List.not_mem_nil, or_false] at hd
    omega
  · have hn : Try.f78.ntmps = 16 := by kernel_rfl
    omega
  · unfold seqAll
    rw [A0_k]
    refine newO_var fun h1 v1 x1 l1 => ?_
    rw [A1_k]
    refine ⟨_, ⟨rfl, rfl⟩, ?_⟩
    rw [V0_k]
    refine (hv.ext x1).ldS ?_
    refine seqLoop_c r hl (Nat.le_refl _) x1 ts.length 0 Sl.nil h1 (by omega) x1 (by omega) (by omega) v1 (by simpa [tcs] using Ow.nil _ _) (Fr.nil _) (by simp [Sl.nil]) (fun h => by omega) fun x h e vx ox fx hs => ?_
    refine (A4_k Sl.nil _ _ (fun v h' => ∃ u, v = .sl u ∧ Ow h' u 4 (tcs ts) ∧ Fr h0.length u ∧ Ext h0 h' ∧ (0 < ts.length → u.o.isSome = true)) h).mpr ?_
    exact vx.ldS ⟨x, rfl, ox, fx, e, hs⟩
end
end Go.Proofs.Ytlbglfgienklfaa.Cl

/- The reference's sorting and searching. No claim is stated here. -/
set_option linter.unusedVariables false
set_option linter.unusedSimpArgs false
namespace Go.Proofs.Ytlbglfgienklfaa.Cl
open Go
theorem pushI4 {h : H} {s : Sl} {l : List Int} {x : Int} (r : Ow h s 1 (ic l)) (hl : (l.length : Int) + 1 ≤ lim) {K : Sl → H → Prop}
    (hk : ∀ s' h', Ow h' s' 1 (ic (l ++ [x])) → But s.o h h' → (∀ o, s.o = some o → s'.o = some o) → K s' h') : newS 1 1 [.int .i64 x] h fun t h1 => app s t 1 h1 K := by
  refine newS_ow (by rfl) fun t h1 ot tl to e1 => ?_
  have e1' : Ext h h1 := by rw [e1]; exact Ext.app _ _
  have hsl := r.rd.ilen
  exact app_ow (by omega) (r.ext e1') ot.rd (by rw [tl, hsl]; exact_mod_cast hl) fun s' h' o' ln b k1 k2 => hk s' h' (by rw [ic_app]; exact o') ((e1'.but _).trans b) k1
/-! ### plain -/
abbrev Asc (l : List Int) : Prop := l.Pairwise (· < ·)
theorem asc_ext : ∀ {l m : List Int}, Asc l → Asc m → (∀ x, x ∈ l ↔ x ∈ m) → l = m
  | [], [], _, _, _ => rfl
  | [], b :: m, _, _, h => absurd ((h b).2 (by simp)) (by simp)
  | a :: l, [], _, _, h => absurd ((h a).1 (by simp)) (by simp)
  | a :: l, b :: m, ha, hb, h => by
    have h1 := List.pairwise_cons.1 ha
    have h2 := List.pairwise_cons.1 hb
    have e : a = b := by
      rcases List.mem_cons.1 ((h a).1 (by simp)) with e | e
      · exact e
      · rcases List.mem_cons.1 ((h b).2 (by simp)) with e2 | e2
        · exact e2.symm
        · have := h2.1 a e
          have := h1.1 b e2
          omega
    subst e
    rw [asc_ext h1.2 h2.2 fun x => ?_]
    have hx := h x
    constructor
    · intro hm
      rcases List.mem_cons.1 (hx.1 (by simp [hm])) with e | e
      · have := h1.1 x hm; omega
      · exact e
    · intro hm
      rcases List.mem_cons.1 (hx.2 (by simp [hm])) with e | e
      · have := h2.1 x hm; omega
      · exact e
theorem asc_at {l : List Int} (h : Asc l) {i j : Nat} (hij : i < j) (hj : j < l.length) : l[i] < l[j] := List.pairwise_iff_getElem.1 h i j (by omega) hj hij
theorem asc_inj {l : List Int} (h : Asc l) {i j : Nat} {x : Int} (hi : l[i]? = some x) (hj : l[j]? = some x) : i = j := by
  obtain ⟨a, rfl⟩ := List.getElem?_eq_some_iff.1 hi
  obtain ⟨b, e⟩ := List.getElem?_eq_some_iff.1 hj
  rcases Nat.lt_trichotomy i j with q | q | q
  · have := asc_at h q b; omega
  · exact q
  · have := asc_at h q a; omega
theorem drop_at {α : Type} {l : List α} {i : Nat} (h : i < l.length) : l.drop i = l[i] :: l.drop (i + 1) := List.drop_eq_getElem_cons h
/-! ### views -/
theorem cut_rd {h : H} {s : Sl} {z : Nat} {cs : List AVal} (r : Rd h s z cs) (hs : 0 < s.len) {lo hi : Int} (h0 : 0 ≤ lo) (h1 : lo ≤ hi) (h2 : hi ≤ s.len) {K : Sl → Prop} (hk : ∀ s', Rd h s' z ((cs.drop (lo.toNat * z)).take ((hi - lo).toNat * z)) → s'.o = s.o → s'.len = (hi - lo).toNat → K s') : cut s z lo hi h K := by
  obtain a | ⟨a, b, e⟩ := r.at_
  · omega
  · obtain ⟨o, xs, ho, hc, hl, rfl⟩ := range_some e
    have hn : xs.length = s.n := by
      unfold cells at hc
      split at hc
      · split at hc
        · next q => rw [← Option.some.inj hc]; exact q
        · cases hc
      · split at hc
        · next q => rw [← Option.some.inj hc]; exact q
        · cases hc
      · cases hc
    have hm : hi.toNat * z ≤ s.len * z := Nat.mul_le_mul_right _ (by omega)
    refine ⟨⟨h0, h1⟩, ?_, (fun q => by rw [ho] at q; cases q), fun _ => ⟨a, by omega⟩, hk _ ⟨?_, ?_⟩ rfl rfl⟩
    · unfold okS
      rw [ho]
      simp only
      rw [hc]; rfl
    · have hlm : (hi - lo).toNat * z + lo.toNat * z = hi.toNat * z := by rw [← Nat.add_mul]; congr 1; omega
      show _ = (hi - lo).toNat * z
      simp only [List.length_take, List.length_drop]
      omega
    · by_cases q : (hi - lo).toNat = 0
      · exact .inl q
      · refine .inr ⟨rfl, b, ?_⟩
        have hlm : (hi - lo).toNat * z + lo.toNat * z = hi.toNat * z := by rw [← Nat.add_mul]; congr 1; omega
        have hh : lo.toNat * z + (hi - lo).toNat * z ≤ s.len * z := by omega
        exact range_sub e hh
theorem ok_rd {h : H} {s : Sl} {z : Nat} {cs : List AVal} (r : Rd h s z cs) (hs : 0 < s.len) : okS h s := by
  obtain a | ⟨a, b, e⟩ := r.at_
  · omega
  · obtain ⟨o, xs, ho, hc, hl, rfl⟩ := range_some e
    unfold okS
    rw [ho]
    simp only
    rw [hc]; rfl
theorem rd_lt {h : H} {s : Sl} {z : Nat} {cs : List AVal} (r : Rd h s z cs) (hs : 0 < s.len) : ∀ o, s.o = some o → o < h.length := fun o e => by
  obtain a | ⟨a, b, e2⟩ := r.at_
  · omega
  · obtain ⟨o', xs, ho, hc, hl, rfl⟩ := range_some e2
    rw [ho] at e
    cases e
    exact cells_lt hc
theorem ic_drop (l : List Int) (k : Nat) : (ic l).drop k = ic (l.drop k) := by simp [ic]
theorem ic_take (l : List Int) (k : Nat) : (ic l).take k = ic (l.take k) := by simp [ic]
/-- A step of the merge. -/
structure Mrg (A B out : List Int) (i k : Nat) : Prop where
  i1 : i ≤ A.length
  k1 : k ≤ B.length
  asc : Asc out
  lt : ∀ x ∈ out, (∀ y ∈ A.drop i, x < y) ∧ ∀ y ∈ B.drop k, x < y
  mem : ∀ x, (x ∈ out ∨ x ∈ A.drop i ∨ x ∈ B.drop k) ↔ (x ∈ A ∨ x ∈ B)
  len : out.length ≤ i + k
theorem asc_push {out : List Int} (h : Asc out) {x : Int} (hx : ∀ y ∈ out, y < x) : Asc (out ++ [x]) :=
  List.pairwise_append.2 ⟨h, List.pairwise_singleton _ _, fun a ha b hb => by rw [List.mem_singleton.1 hb]; exact hx a ha⟩
theorem Mrg.symm {A B out : List Int} {i k : Nat} (m : Mrg A B out i k) : Mrg B A out k i :=
  ⟨m.k1, m.i1, m.asc, fun x hx => ⟨(m.lt x hx).2, (m.lt x hx).1⟩, fun x => by have := m.mem x; rw [or_comm (a := x ∈ B), ← this]; rw [or_comm (a := x ∈ B.drop k)], by have := m.len; omega⟩
theorem Mrg.left {A B out : List Int} {i k : Nat} (m : Mrg A B out i k) (ha : Asc A) (hi : i < A.length) (hlt : ∀ y ∈ B.drop k, A[i] < y) : Mrg A B (out ++ [A[i]]) (i + 1) k := by
  have hd := drop_at hi
  have hsub : Asc (A.drop i) := List.Pairwise.sublist (List.drop_sublist _ _) ha
  rw [hd] at hsub
  have hp := (List.pairwise_cons.1 hsub).1
  refine ⟨hi, m.k1, asc_push m.asc fun y hy => (m.lt y hy).1 _ (by rw [hd]; exact List.mem_cons_self), fun x hx => ?_, fun x => ?_, by have := m.len; simp; omega⟩
  · rcases List.mem_append.1 hx with h | h
    · exact ⟨fun y hy => (m.lt x h).1 y (by rw [hd]; exact List.mem_cons_of_mem _ hy), (m.lt x h).2⟩
    · rw [List.mem_singleton.1 h]; exact ⟨hp, hlt⟩
  · rw [← m.mem x, hd]
    simp only [List.mem_append, List.mem_cons, List.mem_singleton, List.not_mem_nil, or_false]
    constructor
    · rintro ((h | h) | h | h)
      · exact .inl h
      · exact .inr (.inl (.inl h))
      · exact .inr (.inl (.inr h))
      · exact .inr (.inr h)
    · rintro (h | (h | h) | h)
      · exact .inl (.inl h)
      · exact .inl (.inr h)
      · exact .inr (.inl h)
      · exact .inr (.inr h)
theorem Mrg.right {A B out : List Int} {i k : Nat} (m : Mrg A B out i k) (hb : Asc B) (hk : k < B.length) (hlt : ∀ y ∈ A.drop i, B[k] < y) : Mrg A B (out ++ [B[k]]) i (k + 1) := (m.symm.left hb hk hlt).symm
theorem Mrg.skip {A B out : List Int} {i k : Nat} (m : Mrg A B out i k) (hi : i < A.length) (hk : k < B.length) (e : A[i] = B[k]) : Mrg A B out (i + 1) k := by
  have hd := drop_at hi
  have hd2 := drop_at hk
  refine ⟨hi, m.k1, m.asc, fun x hx => ⟨fun y hy => (m.lt x hx).1 y (by rw [hd]; exact List.mem_cons_of_mem _ hy), (m.lt x hx).2⟩, fun x => ?_, by have := m.len; omega⟩
  rw [← m.mem x, hd, hd2]
  simp only [List.mem_cons]
  constructor
  · rintro (h | h | h)
    · exact .inl h
    · exact .inr (.inl (.inr h))
    · exact .inr (.inr h)
  · rintro (h | (h | h) | h)
    · exact .inl h
    · exact .inr (.inr (.inl (by rw [h, e])))
    · exact .inr (.inl h)
    · exact .inr (.inr h)
theorem sortedD_c : ∀ (n : Nat) (l : List Int) (u : Sl) (h : H), l.length ≤ n → l.length ≤ 1000000 → Rd h u 1 (ic l) →
    callS SP i_spec_l04Sorted [.sl u] h fun v h' => ∃ l', Rd h' v 1 (ic l') ∧ Asc l' ∧ (∀ x, x ∈ l' ↔ x ∈ l) ∧ l'.length ≤ l.length ∧ (∀ o, v.o = some o → u.o = some o ∨ h.length ≤ o) ∧ Ext h h' := by
  intro n
  induction n with
  | zero =>
    intro l u h hl _ r
    have hul := r.ilen
    have : l = [] := List.length_eq_zero_iff.1 (by omega)
    subst this
    apply spec_l04Sorted_call
    unfold spec_l04Sorted_main
    refine bif_dec (fun _ => ⟨_, rfl, [], r, List.Pairwise.nil, (fun x => Iff.rfl), Nat.le_refl _, (fun o e => .inl e), Ext.refl _⟩) (fun f => absurd (by rw [hul]; decide) f)
  | succ n ih =>
    intro l u h hl hb r
    have hul := r.ilen
    apply spec_l04Sorted_call
    unfold spec_l04Sorted_main
    refine bif_dec (fun f => ?_) (fun f => ?_)
    · refine ⟨_, rfl, l, r, ?_, (fun x => Iff.rfl), Nat.le_refl _, (fun o e => .inl e), Ext.refl _⟩
      match l, hul with
      | [], _ => exact List.Pairwise.nil
      | [a], _ => exact List.pairwise_singleton _ _
      | a :: b :: l, hul => rw [hul] at f; simp at f; omega
    refine ⟨by decide, ?_⟩
    have hpos : 0 < u.len := by omega
    have hult := rd_lt r hpos
    refine slotK_in fun g0 x0 l0 => ?_
    have hdiv : Int.tdiv (u.len : Int) 2 = ((u.len / 2 : Nat) : Int) := rfl
    rw [hdiv, w64_of (by omega) (by omega)]
    have r0 := r.ext x0
    refine cut_rd r0 hpos (by omega) (by omega) (by omega) fun s1 r1 o1 l1 => ?_
    rw [Nat.mul_one, Nat.mul_one, ic_drop, ic_take] at r1
    refine (ih _ s1 g0 (by simp; omega) (by simp; omega) r1).to ?_
    rintro s3 g2 ⟨A, rA, aA, mA, lA, oA, x2⟩
    have r2 := r0.ext x2
    refine cut_rd r2 hpos (by omega) (by omega) (by omega) fun s4 r4 o4 l4 => ?_
    rw [Nat.mul_one, Nat.mul_one, ic_drop, ic_take] at r4
    refine ⟨ok_rd r0 hpos, ?_⟩
    refine (ih _ s4 g2 (by simp; omega) (by simp; omega) r4).to ?_
    rintro s6 g5 ⟨B, rB, aB, mB, lB, oB, x5⟩
    have l2 := x2.len
    have l5 := x5.len
    refine newSat_ow (by omega) (by rfl) fun s7 g8 o7 l7 n7 b7 t7 => ?_
    have x8 : Ext h g8 := ((x0.trans x2).trans x5).but_ b7 (some_le (by omega))
    have hA7 : s3.o ≠ some (h.length + 8) := fun e => by
      rcases oA _ e with q | q
      · rw [o1] at q; have := hult _ q; omega
      · omega
    have hB7 : s6.o ≠ some (h.length + 8) := fun e => by
      rcases oB _ e with q | q
      · rw [o4] at q; have := hult _ q; omega
      · omega
    have rA8 := (rA.ext x5).but b7 (.inl fun e => hA7 e.symm)
    have rB8 := rB.but b7 (.inl fun e => hB7 e.symm)
    refine ⟨ok_rd (r2.ext x5) hpos, ok_rd (r2.ext x5) hpos, ok_rd (r.ext x8) hpos, ok_rd (r.ext x8) hpos, ?_⟩
    have hAl := rA.ilen
    have hBl := rB.ilen
    simp only [List.length_take, List.length_drop] at lA lB
    have hmem : ∀ x, (x ∈ A ∨ x ∈ B) ↔ x ∈ l := fun x => by
      rw [mA, mB]
      simp only [Int.toNat_natCast, Int.toNat_zero, List.drop_zero]
      have e : l = l.take (u.len / 2) ++ l.drop (u.len / 2) := (List.take_append_drop _ _).symm
      have e2 : (l.drop (u.len / 2)).take (((u.len : Int) - ((u.len / 2 : Nat) : Int)).toNat) = l.drop (u.len / 2) := List.take_of_length_le (by simp; omega)
      have e3 : ((((u.len / 2 : Nat) : Int)) - 0).toNat = u.len / 2 := by omega
      rw [e2, e3]
      conv => rhs; rw [e]
      rw [List.mem_append]
    refine spec_l04Sorted_rule0 _ _ _ _ (fun s7 i k g => ∃ (i' k' : Nat) (out : List Int), i = i' ∧ k = k' ∧ Mrg A B out i' k' ∧ Ow g s7 1 (ic out) ∧ s7.o = some (h.length + 8) ∧ Rd g s3 1 (ic A) ∧ Rd g s6 1 (ic B) ∧ Ext h g) (fun _ i k _ => (A.length + B.length - i - k).toNat) ?_ _ _ _ ⟨0, 0, [], rfl, rfl, ⟨Nat.zero_le _, Nat.zero_le _, List.Pairwise.nil, fun x hx => by simp at hx, fun x => by simp, by simp⟩, o7, n7, rA8, rB8, x8⟩
    rintro X s7 _ _ g ⟨i, k, out, rfl, rfl, m, o7, n7, rA, rB, x⟩ hX
    unfold spec_l04Sorted_b0 spec_l04Sorted_C0
    have i1 := m.i1
    have k1 := m.k1
    have ml := m.len
    have push : ∀ (x : Int) (i' k' : Nat), Mrg A B (out ++ [x]) i' k' → i' + k' = i + k + 1 → newS 1 1 [.int .i64 x] g fun t g1 => Cl.app s7 t 1 g1 fun s g2 => X (spec_l04Sorted_e0 s3 s6 s (i' : Int) (k' : Int)) g2 := fun x i' k' m' hik => by
      refine pushI4 o7 (by unfold lim; omega) fun s8 g6 o8 b8 k8 => ?_
      rw [n7] at b8
      refine hX _ _ _ _ ⟨i', k', _, rfl, rfl, m', o8, k8 _ n7, rA.but b8 (.inl fun e => hA7 e.symm), rB.but b8 (.inl fun e => hB7 e.symm), ‹Ext h g›.but_ b8 (some_le (by omega))⟩ (by have := m'.i1; have := m'.k1; omega)
    have ei : w64 ((i : Int) + 1) = ((i + 1 : Nat) : Int) := by rw [w64_of (by omega) (by omega)]; push_cast; rfl
    have ek : w64 ((k : Int) + 1) = ((k + 1 : Nat) : Int) := by rw [w64_of (by omega) (by omega)]; push_cast; rfl
    rw [ei, ek]
    have gA : ∀ (hi : i < A.length) {K : Int → Prop}, K A[i] → ixS s3 1 (i : Int) fun p => Cl.ldI .i64 p g K := fun hi {K} hk => rA.ldG (by omega) (by omega) (by rw [Int.toNat_natCast, List.getD_eq_getElem?_getD, List.getElem?_eq_getElem hi]; exact hk)
    have gB : ∀ (hk : k < B.length) {K : Int → Prop}, K B[k] → ixS s6 1 (k : Int) fun p => Cl.ldI .i64 p g K := fun hk {K} hkk => rB.ldG (by omega) (by omega) (by rw [Int.toNat_natCast, List.getD_eq_getElem?_getD, List.getElem?_eq_getElem hk]; exact hkk)
    by_cases hi : i < A.length
    · have c1 : decide ((i : Int) < (s3.len : Int)) = true := decide_eq_true (by omega)
      have c2 : ((i : Int) == (s3.len : Int)) = false := by rw [beq_eq_false_iff_ne]; omega
      have hdA := drop_at hi
      by_cases hk : k < B.length
      · have c3 : decide ((k : Int) < (s6.len : Int)) = true := decide_eq_true (by omega)
        have c4 : ((k : Int) == (s6.len : Int)) = false := by rw [beq_eq_false_iff_ne]; omega
        have hdB := drop_at hk
        simp only [c1, c2, c3, c4, cond_true, cond_false]
        have sA : Asc (A.drop i) := List.Pairwise.sublist (List.drop_sublist _ _) aA
        have sB : Asc (B.drop k) := List.Pairwise.sublist (List.drop_sublist _ _) aB
        rw [hdA] at sA
        rw [hdB] at sB
        refine gA hi (gB hk ?_)
        refine bif_dec (fun q => gA hi (push _ _ _ (m.left aA hi fun y hy => ?_) (by omega))) (fun q => gB hk (gA hi ?_))
        · rw [hdB] at hy
          rcases List.mem_cons.1 hy with e | e
          · rw [e]; exact q
          · have := (List.pairwise_cons.1 sB).1 y e; omega
        · refine bif_dec (fun q2 => gB hk (push _ _ _ (m.right aB hk fun y hy => ?_) (by omega))) (fun q2 => ?_)
          · rw [hdA] at hy
            rcases List.mem_cons.1 hy with e | e
            · rw [e]; exact q2
            · have := (List.pairwise_cons.1 sA).1 y e; omega
          · exact hX _ _ _ _ ⟨i + 1, k, out, rfl, rfl, m.skip hi hk (by omega), o7, n7, rA, rB, x⟩ (by omega)
      · have hkB : k = B.length := by omega
        have c3 : decide ((k : Int) < (s6.len : Int)) = false := decide_eq_false (by omega)
        have c4 : ((k : Int) == (s6.len : Int)) = true := by rw [beq_iff_eq]; omega
        simp only [c1, c2, c3, c4, cond_true, cond_false]
        exact gA hi (push _ _ _ (m.left aA hi fun y hy => by rw [hkB, List.drop_length] at hy; cases hy) (by omega))
    · have hiA : i = A.length := by omega
      have c1 : decide ((i : Int) < (s3.len : Int)) = false := decide_eq_false (by omega)
      have c2 : ((i : Int) == (s3.len : Int)) = true := by rw [beq_iff_eq]; omega
      by_cases hk : k < B.length
      · have c3 : decide ((k : Int) < (s6.len : Int)) = true := decide_eq_true (by omega)
        have c4 : ((k : Int) == (s6.len : Int)) = false := by rw [beq_eq_false_iff_ne]; omega
        simp only [c1, c2, c3, c4, cond_true, cond_false]
        exact gB hk (push _ _ _ (m.right aB hk fun y hy => by rw [hiA, List.drop_length] at hy; cases hy) (by omega))
      · have c3 : decide ((k : Int) < (s6.len : Int)) = false := decide_eq_false (by omega)
        simp only [c1, c3, cond_false]
        refine ⟨_, rfl, out, o7.rd, m.asc, fun x => ?_, by omega, (fun o e => by rw [n7] at e; have := Option.some.inj e; right; omega), x⟩
        rw [← hmem x, ← m.mem x, hiA, show k = B.length by omega, List.drop_length, List.drop_length]
        simp
theorem l04Find_c {h : H} {u : Sl} {l : List Int} (r : Rd h u 1 (ic l)) (ha : Asc l) (hl : l.length ≤ 1000000) {x : Int} {K : Int → H → Prop} (hk : ∀ i : Int, (∃ j : Nat, i = j ∧ l[j]? = some x) ∨ (x ∉ l ∧ i = -1) → K i h) : callI SP .i64 i_spec_l04Find [.sl u, i64 x] h K := by
  have hul := r.ilen
  refine (show callI SP .i64 i_spec_l04Find [.sl u, i64 x] h fun i h' => ((∃ j : Nat, i = j ∧ l[j]? = some x) ∨ (x ∉ l ∧ i = -1)) ∧ h = h' from ?_).to (by rintro i _ ⟨q, rfl⟩; exact hk i q)
  apply spec_l04Find_call
  unfold spec_l04Find_main
  refine spec_l04Find_rule0 _ _ _ _ (fun a b g => ∃ (a' b' : Nat), a = a' ∧ b = b' ∧ a' ≤ b' ∧ b' ≤ l.length ∧ (∀ j (hj : j < l.length), j < a' → l[j] < x) ∧ (∀ j (hj : j < l.length), b' ≤ j → x ≤ l[j]) ∧ h = g) (fun a b _ => (b - a).toNat) ?_ _ _ ⟨0, l.length, rfl, by omega, by omega, Nat.le_refl _, fun j _ hj => by omega, fun j hj hb => by omega, rfl⟩
  rintro X _ _ _ ⟨a, b, rfl, rfl, hab, hb, h1, h2, rfl⟩ hX
  unfold spec_l04Find_b0 spec_l04Find_C0
  refine bif_dec (fun hi => ⟨by decide, ?_⟩) (fun hi => ?_)
  · have hd : Int.tdiv ((a : Int) + (b : Int)) 2 = (((a + b) / 2 : Nat) : Int) := by
      rw [show (a : Int) + (b : Int) = ((a + b : Nat) : Int) by push_cast; rfl]; rfl
    rw [w64_of (n := (a : Int) + (b : Int)) (by omega) (by omega), hd, w64_of (n := (((a + b) / 2 : Nat) : Int)) (by omega) (by omega)]
    have hm : (a + b) / 2 < l.length := by omega
    refine r.ldG (by omega) (by omega) ?_
    rw [Int.toNat_natCast, List.getD_eq_getElem?_getD, List.getElem?_eq_getElem hm]
    refine bif_dec (fun q => ?_) (fun q => ?_)
    · rw [w64_of (by omega) (by omega)]
      refine hX _ _ _ ⟨(a + b) / 2 + 1, b, by push_cast; rfl, rfl, by omega, hb, fun j hj hlt => ?_, h2, rfl⟩ (by omega)
      by_cases e : j = (a + b) / 2
      · subst e; exact q
      · have := asc_at ha (show j < (a + b) / 2 by omega) hm
        have : l[(a + b) / 2] < x := q
        omega
    · refine hX _ _ _ ⟨a, (a + b) / 2, rfl, rfl, by omega, by omega, h1, fun j hj hle => ?_, rfl⟩ (by omega)
      have q' : ¬ l[(a + b) / 2] < x := q
      by_cases e : j = (a + b) / 2
      · subst e; omega
      · have := asc_at ha (show (a + b) / 2 < j by omega) hj
        omega
  · have e : a = b := by omega
    subst e
    have no : (∀ (hj : a < l.length), l[a] ≠ x) → x ∉ l := fun hne hm => by
      obtain ⟨j, hj, rfl⟩ := List.getElem_of_mem hm
      rcases Nat.lt_trichotomy j a with q | q | q
      · have := h1 j hj q; omega
      · subst q; exact hne hj rfl
      · have := asc_at ha q hj
        have := h2 a (by omega) (Nat.le_refl _)
        omega
    refine bif_dec (fun q => ?_) (fun q => ⟨_, rfl, .inr ⟨no fun hj => by omega, rfl⟩, rfl⟩)
    have hal : a < l.length := by omega
    refine r.ldG (by omega) (by omega) ?_
    rw [Int.toNat_natCast, List.getD_eq_getElem?_getD, List.getElem?_eq_getElem hal]
    refine bif_eq (fun q2 => ⟨_, rfl, .inl ⟨a, rfl, ?_⟩, rfl⟩) (fun q2 => ⟨_, rfl, .inr ⟨no fun hj f => q2 f, rfl⟩, rfl⟩)
    rw [List.getElem?_eq_getElem hal]
    exact congrArg some q2
end Go.Proofs.Ytlbglfgienklfaa.Cl

/- Views of the first part of an object. No claim is stated here. -/
set_option linter.unusedVariables false
set_option linter.unusedSimpArgs false
namespace Go.Proofs.Ytlbglfgienklfaa.Cl
open Go
/-- The view s is the first part of an own object (or of none). -/
structure Pre (h : H) (s : Sl) (z : Nat) (cs : List AVal) : Prop where
  len : cs.length = s.len * z
  at_ : (s.o = none ∧ s.len = 0) ∨ (∃ o xs m, s.o = some o ∧ s.sz = z ∧ s.off = 0 ∧ s.n = m * z ∧ xs.length = m * z ∧ s.len ≤ m ∧ h[o]? = some (.own xs) ∧ xs.take (s.len * z) = cs)
theorem Pre.nil (h : H) (z : Nat) : Pre h Sl.nil z [] := ⟨by simp [Sl.nil], .inl ⟨rfl, rfl⟩⟩
theorem Ow.pre {h s z cs} (r : Ow h s z cs) : Pre h s z cs := by
  refine ⟨r.len, ?_⟩
  obtain ⟨a, b⟩ | ⟨o, a, b, c, d, e⟩ := r.at_
  · exact .inl ⟨a, b⟩
  · refine .inr ⟨o, cs, s.len, a, b, c, d, r.len, Nat.le_refl _, e, ?_⟩
    rw [← r.len, List.take_length]
theorem Pre.rd {h s z cs} (r : Pre h s z cs) : Rd h s z cs := by
  refine ⟨r.len, ?_⟩
  obtain ⟨a, b⟩ | ⟨o, xs, m, a, b, c, d, e, f, g, k⟩ := r.at_
  · exact .inl b
  · have hm : s.len * z ≤ m * z := Nat.mul_le_mul_right _ f
    refine .inr ⟨b, by simp [a], ?_⟩
    rw [a, range_of (xs := xs) (by unfold cells; simp [g, d, e]) (by omega), c, List.drop_zero, k]
theorem Pre.chg {P} {h h' : H} {s z cs} (r : Pre h s z cs) (b : Chg P h h') (hn : ∀ i, s.o = some i → ¬ P i) : Pre h' s z cs :=
  ⟨r.len, r.at_.imp id fun ⟨o, xs, m, a, b', c, d, e, f, g, k⟩ => ⟨o, xs, m, a, b', c, d, e, f, b.get g (hn o a), k⟩⟩
theorem Pre.ext {h h' : H} {s z cs} (r : Pre h s z cs) (x : Ext h h') : Pre h' s z cs := r.chg (x.chg fun _ => False) fun _ _ f => f
theorem Pre.but {o : Option Nat} {h h' : H} {s z cs} (r : Pre h s z cs) (b : But o h h') (hn : ∀ i, s.o = some i → o ≠ some i) : Pre h' s z cs :=
  r.chg (b.chg (P := fun i => o = some i) fun i e => e) hn
theorem Pre.lt {h s z cs} (r : Pre h s z cs) {o : Nat} (e : s.o = some o) : o < h.length := by
  obtain ⟨a, _⟩ | ⟨i, xs, m, a, _, _, _, _, _, g, _⟩ := r.at_
  · rw [a] at e; cases e
  · rw [a] at e; cases e; exact (List.getElem?_eq_some_iff.1 g).1
theorem Pre.ok {h s z cs} (r : Pre h s z cs) : okS h s := by
  unfold okS
  obtain ⟨a, _⟩ | ⟨i, xs, m, a, _, _, d, e, _, g, _⟩ := r.at_
  · rw [a]; trivial
  · rw [a]; unfold cells; simp [g, d, e]
end Go.Proofs.Ytlbglfgienklfaa.Cl

/- Sorted tiles, each once: the program's walk. No claim is stated here. -/
set_option linter.unusedVariables false
set_option linter.unusedSimpArgs false
namespace Go.Proofs.Ytlbglfgienklfaa.Cl
open Go
theorem eqA_tc {a b : Tile} {K : Bool → Prop} (h : K (decide (a = b))) : eqA .i64 4 (tc a) (tc b) K := by
  refine ⟨tl a, tl b, rfl, rfl, rfl, rfl, ?_⟩
  have : (tl a == tl b) = decide (a = b) := by
    obtain ⟨a1, a2, a3, a4⟩ := a
    obtain ⟨b1, b2, b3, b4⟩ := b
    rw [Bool.eq_iff_iff, beq_iff_eq, decide_eq_true_eq]
    simp [tl]
  rw [this]
  exact h
section
variable {h0 : H} {s : Sl} {l : List Tile} {ps : Nat}
theorem sortedFunc_c (hv : Var h0 ps (.sl s)) (r : Rd h0 s 4 (tcs l)) (hl : l.length ≤ 1000000) :
    callS SP i_slices_SortedFunc_impl_Tile_ [.func i_slices_Values_s_impl_Tile_impl_Tile__1 [.ptr (pt ps)], .func i_impl_compare []] h0 fun u h' => ∃ l', Ow h' u 4 (tcs l') ∧ l'.Perm l ∧ l'.Pairwise (fun a b => ¬ ltT b a) ∧ Fr h0.length u ∧ Ext h0 h' := by
  apply slices_SortedFunc_impl_Tile__call
  unfold slices_SortedFunc_impl_Tile__main
  have hc : callS SP i_slices_Collect_impl_Tile_ [.func i_slices_Values_s_impl_Tile_impl_Tile__1 [.ptr (pt ps)]] h0 fun u h' => Ow h' u 4 (tcs l) ∧ Fr h0.length u ∧ Ext h0 h' := by
    apply slices_Collect_impl_Tile__call
    unfold slices_Collect_impl_Tile__main
    refine (appendSeq_c hv r hl).to ?_
    rintro u h' ⟨o, f, x, _⟩
    exact ⟨u, rfl, o, f, x⟩
  refine hc.to ?_
  rintro u h1 ⟨o1, f1, x1⟩
  refine (sortT_c o1 (by omega)).to ?_
  rintro v h2 ⟨rfl, l', o2, hp, hs, b2, ln⟩
  exact ⟨u, rfl, l', o2, hp, hs, f1, x1.but_ b2 fun o e => f1 o e⟩
/-! ### each once -/
def cmpl : List Tile → List Tile
  | [] => []
  | [a] => [a]
  | a :: b :: l => if a = b then cmpl (b :: l) else a :: cmpl (b :: l)
theorem mem_cmpl {x : Tile} : ∀ {l : List Tile}, x ∈ cmpl l ↔ x ∈ l
  | [] => Iff.rfl
  | [a] => Iff.rfl
  | a :: b :: l => by
    have ih := mem_cmpl (x := x) (l := b :: l)
    unfold cmpl
    split
    · next h => subst h; rw [ih]; simp
    · rw [List.mem_cons, ih, List.mem_cons (l := b :: l)]
theorem cmpl_head : ∀ (a : Tile) (l : List Tile), ∃ m, cmpl (a :: l) = a :: m
  | a, [] => ⟨[], rfl⟩
  | a, b :: l => by
    unfold cmpl
    split
    · next h => subst h; exact cmpl_head a l
    · exact ⟨_, rfl⟩
theorem pw_cmpl : ∀ {l : List Tile}, l.Pairwise (fun a b => ¬ ltT b a) → (cmpl l).Pairwise ltT
  | [], _ => List.Pairwise.nil
  | [a], _ => by simp [cmpl]
  | a :: b :: l, h => by
    have h1 := List.pairwise_cons.1 h
    have ih := pw_cmpl h1.2
    unfold cmpl
    split
    · exact ih
    · next hne =>
      refine List.pairwise_cons.2 ⟨fun x hx => ?_, ih⟩
      have hab : ltT a b := (ltT_sto.tri a b hne).resolve_right (h1.1 b (by simp))
      rcases List.mem_cons.1 (mem_cmpl.1 hx) with rfl | hx'
      · exact hab
      · have h2 := (List.pairwise_cons.1 h1.2).1 x hx'
        by_cases e : b = x
        · rw [← e]; exact hab
        · exact ltT_sto.trans _ _ _ hab ((ltT_sto.tri b x e).resolve_right h2)
theorem cmpl_app : ∀ (l : List Tile) (a x : Tile), cmpl (l ++ [a, x]) = if a = x then cmpl (l ++ [a]) else cmpl (l ++ [a]) ++ [x]
  | [], a, x => by
    simp only [List.nil_append, cmpl]
    split <;> simp_all
  | [b], a, x => by
    have ih := cmpl_app [] a x
    simp only [List.nil_append, List.cons_append] at ih ⊢
    rw [cmpl, ih]
    conv => rhs; rw [cmpl]
    by_cases h1 : b = a
    · simp [h1]
    · simp only [if_neg h1]
      by_cases h2 : a = x
      · rw [if_pos h2, if_pos h2]
      · rw [if_neg h2, if_neg h2]; simp
  | b :: c :: l, a, x => by
    have ih := cmpl_app (c :: l) a x
    simp only [List.cons_append] at ih ⊢
    rw [cmpl, ih]
    conv => rhs; rw [cmpl]
    by_cases h1 : b = c
    · simp [h1]
    · simp only [if_neg h1]
      by_cases h2 : a = x
      · rw [if_pos h2, if_pos h2]
      · rw [if_neg h2, if_neg h2]; simp
theorem cmpl_take {l : List Tile} {k : Nat} (h0 : 1 ≤ k) (hk : k < l.length) : cmpl (l.take (k + 1)) = if l[k - 1]'(by omega) = l[k] then cmpl (l.take k) else cmpl (l.take k) ++ [l[k]] := by
  obtain ⟨j, rfl⟩ : ∃ j, k = j + 1 := ⟨k - 1, by omega⟩
  have e1 : l.take (j + 1 + 1) = l.take j ++ [l[j], l[j + 1]] := by
    rw [List.take_succ_eq_append_getElem hk, List.take_succ_eq_append_getElem (show j < l.length by omega), List.append_assoc]
    rfl
  have e2 : l.take (j + 1) = l.take j ++ [l[j]] := List.take_succ_eq_append_getElem (by omega)
  rw [e1, e2]
  exact cmpl_app _ _ _
theorem cmpl_len : ∀ l : List Tile, (cmpl l).length ≤ l.length
  | [] => Nat.le_refl _
  | [a] => Nat.le_refl _
  | a :: b :: l => by
    have ih := cmpl_len (b :: l)
    unfold cmpl
    split <;> simp only [List.length_cons] at * <;> omega
theorem tcs_take4 : ∀ (l : List Tile) (n : Nat), (tcs l).take (n * 4) = tcs (l.take n)
  | [], n => by simp [tcs]
  | a :: l, 0 => by simp [tcs]
  | a :: l, n + 1 => by
    rw [List.take_succ_cons, tcs_cons, tcs_cons, ← tcs_take4 l n, show (n + 1) * 4 = (tc a).length + n * 4 by rw [tc_len]; omega, List.take_length_add_append]
theorem tcs_drop4 : ∀ (l : List Tile) (n : Nat), (tcs l).drop (n * 4) = tcs (l.drop n)
  | [], n => by simp [tcs]
  | a :: l, 0 => by simp
  | a :: l, n + 1 => by
    rw [List.drop_succ_cons, tcs_cons, ← tcs_drop4 l n, show (n + 1) * 4 = (tc a).length + n * 4 by rw [tc_len]; omega, ← List.drop_drop, List.drop_left]
theorem Ow.cutV {h : H} {A : List Tile} (r : Ow h s 4 (tcs A)) {o : Nat} (ho : s.o = some o) {lo hi : Int} (h0 : 0 ≤ lo) (h1 : lo ≤ hi) (h2 : hi ≤ s.len) {K : Sl → Prop} (hk : K ⟨s.o, s.n, lo.toNat * 4, (hi - lo).toNat, 4⟩) : cut s 4 lo hi h K := by
  obtain ⟨a, _⟩ | ⟨o', a, b, c, d, e⟩ := r.at_
  · rw [ho] at a; cases a
  · have hc : (cells h o' s.n).isSome = true := by unfold cells; rw [e]; simp only; rw [if_pos (by rw [r.len, d])]; rfl
    refine ⟨⟨h0, h1⟩, by unfold okS; rw [a]; exact hc, (fun hn => by rw [a] at hn; cases hn), fun _ => ⟨b, by rw [c, d]; have : hi.toNat * 4 ≤ s.len * 4 := Nat.mul_le_mul_right _ (by omega); omega⟩, ?_⟩
    rw [c, Nat.zero_add]
    exact hk
theorem Ow.viewT {h : H} {A : List Tile} (r : Ow h s 4 (tcs A)) {o : Nat} (ho : s.o = some o) {lo n : Nat} (hn : lo + n ≤ s.len) : Rd h ⟨s.o, s.n, lo * 4, n, 4⟩ 4 (tcs ((A.drop lo).take n)) := by
  have hal : A.length = s.len := by have := r.rd.tlen; omega
  obtain ⟨a, _⟩ | ⟨o', a, b, c, d, e⟩ := r.at_
  · rw [ho] at a; cases a
  · refine ⟨by rw [tcs_len, List.length_take, List.length_drop]; show min n (A.length - lo) * 4 = n * 4; rw [show min n (A.length - lo) = n by omega], .inr ⟨rfl, by rw [ho]; rfl, ?_⟩⟩
    have hc : cells h o' s.n = some (tcs A) := by unfold cells; rw [e]; simp only; rw [if_pos (by rw [r.len, d])]
    show range h s.o s.n (lo * 4) (n * 4) = _
    rw [a, range_of hc (by rw [tcs_len]; omega), tcs_drop4, tcs_take4]
theorem Compact_c (r : Ow h0 s 4 (tcs l)) (hl : l.length ≤ 1000000) :
    callS SP i_slices_Compact_s_impl_Tile_impl_Tile_ [.sl s] h0 fun u h' => Pre h' u 4 (tcs (cmpl l)) ∧ But s.o h0 h' ∧ (∀ o, u.o = some o → s.o = some o) ∧ h'.length = h0.length := by
  have hsl := r.rd.tlen
  apply slices_Compact_s_impl_Tile_impl_Tile__call
  unfold slices_Compact_s_impl_Tile_impl_Tile__main
  refine bif_dec (fun h2 => ?_) (fun h2 => ?_)
  · have : cmpl l = l := by
      match l, hsl, h2 with
      | [], _, _ => rfl
      | [a], _, _ => rfl
      | a :: b :: m, e, h2 => simp at e; omega
    exact ⟨s, rfl, by rw [this]; exact r.pre, ⟨Nat.le_refl _, fun _ _ _ => rfl⟩, fun o e => e, rfl⟩
  obtain ⟨o, hso⟩ : ∃ o, s.o = some o := by
    obtain ⟨a, b⟩ | ⟨o, a, _⟩ := r.at_
    · omega
    · exact ⟨o, a⟩
  refine slices_Compact_s_impl_Tile_impl_Tile__rule0 _ _ _ (fun i h => ∃ k : Nat, i = k ∧ 1 ≤ k ∧ k ≤ l.length ∧ h = h0 ∧ cmpl (l.take k) = l.take k) (fun i _ => (l.length - i).toNat) ?_ _ ⟨1, rfl, by omega, by omega, rfl, ?_⟩
  rotate_left
  · match l, hsl with
    | [], _ => rfl
    | a :: m, _ => rfl
  rintro X0 _ h ⟨k, rfl, k1, k2, rfl, hk⟩ hX
  unfold slices_Compact_s_impl_Tile_impl_Tile__b0 slices_Compact_s_impl_Tile_impl_Tile__C0
  refine bif_dec (fun hi => ?_) (fun hi => ?_)
  rotate_left
  · rw [show k = l.length by omega, List.take_length] at hk
    exact ⟨s, rfl, by rw [hk]; exact r.pre, ⟨Nat.le_refl _, fun _ _ _ => rfl⟩, fun o e => e, rfl⟩
  have hkl : k < l.length := by omega
  have tatN : ∀ {B : List Tile} {j : Nat} (hj : j < B.length), tat B (j : Int) = B[j] := fun {B j} hj => tat_at (by rw [Int.toNat_natCast, List.getElem?_eq_getElem hj])
  refine r.rd.tileG (by omega) (by omega) ?_
  rw [w64_of (n := (k : Int) - 1) (by omega) (by omega), show (k : Int) - 1 = ((k - 1 : Nat) : Int) by omega]
  refine r.rd.tileG (by omega) (by omega) (eqA_tc ?_)
  rw [tatN hkl, tatN (show k - 1 < l.length by omega)]
  have hct := cmpl_take k1 hkl
  refine bif_dec (fun he => ?_) (fun he => ?_)
  rotate_left
  · unfold slices_Compact_s_impl_Tile_impl_Tile__C1
    rw [w64_of (n := (k : Int) + 1) (by omega) (by omega)]
    refine hX _ _ ⟨k + 1, by push_cast; rfl, by omega, by omega, rfl, ?_⟩ (by omega)
    rw [hct, if_neg (fun e => he e.symm), hk, List.take_succ_eq_append_getElem hkl]
  rw [if_pos he.symm, hk] at hct
  refine r.cutV hso (by omega) (by omega) (by omega) ?_
  rw [Int.toNat_natCast, show ((s.len : Int) - (k : Int)).toNat = l.length - k by omega]
  refine slices_Compact_s_impl_Tile_impl_Tile__rule2 _ _ X0 _ _ (fun a b g => ∃ (kk k2 : Nat) (A : List Tile), a = kk ∧ b = k2 ∧ 1 ≤ k2 ∧ k + k2 ≤ l.length ∧ Ow g s 4 (tcs A) ∧ A.length = l.length ∧ kk ≤ k + k2 - 1 ∧ A.take kk = cmpl (l.take (k + k2)) ∧ kk = (cmpl (l.take (k + k2))).length ∧ A.drop (k + k2 - 1) = l.drop (k + k2 - 1) ∧ But s.o h g ∧ g.length = h.length) (fun _ b _ => (l.length - b).toNat) ?_ _ _
    ⟨k, 1, l, rfl, rfl, by omega, by omega, r, rfl, by omega, hct.symm, by rw [hct, List.length_take]; omega, rfl, ⟨Nat.le_refl _, fun _ _ _ => rfl⟩, rfl⟩
  rintro X2 _ _ g ⟨kk, q, A, rfl, rfl, q1, q2, rA, hA, hkk, ht, hkl2, hd, hbut, hgl⟩ hY
  unfold slices_Compact_s_impl_Tile_impl_Tile__b2 slices_Compact_s_impl_Tile_impl_Tile__C2
  refine bif_dec (fun hj => ?_) (fun hj => ?_)
  · have hq : k + q < l.length := by have : (q : Int) < ((l.length - k : Nat) : Int) := hj; omega
    have rv := rA.viewT hso (lo := k) (n := l.length - k) (by omega)
    have hvl : ((A.drop k).take (l.length - k)).length = l.length - k := by rw [List.length_take, List.length_drop]; omega
    have hget : ∀ j, k + q - 1 ≤ k + j → k + j < l.length → ((A.drop k).take (l.length - k)).getD j (0, 0, 0, 0) = l.getD (k + j) (0, 0, 0, 0) := fun j h1 h2 => by
      have e1 := congrArg (fun m => m[k + j - (k + q - 1)]?) hd
      simp only [List.getElem?_drop] at e1
      rw [List.getD_eq_getElem?_getD, List.getD_eq_getElem?_getD, List.getElem?_take, if_pos (by omega), List.getElem?_drop]
      rw [show k + q - 1 + (k + j - (k + q - 1)) = k + j by omega] at e1
      rw [e1]
    have ld : ∀ j : Nat, k + q - 1 ≤ k + j → k + j < l.length → tat ((A.drop k).take (l.length - k)) (j : Int) = tat l ((k + j : Nat) : Int) := fun j h1 h2 => by
      unfold tat
      rw [Int.toNat_natCast, Int.toNat_natCast]
      exact hget j h1 h2
    refine rv.tileG (by omega) (by rw [hvl]; omega) ?_
    rw [w64_of (n := (q : Int) - 1) (by omega) (by omega), show (q : Int) - 1 = ((q - 1 : Nat) : Int) by omega]
    refine rv.tileG (by omega) (by rw [hvl]; omega) (eqA_tc ?_)
    rw [ld q (by omega) hq, ld (q - 1) (by omega) (by omega), tatN hq, tatN (show k + (q - 1) < l.length by omega)]
    have hct2 := cmpl_take (l := l) (k := k + q) (by omega) hq
    have hst : ((q : Int) + 1) = ((q + 1 : Nat) : Int) := by push_cast; rfl
    rw [w64_of (n := (q : Int) + 1) (by omega) (by omega)]
    have hidx : l[k + (q - 1)]'(by omega) = l[k + q - 1]'(by omega) := by congr 1; omega
    refine bif_not (fun he => ?_) (fun he => ?_)
    · have he := of_decide_eq_false he
      refine rv.tileG (by omega) (by rw [hvl]; omega) ?_
      rw [ld q (by omega) hq, tatN hq]
      refine rA.stA (by omega) (by omega) (tc l[k + q]) rfl fun g' rA' b' hl' => ?_
      rw [Int.toNat_natCast, tcs_set A kk l[k + q] (by omega)] at rA'
      rw [if_neg (fun e => he (by rw [hidx]; exact e.symm))] at hct2
      rw [w64_of (n := (kk : Int) + 1) (by omega) (by omega)]
      refine hY _ _ _ ⟨kk + 1, q + 1, A.set kk l[k + q], by push_cast; rfl, hst, by omega, by omega, rA', by rw [List.length_set]; exact hA, by omega, ?_, ?_, ?_, hbut.trans b', by omega⟩ (by omega)
      · rw [show k + (q + 1) = k + q + 1 by omega, hct2, ← ht]
        rw [List.take_succ_eq_append_getElem (by rw [List.length_set]; omega), List.getElem_set_self, List.take_set_of_le (Nat.le_refl _)]
      · rw [show k + (q + 1) = k + q + 1 by omega, hct2, List.length_append, ← hkl2]; rfl
      · rw [show k + (q + 1) - 1 = (k + q - 1) + 1 by omega, List.drop_set_of_lt (by omega), ← List.drop_drop, ← List.drop_drop, hd]
    · have he := of_decide_eq_true he
      rw [if_pos (by rw [← hidx]; exact he.symm)] at hct2
      refine hY _ _ _ ⟨kk, q + 1, A, rfl, hst, by omega, by omega, rA, hA, by omega, ?_, ?_, ?_, hbut, hgl⟩ (by omega)
      · rw [show k + (q + 1) = k + q + 1 by omega, hct2]; exact ht
      · rw [show k + (q + 1) = k + q + 1 by omega, hct2]; exact hkl2
      · rw [show k + (q + 1) - 1 = (k + q - 1) + 1 by omega, ← List.drop_drop, ← List.drop_drop, hd]
  · have hq : k + q = l.length := by have : ¬ (q : Int) < ((l.length - k : Nat) : Int) := hj; omega
    rw [hq, List.take_length] at ht hkl2
    have hkk' : kk < l.length := by omega
    refine rA.cutV hso (by omega) (by omega) (by omega) ?_
    rw [Int.toNat_natCast, show ((s.len : Int) - (kk : Int)).toNat = l.length - kk by omega]
    obtain ⟨a, _⟩ | ⟨o', a, b, c, d, e⟩ := rA.at_
    · rw [hso] at a; cases a
    unfold clearS
    rw [if_neg (show ¬ (l.length - kk = 0) by omega)]
    have hz : (List.replicate (l.length - kk) [i64 0, i64 0, i64 0, i64 0]).flatten = tcs (List.replicate (l.length - kk) (0, 0, 0, 0)) := by
      unfold tcs
      rw [List.map_replicate]
      rfl
    have hzl : (tcs (List.replicate (l.length - kk) ((0, 0, 0, 0) : Tile))).length = (l.length - kk) * 4 := by rw [tcs_len, List.length_replicate]
    have hol : o' < g.length := (List.getElem?_eq_some_iff.1 e).1
    have hsp : splice (tcs A) (kk * 4) (tcs (List.replicate (l.length - kk) ((0, 0, 0, 0) : Tile))) = tcs (A.take kk ++ List.replicate (l.length - kk) (0, 0, 0, 0)) := by
      unfold splice
      rw [tcs_take4, tcs_app, hzl, List.drop_of_length_le (by rw [tcs_len]; omega), List.append_nil]
    refine ⟨g.set o' (.own (tcs (A.take kk ++ List.replicate (l.length - kk) (0, 0, 0, 0)))), rfl, ?_, ?_⟩
    · show putN g s.o s.n (kk * 4) (List.replicate (l.length - kk) [i64 0, i64 0, i64 0, i64 0]).flatten = _
      rw [hz, a]
      have hlen : (tcs A).length = s.n := by rw [tcs_len, d, hA, hsl]
      simp only [putN, owned, e]
      rw [if_pos hlen]
      simp only [Option.bind_some]
      rw [if_pos (by rw [hzl, tcs_len]; omega), hsp]
    · have rB : Ow (g.set o' (.own (tcs (A.take kk ++ List.replicate (l.length - kk) (0, 0, 0, 0))))) s 4 (tcs (A.take kk ++ List.replicate (l.length - kk) (0, 0, 0, 0))) := ⟨by rw [tcs_len, List.length_append, List.length_take, List.length_replicate]; congr 1; omega, .inr ⟨o', a, b, c, d, by simp [hol]⟩⟩
      refine rB.cutV hso (by omega) (by omega) (by omega) ?_
      have e5 : (tcs (A.take kk ++ List.replicate (l.length - kk) (0, 0, 0, 0))).take (kk * 4) = tcs (cmpl l) := by rw [tcs_take4, List.take_left' (by rw [List.length_take]; omega), ht]
      have hlt : (tcs (A.take kk ++ List.replicate (l.length - kk) (0, 0, 0, 0))).length = s.len * 4 := rB.len
      have rv : Pre (g.set o' (.own (tcs (A.take kk ++ List.replicate (l.length - kk) (0, 0, 0, 0))))) ⟨s.o, s.n, 0, kk, 4⟩ 4 (tcs (cmpl l)) :=
        ⟨by rw [tcs_len, ← hkl2], .inr ⟨o', _, s.len, a, rfl, rfl, d, hlt, by show kk ≤ s.len; omega, by simp [hol], e5⟩⟩
      rw [show (0 : Int).toNat = 0 from rfl, show ((kk : Int) - 0).toNat = kk by omega]
      refine ⟨_, rfl, rv, ?_, fun o e => e, by rw [List.length_set]; exact hgl⟩
      refine hbut.trans ⟨by rw [List.length_set]; omega, fun i hi hne => by rw [List.getElem?_set, if_neg (fun e => hne (by rw [a, e]))]⟩
end
end Go.Proofs.Ytlbglfgienklfaa.Cl

/- The sets of tiles in order; pairs of colours: the program's walk. No claim is stated here. -/
set_option linter.unusedVariables false
set_option linter.unusedSimpArgs false
namespace Go.Proofs.Ytlbglfgienklfaa.Cl
open Go
noncomputable def dsT (l : List Tile) : List Tile := dsort ltT l
theorem dsT_of {l l' : List Tile} (hp : l'.Perm l) (hs : l'.Pairwise fun a b => ¬ ltT b a) : cmpl l' = dsT l :=
  dsort_eq ltT_sto (pw_cmpl hs) fun x => by rw [mem_cmpl]; exact hp.mem_iff
theorem dsT_len (l : List Tile) : (dsT l).length ≤ l.length := dsort_len l
/-- Small enough for a set? -/
def fitS (c : Int) (l : List Tile) : Prop := c ≤ 6 ∧ (dsT l).length ≤ 16
section
variable {h0 : H} {s : Sl} {l : List Tile} {c : Int}
open Classical in
theorem setOf_c (r : Rd h0 s 4 (tcs l)) (hl : l.length ≤ 1000000) :
    callV SP i_impl_setOf [i64 c, .sl s] h0 fun v h' => ∃ u, v = .tuple [.agg [i64 c, .sl u], .bool (decide (fitS c l))] ∧ Pre h' u 4 (tcs (dsT l)) ∧ Fr h0.length u ∧ Ext h0 h' := by
  apply impl_setOf_call
  unfold impl_setOf_main
  refine newO_obj fun h1 o1 x1 n1 => ?_
  have hv : callV SP i_slices_Values_s_impl_Tile_impl_Tile_ [.sl s] h1 fun v h' => v = .func i_slices_Values_s_impl_Tile_impl_Tile__1 [.ptr (pt h1.length)] ∧ Var h' h1.length (.sl s) ∧ Ext h1 h' := by
    apply slices_Values_s_impl_Tile_impl_Tile__call
    unfold slices_Values_s_impl_Tile_impl_Tile__main
    exact newO_var fun h2 v2 x2 n2 => ⟨rfl, v2, x2⟩
  refine hv.to ?_
  rintro _ h2 ⟨rfl, v2, x2⟩
  have X2 := x1.trans x2
  refine (sortedFunc_c v2 (r.ext X2) hl).to ?_
  rintro u h3 ⟨l', o3, hp, hs, f3, x3⟩
  have hll := hp.length_eq
  refine (Compact_c o3 (by omega)).to ?_
  rintro w h4 ⟨rw4, b4, hw, ln4⟩
  rw [dsT_of hp hs] at rw4
  have X4 : Ext h0 h4 := (X2.trans x3).but_ b4 fun o e => by have := f3 o e; have := X2.len; omega
  have hwl := rw4.rd.tlen
  have o4 : Obj h4 h0.length [i64 0, .sl Sl.nil] := (o1.ext (x2.trans x3)).but b4 (fun e => by
    have := f3 _ e
    have := X2.len
    have := x1.len
    have := x2.len
    omega)
  refine newO_obj fun h5 o5 x5 n5 => ?_
  refine o5.stA fun h6 o6 b6 n6 => ?_
  have y6 : Ext h4 h6 := x5.but_ b6 (some_le (Nat.le_refl _))
  refine o6.ldA rfl ?_
  refine isPt_in (o6.ldI rfl rfl ?_)
  have ho := o4.ext y6
  have hol := o4.lt
  have hdl := dsT_len l
  have hfw : Fr h0.length w := fun o e => by have := f3 _ (hw _ e); have := X2.len; omega
  refine bif_dec (fun hc => ?_) (fun hc => ?_)
  · refine isPt_in (o6.ldS rfl rfl ?_)
    refine ho.stA fun h7 o7 b7 n7 => ?_
    have o67 : Obj h7 h4.length [i64 c, .sl w] := o6.but b7 (fun e => by have := Option.some.inj e; omega)
    have hcell : cell h7 (Pt.add ⟨some h4.length, 2, 0⟩ 1) = cell h6 (Pt.add ⟨some h4.length, 2, 0⟩ 1) := by rw [o67.cellE (n := 2) rfl, o6.cellE (n := 2) rfl]
    refine ⟨hcell, ?_⟩
    refine o7.ldA rfl ⟨w, ?_, (rw4.ext y6).but b7 (fun i ei e => ?_), hfw, (X4.trans y6).but_ b7 (some_le (Nat.le_refl _))⟩
    · have : decide ((w.len : Int) ≤ 16) = decide (fitS c l) := by
        rw [decide_eq_decide]
        unfold fitS
        rw [hwl]
        exact ⟨fun h => ⟨hc, by omega⟩, fun h => by have := h.2; omega⟩
      rw [this]
    · have := f3 _ (hw _ ei)
      have := X2.len
      have := x1.len
      have := x2.len
      have := Option.some.inj e
      omega
  · refine ho.stA fun h7 o7 b7 n7 => ?_
    refine o7.ldA rfl ⟨w, ?_, (rw4.ext y6).but b7 (fun i ei e => ?_), hfw, (X4.trans y6).but_ b7 (some_le (Nat.le_refl _))⟩
    · have : decide (fitS c l) = false := decide_eq_false fun h => hc h.1
      rw [this]
    · have := f3 _ (hw _ ei)
      have := X2.len
      have := x1.len
      have := x2.len
      have := Option.some.inj e
      omega
open Classical in
theorem limited_c (r : Rd h0 s 4 (tcs l)) (hl : l.length ≤ 1000000) :
    callV SP i_impl_limited [i64 c, .sl s] h0 fun v h' => ∃ u, v = .tuple [.agg (if fitS c l then [i64 c, .sl u] else [i64 0, .sl Sl.nil]), i64 (if fitS c l then 0 else 3)] ∧ (fitS c l → Pre h' u 4 (tcs (dsT l)) ∧ Fr h0.length u) ∧ Ext h0 h' := by
  apply impl_limited_call
  unfold impl_limited_main
  refine newO_obj fun h1 o1 x1 n1 => ?_
  refine (setOf_c (c := c) (r.ext x1) hl).to ?_
  rintro _ h2 ⟨u, rfl, ru, fu, x2⟩
  refine ⟨_, rfl, _, rfl, _, rfl, _, rfl, ?_⟩
  refine newO_obj fun h3 o3 x3 n3 => ?_
  refine o3.stA fun h4 o4 b4 n4 => ?_
  have y4 : Ext h2 h4 := x3.but_ b4 (some_le (Nat.le_refl _))
  have ho := o1.ext (x2.trans y4)
  have X := (x1.trans x2).trans y4
  by_cases hf : fitS c l
  · simp only [if_pos hf]
    rw [decide_eq_true hf]
    refine bif_b (fun e => by cases e) (fun _ => ?_)
    refine o4.ldA rfl ?_
    refine ho.stA fun h5 o5 b5 n5 => ?_
    refine o5.ldA rfl ⟨u, rfl, fun _ => ?_, X.but_ b5 (some_le (Nat.le_refl _))⟩
    exact ⟨(ru.ext y4).but b5 (fun i ei e => by have := fu _ ei; have := Option.some.inj e; omega), fu.le (by omega)⟩
  · simp only [if_neg hf]
    rw [decide_eq_false hf]
    refine bif_b (fun _ => ?_) (fun e => by cases e)
    refine ho.stA fun h5 o5 b5 n5 => ?_
    exact o5.ldA rfl ⟨u, rfl, fun h => absurd h hf, X.but_ b5 (some_le (Nat.le_refl _))⟩
end
end Go.Proofs.Ytlbglfgienklfaa.Cl

/- Steps of the laws. No claim is stated here. -/
set_option linter.unusedVariables false
set_option linter.unusedSimpArgs false
namespace Go.Proofs.Ytlbglfgienklfaa.Cl
open Go
theorem szSet_k (c : Int) (s : Sl) (left : Int) (hl : s.len ≤ 9223372036854775807) (h1 : 0 ≤ left) (h2 : left ≤ 1048576) (h : H) : callI SP .i64 i_laws_szSet [.agg (SetC c s), i64 left] h fun n h' => Ext h h' ∧ (n < 0 ∨ (n = left - s.len ∧ 0 ≤ n)) := by
  refine (szSet_c c s left hl h1 h2 h).to ?_
  rintro _ h' ⟨rfl, x⟩
  refine ⟨x, ?_⟩
  by_cases hq : left - s.len < 0
  · rw [if_pos hq]; exact .inl (by omega)
  · rw [if_neg hq]; exact .inr ⟨rfl, by omega⟩
theorem szTileS_k (s : Sl) (left : Int) (hl : s.len ≤ 9223372036854775807) (h1 : 0 ≤ left) (h2 : left ≤ 1048576) (h : H) : callI SP .i64 i_laws_szTileS [.sl s, i64 left] h fun n h' => Ext h h' ∧ (n < 0 ∨ (n = left - s.len ∧ 0 ≤ n)) := by
  refine (szTileS_c s left hl h1 h2 h).to ?_
  rintro _ _ ⟨rfl, rfl⟩
  refine ⟨Ext.refl _, ?_⟩
  by_cases hq : left - s.len < 0
  · rw [if_pos hq]; exact .inl (by omega)
  · rw [if_neg hq]; exact .inr ⟨rfl, by omega⟩
theorem bif_neb {x y : Bool} {a b : Prop} (h1 : x ≠ y → a) (h2 : x = y → b) : bif x != y then a else b := by
  by_cases hp : x = y
  · rw [show (x != y) = false by simp [hp]]; exact h2 hp
  · rw [show (x != y) = true by simp [hp]]; exact h1 hp
theorem eqS_yes {h0 : H} {s s' : Sl} {l : List Int} (r : Rd h0 s 1 (ic l)) (r' : Rd h0 s' 1 (ic l)) (hl : l.length < 4000000000000000000) {A : H → Prop} {B : H → Prop} (hk : B h0) : callB SP i_laws_eqInt64S [.sl s, .sl s'] h0 fun b h' => bif !b then A h' else B h' := by
  refine (eqInt64S_c r r' hl).to ?_
  rintro _ _ ⟨rfl, rfl⟩
  exact bif_not (fun hq => by simp at hq) fun _ => hk
theorem eqSet_yes {h0 : H} {c : Int} {s s' : Sl} {ts : List Tile} (r : Rd h0 s 4 (tcs ts)) (r' : Rd h0 s' 4 (tcs ts)) (hl : ts.length < 4000000000000000000) {A : H → Prop} {B : H → Prop} (hk : ∀ h', Ext h0 h' → B h') : callB SP i_laws_eqSet [.agg (SetC c s), .agg (SetC c s')] h0 fun b h' => bif !b then A h' else B h' := by
  refine (eqSet_c r r' hl).to ?_
  rintro _ h' ⟨rfl, x⟩
  exact bif_not (fun hq => by simp at hq) fun _ => hk h' x
theorem eqTiles_yes {h0 : H} {s s' : Sl} {ts : List Tile} (r : Rd h0 s 4 (tcs ts)) (r' : Rd h0 s' 4 (tcs ts)) (hl : ts.length < 4000000000000000000) {A : H → Prop} {B : H → Prop} (hk : ∀ h', Ext h0 h' → B h') : callB SP i_laws_eqTileS [.sl s, .sl s'] h0 fun b h' => bif !b then A h' else B h' := by
  refine (eqTileS_c r r' hl).to ?_
  rintro _ h' ⟨rfl, x⟩
  exact bif_not (fun hq => by simp at hq) fun _ => hk h' x
theorem heldS_yes {h0 : H} {s : Sl} (k0 : Int) (hk0 : 0 ≤ k0) (hk1 : k0 ≤ 1000000000) (r : Rd h0 s 1 (ic (upto k0 s.len))) (hl : s.len < 1000000000) {A : H → Prop} {B : Int → H → Prop} (hk : B (k0 + s.len) h0) :
    callI SP .i64 i_laws_heldInt64S [.sl s, i64 k0] h0 fun n h' => bif decide (n < 0) then A h' else B n h' := by
  refine (heldInt64S_c k0 hk0 (by omega) r (by omega)).to ?_
  rintro _ _ ⟨rfl, rfl⟩
  exact bif_dec (fun hq => by omega) fun _ => hk
theorem heldSet_yes {h0 : H} {c : Int} {s : Sl} (k0 : Int) (hk0 : 0 ≤ k0) (hk1 : k0 ≤ 1000000000) (r : Rd h0 s 4 (ic (upto k0 (s.len * 4)))) (hl : s.len < 1000000000) {A : H → Prop} {B : Int → H → Prop} (hk : ∀ h', Ext h0 h' → B (k0 + 4 * s.len) h') :
    callI SP .i64 i_laws_heldSet [.agg (SetC c s), i64 k0] h0 fun n h' => bif decide (n < 0) then A h' else B n h' := by
  refine (heldSet_c k0 hk0 (by omega) r (by omega)).to ?_
  rintro _ h' ⟨rfl, x⟩
  exact bif_dec (fun hq => by omega) fun _ => hk h' x
theorem Obj.rangeE {h o cs} (x : Obj h o cs) {n : Nat} (hn : cs.length = n) : Cl.range h (some o) n 0 n = some cs := by
  have x' : h[o]? = some (.own cs) := x
  subst hn
  rw [range_of (xs := cs) (by unfold cells; simp [x']) (by simp)]
  simp
theorem Obj.stays {h h' o cs} (x : Obj h o cs) {n : Nat} (hn : cs.length = n) (e : Ext h h') : Cl.range h' (some o) n 0 n = Cl.range h (some o) n 0 n := by rw [e.range (x.rangeE hn), x.rangeE hn]
end Go.Proofs.Ytlbglfgienklfaa.Cl

/- Pairs of colours: the program's walk. No claim is stated here. -/
set_option linter.unusedVariables false
set_option linter.unusedSimpArgs false
namespace Go.Proofs.Ytlbglfgienklfaa.Cl
open Go
theorem newOat_obj {cs : List AVal} {h : H} {n : Nat} (hn : n < h.length) {K : Pt → H → Prop} (hk : ∀ h', Obj h' n cs → But (some n) h h' → h'.length = h.length → K ⟨some n, cs.length, 0⟩ h') : newOat cs h n K :=
  hk _ (by unfold Obj; simp [hn]) ⟨by simp, fun i hi hne => by rw [List.getElem?_set, if_neg (fun e => hne (by rw [e]))]⟩ (by simp)
theorem cell_pc {g : H} {o : Nat} {e : Int × Int} (x : Obj g o (pc e)) (i : Nat) (hi : i < 2) : cell g (Pt.add ⟨some o, 2, 0⟩ i) = some (i64 ([e.1, e.2].getD i 0)) := by
  rw [x.cellE (n := 2) rfl]
  match i, hi with
  | 0, _ => rfl
  | 1, _ => rfl
theorem ix2 {h : H} {o : Nat} {e : Int × Int} (x : Obj h o (pc e)) (i : Nat) (hi : i < 2) {K : Pt → Int → Prop} (hk : ∀ p, p = Pt.add ⟨some o, 2, 0⟩ i → K p ([e.1, e.2].getD i 0)) : ixA ⟨some o, 2, 0⟩ 2 1 (i : Int) fun p => Cl.ldI .i64 p h (K p) := by
  refine ⟨⟨by omega, by omega⟩, rfl, ?_⟩
  rw [show (i : Int).toNat * 1 = i by omega]
  exact ⟨_, cell_pc x i hi, hk _ rfl⟩
theorem pairOf_c (a b : Tile) {k : Nat} (hk : k < 4) (h : H) : callA SP i_impl_pairOf [.agg (tc a), .agg (tc b), i64 k] h fun cs h' => cs = pc (sd a k, sd b k) ∧ Ext h h' := by
  apply impl_pairOf_call
  unfold impl_pairOf_main
  refine newK_obj fun h1 o1 x1 n1 => ?_
  refine newK_obj fun h2 o2 x2 n2 => ?_
  refine newO_obj fun h3 o3 x3 n3 => ?_
  refine (o1.ext (x2.trans x3)).sdI (by omega) (by omega) ?_
  refine (o2.ext x3).sdI (by omega) (by omega) ?_
  rw [Int.toNat_natCast]
  refine o3.stA fun h4 o4 b4 n4 => ?_
  refine o4.ldA rfl ⟨_, rfl, rfl, ?_⟩
  exact ((x1.trans x2).trans x3).but_ b4 (some_le (by have := x1.len; have := x2.len; omega))
/-! ### maps of pairs -/
def mpL {β : Type} (f : β → AVal) (L : List ((Int × Int) × β)) : List (AVal × AVal) := L.map fun e => (.agg (pc e.1), f e.2)
def lkP {β : Type} (k : Int × Int) : List ((Int × Int) × β) → Option β
  | [] => none
  | e :: L => if k = e.1 then some e.2 else lkP k L
theorem keyIs_pc (a b : Int × Int) : keyIs (.agg (pc a)) (.agg (pc b)) = some (decide (a = b)) := by
  have h : ∀ e : Int × Int, intsOf (pc e) = some [e.1, e.2] := fun e => rfl
  unfold keyIs
  simp only [h]
  rw [if_pos (show [a.1, a.2].length = [b.1, b.2].length from rfl)]
  congr 1
  obtain ⟨a1, a2⟩ := a
  obtain ⟨b1, b2⟩ := b
  rw [Bool.eq_iff_iff, beq_iff_eq, decide_eq_true_eq]
  simp
theorem mpFind_L {β : Type} (f : β → AVal) (k : Int × Int) : ∀ L : List ((Int × Int) × β), mpFind (.agg (pc k)) (mpL f L) = some ((lkP k L).map f)
  | [] => rfl
  | e :: L => by
    have ih := mpFind_L f k L
    show mpFind (.agg (pc k)) ((.agg (pc e.1), f e.2) :: mpL f L) = _
    unfold mpFind lkP
    simp only [keyIs_pc]
    by_cases h : k = e.1
    · rw [decide_eq_true h, if_pos h]; rfl
    · rw [decide_eq_false h, if_neg h]; exact ih
theorem mpPut_L {β : Type} (f : β → AVal) (k : Int × Int) (v : β) : ∀ L : List ((Int × Int) × β), lkP k L = none → mpPut (.agg (pc k)) (f v) (mpL f L) = some (mpL f (L ++ [(k, v)]))
  | [], _ => rfl
  | e :: L, hn => by
    unfold lkP at hn
    split at hn
    · cases hn
    · next h =>
      have ih := mpPut_L f k v L hn
      show mpPut (.agg (pc k)) (f v) ((.agg (pc e.1), f e.2) :: mpL f L) = _
      unfold mpPut
      simp only [keyIs_pc]
      rw [decide_eq_false h]
      simp only [ih, Option.map_some]
      rfl
def MpL {β : Type} (f : β → AVal) (h : H) (o : Nat) (L : List ((Int × Int) × β)) : Prop := h[o]? = some (.mp (mpL f L))
section
variable {β : Type} {f : β → AVal} {h h' : H} {o : Nat} {L : List ((Int × Int) × β)}
theorem MpL.lt (x : MpL f h o L) : o < h.length := (List.getElem?_eq_some_iff.1 x).1
theorem MpL.ext (x : MpL f h o L) (e : Ext h h') : MpL f h' o L := e.own x
theorem MpL.but {p : Option Nat} (x : MpL f h o L) (b : But p h h') (hn : p ≠ some o) : MpL f h' o L := b.get x hn
theorem MpL.put (x : MpL f h o L) {k : Int × Int} (hn : lkP k L = none) (v : β) {K : H → Prop} (hk : ∀ h', MpL f h' o (L ++ [(k, v)]) → But (some o) h h' → h'.length = h.length → K h') : mput (.map (some o)) (.agg (pc k)) (f v) h K :=
  ⟨o, _, _, rfl, x, mpPut_L f k v L hn, hk _ (by unfold MpL; have := x.lt; simp [this]) ⟨by simp, fun i hi hne => by rw [List.getElem?_set, if_neg (fun e => hne (by rw [e]))]⟩ (by simp)⟩
theorem MpL.new {K : AVal → H → Prop} (hk : ∀ h', MpL f h' h.length [] → Ext h h' → h'.length = h.length + 1 → K (.map (some h.length)) h') : newM h K :=
  hk _ (by unfold MpL mpL; simp) (Ext.app _ _) (by simp)
theorem MpL.at_ (x : MpL f h o L) : mapAt h (some o) = some (mpL f L) := by simp only [mapAt]; rw [show h[o]? = some (.mp (mpL f L)) from x]
end
theorem MpL.getB {h : H} {o : Nat} {L : List ((Int × Int) × Unit)} (x : MpL (fun _ => .bool true) h o L) (k : Int × Int) {K : Bool → Prop} (hk : K (lkP k L).isSome) : mgetB (.map (some o)) (.agg (pc k)) h K := by
  refine ⟨some o, _, _, (lkP k L).isSome, rfl, x.at_, mpFind_L _ k L, ?_, hk⟩
  cases lkP k L with
  | none => exact .inl ⟨rfl, rfl⟩
  | some _ => exact .inr rfl
theorem MpL.getI {h : H} {o : Nat} {L : List ((Int × Int) × Int)} (x : MpL i64 h o L) (k : Int × Int) {K : Int → Prop} (hk : K ((lkP k L).getD 0)) : mgetI .i64 (.map (some o)) (.agg (pc k)) h K := by
  refine ⟨some o, _, _, (lkP k L).getD 0, rfl, x.at_, mpFind_L _ k L, ?_, hk⟩
  cases lkP k L with
  | none => exact .inl ⟨rfl, rfl⟩
  | some _ => exact .inr rfl
theorem lkP_none {β : Type} {k : Int × Int} : ∀ {L : List ((Int × Int) × β)}, lkP k L = none ↔ k ∉ L.map (·.1)
  | [] => by simp [lkP]
  | e :: L => by
    unfold lkP
    by_cases h : k = e.1
    · rw [if_pos h]; simp [h]
    · rw [if_neg h, lkP_none (L := L)]; simp [h]
def unitL (D : List (Int × Int)) : List ((Int × Int) × Unit) := D.map fun e => (e, ())
theorem unitL_keys (D : List (Int × Int)) : (unitL D).map (·.1) = D := by unfold unitL; rw [List.map_map]; exact List.map_id D
theorem unitL_none {k : Int × Int} {D : List (Int × Int)} : lkP k (unitL D) = none ↔ k ∉ D := by rw [lkP_none, unitL_keys]
theorem unitL_some {k : Int × Int} {D : List (Int × Int)} : (lkP k (unitL D)).isSome = true ↔ k ∈ D := by
  have := unitL_none (k := k) (D := D)
  cases hq : lkP k (unitL D) with
  | none => rw [hq] at this; simpa using this
  | some _ => rw [hq] at this; simpa using this
end Go.Proofs.Ytlbglfgienklfaa.Cl

/- The pairs of a stack: the program's walk. No claim is stated here. -/
set_option linter.unusedVariables false
set_option linter.unusedSimpArgs false
namespace Go.Proofs.Ytlbglfgienklfaa.Cl
open Go
def prOf (S T : List Tile) (e : Int × Int) (j : Nat) : Int × Int := (sd (tat S e.1) j, sd (tat T e.2) j)
def allP (S T : List Tile) (es : List (Int × Int)) : List (Int × Int) := es.flatMap fun e => [prOf S T e 0, prOf S T e 2]
theorem allP_app (S T : List Tile) (es : List (Int × Int)) (e : Int × Int) : allP S T (es ++ [e]) = allP S T es ++ [prOf S T e 0, prOf S T e 2] := by unfold allP; rw [List.flatMap_append]; simp
noncomputable def prsP (S T : List Tile) : List (Int × Int) := dsort ltP (allP S T (stkI S T S.length))
def sideN (w : Nat) : Nat := if w = 0 then 0 else 2
section
variable {h0 : H} {s t : Sl} {S T : List Tile}
theorem pairs_c (rs : Rd h0 s 4 (tcs S)) (rt : Rd h0 t 4 (tcs T)) (hS : S.length ≤ 100000) (hT : T.length ≤ 16) :
    callS SP i_impl_pairs [.sl s, .sl t] h0 fun u h' => Ow h' u 2 (pcs (prsP S T)) ∧ Fr h0.length u ∧ Ext h0 h' := by
  have hsl := rs.tlen
  have htl := rt.tlen
  apply impl_pairs_call
  unfold impl_pairs_main
  refine MpL.new (f := fun _ : Unit => .bool true) fun h1 m1 x1 n1 => ?_
  refine newS_ow (by rfl) fun u h2 ou lu uo e2 => ?_
  have x2 : Ext h1 h2 := by rw [e2]; exact Ext.app _ _
  have n2 : h2.length = h1.length + 1 := by rw [e2]; simp
  have X2 := x1.trans x2
  refine (stacked_c (rs.ext X2) (rt.ext X2) hS hT).to ?_
  rintro q h3 ⟨oq, fq, x3⟩
  have X3 := X2.trans x3
  generalize hes : stkI S T S.length = es at oq
  have hql := oq.rd.plen
  have hesl : es.length ≤ 1600000 := by
    rw [← hes]
    exact Nat.le_trans (stkI_len S T S.length) (Nat.mul_le_mul hS hT)
  have hmem : ∀ z (hz : z < es.length), ∃ i k : Nat, es[z] = ((i : Int), (k : Int)) ∧ i < S.length ∧ k < T.length := fun z hz => by
    obtain ⟨i, k, e, a, b, _⟩ := stkI_mem (S := S) (T := T) (z := S.length) (e := es[z]) (by rw [hes]; exact List.getElem_mem hz)
    exact ⟨i, k, e, a, b⟩
  have X3l := X3.len
  have X2l := X2.len
  refine impl_pairs_rule0 _ _ _ _ _ _ _ (fun u i h => ∃ (z : Nat) (D : List (Int × Int)), i = z ∧ z ≤ es.length ∧ Ow h u 2 (pcs D) ∧ MpL (fun _ : Unit => .bool true) h h0.length (unitL D) ∧ D.Nodup ∧ (∀ x, x ∈ D ↔ x ∈ allP S T (es.take z)) ∧ D.length ≤ 2 * z ∧ (∀ o, u.o = some o → h1.length ≤ o ∧ q.o ≠ some o) ∧ Ext h0 h ∧ Rd h q 2 (pcs es) ∧ h3.length ≤ h.length) (fun _ i _ => (es.length - i).toNat) ?_ _ _
    ⟨0, [], rfl, by omega, by simpa [pcs] using ou.ext x3, by simpa [unitL] using m1.ext (x2.trans x3), List.nodup_nil, fun x => by simp [allP], by simp, fun o e => ⟨by rw [uo] at e; cases e; omega, fun e2 => by have := fq o e2; rw [uo] at e; cases e; omega⟩, X3, oq.rd, Nat.le_refl _⟩
  rintro X0 u _ h ⟨z, D, rfl, hz, ou, mD, hD, hmD, hDl, fu, x, rq, h3l⟩ hX
  unfold impl_pairs_b0 impl_pairs_C0
  refine bif_dec (fun hi => ?_) (fun hi => ?_)
  rotate_left
  · rw [show z = es.length by omega, List.take_length] at hmD
    refine (sortP_c ou (by omega)).to ?_
    rintro v h' ⟨rfl, l', o', hp, hs, b', ln⟩
    have : l' = prsP S T := by
      unfold prsP
      rw [hes]
      refine dsort_eq ltP_sto ?_ fun x => by rw [hp.mem_iff, hmD]
      have hnd : l'.Nodup := hp.symm.nodup hD
      rw [List.nodup_iff_pairwise_ne] at hnd
      exact (hs.and hnd).imp fun {a b} h => (ltP_sto.tri a b h.2).resolve_right h.1
    rw [this] at o'
    exact ⟨u, rfl, o', fun o e => by have := (fu o e).1; omega, x.but_ b' fun o e => by have := (fu o e).1; omega⟩
  have hz' : z < es.length := by omega
  refine rq.ldP hz' ?_
  obtain ⟨i, k, he, hiS, hkT⟩ := hmem z hz'
  refine newO_obj fun g2 o2 y2 l2 => ?_
  refine o2.stA fun g3 o3 b3 l3 => ?_
  have z3 : Ext h g3 := y2.but_ b3 (some_le (Nat.le_refl _))
  have hz3 := z3.len
  have hmp := mD.lt
  have hst : ((z : Int) + 1) = ((z + 1 : Nat) : Int) := by push_cast; rfl
  rw [he] at o3
  refine impl_pairs_rule2 _ _ X0 _ _ _ _ _ _ _ _ (fun u j g => ∃ (w : Nat) (D' : List (Int × Int)), j = w ∧ w ≤ 2 ∧ Ow g u 2 (pcs D') ∧ MpL (fun _ : Unit => .bool true) g h0.length (unitL D') ∧ D'.Nodup ∧ (∀ x, x ∈ D' ↔ x ∈ D ∨ (0 < w ∧ x = prOf S T ((i : Int), (k : Int)) 0) ∨ (1 < w ∧ x = prOf S T ((i : Int), (k : Int)) 2)) ∧ D'.length ≤ 2 * z + w ∧ (∀ o, u.o = some o → h1.length ≤ o ∧ q.o ≠ some o ∧ o ≠ h.length) ∧ Ext h0 g ∧ Rd g q 2 (pcs es) ∧ Obj g h.length (pc ((i : Int), (k : Int))) ∧ h.length < g.length) (fun _ j _ => (2 - j).toNat) ?_ _ _
    ⟨0, D, rfl, by omega, ou.ext z3, mD.ext z3, hD, fun x => by simp, by omega, fun o e => ⟨(fu o e).1, (fu o e).2, fun e2 => by have := ou.lt e; omega⟩, x.trans z3, rq.ext z3, o3, by omega⟩
  have hmD0 := hmD
  clear ou mD hmD fu hD o3 b3 o2
  rintro X2 u _ g ⟨w, D', rfl, hw, ou, mD, hD, hmD, hDl', fu, x', rq', og, hlg⟩ hY
  unfold impl_pairs_b2 impl_pairs_C2 impl_pairs_C1
  refine bif_dec (fun hj => ?_) (fun hj => ?_)
  · have hw' : w < 2 := by omega
    refine ⟨rfl, (sideN w : Int), by omega, ?_, ?_⟩
    · match w, hw' with
      | 0, _ => rfl
      | 1, _ => rfl
    refine slotK_in fun g1 y1 l1 => ?_
    have og1 := og.ext y1
    refine ix2 og1 0 (by omega) fun p2 hp2 => ?_
    have rS := rs.ext x'
    have rT := rt.ext x'
    refine rS.ixT (by show (0 : Int) ≤ (i : Int); omega) (by show (i : Int) < _; omega) fun p4 hp4 hr4 => ?_
    refine ⟨_, y1.range hr4, ?_⟩
    refine ix2 og1 1 (by omega) fun p6 hp6 => ?_
    refine rT.ixT (by show (0 : Int) ≤ (k : Int); omega) (by show (k : Int) < _; omega) fun p8 hp8 hr8 => ?_
    refine ⟨_, y1.range hr8, ?_⟩
    refine (pairOf_c (tat S (i : Int)) (tat T (k : Int)) (k := sideN w) (by unfold sideN; split <;> omega) g1).to ?_
    rintro _ g2 ⟨rfl, y2⟩
    have hy2 := y2.len
    refine newOat_obj (by omega) fun g4 o4 b4 l4 => ?_
    have y12 := y1.trans y2
    have y14 : Ext g g4 := y12.but_ b4 (some_le (by omega))
    have og4 := og.ext y14
    have og2 := og.ext y12
    refine ⟨by rw [y12.range hr8, y1.range hr8], by rw [hp6, cell_pc og2 1 (by omega), cell_pc og1 1 (by omega)], by rw [y12.range hr4, y1.range hr4], by rw [hp2, cell_pc og2 0 (by omega), cell_pc og1 0 (by omega)],
      by rw [y14.range hr8, y1.range hr8], by rw [hp6, cell_pc og4 1 (by omega), cell_pc og1 1 (by omega)], by rw [y14.range hr4, y1.range hr4], by rw [hp2, cell_pc og4 0 (by omega), cell_pc og1 0 (by omega)], ?_⟩
    have hpr : (sd (tat S (i : Int)) (sideN w), sd (tat T (k : Int)) (sideN w)) = prOf S T ((i : Int), (k : Int)) (sideN w) := rfl
    rw [hpr]
    generalize hpe : prOf S T ((i : Int), (k : Int)) (sideN w) = e
    refine o4.stA fun g5 o5 b5 l5 => ?_
    have y15 : Ext g g5 := y14.but_ b5 (some_le (by omega))
    refine o5.ldA rfl ⟨⟨_, rfl, rfl⟩, ?_⟩
    have hstw : ((w : Int) + 1) = ((w + 1 : Nat) : Int) := by push_cast; rfl
    have hmem' : ∀ x, (x ∈ D' ∨ x = e) ↔ x ∈ D ∨ (0 < w + 1 ∧ x = prOf S T ((i : Int), (k : Int)) 0) ∨ (1 < w + 1 ∧ x = prOf S T ((i : Int), (k : Int)) 2) := fun x => by
      rw [hmD, ← hpe]
      match w, hw' with
      | 0, _ => simp [sideN]
      | 1, _ => simp [sideN, or_assoc]
    refine (mD.ext y15).getB e ?_
    rw [w64_of (n := (w : Int) + 1) (by omega) (by omega)]
    refine bif_not (fun hb => ?_) (fun hb => ?_)
    · have hne : e ∉ D' := fun h => by rw [unitL_some.2 h] at hb; cases hb
      refine o5.ldA rfl ⟨⟨_, rfl, rfl⟩, ?_⟩
      refine (mD.ext y15).put (unitL_none.2 hne) () fun g6 m6 b6 l6 => ?_
      have hlk := (mD.ext y15).lt
      have hgl := mD.lt
      have o6 : Obj g6 (g.length + 12) (pc e) := o5.but b6 (fun e => by have := Option.some.inj e; omega)
      refine o6.ldA rfl ⟨rfl, ?_⟩
      have x6 : Ext h0 g6 := (x'.trans y15).but_ b6 (some_le (Nat.le_refl _))
      have ou6 := (ou.ext y15).but b6 (.inl fun e => by have := (fu _ e.symm).1; omega)
      refine push_pc (e := e) ou6 (by unfold lim; omega) fun u2 g7 ou2 b7 hu2 hln => ?_
      have hg6 : g6.length = g5.length := l6
      have hg5 : g5.length = g4.length := l5
      refine hY _ _ _ ⟨w + 1, D' ++ [e], hstw, by omega, ou2, ?_, ?_, fun x => ?_, by rw [List.length_append]; simp; omega, fun o eo => ?_, x6.but_ b7 fun o eo => by have := (fu o eo).1; omega, ?_, ?_, by omega⟩ (by omega)
      · have : unitL (D' ++ [e]) = unitL D' ++ [(e, ())] := by simp [unitL]
        rw [this]
        exact m6.but b7 (fun eo => by have := (fu _ eo).1; omega)
      · exact List.nodup_append.2 ⟨hD, by simp, fun a ha b hb => by rw [List.mem_singleton.1 hb]; exact fun e2 => hne (by rw [← e2]; exact ha)⟩
      · rw [← hmem', List.mem_append, List.mem_singleton]
      · rcases hu2 o eo with h' | h'
        · exact fu o h'
        · refine ⟨by omega, fun e2 => ?_, by omega⟩
          have := oq.lt e2
          omega
      · refine (rq'.ext y15).chg ((b6.chg (P := fun o => o = h0.length ∨ u.o = some o) fun o eo => .inl (Option.some.inj eo).symm).trans (b7.chg fun o eo => .inr eo)) ?_
        rintro o eo (h' | h')
        · have := fq o eo; omega
        · exact (fu o h').2.1 eo
      · exact ((og.ext y15).but b6 (fun e => by have := Option.some.inj e; omega)).but b7 (fun eo => (fu _ eo).2.2 rfl)
    · have hin : e ∈ D' := unitL_some.1 hb
      refine hY _ _ _ ⟨w + 1, D', hstw, by omega, ou.ext y15, mD.ext y15, hD, fun x => ?_, by omega, fun o eo => fu o eo, x'.trans y15, rq'.ext y15, og.ext y15, by have := y15.len; omega⟩ (by omega)
      rw [← hmem']
      exact ⟨.inl, fun h => h.elim id fun h => by rw [h]; exact hin⟩
  · rw [w64_of (n := (z : Int) + 1) (by omega) (by omega)]
    refine hX _ _ _ ⟨z + 1, D', hst, hz', ou, mD, hD, fun x => ?_, by omega, fun o e => ⟨(fu o e).1, (fu o e).2.1⟩, x', rq', by omega⟩ (by omega)
    rw [hmD, List.take_succ_eq_append_getElem hz', he, allP_app, hmD0]
    have : w = 2 := by omega
    subst this
    simp
end
end Go.Proofs.Ytlbglfgienklfaa.Cl

/- The tiles of a stack: the program's walk. No claim is stated here. -/
set_option linter.unusedVariables false
set_option linter.unusedSimpArgs false
namespace Go.Proofs.Ytlbglfgienklfaa.Cl
open Go
def idxL (P : List (Int × Int)) (n : Nat) : List ((Int × Int) × Int) := (List.range n).map fun i => (P.getD i (0, 0), (i : Int))
def numP (P : List (Int × Int)) (x : Int × Int) : Int := (lkP x (idxL P P.length)).getD 0
theorem idxL_succ (P : List (Int × Int)) (n : Nat) : idxL P (n + 1) = idxL P n ++ [(P.getD n (0, 0), (n : Int))] := by unfold idxL; rw [List.range_succ, List.map_append]; rfl
theorem lkP_app {β : Type} {k : Int × Int} : ∀ {L M : List ((Int × Int) × β)}, lkP k (L ++ M) = if (lkP k L).isSome then lkP k L else lkP k M
  | [], M => by simp [lkP]
  | e :: L, M => by
    simp only [List.cons_append, lkP]
    by_cases h : k = e.1
    · simp [h]
    · simp only [if_neg h, lkP_app (L := L) (M := M)]
theorem idxL_at {P : List (Int × Int)} (hn : P.Nodup) : ∀ (n : Nat), n ≤ P.length → ∀ x, (∀ j (hj : j < n) (hl : j < P.length), P[j] = x → lkP x (idxL P n) = some (j : Int)) ∧ ((∀ j (hj : j < n) (hl : j < P.length), P[j] ≠ x) → lkP x (idxL P n) = none)
  | 0, _, x => ⟨fun j hj => by omega, fun _ => rfl⟩
  | n + 1, h, x => by
    obtain ⟨ih1, ih2⟩ := idxL_at hn n (by omega) x
    have hg : P.getD n (0, 0) = P[n] := by rw [List.getD_eq_getElem?_getD, List.getElem?_eq_getElem (by omega)]; rfl
    rw [idxL_succ, lkP_app, hg]
    refine ⟨fun j hj hl e => ?_, fun hne => ?_⟩
    · by_cases hjn : j < n
      · rw [ih1 j hjn hl e]; rfl
      · have hjn : j = n := by omega
        subst hjn
        have hnone : lkP x (idxL P j) = none := ih2 fun i hi hl2 e2 => by
          have := (List.getElem_inj hn).1 (e2.trans e.symm)
          omega
        rw [hnone]
        simp [lkP, e]
    · rw [ih2 fun j hj hl => hne j (by omega) hl]
      simp only [Option.isSome_none, Bool.false_eq_true, if_false, lkP]
      rw [if_neg fun e => hne n (by omega) (by omega) e.symm]
theorem numP_at {P : List (Int × Int)} (hn : P.Nodup) {j : Nat} (hj : j < P.length) : numP P P[j] = (j : Int) := by
  unfold numP
  rw [(idxL_at hn P.length (Nat.le_refl _) P[j]).1 j hj hj rfl]; rfl
theorem prsP_pw (S T : List Tile) : (prsP S T).Pairwise ltP := pw_dsort ltP_sto _
theorem prsP_nodup (S T : List Tile) : (prsP S T).Nodup := by
  rw [List.nodup_iff_pairwise_ne]
  exact (prsP_pw S T).imp fun {a b} h => by intro e; subst e; exact ltP_sto.irr _ h
theorem prsP_len (S T : List Tile) : (prsP S T).length ≤ 2 * (stkI S T S.length).length := by
  refine Nat.le_trans (dsort_len _) ?_
  unfold allP
  generalize stkI S T S.length = es
  induction es with
  | nil => simp
  | cons e es ih => simp only [List.flatMap_cons, List.length_append, List.length_cons, List.length_nil]; omega
noncomputable def stile (S T : List Tile) (e : Int × Int) : Tile := (numP (prsP S T) (prOf S T e 0), sd (tat S e.1) 1, numP (prsP S T) (prOf S T e 2), sd (tat T e.2) 3)
noncomputable def stkT (S T : List Tile) : List Tile := (stkI S T S.length).map (stile S T)
theorem ix4 {h : H} {o : Nat} {t : Tile} (x : Obj h o (tc t)) (i : Nat) (hi : i < 4) {K : Pt → Int → Prop} (hk : ∀ p, p = Pt.add ⟨some o, 4, 0⟩ i → K p (sd t i)) : ixA ⟨some o, 4, 0⟩ 4 1 (i : Int) fun p => Cl.ldI .i64 p h (K p) := by
  refine ⟨⟨by omega, by omega⟩, rfl, ?_⟩
  rw [show (i : Int).toNat * 1 = i by omega]
  exact ⟨_, by rw [x.cellE (n := 4) rfl]; exact tc_sd t hi, hk _ rfl⟩
theorem cell_tc {g : H} {o : Nat} {t : Tile} (x : Obj g o (tc t)) (i : Nat) (hi : i < 4) : cell g (Pt.add ⟨some o, 4, 0⟩ i) = some (i64 (sd t i)) := by
  rw [x.cellE (n := 4) rfl]; exact tc_sd t hi
section
variable {h0 : H} {s t : Sl} {S T : List Tile}
theorem stackTiles_c (rs : Rd h0 s 4 (tcs S)) (rt : Rd h0 t 4 (tcs T)) (hS : S.length ≤ 100000) (hT : T.length ≤ 16) :
    callV SP i_impl_stackTiles [.sl s, .sl t] h0 fun v h' => ∃ u, v = .tuple [.sl u, i64 ((prsP S T).length : Nat)] ∧ Ow h' u 4 (tcs (stkT S T)) ∧ Fr h0.length u ∧ Ext h0 h' := by
  have hsl := rs.tlen
  have htl := rt.tlen
  have hes := stkI_len S T S.length
  have hbnd : S.length * T.length ≤ 100000 * 16 := Nat.mul_le_mul hS hT
  have hpl := prsP_len S T
  have hnd := prsP_nodup S T
  apply impl_stackTiles_call
  unfold impl_stackTiles_main
  refine MpL.new (f := i64) fun h1 m1 x1 n1 => ?_
  refine (pairs_c (rs.ext x1) (rt.ext x1) hS hT).to ?_
  rintro q h2 ⟨oq, fq, x2⟩
  have X2 := x1.trans x2
  have hql := oq.rd.plen
  have X2l := X2.len
  refine impl_stackTiles_rule0 _ _ _ _ _ _ _ _ (fun i h => ∃ z : Nat, i = z ∧ z ≤ (prsP S T).length ∧ MpL i64 h h0.length (idxL (prsP S T) z) ∧ Ext h0 h ∧ Rd h q 2 (pcs (prsP S T))) (fun i _ => ((prsP S T).length - i).toNat) ?_ _ ⟨0, rfl, by omega, by simpa [idxL] using m1.ext x2, X2, oq.rd⟩
  rintro X0 _ h ⟨z, rfl, hz, mz, x, rq⟩ hX
  unfold impl_stackTiles_b0 impl_stackTiles_C0
  refine bif_dec (fun hi => ?_) (fun hi => ?_)
  · have hz' : z < (prsP S T).length := by omega
    refine rq.ldP hz' ?_
    refine newO_obj fun g1 o1 y1 l1 => ?_
    refine o1.stA fun g2 o2 b2 l2 => ?_
    have y2 : Ext h g2 := y1.but_ b2 (some_le (Nat.le_refl _))
    refine o2.ldA rfl ⟨⟨_, rfl, rfl⟩, ?_⟩
    have hnone : lkP (prsP S T)[z] (idxL (prsP S T) z) = none := (idxL_at hnd z (by omega) (prsP S T)[z]).2 fun j hj hl e => by
      have := (List.getElem_inj hnd).1 e
      omega
    refine (mz.ext y2).put hnone (z : Int) fun g3 m3 b3 l3 => ?_
    rw [w64_of (n := (z : Int) + 1) (by omega) (by omega)]
    refine hX _ _ ⟨z + 1, by push_cast; rfl, hz', ?_, (x.trans y2).but_ b3 (some_le (Nat.le_refl _)), (rq.ext y2).chg (b3.chg (P := fun o => o = h0.length) fun o eo => (Option.some.inj eo).symm) fun o eo h' => by have := fq o eo; omega⟩ (by omega)
    rw [idxL_succ]
    have hg : (prsP S T).getD z (0, 0) = (prsP S T)[z] := by rw [List.getD_eq_getElem?_getD, List.getElem?_eq_getElem hz']; rfl
    rw [hg]
    exact m3
  rw [show z = (prsP S T).length by omega] at mz
  refine newS_ow (by rfl) fun u h3 ou lu uo e3 => ?_
  have x3 : Ext h h3 := by rw [e3]; exact Ext.app _ _
  have X3 := x.trans x3
  have l3 : h3.length = h.length + 1 := by rw [e3]; simp
  have hmz := mz.lt
  refine (stacked_c (rs.ext X3) (rt.ext X3) hS hT).to ?_
  rintro w h4 ⟨ow, fw, x4⟩
  have X4 := X3.trans x4
  have hwl := ow.rd.plen
  have X3l := X3.len
  have hxl := x.len
  have x3l := x3.len
  clear hX
  generalize hE : stkI S T S.length = es at ow hwl hes
  have hmem : ∀ z (hz : z < es.length), ∃ i k : Nat, es[z] = ((i : Int), (k : Int)) ∧ i < S.length ∧ k < T.length := fun z hz => by
    obtain ⟨i, k, e, a, b, _⟩ := stkI_mem (S := S) (T := T) (z := S.length) (e := es[z]) (by rw [hE]; exact List.getElem_mem hz)
    exact ⟨i, k, e, a, b⟩
  refine impl_stackTiles_rule2 _ _ _ _ _ _ _ _ (fun u i h => ∃ z : Nat, i = z ∧ z ≤ es.length ∧ Ow h u 4 (tcs ((es.take z).map (stile S T))) ∧ (∀ o, u.o = some o → h0.length < o ∧ w.o ≠ some o) ∧ MpL i64 h h0.length (idxL (prsP S T) (prsP S T).length) ∧ Ext h0 h ∧ Rd h w 2 (pcs es) ∧ h4.length ≤ h.length) (fun _ i _ => (es.length - i).toNat) ?_ _ _
    ⟨0, rfl, by omega, by simpa [tcs] using ou.ext x4, fun o e => ⟨by rw [uo] at e; cases e; omega, fun e2 => by have := fw o e2; rw [uo] at e; cases e; omega⟩, mz.ext (x3.trans x4), X4, ow.rd, Nat.le_refl _⟩
  clear mz rq ou uo
  rintro X2 u _ h ⟨z, rfl, hz, ou, fu, mz, x, rw', h4l⟩ hX
  unfold impl_stackTiles_b2 impl_stackTiles_C2
  refine bif_dec (fun hi => ?_) (fun hi => ?_)
  rotate_left
  · rw [show z = es.length by omega, List.take_length] at ou
    refine ⟨u, by rw [hql], by unfold stkT; rw [hE]; exact ou, fun o e => by have := (fu o e).1; omega, x⟩
  have hz' : z < es.length := by omega
  obtain ⟨i, k, he, hiS, hkT⟩ := hmem z hz'
  refine rw'.ldP hz' ?_
  rw [he]
  refine newO_obj fun g1 o1 y1 l1 => ?_
  refine o1.stA fun g2 o2 b2 l2 => ?_
  have y2 : Ext h g2 := y1.but_ b2 (some_le (Nat.le_refl _))
  have hy2 := y2.len
  refine slotK_in fun g5 y5 l5 => ?_
  have o5 := o2.ext y5
  have y25 := y2.trans y5
  have rS := rs.ext (x.trans y2)
  have rT := rt.ext (x.trans y2)
  refine ix2 o5 0 (by omega) fun p6 hp6 => ?_
  refine rS.ixT (by show (0 : Int) ≤ (i : Int); omega) (by show (i : Int) < _; omega) fun p8 hp8 hr8 => ?_
  refine ⟨_, y5.range hr8, ?_⟩
  refine ix2 o5 1 (by omega) fun p10 hp10 => ?_
  refine rT.ixT (by show (0 : Int) ≤ (k : Int); omega) (by show (k : Int) < _; omega) fun p12 hp12 hr12 => ?_
  refine ⟨_, y5.range hr12, ?_⟩
  refine newOat_obj (by omega) fun g15 o15 b15 l15 => ?_
  have e15 : Ext g2 g15 := y5.but_ b15 (some_le (by omega))
  have p15 := o2.ext e15
  refine ⟨by rw [e15.range hr12, y5.range hr12], by rw [hp10, cell_pc p15 1 (by omega), cell_pc o5 1 (by omega)], by rw [e15.range hr8, y5.range hr8], by rw [hp6, cell_pc p15 0 (by omega), cell_pc o5 0 (by omega)], ?_⟩
  refine newOat_obj (by omega) fun g17 o17 b17 l17 => ?_
  have e17 : Ext g2 g17 := e15.but_ b17 (some_le (by omega))
  have p17 := o2.ext e17
  refine ⟨by rw [e17.range hr12, y5.range hr12], by rw [hp10, cell_pc p17 1 (by omega), cell_pc o5 1 (by omega)], by rw [e17.range hr8, y5.range hr8], by rw [hp6, cell_pc p17 0 (by omega), cell_pc o5 0 (by omega)], ?_⟩
  have o15' := o15.but b17 (fun e => by have := Option.some.inj e; omega)
  refine o15'.stA fun g18 q18 b18 l18 => ?_
  have e18 : Ext g2 g18 := e17.but_ b18 (some_le (by omega))
  have p18 := o2.ext e18
  refine ⟨by rw [e18.range hr12, y5.range hr12], by rw [hp10, cell_pc p18 1 (by omega), cell_pc o5 1 (by omega)], ?_⟩
  have o17' := o17.but b18 (fun e => by have := Option.some.inj e; omega)
  refine o17'.stA fun g19 q19 b19 l19 => ?_
  have e19 : Ext g2 g19 := e18.but_ b19 (some_le (by omega))
  have q18' := q18.but b19 (fun e => by have := Option.some.inj e; omega)
  refine q18'.ldA rfl ?_
  refine q19.ldA rfl ?_
  refine (pairOf_c (tat S (i : Int)) (tat T (k : Int)) (k := 0) (by omega) g19).to ?_
  rintro _ g22 ⟨rfl, e22⟩
  refine ⟨⟨_, rfl, rfl⟩, ?_⟩
  have E22 := e19.trans e22
  have E0 := y2.trans E22
  have a22 := q18'.ext e22
  have c22 := q19.ext e22
  refine (mz.ext E0).getI (prOf S T ((i : Int), (k : Int)) 0) ?_
  refine ix4 a22 1 (by omega) fun p25 hp25 => ?_
  refine ⟨by rw [hp25, cell_tc a22 1 (by omega), cell_tc q18' 1 (by omega)], ?_⟩
  refine a22.ldA rfl ⟨(show range g19 (some (g2.length + 10)) 4 0 4 = range g22 (some (g2.length + 10)) 4 0 4 by rw [a22.rangeE (n := 4) rfl, q18'.rangeE (n := 4) rfl]), ?_⟩
  refine c22.ldA rfl ⟨(show range g19 (some (g2.length + 11)) 4 0 4 = range g22 (some (g2.length + 11)) 4 0 4 by rw [c22.rangeE (n := 4) rfl, q19.rangeE (n := 4) rfl]), ?_⟩
  refine (pairOf_c (tat S (i : Int)) (tat T (k : Int)) (k := 2) (by omega) g22).to ?_
  rintro _ g29 ⟨rfl, e29⟩
  have a29 := a22.ext e29
  have c29 := c22.ext e29
  have E29 := E0.trans e29
  refine ⟨by rw [hp25, cell_tc a29 1 (by omega), cell_tc a22 1 (by omega)], fun r hr => ?_, ⟨_, rfl, rfl⟩, ?_⟩
  · cases hr
    rw [(mz.ext E29).at_, (mz.ext E0).at_]
  refine (mz.ext E29).getI (prOf S T ((i : Int), (k : Int)) 2) ?_
  refine ix4 c29 3 (by omega) fun p32 hp32 => ?_
  refine ⟨by rw [hp32, cell_tc c29 3 (by omega), cell_tc c22 3 (by omega)], by rw [hp32, cell_tc c29 3 (by omega), cell_tc q19 3 (by omega)], rfl, ?_⟩
  have hE29 := E29.len
  refine push_tc (t := stile S T ((i : Int), (k : Int))) (ou.ext E29) (by rw [List.length_map, List.length_take]; unfold lim; omega) fun u2 g30 ou2 b30 hu2 hln => ?_
  rw [w64_of (n := (z : Int) + 1) (by omega) (by omega)]
  refine hX _ _ _ ⟨z + 1, by push_cast; rfl, hz', ?_, fun o eo => ?_, (mz.ext E29).but b30 (fun e => by have := (fu _ e).1; omega), (x.trans E29).but_ b30 fun o eo => by have := (fu o eo).1; omega, (rw'.ext E29).chg (b30.chg (P := fun o => u.o = some o) fun o eo => eo) fun o eo h' => (fu o h').2 eo, by omega⟩ (by omega)
  · rw [List.take_succ_eq_append_getElem hz', List.map_append, he]
    exact ou2
  · rcases hu2 o eo with h' | h'
    · exact fu o h'
    · refine ⟨by have := mz.lt; omega, fun e2 => ?_⟩
      have := ow.lt e2
      omega
end
end Go.Proofs.Ytlbglfgienklfaa.Cl

/- Stacks: the program's StackSets. No claim is stated here. -/
set_option linter.unusedVariables false
set_option linter.unusedSimpArgs false
namespace Go.Proofs.Ytlbglfgienklfaa.Cl
open Go
noncomputable def stkC (c d : Int) (S T : List Tile) : Int := mxI (mxI ((prsP S T).length : Nat) c) d
open Classical in
/-- The stack, if it is small enough. -/
noncomputable def stkF (c d : Int) (S T : List Tile) : Int × List Tile := if fitS (stkC c d S T) (stkT S T) then (stkC c d S T, dsT (stkT S T)) else (0, [])
open Classical in
noncomputable def stkE (c d : Int) (S T : List Tile) : Int := if fitS (stkC c d S T) (stkT S T) then 0 else 3
section
variable {h0 : H} {s t : Sl} {S T : List Tile} {c d : Int}
theorem impl_stack_c (rs : Rd h0 s 4 (tcs S)) (rt : Rd h0 t 4 (tcs T)) (hS : S.length ≤ 16) (hT : T.length ≤ 16) :
    callV SP i_impl_stack [.agg (SetC c s), .agg (SetC d t)] h0 fun v h' => ∃ u, v = .tuple [.agg (SetC (stkF c d S T).1 u), i64 (stkE c d S T)] ∧ Pre h' u 4 (tcs (stkF c d S T).2) ∧ Fr h0.length u ∧ Ext h0 h' := by
  have hes := stkI_len S T S.length
  have hbnd : S.length * T.length ≤ 16 * 16 := Nat.mul_le_mul hS hT
  apply impl_stack_call
  unfold impl_stack_main
  refine newK_obj fun h1 o1 x1 n1 => ?_
  refine newK_obj fun h2 o2 x2 n2 => ?_
  refine newO_obj fun h3 o3 x3 n3 => ?_
  have p1 := o1.ext (x2.trans x3)
  have p2 := o2.ext x3
  have X := (x1.trans x2).trans x3
  refine isPt_in (p1.ldS rfl rfl ?_)
  refine isPt_in (p2.ldS rfl rfl ?_)
  refine (stackTiles_c (rs.ext X) (rt.ext X) (by omega) hT).to ?_
  rintro _ h4 ⟨u, rfl, ou, fu, x4⟩
  refine ⟨_, rfl, _, rfl, _, rfl, _, rfl, ?_⟩
  refine isPt_in ((p1.ext x4).ldI rfl rfl ?_)
  refine isPt_in ((p2.ext x4).ldI rfl rfl ?_)
  have hlen : (stkT S T).length ≤ 1000000 := by unfold stkT; rw [List.length_map]; omega
  refine (limited_c (c := stkC c d S T) ou.rd hlen).to ?_
  rintro _ h5 ⟨w, rfl, hw, x5⟩
  refine ⟨_, rfl, _, rfl, _, rfl, _, rfl, ?_⟩
  have p3 := o3.ext (x4.trans x5)
  have XX := X.trans (x4.trans x5)
  have hx4 := x4.len
  by_cases hf : fitS (stkC c d S T) (stkT S T)
  · simp only [if_pos hf]
    obtain ⟨pw, fw⟩ := hw hf
    refine p3.stA fun h6 o6 b6 n6 => ?_
    refine o6.ldA rfl ⟨w, ?_, ?_, fw.le (by have := X.len; omega), XX.but_ b6 (some_le (by have := x1.len; have := x2.len; omega))⟩
    · unfold stkF stkE; rw [if_pos hf, if_pos hf]; rfl
    · unfold stkF; rw [if_pos hf]
      exact pw.but b6 (fun i ei e => by have := fw _ ei; have := Option.some.inj e; omega)
  · simp only [if_neg hf]
    refine p3.stA fun h6 o6 b6 n6 => ?_
    refine o6.ldA rfl ⟨Sl.nil, ?_, ?_, Fr.nil _, XX.but_ b6 (some_le (by have := x1.len; have := x2.len; omega))⟩
    · unfold stkF stkE; rw [if_neg hf, if_neg hf]; rfl
    · unfold stkF; rw [if_neg hf]; exact Pre.nil _ _
theorem areSets_c {u : Sl} (ru : Rd h0 u 2 (SetC c s ++ SetC d t)) (rs : Rd h0 s 4 (tcs S)) (rt : Rd h0 t 4 (tcs T)) (hS : S.length < 4000000000000000000) (hT : T.length < 4000000000000000000) :
    callB SP i_impl_areSets [.sl u] h0 fun b h' => (b = true ↔ setOK c S ∧ setOK d T) ∧ Ext h0 h' := by
  have hul : u.len = 2 := by have := ru.len; simp [SetC] at this; omega
  have one : ∀ {g : H} {c : Int} {s : Sl} {S : List Tile}, Rd g s 4 (tcs S) → S.length < 4000000000000000000 → callB SP i_impl_areSets_1 [.agg (SetC c s)] g fun b h' => (b = true ↔ ¬ setOK c S) ∧ Ext g h' := fun {g c s S} r hl => by
    apply impl_areSets_1_call
    unfold impl_areSets_1_main
    refine newK_obj fun h1 o1 x1 n1 => ?_
    refine o1.ldA rfl ?_
    refine (IsSet_c (c := c) (r.ext x1) hl).to ?_
    rintro b h2 ⟨hb, x2⟩
    refine ⟨_, rfl, ?_, x1.trans x2⟩
    rw [← hb]
    cases b <;> simp
  have idx : callI SP .i64 i_slices_IndexFunc_s_impl_Set_impl_Set_ [.sl u, .func i_impl_areSets_1 []] h0 fun n h' => ((0 ≤ n) ↔ ¬ (setOK c S ∧ setOK d T)) ∧ Ext h0 h' := by
    apply slices_IndexFunc_s_impl_Set_impl_Set__call
    unfold slices_IndexFunc_s_impl_Set_impl_Set__main
    refine slices_IndexFunc_s_impl_Set_impl_Set__rule0 _ _ _ _ _ (fun i h => ∃ z : Nat, i = z ∧ z ≤ 2 ∧ Ext h0 h ∧ (0 < z → setOK c S) ∧ (1 < z → setOK d T)) (fun i _ => (2 - i).toNat) ?_ _ ⟨0, rfl, by omega, Ext.refl _, fun h => by omega, fun h => by omega⟩
    rintro X _ h ⟨z, rfl, hz, x, z0, z1⟩ hX
    unfold slices_IndexFunc_s_impl_Set_impl_Set__b0 slices_IndexFunc_s_impl_Set_impl_Set__C0
    refine bif_dec (fun hi => ?_) (fun hi => ⟨_, rfl, ⟨fun h => by omega, fun h => absurd ⟨z0 (by omega), z1 (by omega)⟩ h⟩, x⟩)
    have hz2 : z < 2 := by omega
    refine (ru.ext x).ldA (by omega) (by omega) (via_func ?_)
    rw [w64_of (n := (z : Int) + 1) (by omega) (by omega)]
    match z, hz2 with
    | 0, _ =>
      refine (one (c := c) (s := s) (rs.ext x) hS).to ?_
      rintro b h2 ⟨hb, x2⟩
      refine bif_b (fun hq => ⟨_, rfl, ⟨fun _ h => hb.1 hq h.1, fun _ => by omega⟩, x.trans x2⟩) (fun hq => ?_)
      exact hX _ _ ⟨1, rfl, by omega, x.trans x2, fun _ => Classical.byContradiction fun h => (by rw [hb.2 h] at hq; cases hq), fun h => by omega⟩ (by omega)
    | 1, _ =>
      refine (one (c := d) (s := t) (rt.ext x) hT).to ?_
      rintro b h2 ⟨hb, x2⟩
      refine bif_b (fun hq => ⟨_, rfl, ⟨fun _ h => hb.1 hq h.2, fun _ => by omega⟩, x.trans x2⟩) (fun hq => ?_)
      exact hX _ _ ⟨2, rfl, by omega, x.trans x2, fun _ => z0 (by omega), fun _ => Classical.byContradiction fun h => (by rw [hb.2 h] at hq; cases hq)⟩ (by omega)
  apply impl_areSets_call
  unfold impl_areSets_main
  have cf : callB SP i_slices_ContainsFunc_s_impl_Set_impl_Set_ [.sl u, .func i_impl_areSets_1 []] h0 fun b h' => (b = true ↔ ¬ (setOK c S ∧ setOK d T)) ∧ Ext h0 h' := by
    apply slices_ContainsFunc_s_impl_Set_impl_Set__call
    unfold slices_ContainsFunc_s_impl_Set_impl_Set__main
    refine idx.to ?_
    rintro n h' ⟨hn, x⟩
    exact ⟨_, rfl, by rw [decide_eq_true_eq, ← hn], x⟩
  refine cf.to ?_
  rintro b h' ⟨hb, x⟩
  refine ⟨_, rfl, ?_, x⟩
  cases b
  · exact ⟨fun _ => Classical.byContradiction fun h => (by have := hb.2 h; cases this), fun _ => rfl⟩
  · exact ⟨fun h => (by cases h), fun h => absurd h (hb.1 rfl)⟩
open Classical in
noncomputable def F_StackSets_0 (c : Int) (S : List Tile) (d : Int) (T : List Tile) : Int × List Tile := if setOK c S ∧ setOK d T then stkF c d S T else (0, [])
open Classical in
noncomputable def F_StackSets_1 (c : Int) (S : List Tile) (d : Int) (T : List Tile) : Int := if setOK c S ∧ setOK d T then stkE c d S T else 1
theorem impl_StackSets_c (rs : Rd h0 s 4 (tcs S)) (rt : Rd h0 t 4 (tcs T)) (hS : S.length ≤ 1048576) (hT : T.length ≤ 1048576) :
    callV SP i_impl_StackSets [.agg (SetC c s), .agg (SetC d t)] h0 fun v h' => ∃ u, v = .tuple [.agg (SetC (F_StackSets_0 c S d T).1 u), i64 (F_StackSets_1 c S d T)] ∧ Pre h' u 4 (tcs (F_StackSets_0 c S d T).2) ∧ Fr h0.length u ∧ Ext h0 h' := by
  apply impl_StackSets_call
  unfold impl_StackSets_main
  refine newK_obj fun h1 o1 x1 n1 => ?_
  refine newK_obj fun h2 o2 x2 n2 => ?_
  refine newO_obj fun h3 o3 x3 n3 => ?_
  have p1 := o1.ext (x2.trans x3)
  have p2 := o2.ext x3
  have X := (x1.trans x2).trans x3
  refine p1.ldA rfl ?_
  refine p2.ldA rfl ⟨rfl, rfl, ?_⟩
  refine newS_ow (by rfl) fun q h4 oq lq qo e4 => ?_
  have x4 : Ext h3 h4 := by rw [e4]; exact Ext.app _ _
  have X4 := X.trans x4
  refine (areSets_c (c := c) (d := d) (s := s) (t := t) oq.rd (rs.ext X4) (rt.ext X4) (by omega) (by omega)).to ?_
  rintro b h5 ⟨hb, x5⟩
  have X5 := X4.trans x5
  have p3 := o3.ext (x4.trans x5)
  have hx1 := x1.len
  have hx2 := x2.len
  refine bif_not (fun hq => ?_) (fun hq => ?_)
  · have hno : ¬ (setOK c S ∧ setOK d T) := fun h => by rw [hb.2 h] at hq; cases hq
    refine p3.stA fun h6 o6 b6 n6 => ?_
    refine o6.ldA rfl ⟨Sl.nil, ?_, ?_, Fr.nil _, X5.but_ b6 (some_le (by omega))⟩
    · unfold F_StackSets_0 F_StackSets_1; rw [if_neg hno, if_neg hno]; rfl
    · unfold F_StackSets_0; rw [if_neg hno]; exact Pre.nil _ _
  · have hyes := hb.1 hq
    refine (p1.ext (x4.trans x5)).ldA rfl ?_
    refine (p2.ext (x4.trans x5)).ldA rfl ?_
    refine (impl_stack_c (c := c) (d := d) (rs.ext X5) (rt.ext X5) hyes.1.2.1 hyes.2.2.1).to ?_
    rintro _ h6 ⟨w, rfl, pw, fw, x6⟩
    refine ⟨_, rfl, _, rfl, _, rfl, _, rfl, ?_⟩
    have hx5 := X5.len
    have hx45 := (x4.trans x5).len
    refine (p3.ext x6).stA fun h7 o7 b7 n7 => ?_
    refine o7.ldA rfl ⟨w, ?_, ?_, fw.le hx5, (X5.trans x6).but_ b7 (some_le (by omega))⟩
    · unfold F_StackSets_0 F_StackSets_1; rw [if_pos hyes, if_pos hyes]
    · unfold F_StackSets_0; rw [if_pos hyes]
      exact pw.but b7 (fun i ei e => by have := fw _ ei; have := Option.some.inj e; omega)
end
end Go.Proofs.Ytlbglfgienklfaa.Cl

/- The reference's order of tiles. No claim is stated here. -/
set_option linter.unusedVariables false
set_option linter.unusedSimpArgs false
namespace Go.Proofs.Ytlbglfgienklfaa.Cl
open Go
section
variable {h0 : H} {s : Sl} {l : List Tile}
theorem ins_pw {A : List Tile} {x : Tile} {q : Nat} (hp : A.Pairwise ltT) (hq : q ≤ A.length) (hgt : ∀ j (hj : j < A.length), q ≤ j → ltT x A[j]) (hlt : ∀ (h : 0 < q), ltT (A[q - 1]'(by omega)) x) : (A.take q ++ x :: A.drop q).Pairwise ltT := by
  rw [List.pairwise_append]
  refine ⟨hp.sublist (List.take_sublist _ _), ?_, fun a ha b hb => ?_⟩
  · refine List.pairwise_cons.2 ⟨fun b hb => ?_, hp.sublist (List.drop_sublist _ _)⟩
    obtain ⟨j, hj, rfl⟩ := List.getElem_of_mem hb
    rw [List.getElem_drop]
    exact hgt _ _ (by omega)
  · obtain ⟨j, hj, rfl⟩ := List.getElem_of_mem ha
    have hj' : j < q := by rw [List.length_take] at hj; omega
    rw [List.getElem_take]
    have hax : ltT A[j] x := by
      by_cases e : j = q - 1
      · subst e; exact hlt (by omega)
      · exact ltT_sto.trans _ _ _ (List.pairwise_iff_getElem.1 hp j (q - 1) (by omega) (by omega) (by omega)) (hlt (by omega))
    rcases List.mem_cons.1 hb with rfl | hb
    · exact hax
    · obtain ⟨k, hk, rfl⟩ := List.getElem_of_mem hb
      rw [List.getElem_drop]
      exact ltT_sto.trans _ _ _ hax (hgt _ _ (by omega))
theorem ins_heap {h : H} {s3 : Sl} {A : List Tile} {x : Tile} {q n : Nat} (o : Ow h s3 4 (tcs A)) (f : Fr n s3) (hn : n ≤ h.length) (so : s3.o.isSome = true) (hq : q ≤ A.length) (hA : A.length ≤ 1000000) {K : Sl → H → Prop}
    (hk : ∀ u h', Ow h' u 4 (tcs (A.take q ++ x :: A.drop q)) → Fr n u → u.o.isSome = true → Ext h h' → K u h') :
    newS 1 4 (tc x) h fun s7 h8 => cut s3 4 (q : Int) (s3.len : Int) h8 fun s9 => okS h s3 ∧ (app s7 s9 4 h8 fun s10 h11 => newS 0 4 [] h11 fun s12 h13 => cut s3 4 0 (q : Int) h13 fun s14 => app s12 s14 4 h13 fun s15 h16 => app s15 s10 4 h16 fun s17 h18 => K s17 h18) := by
  obtain ⟨p, hp⟩ := Option.isSome_iff_exists.1 so
  have hl := o.rd.tlen
  refine newS_ow (by rfl) fun s7 h8 o7 l7 e7 y8 => ?_
  have x8 : Ext h h8 := by rw [y8]; exact Ext.app _ _
  have n8 : h8.length = h.length + 1 := by rw [y8]; simp
  refine (o.ext x8).cutV hp (by omega) (by omega) (by omega) ?_
  refine ⟨o.pre.ok, ?_⟩
  rw [Int.toNat_natCast, show ((s3.len : Int) - (q : Int)).toNat = A.length - q by omega]
  have v9 := (o.ext x8).viewT hp (lo := q) (n := A.length - q) (by omega)
  rw [List.take_of_length_le (by rw [List.length_drop]; omega)] at v9
  refine app_ow (by omega) o7 v9 (by rw [l7]; show ((1 + (A.length - q) : Nat) : Int) ≤ lim; unfold lim; omega) fun s10 h11 o10 l10 b11 k1 k2 => ?_
  have hs7 : s7.o = some h.length := e7
  have hs10 := k1 _ hs7
  have x11 : Ext h h11 := x8.but_ b11 fun i e => by rw [hs7] at e; have := Option.some.inj e; omega
  have n11 := b11.1
  refine newS_ow (by rfl) fun s12 h13 o12 l12 e12 y13 => ?_
  have x13 : Ext h11 h13 := by rw [y13]; exact Ext.app _ _
  have n13 : h13.length = h11.length + 1 := by rw [y13]; simp
  have x113 := x11.trans x13
  refine (o.ext x113).cutV hp (by omega) (by omega) (by omega) ?_
  rw [show (0 : Int).toNat = 0 from rfl, show ((q : Int) - 0).toNat = q by omega]
  have v14 := (o.ext x113).viewT hp (lo := 0) (n := q) (by omega)
  rw [List.drop_zero] at v14
  refine app_ow (by omega) o12 v14 (by rw [l12]; show ((0 + q : Nat) : Int) ≤ lim; unfold lim; omega) fun s15 h16 o15 l15 b16 k3 k4 => ?_
  have hs15 := k3 _ e12
  have o10' : Ow h16 s10 4 (tc x ++ tcs (A.drop q)) := (o10.ext x13).but b16 (.inl (by rw [e12, hs10]; intro e; have := Option.some.inj e; omega))
  have hl10 : s10.len = 1 + (A.length - q) := by rw [l10, l7]
  have hl15 : s15.len = 0 + q := by rw [l15, l12]
  refine app_ow (by omega) o15 o10'.rd (by rw [hl15, hl10]; unfold lim; omega) fun s17 h18 o17 l17 b18 k5 k6 => ?_
  have hs17 := k5 _ hs15
  refine hk s17 h18 ?_ (fun i e => by rw [hs17] at e; have := Option.some.inj e; omega) (by rw [hs17]; rfl) ((x113.but_ b16 fun i e => by rw [e12] at e; have := Option.some.inj e; omega).but_ b18 fun i e => by rw [hs15] at e; have := Option.some.inj e; omega)
  rw [tcs_app, tcs_cons]
  simpa using o17
theorem l01Sort_c (r : Rd h0 s 4 (tcs l)) (hl : l.length ≤ 1000000) :
    callS SP i_spec_l01Sort [.sl s] h0 fun u h' => Ow h' u 4 (tcs (dsT l)) ∧ Fr h0.length u ∧ Ext h0 h' := by
  have hsl := r.tlen
  apply spec_l01Sort_call
  unfold spec_l01Sort_main
  refine newS_ow (by rfl) fun u h1 ou lu uo e1 => ?_
  have x1 : Ext h0 h1 := by rw [e1]; exact Ext.app _ _
  refine spec_l01Sort_rule0 _ _ _ (fun u i h => ∃ (z : Nat) (A : List Tile), i = z ∧ z ≤ l.length ∧ Ow h u 4 (tcs A) ∧ Fr h0.length u ∧ u.o.isSome = true ∧ Ext h0 h ∧ A.Pairwise ltT ∧ (∀ x, x ∈ A ↔ x ∈ l.take z) ∧ A.length ≤ z) (fun _ i _ => (l.length - i).toNat) ?_ _ _
    ⟨0, [], rfl, by omega, by simpa [tcs] using ou, fun o e => by rw [uo] at e; cases e; exact Nat.le_refl _, by rw [uo]; rfl, x1, List.Pairwise.nil, fun x => by simp, Nat.le_refl _⟩
  rintro X0 u _ h ⟨z, A, rfl, hz, ou, fu, so, x, hp, hm, hAl⟩ hX
  unfold spec_l01Sort_b0 spec_l01Sort_C0
  refine bif_dec (fun hi => ?_) (fun hi => ?_)
  rotate_left
  · rw [show z = l.length by omega, List.take_length] at hm
    exact ⟨u, rfl, by rw [show dsT l = A from (dsort_eq ltT_sto hp hm).symm]; exact ou, fu, x⟩
  have hz' : z < l.length := by omega
  have hul := ou.rd.tlen
  have tz : tat l (z : Int) = l[z] := tat_at (by rw [Int.toNat_natCast, List.getElem?_eq_getElem hz'])
  have hst : ((z : Int) + 1) = ((z + 1 : Nat) : Int) := by push_cast; rfl
  have hxl := x.len
  have memz : ∀ y, y ∈ l.take (z + 1) ↔ y ∈ l.take z ∨ y = l[z] := fun y => by rw [List.take_succ_eq_append_getElem hz', List.mem_append, List.mem_singleton]
  refine spec_l01Sort_rule2 _ _ X0 _ _ _ (fun j g => ∃ q : Nat, j = q ∧ q ≤ A.length ∧ Ext h g ∧ ∀ k (hk : k < A.length), q ≤ k → ltT l[z] A[k]) (fun j _ => j.toNat) ?_ _ ⟨A.length, by rw [hul], Nat.le_refl _, Ext.refl _, fun k hk h => by omega⟩
  rintro X2 _ g ⟨q, rfl, hq, xg, hgt⟩ hY
  have rl := r.ext (x.trans xg)
  have og := ou.ext xg
  have fin : ∀ {g' : H}, Ext h g' → (∀ (h : 0 < q), ltT (A[q - 1]'(by omega)) l[z]) → newS 1 4 (tc l[z]) g' (fun s7 h8 => cut u 4 (q : Int) (u.len : Int) h8 fun s9 => okS g' u ∧ (app s7 s9 4 h8 fun s10 h11 => newS 0 4 [] h11 fun s12 h13 => cut u 4 0 (q : Int) h13 fun s14 => app s12 s14 4 h13 fun s15 h16 => app s15 s10 4 h16 fun s17 h18 => X0 (spec_l01Sort_e0 s s17 (w64 ((z : Int) + 1))) h18)) := fun {g'} xg' hlt => by
    rw [w64_of (n := (z : Int) + 1) (by omega) (by omega)]
    refine ins_heap (ou.ext xg') fu (by have := xg'.len; omega) so hq (by omega) fun v h' ov fv sv xv => ?_
    refine hX _ _ _ ⟨z + 1, _, hst, hz', ov, fv, sv, (x.trans xg').trans xv, ins_pw hp hq hgt hlt, fun y => ?_, by rw [List.length_append, List.length_take, List.length_cons, List.length_drop]; omega⟩ (by omega)
    rw [memz, ← hm, List.mem_append, List.mem_cons]
    have : y ∈ A ↔ y ∈ A.take q ∨ y ∈ A.drop q := by rw [← List.mem_append, List.take_append_drop]
    rw [this]
    constructor
    · rintro (h | h | h)
      · exact .inl (.inl h)
      · exact .inr h
      · exact .inl (.inr h)
    · rintro ((h | h) | h)
      · exact .inl h
      · exact .inr (.inr h)
      · exact .inr (.inl h)
  unfold spec_l01Sort_b2
  refine bif_dec (fun hj => ?_) (fun hj => ?_)
  · have hqA : q - 1 < A.length := by omega
    have tq : tat A ((q - 1 : Nat) : Int) = A[q - 1] := tat_at (by rw [Int.toNat_natCast, List.getElem?_eq_getElem hqA])
    refine rl.tileG (by omega) (by omega) ?_
    rw [w64_of (n := (q : Int) - 1) (by omega) (by omega), show (q : Int) - 1 = ((q - 1 : Nat) : Int) by omega]
    refine og.rd.tileG (by omega) (by omega) ?_
    rw [tz, tq]
    refine (l01Before_c l[z] A[q - 1] g).to ?_
    rintro b g2 ⟨rfl, y2⟩
    have xg2 := xg.trans y2
    refine bif_dec (fun hb => ?_) (fun hb => ?_)
    · refine hY _ _ ⟨q - 1, rfl, by omega, xg2, fun k hk h => ?_⟩ (by omega)
      by_cases e : k = q - 1
      · subst e; exact hb
      · exact hgt k hk (by omega)
    · unfold spec_l01Sort_C2
      refine bif_dec (fun _ => ?_) (fun h => absurd hj h)
      rw [w64_of (n := (q : Int) - 1) (by omega) (by omega), show (q : Int) - 1 = ((q - 1 : Nat) : Int) by omega]
      refine (ou.ext xg2).rd.tileG (by omega) (by omega) ?_
      refine (r.ext (x.trans xg2)).tileG (by omega) (by omega) (eqA_tc ?_)
      rw [tz, tq]
      refine bif_dec (fun he => ?_) (fun he => ?_)
      · unfold spec_l01Sort_C1
        rw [w64_of (n := (z : Int) + 1) (by omega) (by omega)]
        refine hX _ _ _ ⟨z + 1, A, hst, hz', ou.ext xg2, fu, so, x.trans xg2, hp, fun y => ?_, by omega⟩ (by omega)
        rw [memz, ← hm]
        exact ⟨.inl, fun h => h.elim id fun h => by rw [h, ← he]; exact List.getElem_mem hqA⟩
      · refine (r.ext (x.trans xg2)).tileG (by omega) (by omega) ⟨rfl, ?_⟩
        rw [tz]
        refine fin xg2 fun _ => ?_
        exact (ltT_sto.tri _ _ he).resolve_right hb
  · unfold spec_l01Sort_C2
    refine bif_dec (fun h => absurd h hj) (fun _ => ?_)
    refine rl.tileG (by omega) (by omega) ⟨rfl, ?_⟩
    rw [tz]
    exact fin xg fun h => by omega
theorem l01Made_c (r : Rd h0 s 4 (tcs l)) (hl : l.length ≤ 1000000) (c : Int) :
    callA SP i_spec_l01Made [i64 c, .sl s] h0 fun cs h' => ∃ u, cs = SetC c u ∧ Ow h' u 4 (tcs (dsT l)) ∧ Fr h0.length u ∧ Ext h0 h' := by
  apply spec_l01Made_call
  unfold spec_l01Made_main
  refine newO_obj fun h1 o1 x1 n1 => ?_
  refine (l01Sort_c (r.ext x1) hl).to ?_
  rintro u h2 ⟨ou, fu, x2⟩
  refine (o1.ext x2).stA fun h3 o3 b3 n3 => ?_
  refine o3.ldA rfl ⟨_, rfl, u, rfl, ou.but b3 (.inl fun e => by have := fu _ e.symm; omega), fu.le (by omega), (x1.trans x2).but_ b3 (some_le (Nat.le_refl _))⟩
end
end Go.Proofs.Ytlbglfgienklfaa.Cl

/- The reference's stacks. No claim is stated here. -/
set_option linter.unusedVariables false
set_option linter.unusedSimpArgs false
namespace Go.Proofs.Ytlbglfgienklfaa.Cl
open Go
theorem setOK.side {c : Int} {ts : List Tile} (h : setOK c ts) {j k : Nat} (hk : k < 4) (hj : j < ts.length) : 0 ≤ sd (tat ts (j : Int)) k ∧ sd (tat ts (j : Int)) k < c := by
  have := (h.2.2 j hj).1
  unfold tileok at this
  simp only [Bool.and_eq_true, decide_eq_true_eq] at this
  have hk' : k = 0 ∨ k = 1 ∨ k = 2 ∨ k = 3 := by omega
  rcases hk' with rfl | rfl | rfl | rfl
  · show 0 ≤ (tat ts j).1 ∧ (tat ts j).1 < c; omega
  · show 0 ≤ (tat ts j).2.1 ∧ (tat ts j).2.1 < c; omega
  · show 0 ≤ (tat ts j).2.2.1 ∧ (tat ts j).2.2.1 < c; omega
  · show 0 ≤ (tat ts j).2.2.2 ∧ (tat ts j).2.2.2 < c; omega
/-- A pair as one number. -/
def cdP (e : Int × Int) : Int := 16 * e.1 + e.2
def SmallP (e : Int × Int) : Prop := 0 ≤ e.2 ∧ e.2 < 16
theorem cdP_lt {a b : Int × Int} (ha : SmallP a) (hb : SmallP b) (h : ltP a b) : cdP a < cdP b := by
  obtain ⟨a1, a2⟩ := a
  obtain ⟨b1, b2⟩ := b
  unfold ltP ltL at h
  simp only [cmpL] at h
  unfold cdP SmallP at *
  simp only at *
  by_cases h1 : a1 < b1
  · omega
  · rw [if_neg h1] at h
    by_cases h2 : a1 > b1
    · rw [if_pos h2] at h; omega
    · rw [if_neg h2] at h
      by_cases h3 : a2 < b2
      · omega
      · rw [if_neg h3] at h
        by_cases h4 : a2 > b2
        · rw [if_pos h4] at h; omega
        · rw [if_neg h4] at h; omega
theorem cdP_inj {a b : Int × Int} (ha : SmallP a) (hb : SmallP b) (h : cdP a = cdP b) : a = b := Classical.byContradiction fun hne => by
  rcases ltP_sto.tri a b hne with h1 | h1
  · have := cdP_lt ha hb h1; omega
  · have := cdP_lt hb ha h1; omega
section
variable {S T : List Tile}
theorem allP_small (hT : ∀ k j : Nat, k < T.length → j < 4 → 0 ≤ sd (tat T (k : Int)) j ∧ sd (tat T (k : Int)) j < 16) : ∀ e ∈ allP S T (stkI S T S.length), SmallP e := by
  intro e he
  unfold allP at he
  obtain ⟨d, hd, he⟩ := List.mem_flatMap.1 he
  obtain ⟨i, k, rfl, hi, hk, _⟩ := stkI_mem hd
  simp only [List.mem_cons, List.not_mem_nil, or_false] at he
  rcases he with rfl | rfl
  · exact hT k 0 hk (by omega)
  · exact hT k 2 hk (by omega)
theorem prsP_mem {e : Int × Int} : e ∈ prsP S T ↔ e ∈ allP S T (stkI S T S.length) := mem_dsort
/-- The reference's list of pairs. -/
theorem codes_eq (hs : ∀ e ∈ allP S T (stkI S T S.length), SmallP e) {Q : List Int} (hq : Asc Q) (hm : ∀ x, x ∈ Q ↔ x ∈ (allP S T (stkI S T S.length)).map cdP) : Q = (prsP S T).map cdP := by
  refine asc_ext hq ?_ fun x => by
    rw [hm, List.mem_map, List.mem_map]
    exact ⟨fun ⟨e, h, k⟩ => ⟨e, prsP_mem.2 h, k⟩, fun ⟨e, h, k⟩ => ⟨e, prsP_mem.1 h, k⟩⟩
  show List.Pairwise _ _
  rw [List.pairwise_map]
  refine (prsP_pw S T).imp_of_mem fun {a b} ha hb h => cdP_lt (hs a (prsP_mem.1 ha)) (hs b (prsP_mem.1 hb)) h
theorem find_num (hs : ∀ e ∈ allP S T (stkI S T S.length), SmallP e) {e : Int × Int} (he : e ∈ allP S T (stkI S T S.length)) {i : Int} (h : (∃ j : Nat, i = j ∧ ((prsP S T).map cdP)[j]? = some (cdP e)) ∨ (cdP e ∉ (prsP S T).map cdP ∧ i = -1)) : i = numP (prsP S T) e := by
  rcases h with ⟨j, rfl, hj⟩ | ⟨hn, _⟩
  · rw [List.getElem?_map] at hj
    cases hq : (prsP S T)[j]? with
    | none => rw [hq] at hj; cases hj
    | some a =>
      rw [hq] at hj
      simp only [Option.map_some, Option.some.injEq] at hj
      obtain ⟨hlt, rfl⟩ := List.getElem?_eq_some_iff.1 hq
      have := cdP_inj (hs _ (prsP_mem.1 (List.getElem_mem hlt))) (hs e he) hj
      rw [← this, numP_at (prsP_nodup S T) hlt]
  · exact absurd (List.mem_map.2 ⟨e, prsP_mem.2 he, rfl⟩) hn
theorem allP_mem {i k : Nat} (hi : i < S.length) (hk : k < T.length) (h : sd (tat S (i : Int)) 3 = sd (tat T (k : Int)) 1) : prOf S T ((i : Int), (k : Int)) 0 ∈ allP S T (stkI S T S.length) ∧ prOf S T ((i : Int), (k : Int)) 2 ∈ allP S T (stkI S T S.length) := by
  have hm : ((i : Int), (k : Int)) ∈ stkI S T S.length := by
    unfold stkI stkR
    refine List.mem_flatMap.2 ⟨i, List.mem_range.2 hi, List.mem_flatMap.2 ⟨k, List.mem_range.2 hk, ?_⟩⟩
    rw [if_pos h]; simp
  unfold allP
  exact ⟨List.mem_flatMap.2 ⟨_, hm, by simp⟩, List.mem_flatMap.2 ⟨_, hm, by simp⟩⟩
end
section
variable {h0 : H} {s t : Sl} {S T : List Tile} {c d : Int}
theorem push2I {h : H} {u : Sl} {l : List Int} {x y : Int} (r : Ow h u 1 (ic l)) (hl : (l.length : Int) + 2 ≤ lim) {K : Sl → H → Prop}
    (hk : ∀ u' h', Ow h' u' 1 (ic (l ++ [x, y])) → But u.o h h' → (∀ o, u'.o = some o → u.o = some o ∨ h.length ≤ o) → h.length ≤ h'.length → K u' h') : newS 2 1 [.int .i64 x, .int .i64 y] h fun t h1 => app u t 1 h1 K := by
  refine newS_ow (by rfl) fun t h1 ot tl to e1 => ?_
  have e1' : Ext h h1 := by rw [e1]; exact Ext.app _ _
  have hln := e1'.len
  have hsl := r.rd.ilen
  refine app_ow (by omega) (r.ext e1') ot.rd (by rw [tl, hsl]; exact_mod_cast hl) fun s' h' o' ln b k1 k2 => hk s' h' (by rw [ic_app]; exact o') ((e1'.but _).trans b) (fun o e => ?_) (Nat.le_trans hln b.1)
  cases hq : u.o with
  | none => have := k2 hq o e; exact .inr (by omega)
  | some p => rw [k1 p hq] at e; exact .inl e
theorem l04Pairs_c (rs : Rd h0 s 4 (tcs S)) (rt : Rd h0 t 4 (tcs T)) (hS : setOK c S) (hT : setOK d T) :
    callS SP i_spec_l04Pairs [.agg (SetC c s), .agg (SetC d t)] h0 fun u h' => Rd h' u 1 (ic ((prsP S T).map cdP)) ∧ Ext h0 h' := by
  have hsl := rs.tlen
  have htl := rt.tlen
  have hS16 := hS.2.1
  have hT16 := hT.2.1
  have hc6 := hS.1.2
  have hd6 := hT.1.2
  have hsm : ∀ e ∈ allP S T (stkI S T S.length), SmallP e := allP_small fun k j hk hj => by have := hT.side hj hk; omega
  apply spec_l04Pairs_call
  unfold spec_l04Pairs_main
  refine newK_obj fun h1 o1 x1 n1 => ?_
  refine newK_obj fun h2 o2 x2 n2 => ?_
  refine newS_ow (by rfl) fun u h3 ou lu uo e3 => ?_
  have x3 : Ext h2 h3 := by rw [e3]; exact Ext.app _ _
  have n3 : h3.length = h2.length + 1 := by rw [e3]; simp
  have X3 := (x1.trans x2).trans x3
  refine spec_l04Pairs_rule0 _ _ _ _ (fun u i h => ∃ z : Nat, i = z ∧ z ≤ S.length ∧ Ow h u 1 (ic ((allP S T (stkI S T z)).map cdP)) ∧ Fr h2.length u ∧ Ext h2 h) (fun _ i _ => (S.length - i).toNat) ?_ _ _
    ⟨0, rfl, by omega, by simpa [stkI, allP, ic] using ou, fun o e => by rw [uo] at e; cases e; exact Nat.le_refl _, x3⟩
  rintro X0 u _ h ⟨z, rfl, hz, ou, fu, x⟩ hX
  unfold spec_l04Pairs_b0 spec_l04Pairs_C0
  have p2 := o2.ext x
  have p1 := o1.ext (x2.trans x)
  have XX := (x1.trans x2).trans x
  refine isPt_in (p1.ldS rfl rfl ?_)
  have hlenI := stkI_len S T z
  have hzb : z * T.length ≤ 16 * 16 := Nat.mul_le_mul (by omega) hT16
  have hall : ∀ es : List (Int × Int), (allP S T es).length = 2 * es.length := fun es => by
    induction es with
    | nil => rfl
    | cons e es ih => unfold allP at *; simp only [List.flatMap_cons, List.length_append, List.length_cons, List.length_nil, ih]; omega
  refine bif_dec (fun hi => ?_) (fun hi => ?_)
  rotate_left
  · have hu := ou.rd.ilen
    rw [show z = S.length by omega] at ou
    have hul : ((allP S T (stkI S T S.length)).map cdP).length ≤ 1000 := by
      rw [List.length_map, hall]
      have := stkI_len S T S.length
      have : S.length * T.length ≤ 16 * 16 := Nat.mul_le_mul hS16 hT16
      omega
    refine (sortedD_c _ _ u h (Nat.le_refl _) (by omega) ou.rd).to ?_
    rintro v h' ⟨Q, rQ, aQ, mQ, _, _, x'⟩
    exact ⟨v, rfl, by rw [← codes_eq hsm aQ mQ]; exact rQ, XX.trans x'⟩
  have hz' : z < S.length := by omega
  refine spec_l04Pairs_rule2 _ _ X0 _ _ _ (fun u k g => ∃ w : Nat, k = w ∧ w ≤ T.length ∧ Ow g u 1 (ic ((allP S T (stkI S T z ++ stkR S T z w)).map cdP)) ∧ Fr h2.length u ∧ Ext h2 g) (fun _ k _ => (T.length - k).toNat) ?_ _ _
    ⟨0, rfl, by omega, by simpa [stkR] using ou, fu, x⟩
  clear ou fu x p1 p2 XX
  rintro X2 u _ g ⟨w, rfl, hw, ou, fu, x⟩ hY
  unfold spec_l04Pairs_b2 spec_l04Pairs_C2 spec_l04Pairs_C1
  have p2 := o2.ext x
  have p1 := o1.ext (x2.trans x)
  have XX := (x1.trans x2).trans x
  have rS := rs.ext XX
  have rT := rt.ext XX
  refine isPt_in (p2.ldS rfl rfl ?_)
  refine bif_dec (fun hj => ?_) (fun hj => ?_)
  rotate_left
  · rw [w64_of (n := (z : Int) + 1) (by omega) (by omega)]
    refine hX _ _ _ ⟨z + 1, by push_cast; rfl, hz', ?_, fu, x⟩ (by omega)
    rw [stkI_succ, show T.length = w by omega]
    exact ou
  have hw' : w < T.length := by omega
  refine isPt_in (p1.ldS rfl rfl ?_)
  refine rS.sideG (by omega) (by omega) (by omega) (by omega) ?_
  refine isPt_in (p2.ldS rfl rfl ?_)
  refine rT.sideG (by omega) (by omega) (by omega) (by omega) ?_
  rw [w64_of (n := (w : Int) + 1) (by omega) (by omega)]
  have hst : ((w : Int) + 1) = ((w + 1 : Nat) : Int) := by push_cast; rfl
  have hl1 := stkR_len S T z w
  refine bif_eq (fun hq => ?_) (fun hq => ?_)
  · refine isPt_in (p1.ldS rfl rfl ?_)
    refine rS.sideG (by omega) (by omega) (by omega) (by omega) ?_
    refine isPt_in (p2.ldS rfl rfl ?_)
    refine rT.sideG (by omega) (by omega) (by omega) (by omega) ?_
    refine isPt_in (p1.ldS rfl rfl ?_)
    refine rS.sideG (by omega) (by omega) (by omega) (by omega) ?_
    refine isPt_in (p2.ldS rfl rfl ?_)
    refine rT.sideG (by omega) (by omega) (by omega) (by omega) ?_
    have a0 := hS.side (j := z) (k := 0) (by omega) hz'
    have a2 := hS.side (j := z) (k := 2) (by omega) hz'
    have b0 := hT.side (j := w) (k := 0) (by omega) hw'
    have b2 := hT.side (j := w) (k := 2) (by omega) hw'
    show newS 2 1 [.int .i64 (w64 (w64 (16 * sd (tat S (z : Int)) 0) + sd (tat T (w : Int)) 0)), .int .i64 (w64 (w64 (16 * sd (tat S (z : Int)) 2) + sd (tat T (w : Int)) 2))] g _
    rw [w64_of (n := 16 * sd (tat S (z : Int)) 0) (by omega) (by omega), w64_of (n := 16 * sd (tat S (z : Int)) 2) (by omega) (by omega), w64_of (n := 16 * sd (tat S (z : Int)) 0 + _) (by omega) (by omega), w64_of (n := 16 * sd (tat S (z : Int)) 2 + _) (by omega) (by omega)]
    refine push2I ou (by rw [List.length_map, hall, List.length_append]; unfold lim; omega) fun u2 g3 ou2 b3 hu2 hln => ?_
    refine hY _ _ _ ⟨w + 1, hst, hw', ?_, fu.push (h := g) (by have := x.len; omega) hu2, x.but_ b3 fun o e => fu o e⟩ (by omega)
    rw [stkR_succ, if_pos (show sd (tat S (z : Int)) 3 = sd (tat T (w : Int)) 1 from hq), ← List.append_assoc, allP_app, List.map_append]
    exact ou2
  · refine hY _ _ _ ⟨w + 1, hst, hw', ?_, fu, x⟩ (by omega)
    rw [stkR_succ, if_neg (show ¬ sd (tat S (z : Int)) 3 = sd (tat T (w : Int)) 1 from hq), List.append_nil]
    exact ou
end
end Go.Proofs.Ytlbglfgienklfaa.Cl

/- The reference's StackSets. No claim is stated here. -/
set_option linter.unusedVariables false
set_option linter.unusedSimpArgs false
namespace Go.Proofs.Ytlbglfgienklfaa.Cl
open Go
section
variable {h0 : H} {s t q : Sl} {S T : List Tile} {c d : Int}
theorem l04Tile_c (hS : setOK c S) (hT : setOK d T) {i k : Nat} (hi : i < S.length) (hk : k < T.length) (hst : sd (tat S (i : Int)) 3 = sd (tat T (k : Int)) 1) (rq : Rd h0 q 1 (ic ((prsP S T).map cdP))) :
    callA SP i_spec_l04Tile [.agg (tc (tat S (i : Int))), .agg (tc (tat T (k : Int))), .sl q] h0 fun cs h' => cs = tc (stile S T ((i : Int), (k : Int))) ∧ Ext h0 h' := by
  have hsm : ∀ e ∈ allP S T (stkI S T S.length), SmallP e := allP_small fun k j hk hj => by have := hT.side hj hk; have := hT.1.2; omega
  have hasc : Asc ((prsP S T).map cdP) := by
    show List.Pairwise _ _
    rw [List.pairwise_map]
    exact (prsP_pw S T).imp_of_mem fun {a b} ha hb h => cdP_lt (hsm a (prsP_mem.1 ha)) (hsm b (prsP_mem.1 hb)) h
  have hlen : ((prsP S T).map cdP).length ≤ 1000000 := by
    rw [List.length_map]
    have h1 := prsP_len S T
    have h2 := stkI_len S T S.length
    have h3 : S.length * T.length ≤ 16 * 16 := Nat.mul_le_mul hS.2.1 hT.2.1
    omega
  obtain ⟨m0, m2⟩ := allP_mem hi hk hst
  have hc6 := hS.1.2
  have hd6 := hT.1.2
  have a0 := hS.side (j := i) (k := 0) (by omega) hi
  have a2 := hS.side (j := i) (k := 2) (by omega) hi
  have b0 := hT.side (j := k) (k := 0) (by omega) hk
  have b2 := hT.side (j := k) (k := 2) (by omega) hk
  apply spec_l04Tile_call
  unfold spec_l04Tile_main
  refine newK_obj fun h1 o1 x1 n1 => ?_
  refine newK_obj fun h2 o2 x2 n2 => ?_
  refine newO_obj fun h3 o3 x3 n3 => ?_
  have p1 := o1.ext (x2.trans x3)
  have p2 := o2.ext x3
  have X := (x1.trans x2).trans x3
  have rq3 := rq.ext X
  refine ix4 p1 0 (by omega) fun p6 hp6 => ?_
  refine ix4 p2 0 (by omega) fun p8 hp8 => ?_
  rw [w64_of (n := 16 * sd (tat S (i : Int)) 0) (by omega) (by omega), w64_of (n := 16 * sd (tat S (i : Int)) 0 + _) (by omega) (by omega)]
  refine l04Find_c rq3 hasc hlen fun n hn => ?_
  have e0 := find_num hsm m0 hn
  refine ix4 p1 1 (by omega) fun p12 hp12 => ?_
  refine ⟨rfl, ?_⟩
  refine ix4 p1 2 (by omega) fun p14 hp14 => ?_
  refine ⟨rfl, ?_⟩
  refine ix4 p2 2 (by omega) fun p16 hp16 => ?_
  refine ⟨rfl, ?_⟩
  rw [w64_of (n := 16 * sd (tat S (i : Int)) 2) (by omega) (by omega), w64_of (n := 16 * sd (tat S (i : Int)) 2 + _) (by omega) (by omega)]
  refine l04Find_c rq3 hasc hlen fun m hm => ?_
  have e2 := find_num hsm m2 hm
  refine ⟨rfl, ?_⟩
  refine ix4 p2 3 (by omega) fun p20 hp20 => ?_
  refine ⟨rfl, rfl, ?_⟩
  refine o3.stA fun h4 o4 b4 n4 => ?_
  refine o4.ldA rfl ⟨_, rfl, ?_, X.but_ b4 (some_le (by have := x1.len; have := x2.len; omega))⟩
  rw [e0, e2]
  rfl
theorem l04Made_c (rs : Rd h0 s 4 (tcs S)) (rt : Rd h0 t 4 (tcs T)) (hS : setOK c S) (hT : setOK d T) :
    callV SP i_spec_l04Made [.agg (SetC c s), .agg (SetC d t)] h0 fun v h' => ∃ u, v = .tuple [.agg (SetC (stkF c d S T).1 u), i64 (stkE c d S T)] ∧ Pre h' u 4 (tcs (stkF c d S T).2) ∧ Fr h0.length u ∧ Ext h0 h' := by
  have hsl := rs.tlen
  have htl := rt.tlen
  have hS16 := hS.2.1
  have hT16 := hT.2.1
  apply spec_l04Made_call
  unfold spec_l04Made_main
  refine newK_obj fun h1 o1 x1 n1 => ?_
  refine newK_obj fun h2 o2 x2 n2 => ?_
  refine newO_obj fun h3 o3 x3 n3 => ?_
  have p1 := o1.ext (x2.trans x3)
  have p2 := o2.ext x3
  have X := (x1.trans x2).trans x3
  refine p1.ldA rfl ?_
  refine p2.ldA rfl ?_
  refine (l04Pairs_c (c := c) (d := d) (rs.ext X) (rt.ext X) hS hT).to ?_
  rintro q h4 ⟨rq, x4⟩
  have hql := rq.ilen
  rw [List.length_map] at hql
  refine newS_ow (by rfl) fun u h5 ou lu uo e5 => ?_
  have x5 : Ext h4 h5 := by rw [e5]; exact Ext.app _ _
  have hx4 := x4.len
  have hx1 := x1.len
  have hx2 := x2.len
  refine spec_l04Made_rule0 _ _ _ _ _ _ (fun u i h => ∃ z : Nat, i = z ∧ z ≤ S.length ∧ Ow h u 4 (tcs ((stkI S T z).map (stile S T))) ∧ Fr h4.length u ∧ Ext h4 h) (fun _ i _ => (S.length - i).toNat) ?_ _ _
    ⟨0, rfl, by omega, by simpa [stkI, tcs] using ou, fun o e => by rw [uo] at e; cases e; exact Nat.le_refl _, x5⟩
  rintro X0 u _ h ⟨z, rfl, hz, ou, fu, x⟩ hX
  unfold spec_l04Made_b0 spec_l04Made_C0
  have pa := p1.ext (x4.trans x)
  have pb := p2.ext (x4.trans x)
  have pd := o3.ext (x4.trans x)
  have XX := X.trans (x4.trans x)
  refine isPt_in (pa.ldS rfl rfl ?_)
  refine bif_dec (fun hi => ?_) (fun hi => ?_)
  rotate_left
  · rw [show z = S.length by omega] at ou
    refine isPt_in (pa.ldI rfl rfl ?_)
    refine isPt_in (pb.ldI rfl rfl ?_)
    have hll : (stkT S T).length ≤ 1000 := by
      unfold stkT
      rw [List.length_map]
      have h2 := stkI_len S T S.length
      have h3 : S.length * T.length ≤ 16 * 16 := Nat.mul_le_mul hS16 hT16
      omega
    refine (l01Sort_c (l := stkT S T) ou.rd (by omega)).to ?_
    rintro w h6 ⟨ow, fw, x6⟩
    have hwl := ow.rd.tlen
    have hC : mxI (mxI (q.len : Int) c) d = stkC c d S T := by unfold stkC; rw [hql]
    rw [hC]
    have hxl := x.len
    have p6 := pd.ext x6
    have X6 := XX.trans x6
    refine bif_dec (fun hb => ?_) (fun hb => ?_)
    · have hf : ¬ fitS (stkC c d S T) (stkT S T) := fun h => by have := h.1; omega
      refine p6.stA fun h7 o7 b7 n7 => ?_
      refine o7.ldA rfl ⟨Sl.nil, ?_, ?_, Fr.nil _, X6.but_ b7 (some_le (by omega))⟩
      · unfold stkF stkE; rw [if_neg hf, if_neg hf]; rfl
      · unfold stkF; rw [if_neg hf]; exact Pre.nil _ _
    refine bif_dec (fun hb2 => ?_) (fun hb2 => ?_)
    · have hf : ¬ fitS (stkC c d S T) (stkT S T) := fun h => by have := h.2; omega
      refine p6.stA fun h7 o7 b7 n7 => ?_
      refine o7.ldA rfl ⟨Sl.nil, ?_, ?_, Fr.nil _, X6.but_ b7 (some_le (by omega))⟩
      · unfold stkF stkE; rw [if_neg hf, if_neg hf]; rfl
      · unfold stkF; rw [if_neg hf]; exact Pre.nil _ _
    · have hf : fitS (stkC c d S T) (stkT S T) := ⟨by omega, by omega⟩
      refine (l01Made_c ow.rd (by omega) (stkC c d S T)).to ?_
      rintro _ h7 ⟨v, rfl, ov, fv, x7⟩
      have hx6 := x6.len
      have hdd : dsT (dsT (stkT S T)) = dsT (stkT S T) := (dsort_eq ltT_sto (pw_dsort ltT_sto (stkT S T)) fun x => Iff.rfl).symm
      rw [hdd] at ov
      refine (p6.ext x7).stA fun h8 o8 b8 n8 => ?_
      refine o8.ldA rfl ⟨v, ?_, ?_, fv.le (by have := X6.len; omega), (X6.trans x7).but_ b8 (some_le (by omega))⟩
      · unfold stkF stkE; rw [if_pos hf, if_pos hf]
      · unfold stkF; rw [if_pos hf]
        exact ov.pre.but b8 (fun i ei e => by have := fv _ ei; have := Option.some.inj e; omega)
  have hz' : z < S.length := by omega
  have hlenI := stkI_len S T z
  have hzb : z * T.length ≤ 16 * 16 := Nat.mul_le_mul (by omega) hT16
  refine spec_l04Made_rule2 _ _ X0 _ _ _ _ _ (fun u k g => ∃ w : Nat, k = w ∧ w ≤ T.length ∧ Ow g u 4 (tcs ((stkI S T z ++ stkR S T z w).map (stile S T))) ∧ Fr h4.length u ∧ Ext h4 g) (fun _ k _ => (T.length - k).toNat) ?_ _ _
    ⟨0, rfl, by omega, by simpa [stkR] using ou, fu, x⟩
  clear ou fu x pa pb pd XX
  rintro X2 u _ g ⟨w, rfl, hw, ou, fu, x⟩ hY
  unfold spec_l04Made_b2 spec_l04Made_C2 spec_l04Made_C1
  have pa := p1.ext (x4.trans x)
  have pb := p2.ext (x4.trans x)
  have XX := X.trans (x4.trans x)
  have rS := rs.ext XX
  have rT := rt.ext XX
  refine isPt_in (pb.ldS rfl rfl ?_)
  refine bif_dec (fun hj => ?_) (fun hj => ?_)
  rotate_left
  · rw [w64_of (n := (z : Int) + 1) (by omega) (by omega)]
    refine hX _ _ _ ⟨z + 1, by push_cast; rfl, hz', ?_, fu, x⟩ (by omega)
    rw [stkI_succ, show T.length = w by omega]
    exact ou
  have hw' : w < T.length := by omega
  refine isPt_in (pa.ldS rfl rfl ?_)
  refine rS.sideG (by omega) (by omega) (by omega) (by omega) ?_
  refine isPt_in (pb.ldS rfl rfl ?_)
  refine rT.sideG (by omega) (by omega) (by omega) (by omega) ?_
  rw [w64_of (n := (w : Int) + 1) (by omega) (by omega)]
  have hst : ((w : Int) + 1) = ((w + 1 : Nat) : Int) := by push_cast; rfl
  have hl1 := stkR_len S T z w
  refine bif_eq (fun hq => ?_) (fun hq => ?_)
  · have hq' : sd (tat S (z : Int)) 3 = sd (tat T (w : Int)) 1 := hq
    refine isPt_in (pa.ldS rfl rfl ?_)
    refine rS.tileG (by omega) (by omega) ?_
    refine isPt_in (pb.ldS rfl rfl ?_)
    refine rT.tileG (by omega) (by omega) ?_
    refine (l04Tile_c (c := c) (d := d) hS hT hz' hw' hq' (rq.ext x)).to ?_
    rintro _ g2 ⟨rfl, y2⟩
    refine ⟨rfl, ?_⟩
    refine push_tc (t := stile S T ((z : Int), (w : Int))) (ou.ext y2) (by rw [List.length_map, List.length_append]; unfold lim; omega) fun u2 g3 ou2 b3 hu2 hln => ?_
    have hxl := x.len
    have hy2 := y2.len
    refine hY _ _ _ ⟨w + 1, hst, hw', ?_, fu.push (h := g2) (by omega) hu2, (x.trans y2).but_ b3 fun o e => fu o e⟩ (by omega)
    rw [stkR_succ, if_pos hq', ← List.append_assoc, List.map_append]
    exact ou2
  · refine hY _ _ _ ⟨w + 1, hst, hw', ?_, fu, x⟩ (by omega)
    rw [stkR_succ, if_neg (show ¬ sd (tat S (z : Int)) 3 = sd (tat T (w : Int)) 1 from hq), List.append_nil]
    exact ou
theorem spec_StackSets_c (rs : Rd h0 s 4 (tcs S)) (rt : Rd h0 t 4 (tcs T)) (hS : S.length ≤ 1048576) (hT : T.length ≤ 1048576) :
    callV SP i_spec_StackSets [.agg (SetC c s), .agg (SetC d t)] h0 fun v h' => ∃ u, v = .tuple [.agg (SetC (F_StackSets_0 c S d T).1 u), i64 (F_StackSets_1 c S d T)] ∧ Pre h' u 4 (tcs (F_StackSets_0 c S d T).2) ∧ Fr h0.length u ∧ Ext h0 h' := by
  apply spec_StackSets_call
  unfold spec_StackSets_main
  refine newK_obj fun h1 o1 x1 n1 => ?_
  refine newK_obj fun h2 o2 x2 n2 => ?_
  refine newO_obj fun h3 o3 x3 n3 => ?_
  have p1 := o1.ext (x2.trans x3)
  have p2 := o2.ext x3
  have X := (x1.trans x2).trans x3
  have hx1 := x1.len
  have hx2 := x2.len
  have bad : ∀ {g : H}, Ext h3 g → ¬ (setOK c S ∧ setOK d T) → stN ⟨some h2.length, 2, 0⟩ 2 [.int .i64 0, .sl Sl.nil] g (fun h9 => ldA ⟨some h2.length, 2, 0⟩ 2 h9 fun cs10 => (∃ u, (AVal.tuple [.agg cs10, .int .i64 1]) = .tuple [.agg (SetC (F_StackSets_0 c S d T).1 u), i64 (F_StackSets_1 c S d T)] ∧ Pre h9 u 4 (tcs (F_StackSets_0 c S d T).2) ∧ Fr h0.length u ∧ Ext h0 h9)) := fun {g} e hno => by
    refine (o3.ext e).stA fun h6 o6 b6 n6 => ?_
    refine o6.ldA rfl ⟨Sl.nil, ?_, ?_, Fr.nil _, (X.trans e).but_ b6 (some_le (by omega))⟩
    · unfold F_StackSets_0 F_StackSets_1; rw [if_neg hno, if_neg hno]; rfl
    · unfold F_StackSets_0; rw [if_neg hno]; exact Pre.nil _ _
  refine p1.ldA rfl ?_
  refine (l01Is_c (c := c) (rs.ext X)).to ?_
  rintro b h4 ⟨hb, x4⟩
  refine bif_not (fun hq => bad x4 fun h => by rw [hb.2 h.1] at hq; cases hq) (fun hq => ?_)
  refine (p2.ext x4).ldA rfl ?_
  refine (l01Is_c (c := d) (rt.ext (X.trans x4))).to ?_
  rintro b2 h5 ⟨hb2, x5⟩
  have x45 := x4.trans x5
  refine bif_not (fun hq2 => bad x45 fun h => by rw [hb2.2 h.2] at hq2; cases hq2) (fun hq2 => ?_)
  have hyes : setOK c S ∧ setOK d T := ⟨hb.1 hq, hb2.1 hq2⟩
  refine (p1.ext x45).ldA rfl ?_
  refine (p2.ext x45).ldA rfl ?_
  refine (l04Made_c (c := c) (d := d) (rs.ext (X.trans x45)) (rt.ext (X.trans x45)) hyes.1 hyes.2).to ?_
  rintro _ h6 ⟨w, rfl, pw, fw, x6⟩
  refine ⟨_, rfl, _, rfl, _, rfl, _, rfl, ?_⟩
  have hx45 := x45.len
  have hXl := (X.trans x45).len
  refine newO_obj fun h7 o7 x7 n7 => ?_
  refine o7.stA fun h8 o8 b8 n8 => ?_
  have x68 : Ext h6 h8 := x7.but_ b8 (some_le (Nat.le_refl _))
  refine o8.ldA rfl ?_
  refine (o3.ext (x45.trans (x6.trans x68))).stA fun h9 o9 b9 n9 => ?_
  refine o9.ldA rfl ⟨w, ?_, ?_, fw.le hXl, ((X.trans x45).trans (x6.trans x68)).but_ b9 (some_le (by omega))⟩
  · unfold F_StackSets_0 F_StackSets_1; rw [if_pos hyes, if_pos hyes]
  · unfold F_StackSets_0; rw [if_pos hyes]
    exact (pw.ext x68).but b9 (fun i ei e => by have := fw _ ei; have := Option.some.inj e; omega)
end
end Go.Proofs.Ytlbglfgienklfaa.Cl
