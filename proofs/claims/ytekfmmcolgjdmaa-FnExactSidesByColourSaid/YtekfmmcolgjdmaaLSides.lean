/- The law FnExactSidesByColour holds of the program's own text (clean machine). No claim is stated here. -/
import Derived.Test.YtekfmmcolgjdmaaLc
import Derived.Test.YtekfmmcolgjdmaaGC
import Derived.Test.YtekfmmcolgjdmaaLClassesOf
set_option linter.unusedVariables false
set_option linter.unusedSimpArgs false
namespace Go.Proofs.Ytekfmmcolgjdmaa.Cl
open Go
def inc (l : List Int) (x : Int) : List Int := l.set x.toNat (l.getD x.toNat 0 + 1)
def colours (ts : List Tile) : List Int := (ts.map tl).flatten
def sidesL (ts : List Tile) : List Int := (colours ts).foldl inc (List.replicate 6 0)
def sidesOf (ts : List Tile) : List Int × Int := if ts.length ≤ 70 ∧ ts.all (tileok 6) = true then (sidesL ts, 0) else ([], 2)
theorem inc_len (l : List Int) (x : Int) : (inc l x).length = l.length := by simp [inc]
theorem foldl_inc_len : ∀ (xs l : List Int), (xs.foldl inc l).length = l.length
  | [], l => rfl
  | x :: xs, l => by rw [List.foldl_cons, foldl_inc_len, inc_len]
theorem tileok_at {t : Tile} (h : tileok 6 t = true) {j : Nat} {x : Int} (e : (tl t)[j]? = some x) : 0 ≤ x ∧ x ≤ 5 := by
  unfold tileok at h
  simp at h
  have hm := List.mem_of_getElem? e
  simp only [tl, List.mem_cons, List.not_mem_nil, or_false] at hm
  rcases hm with rfl | rfl | rfl | rfl <;> omega
theorem inc_at {l : List Int} {x v : Int} (e : l[x.toNat]? = some v) : inc l x = l.set x.toNat (v + 1) := by
  unfold inc
  rw [List.getD_eq_getElem?_getD, e]; rfl
theorem colours_cons (t : Tile) (ts : List Tile) : colours (t :: ts) = tl t ++ colours ts := by simp [colours]
/-- one side is counted -/
theorem count_step {h : H} {s : Sl} {l : List Int} {m : Int} (o : Ow h s 1 (ic l)) (hl : l.length = 6) (hb : ∀ (j : Nat) v, l[j]? = some v → 0 ≤ v ∧ v ≤ m) (hm : m < 1000000) {x : Int} (x0 : 0 ≤ x) (x5 : x ≤ 5) {K : H → Prop}
    (hk : ∀ h', Ow h' s 1 (ic (inc l x)) → (inc l x).length = 6 → (∀ (j : Nat) v, (inc l x)[j]? = some v → 0 ≤ v ∧ v ≤ m + 1) → But s.o h h' → h'.length = h.length → K h') :
    ixS s 1 x fun p1 => ldI .i64 p1 h fun n2 => ixS s 1 x fun p3 => st1 p3 (.int .i64 (w64 (n2 + 1))) h K := by
  have hsl : s.len = 6 := by have := o.len; rw [ic_len] at this; omega
  refine o.rd.ldI x0 (by omega) fun v hv => ?_
  obtain ⟨v0, v1⟩ := hb _ v hv
  rw [w64_of (by omega) (by omega)]
  refine o.stI x0 (by omega) _ fun h' o' b n => ?_
  rw [← inc_at hv] at o'
  refine hk h' o' (by rw [inc_len]; exact hl) (fun j v' e => ?_) b n
  rw [inc_at hv, List.getElem?_set] at e
  split at e
  · split at e
    · cases e; omega
    · cases e
  · have := hb j v' e; omega
theorem rep_ic (n : Nat) : (List.replicate n [AVal.int .i64 0]).flatten = ic (List.replicate n 0) := by
  induction n with
  | zero => rfl
  | succ n ih => rw [List.replicate_succ, List.flatten_cons, ih]; rfl
theorem rep_b (j : Nat) (v : Int) (e : (List.replicate 6 (0 : Int))[j]? = some v) : 0 ≤ v ∧ v ≤ 0 := by
  rw [List.getElem?_replicate] at e
  split at e
  · cases e; omega
  · cases e
theorem impl_Sides_c {h0 : H} {s : Sl} {ts : List Tile} (r : Rd h0 s 4 (tcs ts)) (hl : ts.length ≤ 1048576) : callV SP i_impl_SidesByColour [.sl s] h0 fun v h' => ∃ s', v = .tuple [.sl s', i64 (sidesOf ts).2] ∧ Ow h' s' 1 (ic (sidesOf ts).1) ∧ Fr h0.length s' ∧ Ext h0 h' := by
  have hlen : s.len = ts.length := r.tlen
  apply impl_SidesByColour_call
  unfold impl_SidesByColour_main
  refine bif_dec (fun hi => ?_) (fun hi => ?_)
  · rw [sidesOf, if_neg (by omega)]
    exact ⟨_, rfl, Ow.nil _ _, Fr.nil _, Ext.refl _⟩
  refine (areTiles_c r (by omega)).to ?_
  rintro _ h1 ⟨rfl, x1⟩
  refine bif_not (fun hq => ?_) (fun hq => ?_)
  · rw [sidesOf, if_neg (by rw [hq]; simp)]
    exact ⟨_, rfl, Ow.nil _ _, Fr.nil _, x1⟩
  rw [sidesOf, if_pos ⟨by omega, hq⟩]
  rw [List.all_eq_true] at hq
  refine mkS_ow (by omega) (by unfold lim; omega) fun s2 h2 o2 l2 so he => ?_
  rw [rep_ic] at o2
  have x2 : Ext h0 h2 := by rw [he]; exact x1.trans (Ext.app _ _)
  have hso := x1.len
  refine impl_SidesByColour_rule0 _ _ s2 s _ (fun i h' => 0 ≤ i ∧ i ≤ ts.length ∧ Ext h0 h' ∧ ∃ l : List Int, l.length = 6 ∧ Ow h' s2 1 (ic l) ∧ (∀ (j : Nat) v, l[j]? = some v → 0 ≤ v ∧ v ≤ 4 * i) ∧ (colours (ts.drop i.toNat)).foldl inc l = sidesL ts) (fun i _ => (ts.length - i).toNat) ?_ _ ⟨by omega, by omega, x2, _, rfl, o2, fun j v e => by have := rep_b j v e; omega, rfl⟩
  rintro X i h' ⟨i0, i1, x, l, ll, ol, bl, fl⟩ hX
  unfold impl_SidesByColour_b0 impl_SidesByColour_C0
  refine bif_dec (fun hi => ?_) (fun hi => ?_)
  · refine (r.ext x).ldT i0 (by omega) fun t ht => ?_
    have htok := hq t (List.mem_of_getElem? ht)
    simp only [newO]
    refine st_own (k := 4) (cs := [.int .i64 0, .int .i64 0, .int .i64 0, .int .i64 0]) (by simp) rfl rfl fun b3 g3 => ld_own g3 rfl ?_
    have x3 := (Ext.app h' [AObj.own [.int .i64 0, .int .i64 0, .int .i64 0, .int .i64 0]]).but_ b3 (some_le (Nat.le_refl _))
    rw [drop_cons ht, colours_cons] at fl
    refine impl_SidesByColour_rule2 _ _ X s2 s _ i (tc t) (fun j h' => 0 ≤ j ∧ j ≤ 4 ∧ Ext h0 h' ∧ ∃ l : List Int, l.length = 6 ∧ Ow h' s2 1 (ic l) ∧ (∀ (k : Nat) v, l[k]? = some v → 0 ≤ v ∧ v ≤ 4 * i + j) ∧ ((tl t).drop j.toNat ++ colours (ts.drop (i.toNat + 1))).foldl inc l = sidesL ts) (fun j _ => (4 - j).toNat) ?_ _ ⟨by omega, by omega, x.trans x3, l, ll, ol.ext x3, fun k v e => by have := bl k v e; omega, fl⟩
    rintro Y j h5 ⟨j0, j1, x5, l5, ll5, ol5, bl5, fl5⟩ hY
    unfold impl_SidesByColour_b2 impl_SidesByColour_C2 impl_SidesByColour_C1
    refine bif_dec (fun hj => ?_) (fun hj => ?_)
    · have hx : (tl t)[j.toNat]? = some _ := List.getElem?_eq_getElem (by simp [tl]; omega)
      obtain ⟨c0, c5⟩ := tileok_at htok hx
      refine ⟨rfl, _, j0, ic_at hx, ?_⟩
      refine count_step ol5 ll5 bl5 (by omega) c0 c5 fun h6 o6 l6 b6 bb n6 => ?_
      rw [w64_of (by omega) (by omega)]
      refine hY _ _ ⟨by omega, by omega, x5.but_ bb (by rw [so]; exact some_le hso), _, l6, o6, fun k v e => by have := b6 k v e; omega, ?_⟩ (by omega)
      rw [drop_cons hx, List.cons_append, List.foldl_cons] at fl5
      rw [show (j + 1).toNat = j.toNat + 1 by omega]
      exact fl5
    · rw [w64_of (by omega) (by omega)]
      refine hX _ _ ⟨by omega, by omega, x5, l5, ll5, ol5, fun k v e => by have := bl5 k v e; omega, ?_⟩ (by omega)
      rw [List.drop_eq_nil_of_le (by simp [tl]; omega), List.nil_append] at fl5
      rw [show (i + 1).toNat = i.toNat + 1 by omega]
      exact fl5
  · rw [List.drop_eq_nil_of_le (by omega)] at fl
    refine ⟨_, rfl, ?_, fun o e => by rw [so] at e; cases e; exact hso, x⟩
    rw [← fl]; exact ol
theorem spec_Sides_c {h0 : H} {s : Sl} {ts : List Tile} (r : Rd h0 s 4 (tcs ts)) (hl : ts.length ≤ 1048576) : callV SP i_spec_SidesByColour [.sl s] h0 fun v h' => ∃ s', v = .tuple [.sl s', i64 (sidesOf ts).2] ∧ Ow h' s' 1 (ic (sidesOf ts).1) ∧ Fr h0.length s' ∧ Ext h0 h' := by
  have hlen : s.len = ts.length := r.tlen
  apply spec_SidesByColour_call
  unfold spec_SidesByColour_main
  refine bif_dec (fun hi => ?_) (fun hi => ?_)
  · rw [sidesOf, if_neg (by omega)]
    exact ⟨_, rfl, Ow.nil _ _, Fr.nil _, Ext.refl _⟩
  refine (l07Tiles_c r (by omega)).to ?_
  rintro _ h1 ⟨rfl, x1⟩
  unfold tilesCode
  refine bif_ne (fun hq => ?_) (fun hq => ?_)
  · have hf : ts.all (tileok 6) = false := by
      cases hc : ts.all (tileok 6) with
      | false => rfl
      | true => rw [hc] at hq; simp at hq
    rw [sidesOf, if_neg (by rw [hf]; simp)]
    exact ⟨_, rfl, Ow.nil _ _, Fr.nil _, x1⟩
  have hq : ts.all (tileok 6) = true := by
    cases hc : ts.all (tileok 6) with
    | false => rw [hc] at hq; simp at hq
    | true => rfl
  rw [sidesOf, if_pos ⟨by omega, hq⟩]
  rw [List.all_eq_true] at hq
  refine mkS_ow (by omega) (by unfold lim; omega) fun s2 h2 o2 l2 so he => ?_
  rw [rep_ic] at o2
  have x2 : Ext h0 h2 := by rw [he]; exact x1.trans (Ext.app _ _)
  have hso := x1.len
  refine spec_SidesByColour_rule0 _ _ s s2 (fun i h' => 0 ≤ i ∧ i ≤ ts.length ∧ Ext h0 h' ∧ ∃ l : List Int, l.length = 6 ∧ Ow h' s2 1 (ic l) ∧ (∀ (j : Nat) v, l[j]? = some v → 0 ≤ v ∧ v ≤ 4 * i) ∧ (colours (ts.drop i.toNat)).foldl inc l = sidesL ts) (fun i _ => (ts.length - i).toNat) ?_ _ ⟨by omega, by omega, x2, _, rfl, o2, fun j v e => by have := rep_b j v e; omega, rfl⟩
  rintro X i h' ⟨i0, i1, x, l, ll, ol, bl, fl⟩ hX
  unfold spec_SidesByColour_b0 spec_SidesByColour_C0
  refine bif_dec (fun hi => ?_) (fun hi => ?_)
  · have ht : ts[i.toNat]? = some _ := List.getElem?_eq_getElem (by omega)
    have htok := hq _ (List.mem_of_getElem? ht)
    rw [drop_cons ht, colours_cons] at fl
    generalize ts[i.toNat]'(by omega) = t at ht htok fl
    refine spec_SidesByColour_rule2 _ _ X s s2 i (fun j h' => 0 ≤ j ∧ j ≤ 4 ∧ Ext h0 h' ∧ ∃ l : List Int, l.length = 6 ∧ Ow h' s2 1 (ic l) ∧ (∀ (k : Nat) v, l[k]? = some v → 0 ≤ v ∧ v ≤ 4 * i + j) ∧ ((tl t).drop j.toNat ++ colours (ts.drop (i.toNat + 1))).foldl inc l = sidesL ts) (fun j _ => (4 - j).toNat) ?_ _ ⟨by omega, by omega, x, l, ll, ol, fun k v e => by have := bl k v e; omega, fl⟩
    rintro Y j h5 ⟨j0, j1, x5, l5, ll5, ol5, bl5, fl5⟩ hY
    unfold spec_SidesByColour_b2 spec_SidesByColour_C2 spec_SidesByColour_C1
    refine bif_dec (fun hj => ?_) (fun hj => ?_)
    · obtain ⟨y, hx⟩ : ∃ y, (tl t)[j.toNat]? = some y := ⟨_, List.getElem?_eq_getElem (by simp [tl]; omega)⟩
      obtain ⟨c0, c5⟩ := tileok_at htok hx
      refine (r.ext x5).ix i0 (by omega) fun p po pr => ⟨⟨j0, hj⟩, po, y, ?_, ?_⟩
      · rw [tcs_at ts _ _ ht] at pr
        have := cell_of_range pr (i := j.toNat) (by omega)
        rw [Pt.add, Nat.mul_one, this]
        exact ic_at hx
      refine count_step ol5 ll5 bl5 (by omega) c0 c5 fun h6 o6 l6 b6 bb n6 => ?_
      rw [w64_of (by omega) (by omega)]
      refine hY _ _ ⟨by omega, by omega, x5.but_ bb (by rw [so]; exact some_le hso), _, l6, o6, fun k v e => by have := b6 k v e; omega, ?_⟩ (by omega)
      rw [drop_cons hx, List.cons_append, List.foldl_cons] at fl5
      rw [show (j + 1).toNat = j.toNat + 1 by omega]
      exact fl5
    · rw [w64_of (by omega) (by omega)]
      refine hX _ _ ⟨by omega, by omega, x5, l5, ll5, ol5, fun k v e => by have := bl5 k v e; omega, ?_⟩ (by omega)
      rw [List.drop_eq_nil_of_le (by simp [tl]; omega), List.nil_append] at fl5
      rw [show (i + 1).toNat = i.toNat + 1 by omega]
      exact fl5
  · rw [List.drop_eq_nil_of_le (by omega)] at fl
    refine ⟨_, rfl, ?_, fun o e => by rw [so] at e; cases e; exact hso, x⟩
    rw [← fl]; exact ol
theorem sidesOf_len (ts : List Tile) : (sidesOf ts).1.length ≤ 6 := by
  unfold sidesOf
  split
  · unfold sidesL; rw [foldl_inc_len]; simp
  · simp
theorem sep_of {n : Nat} {s w : Sl} {g : H} {z : Nat} {cs : List AVal} (f : Fr n s) (r : Ow g w z cs) (h : g.length ≤ n) : s.o ≠ w.o ∨ s.o = none := by
  cases hs : s.o with
  | none => exact .inr rfl
  | some o =>
    refine .inl fun e => ?_
    have h1 := f o hs
    have h2 := r.lt e.symm
    omega
theorem law_Sides {x : Sl} {ts : List Tile} {h : H} (r : Rd h x 4 (tcs ts)) (hb : x.len ≤ 9223372036854775807) : callB SP i_laws_FnExactSidesByColour [.sl x] h fun b h' => b = true := by
  have hlen : x.len = ts.length := r.tlen
  have hsl := sidesOf_len ts
  apply laws_FnExactSidesByColour_call
  unfold laws_FnExactSidesByColour_main
  refine (szTileS_c x 1048576 (by omega) (by omega) (by omega) h).to ?_
  rintro _ _ ⟨rfl, rfl⟩
  refine bif_dec (fun _ => ⟨_, rfl, rfl⟩) (fun hi => ?_)
  have hn : ts.length ≤ 1048576 := by
    by_cases hc : (1048576 : Int) - x.len < 0
    · rw [if_pos hc] at hi; omega
    · omega
  refine (toTileS_c r hn).to ?_
  rintro s3 g1 ⟨o3, f3, x1⟩
  refine (spec_Sides_c o3.rd hn).to ?_
  rintro _ g2 ⟨w, rfl, ow, fw, x2⟩
  refine ⟨_, rfl, _, rfl, _, rfl, _, rfl, ?_⟩
  have X2 := x1.trans x2
  refine (toTileS_c (r.ext X2) hn).to ?_
  rintro a g3 ⟨oa, fa, x3⟩
  refine (impl_Sides_c oa.rd hn).to ?_
  rintro _ g4 ⟨s, rfl, os, fs, x4⟩
  refine ⟨_, rfl, _, rfl, _, rfl, _, rfl, ?_⟩
  have X4 := X2.trans (x3.trans x4)
  have ow4 := ow.ext (x3.trans x4)
  refine (eqInt64S_c os.rd ow4.rd (by omega)).to ?_
  rintro _ _ ⟨rfl, rfl⟩
  refine bif_not (fun hq => by simp at hq) (fun _ => bif_ne (fun hq => absurd rfl hq) (fun _ => ?_))
  refine (toTileS_c (r.ext X4) hn).to ?_
  rintro b g5 ⟨ob, fb, x5⟩
  have oa5 := oa.ext (x4.trans x5)
  refine (eqTileS_c oa5.rd ob.rd (by omega)).to ?_
  rintro _ g6 ⟨rfl, x6⟩
  refine bif_not (fun hq => by simp at hq) (fun _ => ?_)
  have oa6 := oa5.ext x6
  have la : a.len = ts.length := oa6.rd.tlen
  rw [tcs_ic] at oa6
  refine (markTileS_c oa6 (by omega)).to ?_
  rintro _ g7 ⟨rfl, o7, b7, n7⟩
  refine bif_dec (fun hq => by omega) (fun _ => ?_)
  have x56 := x5.trans x6
  have ow7 := (ow4.ext x56).but b7 (sep_of fa ow (Nat.le_refl _))
  have os7 := (os.ext x56).but b7 (by
    rcases sep_of fs oa (Nat.le_refl _) with e | e
    · exact .inl (Ne.symm e)
    · refine (Option.eq_none_or_eq_some a.o).elim .inr fun ⟨o, ho⟩ => .inl fun e2 => ?_
      rw [ho] at e2; rw [e] at e2; cases e2)
  have X7 := (X4.trans x56).but_ b7 fun i e => by have := fa i e; have := X2.len; omega
  refine (eqInt64S_c os7.rd ow7.rd (by omega)).to ?_
  rintro _ _ ⟨rfl, rfl⟩
  refine bif_not (fun hq => by simp at hq) (fun _ => bif_ne (fun hq => absurd rfl hq) (fun _ => ?_))
  have ls : s.len = (sidesOf ts).1.length := by have := os7.len; rw [ic_len] at this; omega
  refine (markInt64S_c os7 1 (by omega) (by omega) (by omega)).to ?_
  rintro _ g8 ⟨rfl, o8, b8, n8⟩
  refine (heldInt64S_c 1 (by omega) (by omega) o8.rd (by omega)).to ?_
  rintro _ _ ⟨rfl, rfl⟩
  refine bif_dec (fun hq => by omega) (fun _ => bif_ne (fun hq => absurd rfl hq) (fun _ => ?_))
  have ow8 := ow7.but b8 (sep_of fs ow x3.len)
  have X8 := X7.but_ b8 fun i e => by have := fs i e; have := X2.len; have := x3.len; omega
  refine (toTileS_c (r.ext X8) hn).to ?_
  rintro c g9 ⟨oc, fc, x9⟩
  refine (impl_Sides_c oc.rd hn).to ?_
  rintro _ g10 ⟨s', rfl, os', fs', x10⟩
  refine ⟨_, rfl, _, rfl, _, rfl, _, rfl, ?_⟩
  have x910 := x9.trans x10
  refine (eqInt64S_c os'.rd (ow8.ext x910).rd (by omega)).to ?_
  rintro _ _ ⟨rfl, rfl⟩
  refine bif_not (fun hq => by simp at hq) (fun _ => bif_ne (fun hq => absurd rfl hq) (fun _ => ?_))
  refine (heldInt64S_c 1 (by omega) (by omega) (o8.ext x910).rd (by omega)).to ?_
  rintro _ _ ⟨rfl, rfl⟩
  exact bif_dec (fun hq => by omega) (fun _ => bif_ne (fun hq => absurd rfl hq) (fun _ => ⟨_, rfl, rfl⟩))
theorem den_sl {P : Program} {h : H} {t e : TypeId} {xs : List AVal} {pd : PD} (hu : P.underlying t = some (.slice e)) (d : Den P h t xs pd) : ∃ (s : Sl) (ass : List (List AVal)) (ds : List PD), xs = [.sl s] ∧ ass.length = s.len ∧ ds.length = s.len ∧ s.len ≤ maxLen ∧ Rd h s (P.cellsOf e) ass.flatten ∧ ∀ (i : Nat) a d, ass[i]? = some a → ds[i]? = some d → Den P h e a d := by
  cases d with
  | int a b => rw [hu] at a; cases a
  | bool a => rw [hu] at a; cases a
  | arr a => rw [hu] at a; cases a
  | struct a => rw [hu] at a; cases a
  | sl a b c d e f => rw [hu] at a; cases a; exact ⟨_, _, _, rfl, b, c, d, e, f⟩
theorem all_tiles {P : Program} {h : H} {t e : TypeId} (hu : P.underlying t = some (.array 4 e)) (he : P.underlying e = some (.int .i64)) : ∀ (ass : List (List AVal)) (ds : List PD), ass.length = ds.length → (∀ (i : Nat) a d, ass[i]? = some a → ds[i]? = some d → Den P h t a d) → ∃ ts : List Tile, ass.flatten = tcs ts
  | [], _, _, _ => ⟨[], rfl⟩
  | a :: ass, [], h, _ => by simp at h
  | a :: ass, d :: ds, hl, hd => by
    obtain ⟨t, rfl⟩ := den_tile hu he (hd 0 a d rfl rfl)
    obtain ⟨ts, e⟩ := all_tiles hu he ass ds (by simpa using hl) (fun i a d x y => hd (i + 1) a d (by simpa using x) (by simpa using y))
    exact ⟨t :: ts, by rw [List.flatten_cons, e, tcs_cons]⟩
theorem arg_tiles {P : Program} {h : H} {t u e : TypeId} {xs : List AVal} {pd : PD} (ht : P.underlying t = some (.slice u)) (hu : P.underlying u = some (.array 4 e)) (he : P.underlying e = some (.int .i64)) (hc : P.cellsOf u = 4) (d : Den P h t xs pd) : ∃ (s : Sl) (ts : List Tile), xs = [.sl s] ∧ Rd h s 4 (tcs ts) ∧ s.len ≤ 9223372036854775807 := by
  obtain ⟨s, ass, ds, rfl, l1, l2, l3, r, hd⟩ := den_sl ht d
  obtain ⟨ts, e⟩ := all_tiles hu he ass ds (by omega) hd
  rw [hc, e] at r
  exact ⟨s, ts, rfl, r, by unfold maxLen at l3; omega⟩
set_option maxRecDepth 100000 in
theorem law_Sides_in (h : H) (xs : List AVal) (hl : xs.length = Try.f5.params.toList.length) (ha : ∀ (i : Nat) t a, Try.f5.params.toList[i]? = some t → xs[i]? = some a → ArgIs Try.prog h t a) : callB (Sat Try.prog) 5 xs h fun b _ => b = true := by
  rw [show Try.f5.params.toList.length = 1 by kernel_rfl] at hl
  obtain ⟨a, rfl⟩ := List.length_eq_one_iff.1 hl
  obtain ⟨c, pd, d, rfl⟩ := ha 0 34 a (by kernel_rfl) rfl
  obtain ⟨s, ts, rfl, r, hb⟩ := arg_tiles (u := 25) (e := 2) (by kernel_rfl) (by kernel_rfl) (by kernel_rfl) (by kernel_rfl) d
  refine (show callB _ _ [argV Try.prog 34 [.sl s]] _ _ from ?_)
  rw [show argV Try.prog 34 [.sl s] = .sl s by kernel_rfl]
  exact law_Sides r hb
end Go.Proofs.Ytekfmmcolgjdmaa.Cl
