/- Contracts of functions, joined. No claim is stated here. -/
import Derived.Test.YtlbglfgienklfaaFb0
import Derived.Test.YtlbglfgienklfaaFa2
/- The first place of a tile; rows of a set. No claim is stated here. -/
set_option linter.unusedVariables false
set_option linter.unusedSimpArgs false
namespace Go.Proofs.Ytlbglfgienklfaa.Cl
open Go
/-- The first place at which a tile stands in a list, else -1. -/
def idxT (L : List Tile) (t : Tile) : Int := match L.findIdx? (fun x => decide (t = x)) with
  | some k => (k : Int)
  | none => -1
variable {h0 : H} {s : Sl} {L : List Tile}
theorem index_c (r : Rd h0 s 4 (tcs L)) (hl : L.length ≤ 1000000) (t : Tile) : callI SP .i64 i_slices_Index_s_impl_Tile_impl_Tile_ [.sl s, .agg (tc t)] h0 fun n h' => n = idxT L t ∧ Ext h0 h' := by
  have hsl := r.tlen
  apply slices_Index_s_impl_Tile_impl_Tile__call
  unfold slices_Index_s_impl_Tile_impl_Tile__main
  refine newK_obj fun h1 o1 x1 n1 => ?_
  refine slices_Index_s_impl_Tile_impl_Tile__rule0 _ _ _ _ _ (fun i h => ∃ k : Nat, i = k ∧ k ≤ L.length ∧ (∀ j : Nat, j < k → ∀ x, L[j]? = some x → t ≠ x) ∧ h = h1) (fun i _ => ((L.length : Int) - i).toNat) ?_ _ ⟨0, rfl, by omega, fun j hj => by omega, rfl⟩
  rintro X _ _ ⟨k, rfl, hk, hne, rfl⟩ hX
  unfold slices_Index_s_impl_Tile_impl_Tile__b0 slices_Index_s_impl_Tile_impl_Tile__C0
  refine bif_dec (fun hi => ?_) (fun hi => ?_)
  · refine o1.ldA rfl ?_
    have hkl : k < L.length := by omega
    refine (r.ext x1).ldT (by omega) (by omega) fun x hx => eqA_tc ?_
    rw [Int.toNat_natCast] at hx
    refine bif_dec (fun he => ?_) (fun he => ?_)
    · refine ⟨_, rfl, ?_, x1⟩
      unfold idxT
      rw [show L.findIdx? (fun x => decide (t = x)) = some k from by
        rw [List.findIdx?_eq_some_iff_getElem]
        obtain ⟨hk', e⟩ := List.getElem?_eq_some_iff.1 hx
        exact ⟨hk', by simp [e, he], fun j hj => by simp; exact hne j hj _ (List.getElem?_eq_some_iff.2 ⟨by omega, rfl⟩)⟩]
    · rw [w64_of (by omega) (by omega)]
      refine hX _ _ ⟨k + 1, by push_cast; rfl, by omega, fun j hj x' hx' => ?_, rfl⟩ (by omega)
      by_cases hjk : j = k
      · subst hjk; rw [hx] at hx'; cases hx'; exact he
      · exact hne j (by omega) x' hx'
  · refine ⟨_, rfl, ?_, x1⟩
    unfold idxT
    rw [show L.findIdx? (fun x => decide (t = x)) = none from by
      rw [List.findIdx?_eq_none_iff]
      intro x hx
      obtain ⟨j, hj, e⟩ := List.mem_iff_getElem.1 hx
      simp
      exact hne j (by omega) x (List.getElem?_eq_some_iff.2 ⟨hj, e⟩)]
def rowQ (L : List Tile) (l : List Int) (k : Nat) : Prop := (0 ≤ l.getD k 0 ∧ l.getD k 0 ≤ (L.length : Int) - 1) ∧ (0 < k → sd (tat L (l.getD (k - 1) 0)) 2 = sd (tat L (l.getD k 0)) 0)
def rowOK (L : List Tile) (l : List Int) : Prop := (1 ≤ l.length ∧ l.length ≤ 20) ∧ ∀ k : Nat, k < l.length → rowQ L l k
theorem isRow_c {c : Int} {v : Sl} {l : List Int} (r : Rd h0 s 4 (tcs L)) (hl : L.length ≤ 1000000) (q : Rd h0 v 1 (ic l)) (hv : l.length ≤ 1048576) : callB SP i_impl_Set_isRow [.agg (SetC c s), .sl v] h0 fun b h' => (b = true ↔ rowOK L l) ∧ Ext h0 h' := by
  have hsl := r.tlen
  have hvl := q.ilen
  apply impl_Set_isRow_call
  unfold impl_Set_isRow_main
  refine newK_obj fun h1 o1 x1 n1 => ?_
  refine impl_Set_isRow_rule0 _ _ _ _ _ _ (fun i h => ∃ k : Nat, i = k ∧ k ≤ l.length ∧ (∀ j : Nat, j < k → rowQ L l j) ∧ Ext h1 h) (fun i _ => ((l.length : Int) - i).toNat) ?_ _ ⟨0, rfl, by omega, fun j hj => by omega, Ext.refl _⟩
  rintro X _ h2 ⟨k, rfl, hk, hq, x2⟩ hX
  unfold impl_Set_isRow_b0 impl_Set_isRow_C0
  have x := x1.trans x2
  refine bif_dec (fun hi => ?_) (fun hi => ?_)
  · refine (q.ext x).ldG (by omega) (by omega) ?_
    rw [Int.toNat_natCast]
    refine (o1.ext x2).ldA rfl ?_
    refine (isNumber_c _ (by omega)).to ?_
    rintro _ h3 ⟨rfl, x3⟩
    refine bif_not (fun hb => ⟨_, rfl, ?_, x.trans x3⟩) (fun hb => ?_)
    · have hb := of_decide_eq_false hb
      exact ⟨fun h => by simp at h, fun h => absurd (h.2 k (by omega)).1 (by omega)⟩
    · have hb := of_decide_eq_true hb
      have x' := x.trans x3
      refine bif_dec (fun hp => ?_) (fun hp => ?_)
      · have o3 := (o1.ext x2).ext x3
        refine isPt_in (o3.ldS rfl rfl ?_)
        rw [w64_of (by omega) (by omega)]
        have hk1 := (hq (k - 1) (by omega)).1
        have e1 : ((k : Int) - 1).toNat = k - 1 := by omega
        refine (q.ext x').ldG (by omega) (by omega) ?_
        rw [e1]
        refine (r.ext x').sideG (by omega) (by omega) (by omega) (by omega) ?_
        refine isPt_in (o3.ldS rfl rfl ?_)
        refine (r.ext x').sideG (by omega) (by omega) (by omega) (by omega) ?_
        refine bif_ne (fun hne => ⟨_, rfl, ?_, x'⟩) (fun heq => ?_)
        · exact ⟨fun h => by simp at h, fun h => absurd ((h.2 k (by omega)).2 (by omega)) hne⟩
        · rw [w64_of (by omega) (by omega)]
          refine hX _ _ ⟨k + 1, by push_cast; rfl, by omega, fun j hj => ?_, x2.trans x3⟩ (by omega)
          by_cases hjk : j = k
          · subst hjk; exact ⟨⟨hb.1, by omega⟩, fun _ => heq⟩
          · exact hq j (by omega)
      · rw [w64_of (by omega) (by omega)]
        refine hX _ _ ⟨k + 1, by push_cast; rfl, by omega, fun j hj => ?_, x2.trans x3⟩ (by omega)
        by_cases hjk : j = k
        · subst hjk; exact ⟨⟨hb.1, by omega⟩, fun h => by omega⟩
        · exact hq j (by omega)
  · have hkl : k = l.length := by omega
    refine within_k ⟨_, rfl, ?_, x⟩
    rw [decide_eq_true_eq]
    exact ⟨fun h => ⟨by omega, fun j hj => hq j (by omega)⟩, fun h => by have := h.1; omega⟩
theorem l02Row_c {c : Int} {v : Sl} {l : List Int} (r : Rd h0 s 4 (tcs L)) (hl : L.length ≤ 1000000) (q : Rd h0 v 1 (ic l)) (hv : l.length ≤ 1048576) : callB SP i_spec_l02Row [.agg (SetC c s), .sl v] h0 fun b h' => (b = true ↔ rowOK L l) ∧ Ext h0 h' := by
  have hsl := r.tlen
  have hvl := q.ilen
  apply spec_l02Row_call
  unfold spec_l02Row_main
  refine newK_obj fun h1 o1 x1 n1 => ?_
  refine bif_dec (fun hi => ⟨_, rfl, ⟨fun h => by simp at h, fun h => by have := h.1; omega⟩, x1⟩) (fun hi1 => ?_)
  refine bif_dec (fun hi => ⟨_, rfl, ⟨fun h => by simp at h, fun h => by have := h.1; omega⟩, x1⟩) (fun hi2 => ?_)
  refine spec_l02Row_rule0 _ _ _ _ (fun i h => ∃ k : Nat, i = k ∧ k ≤ l.length ∧ (∀ j : Nat, j < k → rowQ L l j) ∧ Ext h1 h) (fun i _ => ((l.length : Int) - i).toNat) ?_ _ ⟨0, rfl, by omega, fun j hj => by omega, Ext.refl _⟩
  rintro X _ h2 ⟨k, rfl, hk, hq, x2⟩ hX
  unfold spec_l02Row_b0 spec_l02Row_C0
  have x := x1.trans x2
  refine bif_dec (fun hi => ?_) (fun hi => ?_)
  · refine (q.ext x).ldG (by omega) (by omega) ?_
    rw [Int.toNat_natCast]
    have o2 := o1.ext x2
    refine isPt_in (o2.ldS rfl rfl ?_)
    rw [w64_of (by omega) (by omega)]
    refine l01In_k ?_
    refine bif_not (fun hb => ⟨_, rfl, ?_, x⟩) (fun hb => ?_)
    · have hb := of_decide_eq_false hb
      exact ⟨fun h => by simp at h, fun h => absurd (h.2 k (by omega)).1 (by omega)⟩
    · have hb := of_decide_eq_true hb
      refine bif_dec (fun hp => ?_) (fun hp => ?_)
      · refine isPt_in (o2.ldS rfl rfl ?_)
        rw [w64_of (n := (k : Int) - 1) (by omega) (by omega)]
        have hk1 := (hq (k - 1) (by omega)).1
        have e1 : ((k : Int) - 1).toNat = k - 1 := by omega
        refine (q.ext x).ldG (by omega) (by omega) ?_
        rw [e1]
        refine (r.ext x).sideG (by omega) (by omega) (by omega) (by omega) ?_
        refine isPt_in (o2.ldS rfl rfl ?_)
        refine (q.ext x).ldG (by omega) (by omega) ?_
        rw [Int.toNat_natCast]
        refine (r.ext x).sideG (by omega) (by omega) (by omega) (by omega) ?_
        refine bif_ne (fun hne => ⟨_, rfl, ?_, x⟩) (fun heq => ?_)
        · exact ⟨fun h => by simp at h, fun h => absurd ((h.2 k (by omega)).2 (by omega)) hne⟩
        · rw [w64_of (by omega) (by omega)]
          refine hX _ _ ⟨k + 1, by push_cast; rfl, by omega, fun j hj => ?_, x2⟩ (by omega)
          by_cases hjk : j = k
          · subst hjk; exact ⟨⟨hb.1, by omega⟩, fun _ => heq⟩
          · exact hq j (by omega)
      · rw [w64_of (by omega) (by omega)]
        refine hX _ _ ⟨k + 1, by push_cast; rfl, by omega, fun j hj => ?_, x2⟩ (by omega)
        by_cases hjk : j = k
        · subst hjk; exact ⟨⟨hb.1, by omega⟩, fun h => by omega⟩
        · exact hq j (by omega)
  · have hkl : k = l.length := by omega
    exact ⟨_, rfl, ⟨fun _ => ⟨by omega, fun j hj => hq j (by omega)⟩, fun _ => rfl⟩, x⟩
end Go.Proofs.Ytlbglfgienklfaa.Cl

/- The first stacked pair with a tile: plain; the reference's and the program's SplitRow. No claim is stated here. -/
set_option linter.unusedVariables false
set_option linter.unusedSimpArgs false
namespace Go.Proofs.Ytlbglfgienklfaa.Cl
open Go
section
variable {S T : List Tile}
theorem stkR_split {z w : Nat} (hq : sd (tat S (z : Int)) 3 = sd (tat T (w : Int)) 1) : ∀ n, w < n → ∃ r, stkR S T z n = stkR S T z w ++ ((z : Int), (w : Int)) :: r
  | 0, h => by omega
  | n + 1, h => by
    by_cases e : n = w
    · subst e
      exact ⟨[], by rw [stkR_succ, if_pos hq]⟩
    · obtain ⟨r, hr⟩ := stkR_split hq n (by omega)
      exact ⟨_, by rw [stkR_succ, hr, List.append_assoc, List.cons_append]⟩
theorem stkI_split {z w : Nat} (hq : sd (tat S (z : Int)) 3 = sd (tat T (w : Int)) 1) (hw : w < T.length) : ∀ n, z < n → ∃ r, stkI S T n = (stkI S T z ++ stkR S T z w) ++ ((z : Int), (w : Int)) :: r
  | 0, h => by omega
  | n + 1, h => by
    by_cases e : n = z
    · subst e
      obtain ⟨r, hr⟩ := stkR_split (S := S) hq T.length hw
      exact ⟨r, by rw [stkI_succ, hr, List.append_assoc]⟩
    · obtain ⟨r, hr⟩ := stkI_split hq hw n (by omega)
      exact ⟨_, by rw [stkI_succ, hr, List.append_assoc, List.cons_append]⟩
/-- The first stacked pair with a tile. -/
noncomputable def spP (S T : List Tile) (t : Tile) : Int × Int := (stkI S T S.length).getD (idxT (stkT S T) t).toNat (0, 0)
theorem spP_of {z w : Nat} (hz : z < S.length) (hw : w < T.length) (hq : sd (tat S (z : Int)) 3 = sd (tat T (w : Int)) 1) {t : Tile} (ht : t = stile S T ((z : Int), (w : Int)))
    (hne : ∀ e ∈ stkI S T z ++ stkR S T z w, t ≠ stile S T e) : spP S T t = ((z : Int), (w : Int)) := by
  obtain ⟨r, hr⟩ := stkI_split (S := S) hq hw S.length hz
  have hi : idxT (stkT S T) t = ((stkI S T z ++ stkR S T z w).length : Nat) := by
    unfold idxT stkT
    rw [hr, List.map_append, List.map_cons]
    have : List.findIdx? (fun x => decide (t = x)) (List.map (stile S T) (stkI S T z ++ stkR S T z w) ++ stile S T ((z : Int), (w : Int)) :: List.map (stile S T) r) = some (stkI S T z ++ stkR S T z w).length := by
      rw [List.findIdx?_eq_some_iff_getElem]
      refine ⟨by simp, ?_, fun j hj => ?_⟩
      · rw [List.getElem_append_right (by simp)]
        simp [ht]
      · rw [List.getElem_append_left (by rw [List.length_map]; exact hj), List.getElem_map]
        have := hne _ (List.getElem_mem hj)
        simpa using this
    rw [this]
  unfold spP
  rw [hi, Int.toNat_natCast, hr, List.getD_eq_getElem?_getD, List.getElem?_append_right (by omega)]
  simp
theorem idxT_mem {L : List Tile} {t : Tile} (h : t ∈ L) : 0 ≤ idxT L t ∧ idxT L t < L.length := by
  unfold idxT
  cases hq : L.findIdx? (fun x => decide (t = x)) with
  | none =>
    rw [List.findIdx?_eq_none_iff] at hq
    have := hq t h
    simp at this
  | some k =>
    rw [List.findIdx?_eq_some_iff_getElem] at hq
    obtain ⟨h1, _⟩ := hq
    simp only
    omega
end
section
variable {h0 : H} {s t v : Sl} {S T : List Tile} {c d : Int} {l : List Int}
open Classical in
noncomputable def codeSp (c : Int) (S : List Tile) (d : Int) (T : List Tile) (l : List Int) : Int := if setOK c S ∧ setOK d T then (if stkE c d S T ≠ 0 then stkE c d S T else if rowOK (stkF c d S T).2 l then 0 else 2) else 1
open Classical in
noncomputable def F_SplitRow_0 (c : Int) (S : List Tile) (d : Int) (T : List Tile) (l : List Int) : List Int := if codeSp c S d T l = 0 then l.map fun k => (spP S T (tat (stkF c d S T).2 k)).1 else []
open Classical in
noncomputable def F_SplitRow_1 (c : Int) (S : List Tile) (d : Int) (T : List Tile) (l : List Int) : List Int := if codeSp c S d T l = 0 then l.map fun k => (spP S T (tat (stkF c d S T).2 k)).2 else []
noncomputable def F_SplitRow_2 (c : Int) (S : List Tile) (d : Int) (T : List Tile) (l : List Int) : Int := codeSp c S d T l
theorem F_Sp0 (h : codeSp c S d T l = 0) : F_SplitRow_0 c S d T l = l.map fun k => (spP S T (tat (stkF c d S T).2 k)).1 := by unfold F_SplitRow_0; rw [if_pos h]
theorem F_Sp1 (h : codeSp c S d T l = 0) : F_SplitRow_1 c S d T l = l.map fun k => (spP S T (tat (stkF c d S T).2 k)).2 := by unfold F_SplitRow_1; rw [if_pos h]
theorem F_Sp0n (h : codeSp c S d T l ≠ 0) : F_SplitRow_0 c S d T l = [] := by unfold F_SplitRow_0; rw [if_neg h]
theorem F_Sp1n (h : codeSp c S d T l ≠ 0) : F_SplitRow_1 c S d T l = [] := by unfold F_SplitRow_1; rw [if_neg h]
/-- What a call of SplitRow brings about. -/
def SpRes (c : Int) (S : List Tile) (d : Int) (T : List Tile) (l : List Int) (h0 : H) (r : AVal) (h' : H) : Prop := ∃ a b, r = .tuple [.sl a, .sl b, i64 (codeSp c S d T l)] ∧ Ow h' a 1 (ic (F_SplitRow_0 c S d T l)) ∧ Fr h0.length a ∧ Ow h' b 1 (ic (F_SplitRow_1 c S d T l)) ∧ Fr h0.length b ∧ (∀ o, a.o = some o → b.o ≠ some o) ∧ Ext h0 h'
theorem SpRes.no {k : Int} {h' : H} (hk : k = codeSp c S d T l) (hne : k ≠ 0) (x : Ext h0 h') : SpRes c S d T l h0 (.tuple [.sl Sl.nil, .sl Sl.nil, .int .i64 k]) h' := by
  subst hk
  exact ⟨Sl.nil, Sl.nil, rfl, by rw [F_Sp0n hne]; exact Ow.nil _ _, Fr.nil _, by rw [F_Sp1n hne]; exact Ow.nil _ _, Fr.nil _, (fun o e => by cases e), x⟩
theorem codeSp_1 (h : ¬ (setOK c S ∧ setOK d T)) : 1 = codeSp c S d T l := by unfold codeSp; rw [if_neg h]
theorem codeSp_e (h : setOK c S ∧ setOK d T) (h2 : stkE c d S T ≠ 0) : stkE c d S T = codeSp c S d T l := by unfold codeSp; rw [if_pos h, if_pos h2]
theorem codeSp_2 (h : setOK c S ∧ setOK d T) (h2 : stkE c d S T = 0) (h3 : ¬ rowOK (stkF c d S T).2 l) : 2 = codeSp c S d T l := by unfold codeSp; rw [if_pos h, if_neg (by simpa using h2), if_neg h3]
theorem codeSp_0 (h : setOK c S ∧ setOK d T) (h2 : stkE c d S T = 0) (h3 : rowOK (stkF c d S T).2 l) : codeSp c S d T l = 0 := by unfold codeSp; rw [if_pos h, if_neg (by simpa using h2), if_pos h3]
theorem stkE_0 (h : stkE c d S T = 0) : (stkF c d S T).2 = dsT (stkT S T) ∧ (stkF c d S T).2.length ≤ 16 := by
  unfold stkE at h
  unfold stkF
  split at h
  · next hf => rw [if_pos hf]; exact ⟨rfl, hf.2⟩
  · cases h
theorem stkF_mem (h : stkE c d S T = 0) {k : Int} (hk : 0 ≤ k ∧ k ≤ ((stkF c d S T).2.length : Int) - 1) : tat (stkF c d S T).2 k ∈ stkT S T := by
  have h1 := (stkE_0 h).1
  have hm : tat (stkF c d S T).2 k ∈ (stkF c d S T).2 := List.mem_of_getElem? (at_tat (by omega))
  rw [h1] at hm ⊢
  exact mem_dsort.1 hm
theorem SplitRow_small0 (hS : S.length ≤ 1048576) (hT : T.length ≤ 1048576) (hl : l.length ≤ 1048576) : (F_SplitRow_0 c S d T l).length < 1000000 := by
  unfold F_SplitRow_0
  split
  · next h =>
    rw [List.length_map]
    have : rowOK (stkF c d S T).2 l := by
      unfold codeSp at h
      split at h
      · split at h
        · next h2 => exact absurd h h2
        · split at h
          · assumption
          · cases h
      · cases h
    have := this.1.2
    omega
  · simp
theorem SplitRow_small1 (hS : S.length ≤ 1048576) (hT : T.length ≤ 1048576) (hl : l.length ≤ 1048576) : (F_SplitRow_1 c S d T l).length < 1000000 := by
  have h := SplitRow_small0 (c := c) (d := d) hS hT hl
  have e : (F_SplitRow_1 c S d T l).length = (F_SplitRow_0 c S d T l).length := by
    unfold F_SplitRow_0 F_SplitRow_1
    split <;> simp
  omega
theorem impl_SplitRow_c (rs : Rd h0 s 4 (tcs S)) (rt : Rd h0 t 4 (tcs T)) (rv : Rd h0 v 1 (ic l)) (hS : S.length ≤ 1048576) (hT : T.length ≤ 1048576) (hl : l.length ≤ 1048576) :
    callV SP i_impl_SplitRow [.agg (SetC c s), .agg (SetC d t), .sl v] h0 (SpRes c S d T l h0) := by
  have hvl := rv.ilen
  apply impl_SplitRow_call
  unfold impl_SplitRow_main
  refine newK_obj fun h1 o1 x1 n1 => ?_
  refine newK_obj fun h2 o2 x2 n2 => ?_
  have p1 := o1.ext x2
  have X := x1.trans x2
  refine p1.ldA rfl ?_
  refine o2.ldA rfl ⟨rfl, rfl, ?_⟩
  refine newS_ow (by rfl) fun q h4 oq lq qo e4 => ?_
  have x4 : Ext h2 h4 := by rw [e4]; exact Ext.app _ _
  have X4 := X.trans x4
  refine (areSets_c (c := c) (d := d) (s := s) (t := t) oq.rd (rs.ext X4) (rt.ext X4) (by omega) (by omega)).to ?_
  rintro b h5 ⟨hb, x5⟩
  have X5 := X4.trans x5
  refine bif_not (fun hq => SpRes.no (codeSp_1 fun h => by rw [hb.2 h] at hq; cases hq) (by decide) X5) (fun hq => ?_)
  have hyes := hb.1 hq
  have hS16 := hyes.1.2.1
  have hT16 := hyes.2.2.1
  have p1 := p1.ext (x4.trans x5)
  have p2 := o2.ext (x4.trans x5)
  refine p1.ldA rfl ?_
  refine p2.ldA rfl ?_
  refine (impl_stack_c (c := c) (d := d) (rs.ext X5) (rt.ext X5) hS16 hT16).to ?_
  rintro _ h6 ⟨u, rfl, pu, fu, x6⟩
  refine ⟨_, rfl, _, rfl, _, rfl, _, rfl, ?_⟩
  have X6 := X5.trans x6
  refine newO_obj fun h7 o7 x7 n7 => ?_
  refine o7.stA fun h8 o8 b8 n8 => ?_
  have x8 : Ext h6 h8 := x7.but_ b8 (some_le (Nat.le_refl _))
  have X8 := X6.trans x8
  refine bif_ne (fun hne => SpRes.no (codeSp_e hyes hne) hne X8) (fun he => ?_)
  have pu8 := pu.ext x8
  have hLl := (stkE_0 he).2
  refine o8.ldA rfl ?_
  refine (isRow_c (c := (stkF c d S T).1) pu8.rd (by omega) (rv.ext X8) hl).to ?_
  rintro b h9 ⟨hb9, x9⟩
  refine bif_not (fun hq => SpRes.no (codeSp_2 hyes he fun h => by rw [hb9.2 h] at hq; cases hq) (by decide) (X8.trans x9)) (fun hq => ?_)
  have hrow := hb9.1 hq
  have hc0 := codeSp_0 hyes he hrow
  have X9 := X8.trans x9
  have o9 := o8.ext x9
  have pu9 := pu8.ext x9
  refine newS_ow (by rfl) fun a h10 oa la ao ea => ?_
  have x10 : Ext h9 h10 := by rw [ea]; exact Ext.app _ _
  have l10 : h10.length = h9.length + 1 := by rw [ea]; simp
  refine newS_ow (by rfl) fun b h11 ob lb bo eb => ?_
  have x11 : Ext h10 h11 := by rw [eb]; exact Ext.app _ _
  have l11 : h11.length = h10.length + 1 := by rw [eb]; simp
  have y11 : Ext h5 h11 := x6.trans (x8.trans (x9.trans (x10.trans x11)))
  have p1 := p1.ext y11
  have p2 := p2.ext y11
  have X11 := X5.trans y11
  refine isPt_in (p1.ldS rfl rfl ?_)
  refine isPt_in (p2.ldS rfl rfl ?_)
  refine (stacked_c (rs.ext X11) (rt.ext X11) (by omega) hT16).to ?_
  rintro w h12 ⟨ow, fw, x12⟩
  have X12 := X11.trans x12
  refine isPt_in ((p1.ext x12).ldS rfl rfl ?_)
  refine isPt_in ((p2.ext x12).ldS rfl rfl ?_)
  refine (stackTiles_c (rs.ext X12) (rt.ext X12) (by omega) hT16).to ?_
  rintro _ h13 ⟨z, rfl, oz, fz, x13⟩
  refine ⟨_, rfl, _, rfl, _, rfl, _, rfl, ?_⟩
  have X13 := X12.trans x13
  have y13 : Ext h11 h13 := x12.trans x13
  have rz := oz.rd
  have rw_ := ow.rd.ext x13
  have hbl : (stkT S T).length = (stkI S T S.length).length := by unfold stkT; rw [List.length_map]
  have hes := stkI_len S T S.length
  have hbnd : S.length * T.length ≤ 16 * 16 := Nat.mul_le_mul hS16 hT16
  have ru := (pu9.ext (x10.trans (x11.trans y13))).rd
  have o13 := o9.ext (x10.trans (x11.trans y13))
  have hy13 := y13.len
  have hX9 := X9.len
  refine impl_SplitRow_rule1 _ _ _ _ _ _ _ (fun a b i g => ∃ k : Nat, i = k ∧ k ≤ l.length ∧ Ow g a 1 (ic ((l.take k).map fun k => (spP S T (tat (stkF c d S T).2 k)).1)) ∧ Ow g b 1 (ic ((l.take k).map fun k => (spP S T (tat (stkF c d S T).2 k)).2)) ∧ a.o = some h9.length ∧ b.o = some h10.length ∧ Chg (fun i => i = h9.length ∨ i = h10.length) h13 g) (fun _ _ i _ => ((l.length : Int) - i).toNat) ?_ _ _ _
    ⟨0, rfl, by omega, by simpa [ic] using (oa.ext (x11.trans y13)), by simpa [ic] using ob.ext y13, ao, bo, Chg.refl _ _⟩
  rintro X1 a b _ g ⟨k, rfl, hk, oa, ob, ao, bo, ch⟩ hX
  unfold impl_SplitRow_b1
  refine bif_dec (fun hi => ?_) (fun hi => ?_)
  rotate_left
  · have e : k = l.length := by omega
    subst e
    rw [List.take_length] at oa ob
    unfold impl_SplitRow_C1
    refine ⟨a, b, by rw [hc0], by rw [F_Sp0 hc0]; exact oa, fun o e => by rw [ao] at e; cases e; omega, by rw [F_Sp1 hc0]; exact ob, fun o e => by rw [bo] at e; cases e; omega, fun o e e2 => by rw [ao] at e; rw [bo] at e2; cases e; have := Option.some.inj e2; omega, X13.chg_ ch fun i e => by omega⟩
  have hkl : k < l.length := by omega
  have x913 : Ext h9 h13 := x10.trans (x11.trans y13)
  have Xg : Ext h0 g := X13.chg_ ch fun i e => by omega
  have E9 : Ext h9 g := x913.chg_ ch fun i e => by omega
  have rug := (pu9.ext E9).rd
  have og := o9.ext E9
  have hx12 := x12.len
  have rzg := rz.chg ch fun i e => by have := fz i e; omega
  have rwg := rw_.chg ch fun i e => by have := fw i e; omega
  have hE9 := E9.len
  have hch := ch.1
  refine (rv.ext Xg).ldG (by omega) (by omega) ?_
  rw [Int.toNat_natCast]
  have hkk := (hrow.2 k hkl).1
  refine isPt_in (og.ldS rfl rfl ?_)
  refine rug.tileG (by omega) (by omega) ?_
  refine (index_c rzg (by omega) _).to ?_
  rintro n g1 ⟨hn, y1⟩
  have hm := idxT_mem (stkF_mem he hkk)
  rw [← hn] at hm
  have hnn : n.toNat < (stkI S T S.length).length := by omega
  have hspl : spP S T (tat (stkF c d S T).2 (l.getD k 0)) = (stkI S T S.length)[n.toNat] := by
    unfold spP
    rw [← hn, List.getD_eq_getElem?_getD, List.getElem?_eq_getElem hnn]; rfl
  rw [show n = ((n.toNat : Nat) : Int) by omega]
  refine (rwg.ext y1).ldP hnn ?_
  rw [← hspl]
  generalize hE : spP S T (tat (stkF c d S T).2 (l.getD k 0)) = E
  refine newO_obj fun g2 q2 y2 m2 => ?_
  refine q2.stA fun g3 q3 c3 m3 => ?_
  refine slotK_in fun g4 y4 m4 => ?_
  have z3 : Ext g g3 := y1.trans (y2.but_ c3 (some_le (Nat.le_refl _)))
  have z4 := z3.trans y4
  have q4 := q3.ext y4
  have hy1 := y1.len
  refine ix2 q4 0 (by omega) fun p13 hp13 => ?_
  refine ix2 q4 1 (by omega) fun p15 hp15 => ?_
  have oa4 := oa.ext z4
  have ob4 := ob.ext z4
  have hq3 := q3.lt
  have hE4 := cell_pc q4
  refine newSat_ow (by omega) (by rfl) fun t5 g5 ot5 lt5 to5 b5 m5 => ?_
  have q5 := q4.but b5 (fun e => by have := Option.some.inj e; omega)
  refine ⟨by rw [hp15, cell_pc q5 1 (by omega), cell_pc q4 1 (by omega)], ?_⟩
  have oa5 := oa4.but b5 (.inl fun e => by rw [ao] at e; have := Option.some.inj e; omega)
  have ob5 := ob4.but b5 (.inl fun e => by rw [bo] at e; have := Option.some.inj e; omega)
  have hal : a.len = k := by have := oa5.rd.ilen; rw [List.length_map, List.length_take] at this; omega
  have hbl' : b.len = k := by have := ob5.rd.ilen; rw [List.length_map, List.length_take] at this; omega
  refine app_ow (by omega) oa5 ot5.rd (by rw [lt5, hal]; unfold lim; omega) fun a2 g6 oa6 la6 b6 k1 _ => ?_
  have q6 := q5.but b6 (fun e => by rw [ao] at e; have := Option.some.inj e; omega)
  have ob6 := ob5.but b6 (.inl fun e => by rw [ao, bo] at e; have := Option.some.inj e; omega)
  have h6l := b6.1
  refine ⟨by rw [hp15, cell_pc q6 1 (by omega), cell_pc q4 1 (by omega)], ?_⟩
  have a2o := k1 _ ao
  refine newSat_ow (by omega) (by rfl) fun t7 g7 ot7 lt7 to7 b7 m7 => ?_
  have q7 := q6.but b7 (fun e => by have := Option.some.inj e; omega)
  refine ⟨by rw [hp13, cell_pc q6 0 (by omega), cell_pc q4 0 (by omega)], by rw [hp13, cell_pc q7 0 (by omega), cell_pc q4 0 (by omega)], ?_⟩
  have oa7 := oa6.but b7 (.inl fun e => by rw [a2o] at e; have := Option.some.inj e; omega)
  have ob7 := ob6.but b7 (.inl fun e => by rw [bo] at e; have := Option.some.inj e; omega)
  refine app_ow (by omega) ob7 ot7.rd (by rw [lt7, hbl']; unfold lim; omega) fun b2 g8 ob8 lb8 b8 k3 _ => ?_
  have b2o := k3 _ bo
  have oa8 := oa7.but b8 (.inl fun e => by rw [a2o, bo] at e; have := Option.some.inj e; omega)
  rw [w64_of (by omega) (by omega)]
  have hlk : l[k] = l.getD k 0 := by rw [List.getD_eq_getElem?_getD, List.getElem?_eq_getElem hkl]; rfl
  refine hX _ _ _ _ ⟨k + 1, by push_cast; rfl, by omega, ?_, ?_, a2o, b2o, ?_⟩ (by omega)
  · rw [List.take_succ_eq_append_getElem hkl, List.map_append, ic_app, hlk]
    simp only [List.map_cons, List.map_nil, hE]
    exact oa8
  · rw [List.take_succ_eq_append_getElem hkl, List.map_append, ic_app, hlk]
    simp only [List.map_cons, List.map_nil, hE]
    exact ob8
  · have n5 : Chg (fun i => g.length ≤ i ∨ i = h9.length ∨ i = h10.length) g g8 := (z4.chg _).trans ((b5.chg fun i e => by have := Option.some.inj e; omega).trans ((b6.chg fun i e => by rw [ao] at e; have := Option.some.inj e; omega).trans ((b7.chg fun i e => by have := Option.some.inj e; omega).trans (b8.chg fun i e => by rw [bo] at e; have := Option.some.inj e; omega))))
    exact ch.trans (n5.to fun i hi e => by omega)
end
end Go.Proofs.Ytlbglfgienklfaa.Cl

/- Lasting tiles: plain; maps of integers as sets. No claim is stated here. -/
set_option linter.unusedVariables false
set_option linter.unusedSimpArgs false
namespace Go.Proofs.Ytlbglfgienklfaa.Cl
open Go
section
variable {L U : List Tile} {t : Tile}
/-- Has a tile neighbours on both sides in a list? -/
def SQ (U : List Tile) (t : Tile) : Prop := (∃ a ∈ U, sd a 2 = sd t 0) ∧ (∃ a ∈ U, sd a 0 = sd t 2)
def LastP (L : List Tile) (t : Tile) : Prop := ∃ Q : Tile → Prop, Q t ∧ ∀ a, Q a → a ∈ L ∧ (∃ b, Q b ∧ sd b 2 = sd a 0) ∧ (∃ b, Q b ∧ sd b 0 = sd a 2)
theorem LastP.mem (h : LastP L t) : t ∈ L := by obtain ⟨Q, h1, h2⟩ := h; exact (h2 t h1).1
theorem LastP.sup (h : LastP L t) : (∃ b, LastP L b ∧ sd b 2 = sd t 0) ∧ (∃ b, LastP L b ∧ sd b 0 = sd t 2) := by
  obtain ⟨Q, h1, h2⟩ := h
  obtain ⟨_, ⟨b, b1, b2⟩, ⟨d, d1, d2⟩⟩ := h2 t h1
  exact ⟨⟨b, ⟨Q, b1, h2⟩, b2⟩, ⟨d, ⟨Q, d1, h2⟩, d2⟩⟩
open Classical in
noncomputable def sqB (U : List Tile) (t : Tile) : Bool := decide (SQ U t)
theorem sqB_iff : sqB U t = true ↔ SQ U t := by unfold sqB; simp
open Classical in
noncomputable def lastB (L : List Tile) (t : Tile) : Bool := decide (LastP L t)
theorem lastB_iff : lastB L t = true ↔ LastP L t := by unfold lastB; simp
/-- The lasting tiles of a list. -/
noncomputable def kpL (L : List Tile) : List Tile := L.filter (lastB L)
/-- A stage of the deletion. -/
def Stg (L U : List Tile) : Prop := ∃ p : Tile → Bool, U = L.filter p ∧ ∀ t, LastP L t → p t = true
theorem Stg.refl (L : List Tile) : Stg L L := ⟨fun _ => true, (List.filter_eq_self.2 fun _ _ => rfl).symm, fun _ _ => rfl⟩
theorem Stg.mem (h : Stg L U) (ht : LastP L t) : t ∈ U := by
  obtain ⟨p, rfl, hp⟩ := h
  exact List.mem_filter.2 ⟨ht.mem, hp t ht⟩
theorem Stg.sq (h : Stg L U) (ht : LastP L t) : SQ U t := by
  obtain ⟨⟨b, b1, b2⟩, ⟨d, d1, d2⟩⟩ := ht.sup
  exact ⟨⟨b, h.mem b1, b2⟩, ⟨d, h.mem d1, d2⟩⟩
theorem Stg.step (h : Stg L U) : Stg L (U.filter (sqB U)) := by
  have h2 := h
  obtain ⟨p, hU, hp⟩ := h
  refine ⟨fun t => p t && sqB U t, ?_, fun t ht => ?_⟩
  · conv => lhs; rw [show U.filter (sqB U) = (L.filter p).filter (sqB U) by rw [← hU]]
    rw [List.filter_filter]
    congr 1
    funext a
    rw [Bool.and_comm]
  · rw [Bool.and_eq_true]
    exact ⟨hp t ht, sqB_iff.2 (h2.sq ht)⟩
theorem Stg.end_ (h : Stg L U) (he : (U.filter (sqB U)).length = U.length) : U = kpL L := by
  have hall : ∀ t ∈ U, sqB U t = true := by rwa [List.length_filter_eq_length_iff] at he
  have h2 := h
  obtain ⟨p, hU, hp⟩ := h
  have hl : ∀ t ∈ U, LastP L t := fun t ht => by
    refine ⟨fun a => a ∈ U, ht, fun a ha => ⟨?_, ?_⟩⟩
    · rw [hU] at ha; exact (List.mem_filter.1 ha).1
    · obtain ⟨⟨b, b1, b2⟩, ⟨d, d1, d2⟩⟩ := sqB_iff.1 (hall a ha)
      exact ⟨⟨b, b1, b2⟩, ⟨d, d1, d2⟩⟩
  unfold kpL
  rw [hU]
  refine List.filter_congr fun t ht => ?_
  rw [Bool.eq_iff_iff, lastB_iff]
  exact ⟨fun h => hl t (by rw [hU]; exact List.mem_filter.2 ⟨ht, h⟩), hp t⟩
theorem Stg.filter_end (h : Stg L U) (he : (U.filter (sqB U)).length = U.length) : U.filter (sqB U) = kpL L := by
  have hall : ∀ t ∈ U, sqB U t = true := by rwa [List.length_filter_eq_length_iff] at he
  rw [List.filter_eq_self.2 hall]
  exact h.end_ he
theorem kpL_len (L : List Tile) : (kpL L).length ≤ L.length := List.length_filter_le _ _
end
/-! ### maps of integers as sets -/
def mpI (D : List Int) : List (AVal × AVal) := D.map fun k => (i64 k, .bool true)
def MpI (h : H) (o : Nat) (D : List Int) : Prop := h[o]? = some (.mp (mpI D))
def addI (D : List Int) (k : Int) : List Int := if k ∈ D then D else D ++ [k]
theorem mem_addI {D : List Int} {k x : Int} : x ∈ addI D k ↔ x ∈ D ∨ x = k := by
  unfold addI
  split
  · next h => exact ⟨.inl, fun q => q.elim id fun e => e ▸ h⟩
  · simp
theorem mpPut_I (k : Int) : ∀ D : List Int, mpPut (i64 k) (.bool true) (mpI D) = some (mpI (addI D k))
  | [] => rfl
  | e :: D => by
    have ih := mpPut_I k D
    show mpPut (i64 k) (.bool true) ((i64 e, .bool true) :: mpI D) = _
    unfold mpPut
    simp only [keyIs, i64, if_pos, ↓reduceIte]
    by_cases h : k = e
    · subst h
      simp [addI, mpI]
    · rw [show (k == e) = false by simpa using h]
      simp only
      rw [show AVal.int .i64 k = i64 k from rfl, ih]
      simp only [Option.map_some]
      unfold addI
      by_cases h2 : k ∈ D
      · rw [if_pos h2, if_pos (by simp [h2])]; rfl
      · rw [if_neg h2, if_neg (by simp [h2, h])]; rfl
theorem mpFind_I (k : Int) : ∀ D : List Int, mpFind (i64 k) (mpI D) = some (if k ∈ D then some (.bool true) else none)
  | [] => rfl
  | e :: D => by
    have ih := mpFind_I k D
    show mpFind (i64 k) ((i64 e, .bool true) :: mpI D) = _
    unfold mpFind
    simp only [keyIs, i64, if_pos, ↓reduceIte]
    by_cases h : k = e
    · subst h; simp
    · rw [show (k == e) = false by simpa using h]
      simp only
      rw [show AVal.int .i64 k = i64 k from rfl, ih]
      by_cases h2 : k ∈ D
      · rw [if_pos h2, if_pos (by simp [h2])]
      · rw [if_neg h2, if_neg (by simp [h2, h])]
section
variable {h h' : H} {o : Nat} {D : List Int}
theorem MpI.lt (x : MpI h o D) : o < h.length := (List.getElem?_eq_some_iff.1 x).1
theorem MpI.ext (x : MpI h o D) (e : Ext h h') : MpI h' o D := e.own x
theorem MpI.but {p : Option Nat} (x : MpI h o D) (b : But p h h') (hn : p ≠ some o) : MpI h' o D := b.get x hn
theorem MpI.put (x : MpI h o D) (k : Int) {K : H → Prop} (hk : ∀ h', MpI h' o (addI D k) → But (some o) h h' → h'.length = h.length → K h') : mput (.map (some o)) (i64 k) (.bool true) h K :=
  ⟨o, _, _, rfl, x, mpPut_I k D, hk _ (by unfold MpI; have := x.lt; simp [this]) ⟨by simp, fun i hi hne => by rw [List.getElem?_set, if_neg (fun e => hne (by rw [e]))]⟩ (by simp)⟩
theorem MpI.new {K : AVal → H → Prop} (hk : ∀ h', MpI h' h.length [] → Ext h h' → h'.length = h.length + 1 → K (.map (some h.length)) h') : newM h K :=
  hk _ (by unfold MpI mpI; simp) (Ext.app _ _) (by simp)
theorem MpI.at_ (x : MpI h o D) : mapAt h (some o) = some (mpI D) := by simp only [mapAt]; rw [show h[o]? = some (.mp (mpI D)) from x]
theorem MpI.get (x : MpI h o D) (k : Int) {K : Bool → Prop} (hk : K (decide (k ∈ D))) : mgetB (.map (some o)) (i64 k) h K := by
  refine ⟨some o, _, _, decide (k ∈ D), rfl, x.at_, mpFind_I k D, ?_, hk⟩
  by_cases h : k ∈ D
  · rw [if_pos h, decide_eq_true h]; exact .inr rfl
  · rw [if_neg h, decide_eq_false h]; exact .inl ⟨rfl, rfl⟩
end
end Go.Proofs.Ytlbglfgienklfaa.Cl

/- The program's kept: the lasting tiles. No claim is stated here. -/
set_option linter.unusedVariables false
set_option linter.unusedSimpArgs false
namespace Go.Proofs.Ytlbglfgienklfaa.Cl
open Go
theorem ix4V {h : H} {o : Nat} {ms : List AVal} (x : Obj h o ms) (hl : ms.length = 4) {i : Nat} {j : Int} (hj : j = i) (hi : i < 4) {v : AVal} (e : ms[i]? = some v) {K : AVal → Prop} (hk : K v) : ixA ⟨some o, 4, 0⟩ 4 1 j fun p => ldV p h K := by
  subst hj
  refine ⟨⟨by omega, by omega⟩, rfl, v, ?_, hk⟩
  rw [show (i : Int).toNat * 1 = i by omega, x.cellE hl, e]
theorem ix4st {h : H} {o : Nat} {ms : List AVal} (x : Obj h o ms) (hl : ms.length = 4) {i : Nat} (hi : i < 4) (v : AVal) {K : H → Prop} (hk : ∀ h', Obj h' o (ms.set i v) → But (some o) h h' → h'.length = h.length → K h') : ixA ⟨some o, 4, 0⟩ 4 1 (i : Int) fun p => st1 p v h K := by
  refine ⟨⟨by omega, by omega⟩, rfl, ?_⟩
  rw [show (i : Int).toNat * 1 = i by omega]
  exact x.st1 hl hi v hk
def SideM (U : List Tile) (j : Nat) (D : List Int) : Prop := ∀ x, x ∈ D ↔ ∃ a ∈ U, sd a j = x
section
variable {h0 : H} {s : Sl} {L : List Tile}
theorem kept_c (r : Rd h0 s 4 (tcs L)) (hL : L.length ≤ 1000000) : callS SP i_impl_kept [.sl s] h0 fun u h' => Ow h' u 4 (tcs (kpL L)) ∧ Fr h0.length u ∧ Ext h0 h' := by
  apply impl_kept_call
  unfold impl_kept_main
  refine impl_kept_rule0 _ _ (fun s h => ∃ U, Rd h s 4 (tcs U) ∧ Stg L U ∧ Ext h0 h ∧ U.length ≤ L.length) (fun s _ => s.len) ?_ _ ⟨L, r, Stg.refl L, Ext.refl _, Nat.le_refl _⟩
  rintro X0 s h ⟨U, r, hS, x, hUl⟩ hX
  have hsl := r.tlen
  unfold impl_kept_b0
  refine newO_obj fun h1 o1 x1 n1 => ?_
  refine o1.stA fun h2 o2 b2 n2 => ?_
  have y2 : Ext h h2 := x1.but_ b2 (some_le (Nat.le_refl _))
  refine impl_kept_rule2 _ _ X0 _ _ (fun i g => ∃ (k : Nat) (ms : List AVal), i = k ∧ k ≤ 4 ∧ Ext h g ∧ ms.length = 4 ∧ Obj g h.length ms ∧ ∀ j, j < k → ∃ o D, ms[j]? = some (.map (some o)) ∧ MpI g o D ∧ o ≠ h.length ∧ SideM U j D) (fun i _ => (4 - i).toNat) ?_ _ ⟨0, _, rfl, by omega, y2, rfl, o2, fun j hj => by omega⟩
  rintro X2 _ g ⟨k, ms, rfl, hk, y, hml, om, hms⟩ hY
  unfold impl_kept_b2
  refine bif_dec (fun hi => ?_) (fun hi => ?_)
  · have hk4 : k < 4 := by omega
    refine MpI.new fun g1 m1 z1 e1 => ?_
    have om1 := om.ext z1
    refine ix4st om1 hml hk4 _ fun g2 om2 c2 e2 => ?_
    have hgl := om.lt
    have m2 := m1.but c2 (fun e => by have := Option.some.inj e; omega)
    have z2 : But (some h.length) g g2 := (z1.but _).trans c2
    have w2 : Ext h g2 := y.but_ z2 (some_le (Nat.le_refl _))
    refine impl_kept_rule4 _ _ X0 X2 _ _ _ _ _ _ (fun z q => ∃ (w : Nat) (D : List Int), z = w ∧ w ≤ U.length ∧ MpI q g.length D ∧ SideM (U.take w) k D ∧ Chg (fun i => i = g.length) g2 q) (fun z _ => ((U.length : Int) - z).toNat) ?_ _ ⟨0, [], rfl, by omega, m2, fun x => by simp, Chg.refl _ _⟩
    rintro X4 _ q ⟨w, D, rfl, hw, mq, hD, ch⟩ hZ
    have Xq : Ext h q := w2.chg_ ch fun i e => by have := y.len; omega
    have omq := om2.chg ch (by omega)
    unfold impl_kept_b4
    refine bif_dec (fun hi2 => ?_) (fun hi2 => ?_)
    · have hwl : w < U.length := by omega
      refine (r.ext Xq).tileG (by omega) (by omega) ?_
      refine newO_obj fun q1 p1 v1 l1 => ?_
      refine p1.stA fun q2 p2 d2 l2 => ?_
      have v2 : Ext q q2 := v1.but_ d2 (some_le (Nat.le_refl _))
      refine ix4V (omq.ext v2) (by simp [hml]) rfl hk4 (v := .map (some g.length)) (by rw [List.getElem?_set_self (by omega)]) ?_
      refine ix4 p2 k hk4 fun p7 _ => ?_
      refine (mq.ext v2).put _ fun q3 mq3 d3 l3 => ?_
      rw [w64_of (by omega) (by omega)]
      refine hZ _ _ ⟨w + 1, _, by push_cast; rfl, by omega, mq3, fun x => ?_, ch.trans ((v2.chg _).trans (d3.chg fun i e => (Option.some.inj e).symm))⟩ (by omega)
      rw [mem_addI, hD x]
      have tw : tat U (w : Int) = U[w] := tat_at (by rw [Int.toNat_natCast, List.getElem?_eq_getElem hwl])
      rw [List.take_succ_eq_append_getElem hwl, tw]
      constructor
      · rintro (⟨a, ha, e⟩ | e)
        · exact ⟨a, List.mem_append_left _ ha, e⟩
        · exact ⟨U[w], List.mem_append_right _ (List.mem_singleton_self _), e.symm⟩
      · rintro ⟨a, ha, e⟩
        rcases List.mem_append.1 ha with ha | ha
        · exact .inl ⟨a, ha, e⟩
        · rw [List.mem_singleton] at ha; subst ha; exact .inr e.symm
    · unfold impl_kept_C4 impl_kept_C3
      rw [w64_of (by omega) (by omega)]
      have hwU : w = U.length := by omega
      rw [hwU, List.take_length] at hD
      refine hY _ _ ⟨k + 1, _, by push_cast; rfl, by omega, Xq, by simp [hml], omq, fun j hj => ?_⟩ (by omega)
      by_cases e : j = k
      · subst e
        exact ⟨g.length, D, by rw [List.getElem?_set_self (by omega)], mq, by omega, hD⟩
      · obtain ⟨o, D', a1, a2, a3, a4⟩ := hms j (by omega)
        have ho := a2.lt
        exact ⟨o, D', by rw [List.getElem?_set_ne (by omega)]; exact a1, ch.get ((a2.but z2 fun e => a3 (Option.some.inj e).symm) : MpI g2 o D') (by omega), a3, a4⟩
  · have hk4 : k = 4 := by omega
    subst hk4
    unfold impl_kept_C2
    obtain ⟨ow, Dw, w1, w2, w3, w4⟩ := hms 0 (by omega)
    obtain ⟨oe, De, e1, e2, e3, e4⟩ := hms 2 (by omega)
    refine newS_ow (by rfl) fun u h3 ou lu uo eu => ?_
    have x3 : Ext g h3 := by rw [eu]; exact Ext.app _ _
    have Y3 := y.trans x3
    have hgl := om.lt
    refine impl_kept_rule6 _ _ X0 _ _ _ _ (fun u z q => ∃ w : Nat, z = w ∧ w ≤ U.length ∧ Ow q u 4 (tcs ((U.take w).filter (sqB U))) ∧ Fr g.length u ∧ Ext g q) (fun _ z _ => ((U.length : Int) - z).toNat) ?_ _ _ ⟨0, rfl, by omega, by simpa [tcs] using ou, fun o e => by rw [uo] at e; cases e; omega, x3⟩
    rintro X6 u _ q ⟨w, rfl, hw, ou, fu, yq⟩ hZ
    unfold impl_kept_b6
    have Yq := y.trans yq
    refine bif_dec (fun hi2 => ?_) (fun hi2 => ?_)
    · have hwl : w < U.length := by omega
      have tw : tat U (w : Int) = U[w] := tat_at (by rw [Int.toNat_natCast, List.getElem?_eq_getElem hwl])
      refine (r.ext Yq).tileG (by omega) (by omega) ?_
      rw [tw]
      refine newO_obj fun q1 p1 v1 l1 => ?_
      refine p1.stA fun q2 p2 d2 l2 => ?_
      have v2 : Ext q q2 := v1.but_ d2 (some_le (Nat.le_refl _))
      have z2 := yq.trans v2
      have omq := om.ext z2
      have htk : (U.take (w + 1)).filter (sqB U) = (U.take w).filter (sqB U) ++ if sqB U U[w] then [U[w]] else [] := by
        rw [List.take_succ_eq_append_getElem hwl, List.filter_append]
        simp only [List.filter_cons, List.filter_nil]
      have hul := ou.rd.tlen
      have hfl := List.length_filter_le (sqB U) (U.take w)
      have htl : (U.take w).length = w := by rw [List.length_take]; omega
      have skip : ∀ {q' : H}, Ext q q' → ¬ SQ U U[w] → X6 (impl_kept_e6 s ⟨some h.length, 4, 0⟩ u s (s.len : Int) (w64 ((w : Int) + 1))) q' := fun {q'} v hn => by
        rw [w64_of (by omega) (by omega)]
        have hb : sqB U U[w] = false := by
          cases hb : sqB U U[w]
          · rfl
          · exact absurd (sqB_iff.1 hb) hn
        refine hZ _ _ _ ⟨w + 1, by push_cast; rfl, by omega, ?_, fu, yq.trans v⟩ (by omega)
        rw [htk, hb]
        simpa using ou.ext v
      refine ix4V omq hml (i := 2) rfl (by omega) e1 ?_
      refine ix4 p2 0 (by omega) fun p7 _ => ?_
      refine (e2.ext z2).get _ ?_
      refine bif_dec (fun hb => ?_) (fun hb => skip v2 fun hs => hb ((e4 _).2 hs.1))
      refine ix4V omq hml (i := 0) rfl (by omega) w1 ?_
      refine ix4 p2 2 (by omega) fun p12 _ => ?_
      refine (w2.ext z2).get _ ?_
      refine bif_dec (fun hb2 => ?_) (fun hb2 => skip v2 fun hs => hb2 ((w4 _).2 hs.2))
      refine p2.ldA rfl ⟨rfl, ?_⟩
      have hb3 : sqB U U[w] = true := sqB_iff.2 ⟨(e4 _).1 hb, (w4 _).1 hb2⟩
      refine push_tc (t := U[w]) (ou.ext v2) (by unfold lim; omega) fun u' q3 ou3 b3 hu3 l3 => ?_
      rw [w64_of (by omega) (by omega)]
      have hyq := yq.len
      have hv2 := v2.len
      refine hZ _ _ _ ⟨w + 1, by push_cast; rfl, by omega, ?_, fu.push (h := q2) (by omega) hu3, z2.but_ b3 fun o e => fu o e⟩ (by omega)
      rw [htk, hb3]
      exact ou3
    · have hwU : w = U.length := by omega
      rw [hwU, List.take_length] at ou
      have hul := ou.rd.tlen
      unfold impl_kept_C6
      have hgle := y.len
      refine bif_eq (fun he => ?_) (fun hne => ?_)
      · refine ⟨u, rfl, ?_, fu.le (by have := x.len; omega), x.trans Yq⟩
        rw [← hS.filter_end (by omega)]
        exact ou
      · have hle := List.length_filter_le (sqB U) U
        exact hX _ _ ⟨_, ou.rd, hS.step, x.trans Yq, by omega⟩ (by omega)
end
end Go.Proofs.Ytlbglfgienklfaa.Cl

/- Contracts of the functions that tell fillings, cylinders and tori. No claim is stated here. -/
set_option linter.unusedVariables false
set_option linter.unusedSimpArgs false
namespace Go.Proofs.Ytlbglfgienklfaa.Cl
open Go
section
variable {h : H} {a : Nat} {c : Int} {s q : Sl} {ts : List Tile} {rows : List (List Int)}
theorem side_of (o : Obj h a (SetC c s)) (r : Rd h s 4 (tcs ts)) {n k : Int} (n0 : 0 ≤ n) (n1 : n < ts.length) (k0 : 0 ≤ k) (k1 : k < 4) {K : Int → Prop} (hk : K (sd (tat ts n) k.toNat)) :
    isPt ⟨some a, 2, 0⟩ (ldS (Pt.add ⟨some a, 2, 0⟩ 1) h fun s2 => ixS s2 4 n fun p => ixA p 4 1 k fun p => ldI .i64 p h K) :=
  isPt_in (o.ldS rfl rfl (r.sideG n0 n1 k0 k1 hk))
theorem side_in (o : Obj h a (SetC c s)) (r : Rd h s 4 (tcs ts)) {v : Sl} {y : Nat} (rv : Rd h v 1 (ic (rw_ rows y))) {x k : Int} (x0 : 0 ≤ x) (x1 : x < (rw_ rows y).length) (hn : 0 ≤ G rows y x.toNat ∧ G rows y x.toNat < ts.length) (k0 : 0 ≤ k) (k1 : k < 4) {K : Int → Prop} (hk : K (sd (tat ts (G rows y x.toNat)) k.toNat)) :
    isPt ⟨some a, 2, 0⟩ (ldS (Pt.add ⟨some a, 2, 0⟩ 1) h fun s2 => ixS v 1 x fun p => ldI .i64 p h fun n => ixS s2 4 n fun p => ixA p 4 1 k fun p => ldI .i64 p h K) :=
  isPt_in (o.ldS rfl rfl (rv.ldG x0 x1 (r.sideG hn.1 hn.2 k0 k1 hk)))
theorem side_at (o : Obj h a (SetC c s)) (r : Rd h s 4 (tcs ts)) (rr : RdSS h q rows) {y x k : Int} (y0 : 0 ≤ y) (y1 : y < rows.length) (x0 : 0 ≤ x) (x1 : x < (rw_ rows y.toNat).length) (hn : 0 ≤ G rows y.toNat x.toNat ∧ G rows y.toNat x.toNat < ts.length) (k0 : 0 ≤ k) (k1 : k < 4) {K : Int → Prop} (hk : K (sd (tat ts (G rows y.toNat x.toNat)) k.toNat)) :
    isPt ⟨some a, 2, 0⟩ (ldS (Pt.add ⟨some a, 2, 0⟩ 1) h fun s2 => ixS q 1 y fun p => ldS p h fun v => ixS v 1 x fun p => ldI .i64 p h fun n => ixS s2 4 n fun p => ixA p 4 1 k fun p => ldI .i64 p h K) :=
  isPt_in (o.ldS rfl rfl (rr.ldG y0 y1 fun v rv lv => rv.ldG x0 x1 (r.sideG hn.1 hn.2 k0 k1 hk)))
end
/-- The side k of the tile at a place. -/
abbrev S_ (ts : List Tile) (rows : List (List Int)) (y x k : Nat) : Int := sd (tat ts (G rows y x)) k
def CellOK (ts : List Tile) (rows : List (List Int)) (y x : Nat) : Prop := (0 < x → S_ ts rows y (x - 1) 2 = S_ ts rows y x 0) ∧ (0 < y → S_ ts rows (y - 1) x 3 = S_ ts rows y x 1)
def Filling (ts : List Tile) (rows : List (List Int)) : Prop := ∀ y x, y < rows.length → x < (rw_ rows y).length → CellOK ts rows y x
def CylEnds (ts : List Tile) (rows : List (List Int)) : Prop := ∀ y, y < rows.length → S_ ts rows y ((rw_ rows y).length - 1) 2 = S_ ts rows y 0 0
def TorEnds (ts : List Tile) (rows : List (List Int)) : Prop := ∀ x, x < (rw_ rows 0).length → S_ ts rows (rows.length - 1) x 3 = S_ ts rows 0 x 1
section
variable {h0 : H} {c : Int} {s q : Sl} {ts : List Tile} {rows : List (List Int)}
end
end Go.Proofs.Ytlbglfgienklfaa.Cl

/- Contracts of IsCylinder and IsTorus. No claim is stated here. -/
set_option linter.unusedVariables false
set_option linter.unusedSimpArgs false
namespace Go.Proofs.Ytlbglfgienklfaa.Cl
open Go
noncomputable def F_IsCylinder_0 (c : Int) (ts : List Tile) (rows : List (List Int)) : Bool := bP ((setOK c ts ∧ Nums ts.length rows) ∧ Filling ts rows ∧ CylEnds ts rows)
noncomputable def F_IsTorus_0 (c : Int) (ts : List Tile) (rows : List (List Int)) : Bool := bP ((setOK c ts ∧ Nums ts.length rows) ∧ Filling ts rows ∧ CylEnds ts rows ∧ TorEnds ts rows)
section
variable {h0 : H} {c : Int} {s q : Sl} {ts : List Tile} {rows : List (List Int)}
end
end Go.Proofs.Ytlbglfgienklfaa.Cl

/- Contracts of shifted tori: shifts, comparing, least forms, shifts that keep. No claim is stated here. -/
set_option linter.unusedVariables false
set_option linter.unusedSimpArgs false
namespace Go.Proofs.Ytlbglfgienklfaa.Cl
open Go
/-! ### one element more -/
theorem push_c {h : H} {s : Sl} {l : List AVal} {x : AVal} (r : Ow h s 1 l) (hl : (s.len : Int) + 1 ≤ lim) {K : Sl → H → Prop}
    (hk : ∀ s' h', Ow h' s' 1 (l ++ [x]) → s'.len = s.len + 1 → But s.o h h' → (∀ n, Fr n s → n ≤ h.length → Fr n s') → K s' h') : newS 1 1 [x] h fun t h1 => app s t 1 h1 K := by
  refine newS_ow (by rfl) fun t h1 ot tl to e1 => ?_
  subst e1
  refine app_ow (by omega) (r.ext (Ext.app _ _)) ot.rd (by rw [tl]; exact_mod_cast hl) fun s' h' o' ln b k1 k2 => hk s' h' o' (by omega) ?_ fun n fn hn o e => ?_
  · exact ((Ext.app h _).but _).trans b
  · cases hq : s.o with
    | none => have := k2 hq o e; simp at this; omega
    | some p => rw [k1 p hq] at e; cases e; exact fn _ hq
theorem pushI {h : H} {s : Sl} {l : List Int} {x : Int} (r : Ow h s 1 (ic l)) (hl : (l.length : Int) + 1 ≤ lim) {K : Sl → H → Prop}
    (hk : ∀ s' h', Ow h' s' 1 (ic (l ++ [x])) → But s.o h h' → (∀ n, Fr n s → n ≤ h.length → Fr n s') → K s' h') : newS 1 1 [.int .i64 x] h fun t h1 => app s t 1 h1 K := by
  refine push_c r (by have := r.rd.ilen; omega) fun s' h' o' _ b f => hk s' h' ?_ b f
  rw [ic_app]; exact o'
theorem NewSS.push {n m : Nat} {h : H} {s : Sl} {ls : List (List Int)} (r : NewSS n h s ls) {v : Sl} {l : List Int} (ov : Ow h v 1 (ic l)) (fv : Fr m v) (hnm : n ≤ m) (hm : ∃ h0 : H, NewSS n h0 s ls ∧ h0.length ≤ m ∧ Ext h0 h)
    (hl : (ls.length : Int) + 1 ≤ lim) (hnh : n ≤ h.length) {K : Sl → H → Prop} (hk : ∀ s' h', NewSS n h' s' (ls ++ [l]) → But s.o h h' → K s' h') : newS 1 1 [.sl v] h fun t h1 => Cl.app s t 1 h1 K := by
  refine newS_ow (by rfl) fun t h1 ot tl to e1 => ?_
  have e1' : Ext h h1 := by rw [e1]; exact Ext.app _ _
  obtain ⟨h0, r0, l0, x0⟩ := hm
  refine (r.ext e1').app_new (ov.ext e1') fv hnm ⟨h0, r0, l0, x0.trans e1'⟩ ot.rd hl (Nat.le_trans hnh e1'.len) fun s' h' n' b _ _ => hk s' h' n' ((e1'.but _).trans b)
theorem NewSS.fr {n h s ls} (r : NewSS n h s ls) : Fr n s := by obtain ⟨_, _, _, f, _⟩ := r; exact f
/-! ### tables of numbers -/
def tab1 (n : Nat) (f : Nat → Int) : List Int := (List.range n).map f
def tab2 (n : Nat) (f : Nat → List Int) : List (List Int) := (List.range n).map f
theorem tab1_len (n f) : (tab1 n f).length = n := by simp [tab1]
theorem tab2_len (n f) : (tab2 n f).length = n := by simp [tab2]
theorem tab1_succ (n f) : tab1 (n + 1) f = tab1 n f ++ [f n] := by simp [tab1, List.range_succ]
theorem tab2_succ (n f) : tab2 (n + 1) f = tab2 n f ++ [f n] := by simp [tab2, List.range_succ]
theorem tab2_row {n f y} (h : y < n) : rw_ (tab2 n f) y = f y := by
  unfold rw_ tab2
  rw [List.getD_eq_getElem?_getD, List.getElem?_map, List.getElem?_range h]; rfl
theorem tab1_at {n f y} (h : y < n) : (tab1 n f).getD y 0 = f y := by
  unfold tab1
  rw [List.getD_eq_getElem?_getD, List.getElem?_map, List.getElem?_range h]; rfl
theorem foldl_range_succ {α : Type} (g : α → Nat → α) (x : α) (n : Nat) : (List.range (n + 1)).foldl g x = g ((List.range n).foldl g x) n := by
  rw [List.range_succ, List.foldl_append]; rfl
/-! ### shifts -/
abbrev wide (rows : List (List Int)) : Nat := (rw_ rows 0).length
def shiftG (rows : List (List Int)) (a b : Nat) : List (List Int) := tab2 rows.length fun y => tab1 (wide rows) fun x => G rows ((y + a) % rows.length) ((x + b) % wide rows)
/-- Rows of one length, not too many. -/
structure Rect (rows : List (List Int)) : Prop where
  h0 : 1 ≤ rows.length
  h1 : rows.length ≤ 8
  w : ∀ y, y < rows.length → (rw_ rows y).length = wide rows
  w0 : 1 ≤ wide rows
  w1 : wide rows ≤ 8
theorem Nums.rect {n rows} (h : Nums n rows) : Rect rows := by
  have h2 := h.2.2
  have h1 := h.2.1
  have := h2 0 (by omega)
  exact ⟨by omega, by omega, fun y hy => (h2 y hy).1, this.2.1, by have := this.2.2; unfold wide; omega⟩
theorem shiftG_len (rows a b) : (shiftG rows a b).length = rows.length := tab2_len _ _
theorem shiftG_row {rows a b y} (h : y < rows.length) : (rw_ (shiftG rows a b) y).length = wide rows := by unfold shiftG; rw [tab2_row h, tab1_len]
theorem Rect.shift {rows} (r : Rect rows) (a b) : Rect (shiftG rows a b) := by
  have w : wide (shiftG rows a b) = wide rows := shiftG_row r.h0
  exact ⟨by rw [shiftG_len]; exact r.h0, by rw [shiftG_len]; exact r.h1, fun y hy => by rw [w]; rw [shiftG_len] at hy; exact shiftG_row hy, by rw [w]; exact r.w0, by rw [w]; exact r.w1⟩
theorem wrapmod {i a n : Int} (h0 : 0 ≤ i) (h1 : i < 1000) (a0 : 0 ≤ a) (a1 : a < 1000) (n0 : 0 < n) : 0 ≤ Int.tmod (w64 (i + a)) n ∧ Int.tmod (w64 (i + a)) n < n ∧ (Int.tmod (w64 (i + a)) n).toNat = (i.toNat + a.toNat) % n.toNat := by
  rw [w64_of (by omega) (by omega)]
  have e : Int.tmod (i + a) n = (i + a) % n := Int.tmod_eq_emod_of_nonneg (by omega)
  rw [e]
  have h2 := Int.emod_nonneg (i + a) (show n ≠ 0 by omega)
  have h3 := Int.emod_lt_of_pos (i + a) n0
  refine ⟨h2, h3, ?_⟩
  have : ((i.toNat + a.toNat : Nat) : Int) % ((n.toNat : Nat) : Int) = (i + a) % n := by
    rw [show ((i.toNat + a.toNat : Nat) : Int) = i + a by omega, show ((n.toNat : Nat) : Int) = n by omega]
  omega
section
variable {h0 : H} {q : Sl} {rows : List (List Int)}
end
/-! ### comparing rows -/
def cmpLL : List (List Int) → List (List Int) → Int
  | [], [] => 0
  | [], _ :: _ => -1
  | _ :: _, [] => 1
  | a :: l, b :: m => if cmpL a b ≠ 0 then cmpL a b else cmpLL l m
theorem cmpL_anti : ∀ a b, cmpL b a = - cmpL a b
  | [], [] => rfl
  | [], _ :: _ => rfl
  | _ :: _, [] => rfl
  | a :: l, b :: m => by
    simp only [cmpL]
    rw [cmpL_anti l m]
    split <;> split <;> first | omega | (split <;> first | omega | rfl) | skip
theorem cmpLL_anti : ∀ a b, cmpLL b a = - cmpLL a b
  | [], [] => rfl
  | [], _ :: _ => rfl
  | _ :: _, [] => rfl
  | a :: l, b :: m => by
    simp only [cmpLL]
    rw [cmpLL_anti l m, cmpL_anti a b]
    split <;> split <;> first | omega | rfl
theorem cmpL_self : ∀ a, cmpL a a = 0
  | [] => rfl
  | a :: l => by simp [cmpL, cmpL_self l]
theorem cmpLL_self : ∀ a, cmpLL a a = 0
  | [] => rfl
  | a :: l => by simp [cmpLL, cmpL_self a, cmpLL_self l]
theorem cmpL_bound : ∀ a b, -1 ≤ cmpL a b ∧ cmpL a b ≤ 1
  | [], [] => by simp [cmpL]
  | [], _ :: _ => by simp [cmpL]
  | _ :: _, [] => by simp [cmpL]
  | a :: l, b :: m => by
    have := cmpL_bound l m
    simp only [cmpL]
    split
    · omega
    · split
      · omega
      · exact this
section
variable {h0 : H} {q q' : Sl} {A B : List (List Int)}
end
end Go.Proofs.Ytlbglfgienklfaa.Cl

/- Contracts of ShiftTorus, LeastForm, ShiftsKept and ShiftNumber. No claim is stated here. -/
set_option linter.unusedVariables false
set_option linter.unusedSimpArgs false
namespace Go.Proofs.Ytlbglfgienklfaa.Cl
open Go
/-- append of a new view to a slice of views, of objects of P -/
theorem NewP.app {P : Nat → Prop} {h s ls} (r : NewP P h s ls) {v : Sl} {l : List Int} (ov : Ow h v 1 (ic l)) (fv : ∀ o, v.o = some o → P o) (hap : ∀ o, v.o = some o → s.o ≠ some o ∧ ∀ vs : List Sl, Ow h s 1 (vs.map .sl) → ∀ w ∈ vs, w.o ≠ some o)
    {x : Sl} (rx : Rd h x 1 [.sl v]) (hl : (ls.length : Int) + 1 ≤ lim) (hnh : ∀ i, h.length ≤ i → P i) {K : Sl → H → Prop} (hk : ∀ s' h', NewP P h' s' (ls ++ [l]) → But s.o h h' → (∀ o, s.o = some o → s'.o = some o) → (s.o = none → ∀ o, s'.o = some o → h.length ≤ o) → K s' h') : Cl.app s x 1 h K := by
  obtain ⟨vs, h1, h2, h3, h4, h5, h6⟩ := r
  have hx : x.len = 1 := by have := rx.len; simp at this; omega
  have hs : s.len = ls.length := by have := h2.len; simp at this; omega
  refine app_ow (by omega) h2 rx (by rw [hs, hx]; exact_mod_cast hl) fun s' h' o' ln b k1 k2 => ?_
  have hso : ∀ o, s'.o = some o → s.o = some o ∨ h.length ≤ o := fun o e => by
    cases hq : s.o with
    | none => exact .inr (k2 hq o e)
    | some p => rw [k1 p hq] at e; exact .inl e
  refine hk s' h' ⟨vs ++ [v], by simp [h1], by simpa using o', ?_, ?_, ?_, ?_⟩ b k1 k2
  · intro o e
    rcases hso o e with e | e
    · exact h3 o e
    · exact hnh o e
  · intro i w l' a c
    rw [List.getElem?_append] at a c
    rw [h1] at a
    split at a
    · next hi =>
      rw [if_pos hi] at c
      obtain ⟨p, q⟩ := h4 i w l' a c
      refine ⟨p.but b ?_, q⟩
      cases hw : w.o with
      | none => 
        cases hq : s.o with
        | none => exact .inr rfl
        | some _ => exact .inl (by simp)
      | some o => exact .inl (by rw [← hw]; intro e; exact h6 i w a o hw (by rw [e, hw]))
    · next hi =>
      rw [if_neg hi] at c
      have : i = ls.length := by
        have := (List.getElem?_eq_some_iff.1 c).1
        simp at this; omega
      subst this
      simp at a c
      subst a c
      refine ⟨ov.but b ?_, fv⟩
      cases hw : v.o with
      | none =>
        cases hq : s.o with
        | none => exact .inr rfl
        | some _ => exact .inl (by simp)
      | some o => exact .inl (by intro e; exact (hap o hw).1 e)
  · intro i j w u hne a c o e
    have hwl : ∀ {k : Nat} {y : Sl}, (vs ++ [v])[k]? = some y → vs[k]? = some y ∨ (k = vs.length ∧ y = v) := fun {k y} e => by
      rw [List.getElem?_append] at e
      split at e
      · exact .inl e
      · have : k = vs.length := by
          have := (List.getElem?_eq_some_iff.1 e).1
          simp at this; omega
        subst this
        simp at e
        exact .inr ⟨rfl, e.symm⟩
    rcases hwl a with a1 | ⟨rfl, rfl⟩
    · rcases hwl c with c1 | ⟨rfl, rfl⟩
      · exact h5 i j w u hne a1 c1 o e
      · intro e2
        exact (hap o e2).2 vs h2 w (List.mem_of_getElem? a1) e
    · rcases hwl c with c1 | ⟨rfl, rfl⟩
      · exact (hap o e).2 vs h2 u (List.mem_of_getElem? c1)
      · exact absurd rfl hne
  · intro i w a o e
    have hlt : o < h.length ∧ s.o ≠ some o := by
      rw [List.getElem?_append] at a
      split at a
      · obtain ⟨l', hl'⟩ := mem_idx h1 a
        exact ⟨(h4 i w l' a hl').1.lt e, h6 i w a o e⟩
      · have : w = v := by
          have := List.mem_of_getElem? a
          simpa using this
        subst this
        exact ⟨ov.lt e, (hap o e).1⟩
    intro e2
    rcases hso o e2 with e3 | e3
    · exact hlt.2 e3
    · omega
theorem NewP.push {P : Nat → Prop} {h : H} {s : Sl} {ls : List (List Int)} (r : NewP P h s ls) {v : Sl} {l : List Int} {h0 : H} (r0 : NewP P h0 s ls) (x0 : Ext h0 h) (ov : Ow h v 1 (ic l)) (fv : Fr h0.length v) (hP : ∀ i, h0.length ≤ i → P i)
    (hl : (ls.length : Int) + 1 ≤ lim) {K : Sl → H → Prop} (hk : ∀ s' h', NewP P h' s' (ls ++ [l]) → But s.o h h' → K s' h') : newS 1 1 [.sl v] h fun t h1 => Cl.app s t 1 h1 K := by
  refine newS_ow (by rfl) fun t h1 ot tl to e1 => ?_
  have e1' : Ext h h1 := by rw [e1]; exact Ext.app _ _
  have l0 := x0.len
  have l1 := e1'.len
  refine (r.ext e1').app (ov.ext e1') (fun o e => hP o (fv o e)) (fun o e => ?_) ot.rd hl (fun i hi => hP i (by omega)) fun s' h' n' b _ _ => hk s' h' n' ((e1'.but _).trans b)
  obtain ⟨vs, h1', h2, h3, h4, h5, h6⟩ := r0
  have ho := fv o e
  refine ⟨fun e2 => by have := h2.lt e2; omega, fun us hu w hw => ?_⟩
  intro e2
  have hq : us = vs := by
    have a := hu.rd.sread (by omega)
    have b := (h2.ext (x0.trans e1')).rd.sread (by omega)
    rw [a] at b
    have : us.map AVal.sl = vs.map AVal.sl := Option.some.inj b
    exact List.map_inj_right (fun a b e => by simpa using e) |>.1 this
  subst hq
  obtain ⟨i, hi⟩ := List.getElem?_of_mem hw
  obtain ⟨l', hl'⟩ := mem_idx h1' hi
  have := (h4 i w l' hi hl').1.lt e2
  omega
theorem NewP.notin {P : Nat → Prop} {h : H} {s : Sl} {ls : List (List Int)} (r : NewP P h s ls) {i : Nat} (hp : ¬ P i) : s.o ≠ some i := by
  obtain ⟨vs, _, _, a3, _⟩ := r
  exact fun e => hp (a3 _ e)
theorem cmpLL_nz (x : Int) : (¬ x < 0 ∧ ¬ -x < 0) ↔ x = 0 := by omega
/-- A function over all shifts, in order. -/
def nest {α : Type} (f : α → Nat → Nat → α) (init : α) (H W : Nat) : α := (List.range H).foldl (fun acc a => (List.range W).foldl (fun acc b => f acc a b) acc) init
def leastStep (rows best : List (List Int)) (a b : Nat) : List (List Int) := if cmpLL (shiftG rows a b) best < 0 then shiftG rows a b else best
def leastG (rows : List (List Int)) : List (List Int) := nest (leastStep rows) (shiftG rows 0 0) rows.length (wide rows)
def keptStep (rows acc : List (List Int)) (a b : Nat) : List (List Int) := if cmpLL (shiftG rows a b) rows = 0 then acc ++ [[(a : Int), (b : Int)]] else acc
def keptG (rows : List (List Int)) : List (List Int) := nest (keptStep rows) [] rows.length (wide rows)
/-- What the step keeps holds to the end. -/
theorem foldl_keeps {α β : Type} {I : α → Prop} {g : α → β → α} : ∀ (l : List β) (x : α), I x → (∀ x b, b ∈ l → I x → I (g x b)) → I (l.foldl g x)
  | [], x, h, _ => h
  | b :: l, x, h, hs => foldl_keeps l (g x b) (hs x b (by simp) h) fun x c hc => hs x c (by simp [hc])
theorem nest_keeps {α : Type} {I : α → Prop} {f : α → Nat → Nat → α} {x : α} {H W : Nat} (h : I x) (hs : ∀ x a b, a < H → b < W → I x → I (f x a b)) : I (nest f x H W) :=
  foldl_keeps _ _ h fun x a ha hx => foldl_keeps _ _ hx fun x b hb hx => hs x a b (List.mem_range.1 ha) (List.mem_range.1 hb) hx
/-- Of the form of the rows. -/
def Like (rows s : List (List Int)) : Prop := s.length = rows.length ∧ ∀ y, y < rows.length → (rw_ s y).length = wide rows
theorem shift_like (rows a b) : Like rows (shiftG rows a b) := ⟨shiftG_len _ _ _, fun y hy => shiftG_row hy⟩
theorem leastStep_like {rows best a b} (h : Like rows best) : Like rows (leastStep rows best a b) := by
  unfold leastStep
  split
  · exact shift_like _ _ _
  · exact h
theorem Like.mem {rows s} (h : Like rows s) {l} (hl : l ∈ s) : l.length = wide rows := by
  obtain ⟨i, hi⟩ := List.getElem?_of_mem hl
  have := (List.getElem?_eq_some_iff.1 hi).1
  rw [← rw_at hi]
  exact h.2 i (by have := h.1; omega)
theorem sumLen_le {ls : List (List Int)} {n : Nat} (h : ∀ l ∈ ls, l.length ≤ n) : sumLen ls ≤ ls.length * n := by
  unfold sumLen
  induction ls with
  | nil => simp
  | cons a ls ih =>
    have h1 := h a (by simp)
    have h2 := ih fun l hl => h l (by simp [hl])
    simp only [List.map_cons, List.sum_cons, List.length_cons, Nat.add_mul, Nat.one_mul]
    omega
theorem Like.small {rows s} (R : Rect rows) (h : Like rows s) : s.length < 1000000 ∧ sumLen s < 1000000 := by
  have := R.h1
  have hw := R.w1
  have h1 := sumLen_le (ls := s) (n := 8) fun l hl => by rw [h.mem hl]; exact hw
  have := h.1
  constructor <;> omega
theorem keptStep_kept {rows acc a b} {n : Nat} (h : acc.length ≤ n ∧ ∀ l ∈ acc, l.length = 2) : (keptStep rows acc a b).length ≤ n + 1 ∧ ∀ l ∈ keptStep rows acc a b, l.length = 2 := by
  unfold keptStep
  split
  · refine ⟨by simp; omega, fun l hl => ?_⟩
    rcases List.mem_append.1 hl with hl | hl
    · exact h.2 l hl
    · simp at hl; subst hl; rfl
  · exact ⟨by omega, h.2⟩
theorem foldl_count {α β : Type} {I : Nat → α → Prop} {g : α → β → α} (c : Nat) : ∀ (l : List β) (x : α) (n : Nat), I n x → (∀ x n b, I n x → I (n + c) (g x b)) → I (n + c * l.length) (l.foldl g x)
  | [], x, n, h, _ => by simpa using h
  | b :: l, x, n, h, hs => by
    have := foldl_count (I := I) c l (g x b) (n + c) (hs x n b h) hs
    simp only [List.foldl_cons, List.length_cons]
    rw [show n + c * (l.length + 1) = n + c + c * l.length by rw [Nat.mul_add]; omega]
    exact this
theorem kept_upto (rows : List (List Int)) (i k : Nat) : ((List.range k).foldl (fun acc b => keptStep rows acc i b) ((List.range i).foldl (fun acc a => (List.range (wide rows)).foldl (fun acc b => keptStep rows acc a b) acc) [])).length ≤ wide rows * i + k ∧
    ∀ l ∈ (List.range k).foldl (fun acc b => keptStep rows acc i b) ((List.range i).foldl (fun acc a => (List.range (wide rows)).foldl (fun acc b => keptStep rows acc a b) acc) []), l.length = 2 := by
  have h1 := foldl_count (I := fun n (x : List (List Int)) => x.length ≤ n ∧ ∀ l ∈ x, l.length = 2) (wide rows) (List.range i) [] 0 ⟨by simp, fun l h => by simp at h⟩ (g := fun acc a => (List.range (wide rows)).foldl (fun acc b => keptStep rows acc a b) acc)
    fun x n a hx => by
      have := foldl_count (I := fun n (x : List (List Int)) => x.length ≤ n ∧ ∀ l ∈ x, l.length = 2) 1 (List.range (wide rows)) x n hx (g := fun acc b => keptStep rows acc a b) fun x n b hx => keptStep_kept hx
      simpa using this
  have h2 := foldl_count (I := fun n (x : List (List Int)) => x.length ≤ n ∧ ∀ l ∈ x, l.length = 2) 1 (List.range k) _ _ h1 (g := fun acc b => keptStep rows acc i b) fun x n b hx => keptStep_kept hx
  simpa using h2
section
variable {h0 : H} {q : Sl} {rows : List (List Int)}
end
end Go.Proofs.Ytlbglfgienklfaa.Cl

/- Lasting edges: the plain law (ways without end over finitely many colours). No claim is stated here. -/
set_option linter.unusedVariables false
set_option linter.unusedSimpArgs false
namespace Go.Proofs.Ytlbglfgienklfaa.Cl
/-- An edge leads from its first colour to its second one. -/
abbrev Edge := Nat × Nat
def stepB (es : List Edge) (A : Nat → Bool) (w : Nat) : Bool := es.any fun e => e.1 == w && A e.2
def itB (es : List Edge) : Nat → Nat → Bool
  | 0 => fun _ => true
  | k + 1 => stepB es (itB es k)
theorem stepB_iff {es : List Edge} {A : Nat → Bool} {w : Nat} : stepB es A w = true ↔ ∃ e ∈ es, e.1 = w ∧ A e.2 = true := by
  unfold stepB
  simp [List.any_eq_true]
theorem stepB_mono {es : List Edge} {A B : Nat → Bool} (h : ∀ w, A w = true → B w = true) (w : Nat) (a : stepB es A w = true) : stepB es B w = true := by
  obtain ⟨e, he, h1, h2⟩ := stepB_iff.1 a
  exact stepB_iff.2 ⟨e, he, h1, h _ h2⟩
theorem itB_dec (es : List Edge) : ∀ k w, itB es (k + 1) w = true → itB es k w = true
  | 0, w, _ => rfl
  | k + 1, w, h => stepB_mono (itB_dec es k) w h
theorem stepB_congr {es : List Edge} {n : Nat} (hn : ∀ e ∈ es, e.2 < n) {A B : Nat → Bool} (h : ∀ w, w < n → A w = B w) (w : Nat) : stepB es A w = stepB es B w := by
  have key : ∀ A B : Nat → Bool, (∀ w, w < n → A w = B w) → stepB es A w = true → stepB es B w = true := fun A B h a => by
    obtain ⟨e, he, h1, h2⟩ := stepB_iff.1 a
    exact stepB_iff.2 ⟨e, he, h1, by rw [← h _ (hn e he)]; exact h2⟩
  have a := key A B h
  have b := key B A fun w hw => (h w hw).symm
  revert a b
  cases stepB es A w <;> cases stepB es B w <;> simp
def cntB (n : Nat) (A : Nat → Bool) : Nat := (List.range n).countP A
theorem countP_lt {α : Type} {p q : α → Bool} : ∀ (l : List α), (∀ x ∈ l, q x = true → p x = true) → (∃ x ∈ l, p x = true ∧ q x = false) → l.countP q < l.countP p
  | [], _, h => by obtain ⟨x, hx, _⟩ := h; cases hx
  | a :: l, h, ⟨x, hx, h1, h2⟩ => by
    rw [List.countP_cons, List.countP_cons]
    have hle : l.countP q ≤ l.countP p := List.countP_mono_left fun y hy hq => h y (by simp [hy]) hq
    rcases List.mem_cons.1 hx with rfl | hx
    · rw [h1, h2]; simp; omega
    · have ih := countP_lt l (fun y hy => h y (by simp [hy])) ⟨x, hx, h1, h2⟩
      by_cases hq : q a = true
      · rw [hq, h a (by simp) hq]; omega
      · rw [if_neg hq]; split <;> omega
theorem cntB_lt {n : Nat} {A B : Nat → Bool} (h : ∀ w, w < n → B w = true → A w = true) (hne : ∃ w, w < n ∧ A w ≠ B w) : cntB n B < cntB n A := by
  obtain ⟨w, hw, hd⟩ := hne
  refine countP_lt _ (fun x hx => h x (List.mem_range.1 hx)) ⟨w, List.mem_range.2 hw, ?_⟩
  have := h w hw
  revert hd this
  cases A w <;> cases B w <;> simp
theorem itB_stable {es : List Edge} {n : Nat} (hn : ∀ e ∈ es, e.2 < n) {k : Nat} (h : ∀ w, w < n → itB es (k + 1) w = itB es k w) (w : Nat) : itB es (k + 2) w = itB es (k + 1) w := stepB_congr hn h w
theorem itB_fix {es : List Edge} {n : Nat} (hn : ∀ e ∈ es, e.2 < n) : ∀ k, (∀ w, w < n → itB es (k + 1) w = itB es k w) ∨ cntB n (itB es k) + k ≤ n
  | 0 => .inr (by unfold cntB; have := List.countP_le_length (p := itB es 0) (l := List.range n); rw [List.length_range] at this; omega)
  | k + 1 => by
    rcases itB_fix hn k with h | h
    · exact .inl fun w _ => itB_stable hn h w
    · by_cases e : ∀ w, w < n → itB es (k + 1) w = itB es k w
      · exact .inl fun w _ => itB_stable hn e w
      · have hex : ∃ w, w < n ∧ itB es k w ≠ itB es (k + 1) w := by
          refine Classical.byContradiction fun c => e fun w hw => ?_
          exact Classical.byContradiction fun d => c ⟨w, hw, fun q => d q.symm⟩
        have := cntB_lt (n := n) (A := itB es k) (B := itB es (k + 1)) (fun w _ => itB_dec es k w) hex
        exact .inr (by omega)
/-- After as many steps as there are colours, nothing changes any more. -/
theorem itB_end {es : List Edge} {n : Nat} (hn : ∀ e ∈ es, e.2 < n) (w : Nat) (hw : w < n) : itB es (n + 1) w = itB es n w := by
  rcases itB_fix hn n with h | h
  · exact h w hw
  · have h0 : cntB n (itB es n) = 0 := by omega
    have hf : itB es n w = false := by
      unfold cntB at h0
      rw [List.countP_eq_zero] at h0
      have := h0 w (List.mem_range.2 hw)
      simpa using this
    rw [hf]
    have := itB_dec es n w
    rw [hf] at this
    cases hq : itB es (n + 1) w
    · rfl
    · exact absurd (this hq) (by simp)
/-- A stable and greatest set of colours. -/
structure Endless (n : Nat) (es : List Edge) (A : Nat → Bool) : Prop where
  fix : ∀ w, w < n → stepB es A w = A w
  top : ∀ G : Nat → Bool, (∀ w, G w = true → stepB es G w = true) → ∀ w, G w = true → A w = true
theorem itB_top {es : List Edge} {G : Nat → Bool} (hG : ∀ w, G w = true → stepB es G w = true) : ∀ k w, G w = true → itB es k w = true
  | 0, _, _ => rfl
  | k + 1, w, h => stepB_mono (itB_top hG k) w (hG w h)
theorem endless_it {es : List Edge} {n k : Nat} (h : ∀ w, w < n → itB es (k + 1) w = itB es k w) : Endless n es (itB es k) := ⟨h, fun G hG w hw => itB_top hG k w hw⟩
def flipE (es : List Edge) : List Edge := es.map fun e => (e.2, e.1)
/-- Is an edge lasting? A: colours to which endless ways lead; B: colours from which endless ways lead on. -/
def lastE (A B : Nat → Bool) (e : Edge) : Bool := A e.1 && B e.2
structure Lst (n : Nat) (es : List Edge) (A B : Nat → Bool) : Prop where
  hn : ∀ e ∈ es, e.1 < n ∧ e.2 < n
  a : Endless n (flipE es) A
  b : Endless n es B
section
variable {n : Nat} {es : List Edge} {A B : Nat → Bool}
theorem Lst.pred (L : Lst n es A B) {e : Edge} (he : e ∈ es) (h : lastE A B e = true) : ∃ e' ∈ es, lastE A B e' = true ∧ e'.2 = e.1 := by
  unfold lastE at h ⊢
  rw [Bool.and_eq_true] at h
  have h1 := L.a.fix e.1 (L.hn e he).1
  rw [h.1] at h1
  obtain ⟨x, hx, x1, x2⟩ := stepB_iff.1 h1
  obtain ⟨y, hy, rfl⟩ := List.mem_map.1 hx
  refine ⟨y, hy, ?_, x1⟩
  rw [Bool.and_eq_true]
  refine ⟨x2, ?_⟩
  rw [show y.2 = e.1 from x1, ← L.b.fix e.1 (L.hn e he).1]
  exact stepB_iff.2 ⟨e, he, rfl, h.2⟩
theorem Lst.succ (L : Lst n es A B) {e : Edge} (he : e ∈ es) (h : lastE A B e = true) : ∃ e' ∈ es, lastE A B e' = true ∧ e'.1 = e.2 := by
  unfold lastE at h ⊢
  rw [Bool.and_eq_true] at h
  have h1 := L.b.fix e.2 (L.hn e he).2
  rw [h.2] at h1
  obtain ⟨y, hy, y1, y2⟩ := stepB_iff.1 h1
  refine ⟨y, hy, ?_, y1⟩
  rw [Bool.and_eq_true]
  refine ⟨?_, y2⟩
  rw [show y.1 = e.2 from y1, ← L.a.fix e.2 (L.hn e he).2]
  exact stepB_iff.2 ⟨(e.2, e.1), List.mem_map.2 ⟨e, he, rfl⟩, rfl, h.1⟩
/-- Each stable set of edges is lasting. -/
theorem Lst.top (L : Lst n es A B) {Q : Edge → Bool} (hp : ∀ e ∈ es, Q e = true → ∃ e' ∈ es, Q e' = true ∧ e'.2 = e.1) (hs : ∀ e ∈ es, Q e = true → ∃ e' ∈ es, Q e' = true ∧ e'.1 = e.2) {e : Edge} (he : e ∈ es) (h : Q e = true) : lastE A B e = true := by
  unfold lastE
  rw [Bool.and_eq_true]
  constructor
  · refine L.a.top (fun w => es.any fun e => Q e && e.1 == w) (fun w hw => ?_) e.1 (List.any_eq_true.2 ⟨e, he, by simp [h]⟩)
    obtain ⟨x, hx, h2⟩ := List.any_eq_true.1 hw
    simp at h2
    obtain ⟨y, hy, y1, y2⟩ := hp x hx h2.1
    refine stepB_iff.2 ⟨(y.2, y.1), List.mem_map.2 ⟨y, hy, rfl⟩, by simp [y2, h2.2], List.any_eq_true.2 ⟨y, hy, by simp [y1]⟩⟩
  · refine L.b.top (fun w => es.any fun e => Q e && e.2 == w) (fun w hw => ?_) e.2 (List.any_eq_true.2 ⟨e, he, by simp [h]⟩)
    obtain ⟨x, hx, h2⟩ := List.any_eq_true.1 hw
    simp at h2
    obtain ⟨y, hy, y1, y2⟩ := hs x hx h2.1
    refine stepB_iff.2 ⟨y, hy, by simp [y2, h2.2], List.any_eq_true.2 ⟨y, hy, by simp [y1]⟩⟩
/-- A colour that lies on an endless way in both directions is that of a lasting edge. -/
theorem Lst.word (L : Lst n es A B) {w : Nat} (hw : w < n) : (A w && B w) = true ↔ (∃ e ∈ es, lastE A B e = true ∧ (e.1 = w ∨ e.2 = w)) := by
  rw [Bool.and_eq_true]
  constructor
  · rintro ⟨h1, h2⟩
    have h3 := L.b.fix w hw
    rw [h2] at h3
    obtain ⟨y, hy, y1, y2⟩ := stepB_iff.1 h3
    refine ⟨y, hy, ?_, .inl y1⟩
    unfold lastE
    rw [y1, h1, y2]; rfl
  · rintro ⟨e, he, h, q⟩
    rcases q with rfl | rfl
    · have h' := h
      unfold lastE at h
      rw [Bool.and_eq_true] at h
      refine ⟨h.1, ?_⟩
      rw [← L.b.fix e.1 hw]
      exact stepB_iff.2 ⟨e, he, rfl, h.2⟩
    · unfold lastE at h
      rw [Bool.and_eq_true] at h
      refine ⟨?_, h.2⟩
      rw [← L.a.fix e.2 hw]
      exact stepB_iff.2 ⟨(e.2, e.1), List.mem_map.2 ⟨e, he, rfl⟩, rfl, h.1⟩
end
end Go.Proofs.Ytlbglfgienklfaa.Cl

/- Columns: the plain law (cell by cell, and layer by layer). No claim is stated here. -/
set_option linter.unusedVariables false
set_option linter.unusedSimpArgs false
namespace Go.Proofs.Ytlbglfgienklfaa.Cl
open Go
/-- All sides of the tiles are colours. -/
def TS (c : Int) (ts : List Tile) : Prop := 1 ≤ c ∧ ∀ t ∈ ts, ∀ k, k < 4 → 0 ≤ sd t k ∧ sd t k < c
theorem setOK.ts {c : Int} {ts : List Tile} (h : setOK c ts) : TS c ts := by
  refine ⟨h.1.1, fun t ht k hk => ?_⟩
  obtain ⟨i, hi, rfl⟩ := List.getElem_of_mem ht
  have := (h.2.2 i hi).1
  rw [tat_at (n := (i : Int)) (t := ts[i]) (by rw [Int.toNat_natCast]; exact List.getElem?_eq_getElem hi)] at this
  unfold tileok at this
  simp only [Bool.and_eq_true, decide_eq_true_eq] at this
  match k, hk with
  | 0, _ => show 0 ≤ ts[i].1 ∧ ts[i].1 < c; omega
  | 1, _ => show 0 ≤ ts[i].2.1 ∧ ts[i].2.1 < c; omega
  | 2, _ => show 0 ≤ ts[i].2.2.1 ∧ ts[i].2.2.1 < c; omega
  | 3, _ => show 0 ≤ ts[i].2.2.2 ∧ ts[i].2.2.2 < c; omega
section
variable (c : Int) (ts : List Tile)
def colP : Nat → Int → Int → Int → List (Int × Int)
  | 0, _, l, r => [(l, r)]
  | m + 1, s, l, r => ts.flatMap fun t => if 0 ≤ s ∧ s ≠ sd t 1 then [] else colP m (sd t 3) (l * c + sd t 0) (r * c + sd t 2)
/-- The program's columns: west word, east word, north colour. -/
def colI (h : Nat) : Nat → Int → Int → Int → Int → List (Int × Int × Int)
  | 0, top, _, l, r => [(l, r, top)]
  | m + 1, top, last, l, r => ts.flatMap fun t => if m + 1 < h ∧ sd t 1 ≠ last then [] else colI h m (if m + 1 = h then sd t 1 else top) (sd t 3) (l * c + sd t 0) (r * c + sd t 2)
def layS (x : Int × Int × Int) : List (Int × Int × Int) := ts.flatMap fun t => if 0 ≤ x.2.2 ∧ x.2.2 ≠ sd t 1 then [] else [(x.1 * c + sd t 0, x.2.1 * c + sd t 2, sd t 3)]
def lay (l : List (Int × Int × Int)) : List (Int × Int × Int) := l.flatMap (layS c ts)
def layN : Nat → List (Int × Int × Int) → List (Int × Int × Int)
  | 0, l => l
  | m + 1, l => layN m (lay c ts l)
def chain : Nat → Int × Int × Int → List (Int × Int × Int)
  | 0, x => [x]
  | m + 1, x => (layS c ts x).flatMap (chain m)
end
def pr (x : Int × Int × Int) : Int × Int := (x.1, x.2.1)
variable {c : Int} {ts : List Tile}
theorem fm_congr {α β : Type} {l : List α} {f g : α → List β} (h : ∀ x ∈ l, f x = g x) : l.flatMap f = l.flatMap g := by
  induction l with
  | nil => rfl
  | cons a l ih => rw [List.flatMap_cons, List.flatMap_cons, h a (by simp), ih fun x hx => h x (by simp [hx])]
theorem layN_chain : ∀ (m : Nat) (l : List (Int × Int × Int)), layN c ts m l = l.flatMap (chain c ts m)
  | 0, l => by
    rw [layN]
    induction l with
    | nil => rfl
    | cons a l ih => rw [List.flatMap_cons, ← ih]; rfl
  | m + 1, l => by
    rw [layN, layN_chain m, lay, List.flatMap_assoc]
    rfl
theorem layN_succ : ∀ (m : Nat) (l : List (Int × Int × Int)), layN c ts (m + 1) l = lay c ts (layN c ts m l)
  | 0, l => rfl
  | m + 1, l => by rw [layN, layN_succ m]; rfl
theorem chain_pr : ∀ (m : Nat) (x : Int × Int × Int), (chain c ts m x).map pr = colP c ts m x.2.2 x.1 x.2.1
  | 0, x => rfl
  | m + 1, x => by
    rw [chain, colP, layS, List.flatMap_assoc, List.map_flatMap]
    refine fm_congr fun t _ => ?_
    by_cases h : 0 ≤ x.2.2 ∧ x.2.2 ≠ sd t 1
    · rw [if_pos h, if_pos h]; rfl
    · rw [if_neg h, if_neg h, List.flatMap_cons, List.flatMap_nil, List.append_nil]
      exact chain_pr m _
theorem lay_pr (h : Nat) : (layN c ts h [(0, 0, -1)]).map pr = colP c ts h (-1) 0 0 := by
  rw [layN_chain, List.flatMap_cons, List.flatMap_nil, List.append_nil]
  exact chain_pr h _
theorem colI_pr (T : TS c ts) (h : Nat) : ∀ (m : Nat) (top last l r : Int), m ≤ h → (m < h → 0 ≤ last) → (colI c ts h m top last l r).map pr = colP c ts m (if m = h then -1 else last) l r
  | 0, top, last, l, r, _, _ => rfl
  | m + 1, top, last, l, r, hm, hl => by
    rw [colI, colP, List.map_flatMap]
    refine fm_congr fun t ht => ?_
    have h3 := T.2 t ht 3 (by omega)
    by_cases e : m + 1 = h
    · rw [if_neg (by omega), if_pos e, if_neg (by omega), colI_pr T h m _ _ _ _ (by omega) (fun _ => h3.1), if_neg (by omega)]
    · simp only [if_neg e]
      by_cases q : sd t 1 = last
      · rw [if_neg (by omega), if_neg (by omega), colI_pr T h m _ _ _ _ (by omega) (fun _ => h3.1), if_neg (by omega)]
      · rw [if_pos (by omega), if_pos ⟨hl (by omega), fun f => q f.symm⟩]; rfl
theorem colP_bound (T : TS c ts) : ∀ (m : Nat) (s l r b : Int), 0 ≤ l ∧ l < b → 0 ≤ r ∧ r < b → ∀ p ∈ colP c ts m s l r, (0 ≤ p.1 ∧ p.1 < b * c ^ m) ∧ 0 ≤ p.2 ∧ p.2 < b * c ^ m
  | 0, s, l, r, b, hl, hr, p, hp => by
    simp only [colP, List.mem_singleton] at hp
    subst hp
    simpa using ⟨hl, hr⟩
  | m + 1, s, l, r, b, hl, hr, p, hp => by
    rw [colP] at hp
    obtain ⟨t, ht, hp⟩ := List.mem_flatMap.1 hp
    split at hp
    · cases hp
    · have h0 := T.2 t ht 0 (by omega)
      have h2 := T.2 t ht 2 (by omega)
      have hc := T.1
      have key : ∀ x d : Int, 0 ≤ x ∧ x < b → 0 ≤ d ∧ d < c → 0 ≤ x * c + d ∧ x * c + d < b * c := fun x d hx hd => by
        have h1 : 0 ≤ x * c := Int.mul_nonneg hx.1 (by omega)
        have h2 : (x + 1) * c ≤ b * c := Int.mul_le_mul_of_nonneg_right (by omega) (by omega)
        rw [Int.add_mul, Int.one_mul] at h2
        omega
      have := colP_bound T m _ _ _ (b * c) (key _ _ hl h0) (key _ _ hr h2) p hp
      rw [Int.pow_succ, Int.mul_comm (c ^ m), ← Int.mul_assoc]
      exact this
theorem colP_len : ∀ (m : Nat) (s l r : Int), (colP c ts m s l r).length ≤ ts.length ^ m
  | 0, s, l, r => by simp [colP]
  | m + 1, s, l, r => by
    rw [colP, List.length_flatMap, Nat.pow_succ, Nat.mul_comm]
    have : ∀ (l' : List Tile), (l'.map fun t => (if 0 ≤ s ∧ s ≠ sd t 1 then [] else colP c ts m (sd t 3) (l * c + sd t 0) (r * c + sd t 2)).length).sum ≤ l'.length * ts.length ^ m := fun l' => by
      induction l' with
      | nil => simp
      | cons a l' ih =>
        rw [List.map_cons, List.sum_cons, List.length_cons, Nat.add_mul, Nat.one_mul]
        have : (if 0 ≤ s ∧ s ≠ sd a 1 then [] else colP c ts m (sd a 3) (l * c + sd a 0) (r * c + sd a 2)).length ≤ ts.length ^ m := by
          split
          · simp
          · exact colP_len m _ _ _
        omega
    exact this ts
theorem lay_len (h : Nat) : (layN c ts h [(0, 0, -1)]).length = (colP c ts h (-1) 0 0).length := by rw [← lay_pr, List.length_map]
/-- The columns of a height: west words and east words. -/
def colsOf (c : Int) (ts : List Tile) (h : Int) : List (Int × Int) := colP c ts h.toNat (-1) 0 0
end Go.Proofs.Ytlbglfgienklfaa.Cl

/- slices.Repeat of one element. No claim is stated here. -/
set_option linter.unusedVariables false
set_option linter.unusedSimpArgs false
namespace Go.Proofs.Ytlbglfgienklfaa.Cl
open Go
theorem wrapU_of {n : Int} (h1 : 0 ≤ n) (h2 : n < 18446744073709551616) : IntKind.wrap .u64 n = n := by
  unfold IntKind.wrap
  simp [IntKind.bits, IntKind.signed] <;> omega
theorem andLow {x : Int} (h0 : 0 ≤ x) (h1 : x < 4294967296) : bitsOp .and .u64 x 4294967295 = x := by
  obtain ⟨n, rfl⟩ : ∃ n : Nat, x = n := ⟨x.toNat, by omega⟩
  have hn : n < 4294967296 := by omega
  have e : (BitVec.ofInt 64 (n : Int) &&& BitVec.ofInt 64 4294967295).toNat = n := by
    rw [BitVec.toNat_and, BitVec.toNat_ofInt, BitVec.toNat_ofInt]
    have a : ((n : Int) % ((2 ^ 64 : Nat) : Int)).toNat = n := by
      have : ((2 ^ 64 : Nat) : Int) = 18446744073709551616 := by decide
      omega
    have b : ((4294967295 : Int) % ((2 ^ 64 : Nat) : Int)).toNat = 2 ^ 32 - 1 := by decide
    rw [a, b, Nat.and_two_pow_sub_one_eq_mod]
    exact Nat.mod_eq_of_lt hn
  unfold bitsOp
  show IntKind.wrap .u64 (((BitVec.ofInt 64 (n : Int) &&& BitVec.ofInt 64 4294967295).toNat : Nat) : Int) = n
  rw [e]
  exact wrapU_of (by omega) (by omega)
theorem shrU {x : Int} (h0 : 0 ≤ x) (h1 : x < 4294967296) : shrI .u64 x 32 = 0 := by
  unfold shrI
  have : (2 : Int) ^ (min (32 : Int).toNat IntKind.u64.bits) = 4294967296 := by decide
  rw [this, Int.fdiv_eq_ediv_of_nonneg _ (by omega)]
  exact Int.ediv_eq_zero_of_lt h0 h1
/-- A part of a view that is owned whole. -/
theorem cut_own {h : H} {s : Sl} {z : Nat} {cs : List AVal} (r : Ow h s z cs) {o : Nat} (ho : s.o = some o) {lo hi : Int} (h0 : 0 ≤ lo) (h1 : lo ≤ hi) (h2 : hi ≤ s.len) {K : Sl → Prop} (hk : K ⟨some o, s.n, lo.toNat * z, (hi - lo).toNat, z⟩) : cut s z lo hi h K := by
  obtain ⟨a, b⟩ | ⟨o', a, b, c, d, e⟩ := r.at_
  · rw [a] at ho; cases ho
  · have : o' = o := by rw [a] at ho; exact Option.some.inj ho
    subst this
    refine ⟨⟨h0, h1⟩, ?_, (fun q => by rw [a] at q; cases q), fun _ => ⟨b, ?_⟩, ?_⟩
    · unfold okS
      rw [a]
      simp only
      unfold cells
      rw [e]
      simp [r.len, d]
    · rw [c, d]
      have : hi.toNat * z ≤ s.len * z := Nat.mul_le_mul_right _ (by omega)
      omega
    · rw [a, c]; simpa using hk
theorem copy_own {h : H} {s : Sl} {cs : List AVal} (r : Ow h s 1 cs) {o : Nat} (ho : s.o = some o) {a m : Nat} (ham : a + m ≤ s.len) {x : Sl} {xs : List AVal} (hx : x.sz = 1) (hr : range h x.o x.n x.off (min x.len m * 1) = some xs) {K : Int → H → Prop}
    (hk : ∀ h', Ow h' s 1 (splice cs a xs) → But (some o) h h' → h'.length = h.length → K (min x.len m : Nat) h') : copyS ⟨some o, s.n, a, m, 1⟩ x 1 h K := by
  obtain ⟨p, q⟩ | ⟨o', p, b, c, d, e⟩ := r.at_
  · rw [p] at ho; cases ho
  · have : o' = o := by rw [p] at ho; exact Option.some.inj ho
    subst this
    have hxl := range_len hr
    have hcl := r.len
    have hol : o' < h.length := (List.getElem?_eq_some_iff.1 e).1
    have hsl : (splice cs a xs).length = cs.length := by unfold splice; simp; omega
    refine ⟨xs, h.set o' (.own (splice cs a xs)), hr, rfl, hx, ?_, hk _ ⟨by rw [hsl, hcl], .inr ⟨o', p, b, c, d, by simp [List.getElem?_set, hol]⟩⟩ ⟨by simp, fun i hi hn => by rw [List.getElem?_set, if_neg (fun e => hn (by rw [e]))]⟩ (by simp)⟩
    unfold putN owned
    simp only [e, Option.bind_some]
    rw [if_pos (by omega)]
    simp only [Option.bind_some]
    rw [if_pos (by omega)]
theorem rep_splice (v w : AVal) (i n k : Nat) (h : i + k ≤ n) : splice (List.replicate i v ++ List.replicate (n - i) w) i (List.replicate k v) = List.replicate (i + k) v ++ List.replicate (n - (i + k)) w := by
  unfold splice
  rw [List.take_left' (by simp), List.length_replicate, List.drop_append]
  simp only [List.length_replicate, List.drop_replicate]
  rw [show i - (i + k) = 0 by omega, show i + k - i = k by omega, show n - i - k = n - (i + k) by omega]
  simp [List.replicate_append_replicate]
theorem rep_take (v w : AVal) (i n k : Nat) (h : k ≤ i) : (List.replicate i v ++ List.replicate (n - i) w).take k = List.replicate k v := by
  rw [List.take_append_of_le_length (by simpa using h), List.take_replicate, Nat.min_eq_left h]
theorem ow_range {h : H} {s : Sl} {cs : List AVal} (r : Ow h s 1 cs) {o : Nat} (ho : s.o = some o) {k : Nat} (hk : k ≤ s.len) : range h (some o) s.n 0 k = some (cs.take k) := by
  obtain ⟨p, q⟩ | ⟨o', p, b, c, d, e⟩ := r.at_
  · rw [p] at ho; cases ho
  · have : o' = o := by rw [p] at ho; exact Option.some.inj ho
    subst this
    have hcl := r.len
    rw [range_of (xs := cs) (by unfold cells; simp [e, d, hcl]) (by omega)]
    simp
section
variable {h0 : H} {x : Sl} {n : Int}
end
end Go.Proofs.Ytlbglfgienklfaa.Cl

/- Contracts of LastingTiles. No claim is stated here. -/
set_option linter.unusedVariables false
set_option linter.unusedSimpArgs false
namespace Go.Proofs.Ytlbglfgienklfaa.Cl
open Go
noncomputable def sel0 {α : Type} (A : Prop) (l : List α) : List α := open Classical in if A then l else []
theorem sel0_yes {α : Type} {A : Prop} {l : List α} (h : A) : sel0 A l = l := by unfold sel0; rw [if_pos h]
theorem sel0_no {α : Type} {A : Prop} {l : List α} (h : ¬ A) : sel0 A l = [] := by unfold sel0; rw [if_neg h]
theorem pushI2 {h : H} {s : Sl} {l : List Int} {x : Int} (r : Ow h s 1 (ic l)) (hl : (l.length : Int) + 1 ≤ lim) {K : Sl → H → Prop}
    (hk : ∀ s' h', Ow h' s' 1 (ic (l ++ [x])) → But s.o h h' → (∀ o, s'.o = some o → s.o = some o ∨ h.length ≤ o) → K s' h') : newS 1 1 [.int .i64 x] h fun t h1 => app s t 1 h1 K := by
  refine newS_ow (by rfl) fun t h1 ot tl to e1 => ?_
  have e1' : Ext h h1 := by rw [e1]; exact Ext.app _ _
  have := e1'.len
  have hsl := r.rd.ilen
  refine app_ow (by omega) (r.ext e1') ot.rd (by rw [tl, hsl]; exact_mod_cast hl) fun s' h' o' ln b k1 k2 => hk s' h' (by rw [ic_app]; exact o') ((e1'.but _).trans b) fun o e => ?_
  cases hq : s.o with
  | none => have := k2 hq o e; exact .inr (by omega)
  | some p => rw [k1 p hq] at e; exact .inl e
theorem Obj.same {h h' o cs} (x : Obj h o cs) (y : Obj h' o cs) {n : Nat} (hn : cs.length = n) : Cl.range h (some o) n 0 n = Cl.range h' (some o) n 0 n := (x.rangeE hn).trans (y.rangeE hn).symm
/-! ### lists of truth values -/
def bl (n : Nat) (A : Nat → Bool) : List Bool := (List.range n).map A
theorem bl_len (n A) : (bl n A).length = n := by simp [bl]
theorem bl_get {n : Nat} {A : Nat → Bool} {i : Nat} (h : i < n) : (bl n A)[i]? = some (A i) := by unfold bl; rw [List.getElem?_map, List.getElem?_range h]; rfl
theorem bl_congr {n : Nat} {A B : Nat → Bool} (h : ∀ w, w < n → A w = B w) : bl n A = bl n B := by
  unfold bl
  exact List.map_congr_left fun w hw => h w (List.mem_range.1 hw)
theorem bl_set {n : Nat} {A : Nat → Bool} {k : Nat} {v : Bool} : ((bl n A).map AVal.bool).set k (.bool v) = (bl n fun w => if w = k then v else A w).map .bool := by
  rw [← List.map_set]
  congr 1
  apply List.ext_getElem (by simp [bl])
  intro i h1 h2
  rw [List.getElem_set]
  simp only [bl, List.getElem_map, List.getElem_range]
  by_cases e : k = i
  · rw [if_pos e, if_pos e.symm]
  · rw [if_neg e, if_neg fun f => e f.symm]
theorem bl_false (n : Nat) : (List.replicate n [AVal.bool false]).flatten = (bl n fun _ => false).map .bool := by
  induction n with
  | zero => rfl
  | succ n ih =>
    unfold bl at *
    rw [List.replicate_succ', List.flatten_append, ih, List.range_succ, List.map_append, List.map_append]
    rfl
theorem bl_rep (n : Nat) (b : Bool) : List.replicate n (AVal.bool b) = (bl n fun _ => b).map .bool := by
  unfold bl
  apply List.ext_getElem (by simp)
  intro i h1 h2
  simp
theorem Rd.ldBl {h : H} {s : Sl} {n : Nat} {A : Nat → Bool} (r : Rd h s 1 ((bl n A).map .bool)) {i : Int} (h0 : 0 ≤ i) (h1 : i < n) {K : Bool → Prop} (hk : K (A i.toNat)) : ixS s 1 i fun p => Cl.ldB p h K :=
  r.ldB h0 (by rw [bl_len]; exact h1) fun x hx => by rw [bl_get (by omega)] at hx; cases hx; exact hk
theorem Ow.blen {h : H} {s : Sl} {n : Nat} {A : Nat → Bool} (r : Ow h s 1 ((bl n A).map .bool)) : s.len = n := by have := r.len; rw [List.length_map, bl_len] at this; omega
theorem Ow.stBl {h : H} {s : Sl} {n : Nat} {A : Nat → Bool} (r : Ow h s 1 ((bl n A).map .bool)) {i : Int} (h0 : 0 ≤ i) (h1 : i < n) (v : Bool) {K : H → Prop}
    (hk : ∀ h', Ow h' s 1 ((bl n fun w => if w = i.toNat then v else A w).map .bool) → But s.o h h' → h'.length = h.length → K h') : ixS s 1 i fun p => Cl.st1 p (.bool v) h K :=
  r.stC h0 (by rw [r.blen]; exact h1) _ fun h' o b l => hk h' (by rw [← bl_set]; exact o) b l
/-! ### ways without end over tiles -/
def edT (ts : List Tile) (f g : Nat) : List Edge := ts.map fun t => ((sd t f).toNat, (sd t g).toNat)
theorem stepB_take {es : List Edge} {A : Nat → Bool} {j : Nat} (h : j < es.length) (w : Nat) : stepB (es.take (j + 1)) A w = (stepB (es.take j) A w || (es[j].1 == w && A es[j].2)) := by
  unfold stepB
  rw [List.take_succ_eq_append_getElem h, List.any_append]
  simp
theorem edT_lt {c : Int} {ts : List Tile} (T : TS c ts) {f g : Nat} (hf : f < 4) (hg : g < 4) : ∀ e ∈ edT ts f g, e.1 < c.toNat ∧ e.2 < c.toNat := fun e he => by
  obtain ⟨t, ht, rfl⟩ := List.mem_map.1 he
  have h1 := T.2 t ht f hf
  have h2 := T.2 t ht g hg
  exact ⟨by simp only []; omega, by simp only []; omega⟩
section
variable {h0 : H} {c : Int} {s : Sl} {ts : List Tile}
/-! ### the lasting tiles -/
def lastT (c : Int) (ts : List Tile) (i : Nat) : Bool := lastE (itB (edT ts 2 0) c.toNat) (itB (edT ts 0 2) c.toNat) ((sd (tat ts i) 0).toNat, (sd (tat ts i) 2).toNat)
def lastL (c : Int) (ts : List Tile) (n : Nat) : List Int := ((List.range n).filter (lastT c ts)).map fun (i : Nat) => (i : Int)
theorem flip_edT (ts : List Tile) : flipE (edT ts 0 2) = edT ts 2 0 := by unfold flipE edT; rw [List.map_map]; rfl
theorem lst_tiles (T : TS c ts) : Lst c.toNat (edT ts 0 2) (itB (edT ts 2 0) c.toNat) (itB (edT ts 0 2) c.toNat) := by
  have a := edT_lt T (f := 0) (g := 2) (by omega) (by omega)
  have b := edT_lt T (f := 2) (g := 0) (by omega) (by omega)
  refine ⟨a, ?_, endless_it (fun w hw => itB_end (fun e he => (a e he).2) w hw)⟩
  rw [flip_edT]
  exact endless_it (fun w hw => itB_end (fun e he => (b e he).2) w hw)
theorem lastL_len (n : Nat) : (lastL c ts n).length ≤ n := by
  unfold lastL
  rw [List.length_map]
  have := List.length_filter_le (lastT c ts) (List.range n)
  rwa [List.length_range] at this
theorem lastL_succ (n : Nat) : lastL c ts (n + 1) = if lastT c ts n then lastL c ts n ++ [(n : Int)] else lastL c ts n := by
  unfold lastL
  rw [List.range_succ, List.filter_append, List.map_append]
  by_cases h : lastT c ts n = true
  · rw [if_pos h, List.filter_cons_of_pos h]; rfl
  · rw [if_neg h, List.filter_cons_of_neg h]; simp
noncomputable def F_LastingTiles_0 (c : Int) (ts : List Tile) : List Int := sel0 (setOK c ts) (lastL c ts ts.length)
end
end Go.Proofs.Ytlbglfgienklfaa.Cl

/- Contracts of the reference's LastingTiles. No claim is stated here. -/
set_option linter.unusedVariables false
set_option linter.unusedSimpArgs false
namespace Go.Proofs.Ytlbglfgienklfaa.Cl
open Go
def isT : AVal → Bool | .bool b => b | _ => false
/-- How many truths a view's object has. -/
def trues (h : H) (s : Sl) : Nat := match s.o with
  | some o => (match h[o]? with | some (.own cs) => cs.countP isT | _ => 0)
  | none => 0
theorem trues_ow {h : H} {s : Sl} {n : Nat} {A : Nat → Bool} (r : Ow h s 1 ((bl n A).map .bool)) (hs : s.o.isSome = true) : trues h s = cntB n A := by
  obtain ⟨a, b⟩ | ⟨o, a, b, c, d, e⟩ := r.at_
  · rw [a] at hs; cases hs
  · unfold trues
    rw [a]
    simp only [e]
    unfold cntB bl
    rw [List.countP_map, List.countP_map]
    rfl
section
variable (ts : List Tile) (Q : Nat → Bool)
def prB (i j : Nat) : Bool := (List.range j).any fun k => Q k && (sd (tat ts (k : Nat)) 2 == sd (tat ts (i : Nat)) 0)
def suB (i j : Nat) : Bool := (List.range j).any fun k => Q k && (sd (tat ts (k : Nat)) 0 == sd (tat ts (i : Nat)) 2)
end
theorem prB_succ {ts Q i j} : prB ts Q i (j + 1) = (prB ts Q i j || (Q j && (sd (tat ts (j : Nat)) 2 == sd (tat ts (i : Nat)) 0))) := by
  unfold prB; rw [List.range_succ, List.any_append]; simp
theorem suB_succ {ts Q i j} : suB ts Q i (j + 1) = (suB ts Q i j || (Q j && (sd (tat ts (j : Nat)) 0 == sd (tat ts (i : Nat)) 2))) := by
  unfold suB; rw [List.range_succ, List.any_append]; simp
theorem range_any {n : Nat} {p : Nat → Bool} : (List.range n).any p = true ↔ ∃ k, k < n ∧ p k = true := by
  rw [List.any_eq_true]
  exact ⟨fun ⟨k, hk, h⟩ => ⟨k, List.mem_range.1 hk, h⟩, fun ⟨k, hk, h⟩ => ⟨k, List.mem_range.2 hk, h⟩⟩
section
variable {c : Int} {ts : List Tile}
theorem ed_at {f g i : Nat} (h : i < ts.length) : ((sd (tat ts (i : Nat)) f).toNat, (sd (tat ts (i : Nat)) g).toNat) ∈ edT ts f g := by
  refine List.mem_map.2 ⟨tat ts (i : Nat), ?_, rfl⟩
  have := at_tat (ts := ts) (n := (i : Int)) (by rw [Int.toNat_natCast]; exact h)
  exact List.mem_of_getElem? this
theorem ed_of {f g : Nat} {e : Edge} (h : e ∈ edT ts f g) : ∃ i, i < ts.length ∧ e = ((sd (tat ts (i : Nat)) f).toNat, (sd (tat ts (i : Nat)) g).toNat) := by
  obtain ⟨t, ht, rfl⟩ := List.mem_map.1 h
  obtain ⟨i, hi, rfl⟩ := List.getElem_of_mem ht
  refine ⟨i, hi, ?_⟩
  rw [tat_at (n := (i : Int)) (t := ts[i]) (by rw [Int.toNat_natCast]; exact List.getElem?_eq_getElem hi)]
theorem sd_at (T : TS c ts) {i k : Nat} (h : i < ts.length) (hk : k < 4) : 0 ≤ sd (tat ts (i : Nat)) k ∧ sd (tat ts (i : Nat)) k < c := by
  have := at_tat (ts := ts) (n := (i : Int)) (by rw [Int.toNat_natCast]; exact h)
  exact T.2 _ (List.mem_of_getElem? this) k hk
/-- A lasting tile has lasting ones on both sides, in each set with all lasting ones. -/
theorem last_keeps (T : TS c ts) {Q : Nat → Bool} (hQ : ∀ i, i < ts.length → lastT c ts i = true → Q i = true) {i : Nat} (hi : i < ts.length) (h : lastT c ts i = true) : prB ts Q i ts.length = true ∧ suB ts Q i ts.length = true := by
  have L := lst_tiles T
  constructor
  · obtain ⟨e, he, h1, h2⟩ := L.pred (ed_at (f := 0) (g := 2) hi) h
    obtain ⟨k, hk, rfl⟩ := ed_of he
    refine range_any.2 ⟨k, hk, ?_⟩
    rw [hQ k hk h1, Bool.true_and]
    have a := sd_at T hk (k := 2) (by omega)
    have b := sd_at T hi (k := 0) (by omega)
    have h2' : (sd (tat ts (k : Nat)) 2).toNat = (sd (tat ts (i : Nat)) 0).toNat := h2
    have : sd (tat ts (k : Nat)) 2 = sd (tat ts (i : Nat)) 0 := by omega
    rw [this]; simp
  · obtain ⟨e, he, h1, h2⟩ := L.succ (ed_at (f := 0) (g := 2) hi) h
    obtain ⟨k, hk, rfl⟩ := ed_of he
    refine range_any.2 ⟨k, hk, ?_⟩
    rw [hQ k hk h1, Bool.true_and]
    have a := sd_at T hk (k := 0) (by omega)
    have b := sd_at T hi (k := 2) (by omega)
    have h2' : (sd (tat ts (k : Nat)) 0).toNat = (sd (tat ts (i : Nat)) 2).toNat := h2
    have : sd (tat ts (k : Nat)) 0 = sd (tat ts (i : Nat)) 2 := by omega
    rw [this]; simp
/-- A stable set has lasting tiles alone. -/
theorem last_top (T : TS c ts) {Q : Nat → Bool} (hQ : ∀ i, i < ts.length → Q i = true → prB ts Q i ts.length = true ∧ suB ts Q i ts.length = true) {i : Nat} (hi : i < ts.length) (h : Q i = true) : lastT c ts i = true := by
  have L := lst_tiles T
  let E : Nat → Edge := fun i => ((sd (tat ts (i : Nat)) 0).toNat, (sd (tat ts (i : Nat)) 2).toNat)
  have QE : ∀ e, ((List.range ts.length).any fun i => Q i && (E i == e)) = true ↔ ∃ i, i < ts.length ∧ Q i = true ∧ E i = e := fun e => by
    rw [range_any]
    constructor
    · rintro ⟨k, hk, h⟩
      rw [Bool.and_eq_true, beq_iff_eq] at h
      exact ⟨k, hk, h.1, h.2⟩
    · rintro ⟨k, hk, h1, h2⟩
      exact ⟨k, hk, by rw [Bool.and_eq_true, beq_iff_eq]; exact ⟨h1, h2⟩⟩
  refine L.top (Q := fun e => (List.range ts.length).any fun i => Q i && (E i == e)) (fun e he h => ?_) (fun e he h => ?_) (ed_at (f := 0) (g := 2) hi) ((QE _).2 ⟨i, hi, h, rfl⟩)
  · obtain ⟨i, hi, hq, rfl⟩ := (QE e).1 h
    obtain ⟨k, hk, h2⟩ := range_any.1 (hQ i hi hq).1
    rw [Bool.and_eq_true, beq_iff_eq] at h2
    exact ⟨E k, ed_at (f := 0) (g := 2) hk, (QE _).2 ⟨k, hk, h2.1, rfl⟩, by show (sd _ 2).toNat = _; rw [h2.2]⟩
  · obtain ⟨i, hi, hq, rfl⟩ := (QE e).1 h
    obtain ⟨k, hk, h2⟩ := range_any.1 (hQ i hi hq).2
    rw [Bool.and_eq_true, beq_iff_eq] at h2
    exact ⟨E k, ed_at (f := 0) (g := 2) hk, (QE _).2 ⟨k, hk, h2.1, rfl⟩, by show (sd _ 0).toNat = _; rw [h2.2]⟩
end
section
variable {h0 : H} {c : Int} {s : Sl} {ts : List Tile}
theorem l02Lasting_c (r : Rd h0 s 4 (tcs ts)) (T : TS c ts) (hN : ts.length ≤ 16) :
    callS SP i_spec_l02Lasting [.agg (SetC c s)] h0 fun u h' => Ow h' u 1 ((bl ts.length (lastT c ts)).map .bool) ∧ Fr h0.length u ∧ Ext h0 h' := by
  have htl := r.tlen
  apply spec_l02Lasting_call
  unfold spec_l02Lasting_main
  refine newK_obj fun h1 o1 x1 n1 => ?_
  refine isPt_in (o1.ldS rfl rfl ?_)
  refine mkS_ow (by omega) (by unfold lim; omega) fun v h2 ov lv vo e2 => ?_
  have x2 : Ext h1 h2 := by rw [e2]; exact Ext.app _ _
  rw [bl_false, Int.toNat_natCast, htl] at ov
  rw [Int.toNat_natCast, htl] at lv
  have hvs : v.o.isSome = true := by rw [vo]; rfl
  have fv : Fr h1.length v := fun o e => by rw [vo] at e; cases e; exact Nat.le_refl _
  refine spec_l02Lasting_rule0 _ _ _ _ (fun i h => ∃ k : Nat, i = k ∧ k ≤ ts.length ∧ Ow h v 1 ((bl ts.length fun j => decide (j < k)).map .bool) ∧ Ext h1 h) (fun i _ => (ts.length - i).toNat) ?_ _ ⟨0, rfl, by omega, by simpa using ov, x2⟩
  rintro X _ h ⟨k, rfl, hk, ok, x⟩ hX
  unfold spec_l02Lasting_b0 spec_l02Lasting_C0
  refine bif_dec (fun hi => ?_) (fun hi => ?_)
  · refine ok.stBl (by omega) (by omega) _ fun h' o' b' l' => ?_
    rw [w64_of (by omega) (by omega)]
    refine hX _ _ ⟨k + 1, by push_cast; rfl, by omega, ?_, x.but_ b' fun o e => fv o e⟩ (by omega)
    rw [show bl ts.length (fun j => decide (j < k + 1)) = bl ts.length (fun w => if w = (k : Int).toNat then true else decide (w < k)) from bl_congr fun w _ => ?_]
    · exact o'
    · rw [Int.toNat_natCast]
      split
      · next e => simp [e]
      · next e => by_cases q : w < k <;> simp [q] <;> omega
  clear hX
  have hkn : k = ts.length := by omega
  subst hkn
  have ok1 : Ow h v 1 ((bl ts.length fun _ => true).map .bool) := by
    rw [show bl ts.length (fun _ => true) = bl ts.length (fun j => decide (j < ts.length)) from bl_congr fun w hw => by simp [hw]]
    exact ok
  refine spec_l02Lasting_rule2 _ _ _ _ (fun b h => Ext h1 h ∧ ∃ Q, Ow h v 1 ((bl ts.length Q).map .bool) ∧ (∀ i, i < ts.length → lastT c ts i = true → Q i = true) ∧ (b = false → ∀ i, i < ts.length → Q i = true → prB ts Q i ts.length = true ∧ suB ts Q i ts.length = true)) (fun b h => 2 * trues h v + if b then 1 else 0) ?_ _ ⟨x, fun _ => true, ok1, fun _ _ _ => rfl, fun f => by cases f⟩
  clear ok ok1 hi x
  rintro X more h ⟨x, Q, oq, hQ, hst⟩ hX
  unfold spec_l02Lasting_b2 spec_l02Lasting_C2
  refine bif_b (fun hm => ?_) (fun hm => ⟨_, rfl, ?_, fv.le (by omega), x1.trans x⟩)
  rotate_left
  · have e : bl ts.length (lastT c ts) = bl ts.length Q := bl_congr fun w hw => by
      have a := hQ w hw
      have b : Q w = true → lastT c ts w = true := fun q => last_top T (hst hm) hw q
      revert a b
      cases lastT c ts w <;> cases Q w <;> simp
    rw [e]; exact oq
  subst hm
  have hN0 := trues_ow oq hvs
  refine spec_l02Lasting_rule4 _ _ X _ _ (fun b i g => Ext h1 g ∧ ∃ k : Nat, i = k ∧ k ≤ ts.length ∧ ∃ Q', Ow g v 1 ((bl ts.length Q').map .bool) ∧ (∀ i, i < ts.length → lastT c ts i = true → Q' i = true) ∧ cntB ts.length Q' ≤ cntB ts.length Q ∧ (b = true → cntB ts.length Q' < cntB ts.length Q) ∧ (b = false → ∀ i, i < k → Q' i = true → prB ts Q' i ts.length = true ∧ suB ts Q' i ts.length = true)) (fun _ i _ => (ts.length - i).toNat) ?_ _ _ ⟨x, 0, rfl, by omega, Q, oq, hQ, Nat.le_refl _, (fun f => by cases f), fun _ i hi => by omega⟩
  rintro Y b _ g ⟨xg, i, rfl, hi, P, op, hP, hle, hlt, hdone⟩ hY
  unfold spec_l02Lasting_b4 spec_l02Lasting_C4
  refine bif_dec (fun hin => ?_) (fun hin => ?_)
  rotate_left
  · refine hX _ _ ⟨xg, P, op, hP, fun hb j hj => ?_⟩ ?_
    · rw [show i = ts.length by omega] at hdone
      exact hdone hb j hj
    · rw [trues_ow op hvs, hN0]
      cases b
      · simp only [Bool.false_eq_true, if_false, if_true]; omega
      · have := hlt rfl
        simp only [if_true]; omega
  have hin' : i < ts.length := by omega
  refine spec_l02Lasting_rule6 _ _ X Y _ _ _ _ (fun w e j g' => g = g' ∧ ∃ k : Nat, j = k ∧ k ≤ ts.length ∧ w = prB ts P i k ∧ e = suB ts P i k) (fun _ _ j _ => (ts.length - j).toNat) ?_ _ _ _ ⟨rfl, 0, rfl, by omega, rfl, rfl⟩
  rintro Z w e _ _ ⟨rfl, k, rfl, hk, rfl, rfl⟩ hZ
  have o := o1.ext xg
  have rg := r.ext (x1.trans xg)
  unfold spec_l02Lasting_b6 spec_l02Lasting_C6 spec_l02Lasting_C5
  refine bif_dec (fun hkn => ?_) (fun hkn => ?_)
  · have hk' : k < ts.length := by omega
    have next : ∀ (w e : Bool), w = prB ts P i (k + 1) → e = suB ts P i (k + 1) → Z (spec_l02Lasting_e6 ⟨some h0.length, 2, 0⟩ v b (i : Int) w e (w64 ((k : Int) + 1))) g := fun w e hw he => by
      rw [w64_of (by omega) (by omega)]
      exact hZ _ _ _ _ ⟨rfl, k + 1, by push_cast; rfl, by omega, hw, he⟩ (by omega)
    have hpr := prB_succ (ts := ts) (Q := P) (i := i) (j := k)
    have hsu := suB_succ (ts := ts) (Q := P) (i := i) (j := k)
    have rdP : ∀ {K : Bool → Prop}, K (P k) → ixS v 1 (k : Int) fun p => Cl.ldB p g K := fun hk => op.rd.ldBl (by omega) (by omega) (by rw [Int.toNat_natCast]; exact hk)
    have rdS : ∀ {m q : Nat} {K : Int → Prop}, m < ts.length → q < 4 → K (sd (tat ts (m : Nat)) q) → isPt ⟨some h0.length, 2, 0⟩ (Cl.ldS (Pt.add ⟨some h0.length, 2, 0⟩ 1) g fun s2 => ixS s2 4 (m : Int) fun p => ixA p 4 1 (q : Int) fun p => Cl.ldI .i64 p g K) := fun hm hq hk => side_of o rg (by omega) (by omega) (by omega) (by omega) hk
    generalize prB ts P i k = W at *
    generalize suB ts P i k = U at *
    refine bif_b (fun hw => ?_) (fun hw => ?_)
    · refine bif_b (fun he => ?_) (fun he => ?_)
      · exact next _ _ (by rw [hpr, hw]; rfl) (by rw [hsu, he]; rfl)
      · refine rdP (bif_b (fun hp => ?_) (fun hp => ?_))
        · refine rdS (q := 0) hk' (by omega) (rdS (q := 2) hin' (by omega) ?_)
          exact next _ _ (by rw [hpr, hw]; rfl) (by rw [hsu, he, hp]; rfl)
        · exact next _ _ (by rw [hpr, hw]; rfl) (by rw [hsu, he, hp]; rfl)
    · refine rdP (bif_b (fun hp => ?_) (fun hp => ?_))
      · refine rdS (q := 2) hk' (by omega) (rdS (q := 0) hin' (by omega) ?_)
        refine bif_b (fun he => ?_) (fun he => ?_)
        · exact next _ _ (by rw [hpr, hw, hp]; rfl) (by rw [hsu, he]; rfl)
        · refine rdP (bif_b (fun hp => ?_) (fun hp' => absurd hp (by rw [hp']; decide)))
          refine rdS (q := 0) hk' (by omega) (rdS (q := 2) hin' (by omega) ?_)
          exact next _ _ (by rw [hpr, hw, hp]; rfl) (by rw [hsu, he, hp]; rfl)
      · refine bif_b (fun he => ?_) (fun he => ?_)
        · exact next _ _ (by rw [hpr, hw, hp]; rfl) (by rw [hsu, he]; rfl)
        · refine rdP (bif_b (fun hp' => absurd hp' (by rw [hp]; decide)) (fun hp => ?_))
          exact next _ _ (by rw [hpr, hw, hp]; rfl) (by rw [hsu, he, hp]; rfl)
  · have : k = ts.length := by omega
    subst this
    have rdP : ∀ {K : Bool → Prop}, K (P i) → ixS v 1 (i : Int) fun p => Cl.ldB p g K := fun hk => op.rd.ldBl (by omega) (by omega) (by rw [Int.toNat_natCast]; exact hk)
    -- the tile stays
    have stay : (P i = true → prB ts P i ts.length = true ∧ suB ts P i ts.length = true) → Y (spec_l02Lasting_e4 ⟨some h0.length, 2, 0⟩ v b (w64 ((i : Int) + 1))) g := fun hs => by
      rw [w64_of (by omega) (by omega)]
      refine hY _ _ _ ⟨xg, i + 1, by push_cast; rfl, by omega, P, op, hP, hle, hlt, fun hb j hj hpj => ?_⟩ (by omega)
      by_cases e : j = i
      · subst e; exact hs hpj
      · exact hdone hb j (by omega) hpj
    -- the tile goes
    have go : P i = true → ¬ (prB ts P i ts.length = true ∧ suB ts P i ts.length = true) → ixS v 1 (i : Int) fun p => Cl.st1 p (.bool false) g fun g' => Y (spec_l02Lasting_e4 ⟨some h0.length, 2, 0⟩ v true (w64 ((i : Int) + 1))) g' := fun hp hn => by
      refine op.stBl (by omega) (by omega) _ fun g' o' b' l' => ?_
      rw [w64_of (by omega) (by omega)]
      rw [Int.toNat_natCast] at o'
      have hcl : cntB ts.length (fun w => if w = i then false else P w) < cntB ts.length P := cntB_lt (fun w hw hq => by
        have hq' : (if w = i then false else P w) = true := hq
        split at hq'
        · cases hq'
        · exact hq') ⟨i, hin', by simp [hp]⟩
      refine hY _ _ _ ⟨xg.but_ b' (fun o e => fv o e), i + 1, by push_cast; rfl, by omega, _, o', fun j hj hlj => ?_, by omega, fun _ => by omega, fun f => by cases f⟩ (by omega)
      by_cases e : j = i
      · subst e; exact absurd (last_keeps T hP hj hlj) hn
      · simp only [if_neg e]; exact hP j hj hlj
    refine rdP (bif_b (fun hp => ?_) (fun hp => stay fun q => by rw [hp] at q; cases q))
    refine bif_b (fun hw => ?_) (fun hw => ?_)
    · refine bif_not (fun he => go hp fun f => by rw [he] at f; cases f.2) (fun he => stay fun _ => ⟨hw, he⟩)
    · exact go hp fun f => by rw [hw] at f; cases f.1
theorem LastingTiles_small0 (sz : ts.length ≤ 1048576) : (F_LastingTiles_0 c ts).length < 1000000 := by
  by_cases hs : setOK c ts
  · rw [F_LastingTiles_0, sel0_yes hs]
    have := lastL_len (c := c) (ts := ts) ts.length
    have := hs.2.1
    omega
  · rw [F_LastingTiles_0, sel0_no hs]; decide
end
end Go.Proofs.Ytlbglfgienklfaa.Cl

/- Sets of stacks and of lasting tiles are sets; the reference's l04Kept; PowerOf. No claim is stated here. -/
set_option linter.unusedVariables false
set_option linter.unusedSimpArgs false
namespace Go.Proofs.Ytlbglfgienklfaa.Cl
open Go
/-! ### plain -/
section
variable {c d : Int} {ts S T : List Tile}
theorem tat_nat {i : Nat} (h : i < ts.length) : tat ts (i : Int) = ts[i] := tat_at (by rw [Int.toNat_natCast, List.getElem?_eq_getElem h])
theorem setOK.pw (h : setOK c ts) : ts.Pairwise ltT := by
  rw [List.pairwise_iff_getElem]
  have key : ∀ n i j : Nat, (hi : i < ts.length) → (hj : j < ts.length) → j = i + n + 1 → ltT ts[i] ts[j] := by
    intro n
    induction n with
    | zero =>
      intro i j hi hj e
      have := (h.2.2 j hj).2 (by omega)
      rw [show ((j : Int) - 1) = ((i : Nat) : Int) by omega, tat_nat hi, tat_nat hj] at this
      exact this
    | succ n ih =>
      intro i j hi hj e
      have h1 := ih i (j - 1) hi (by omega) (by omega)
      have h2 := (h.2.2 j hj).2 (by omega)
      rw [show ((j : Int) - 1) = ((j - 1 : Nat) : Int) by omega, tat_nat (show j - 1 < ts.length by omega), tat_nat hj] at h2
      exact ltT_sto.trans _ _ _ h1 h2
  intro i j hi hj hij
  exact key (j - i - 1) i j hi hj (by omega)
theorem setOK_of (h1 : 1 ≤ c) (h2 : c ≤ 6) (hl : ts.length ≤ 16) (hp : ts.Pairwise ltT) (hs : ∀ t ∈ ts, ∀ k, k < 4 → 0 ≤ sd t k ∧ sd t k < c) : setOK c ts := by
  refine ⟨⟨h1, h2⟩, hl, fun j hj => ⟨?_, fun h0 => ?_⟩⟩
  · rw [tat_nat hj]
    have hm := List.getElem_mem hj
    have a0 := hs _ hm 0 (by omega)
    have a1 := hs _ hm 1 (by omega)
    have a2 := hs _ hm 2 (by omega)
    have a3 := hs _ hm 3 (by omega)
    simp only [sd] at a0 a1 a2 a3
    unfold tileok
    simp only [Bool.and_eq_true, decide_eq_true_eq]
    omega
  · rw [show ((j : Int) - 1) = ((j - 1 : Nat) : Int) by omega, tat_nat (show j - 1 < ts.length by omega), tat_nat hj]
    exact List.pairwise_iff_getElem.1 hp (j - 1) j (by omega) hj (by omega)
theorem dsT_self (hp : ts.Pairwise ltT) : dsT ts = ts := (dsort_eq ltT_sto hp fun x => Iff.rfl).symm
theorem setOK.kept (h : setOK c ts) : setOK c (kpL ts) := by
  have hsub : (kpL ts).Sublist ts := List.filter_sublist
  have hle := kpL_len ts
  refine setOK_of h.1.1 h.1.2 (by have := h.2.1; omega) (h.pw.sublist hsub) fun t ht k hk => h.ts.2 t (hsub.subset ht) k hk
theorem numP_lt {P : List (Int × Int)} (hn : P.Nodup) {e : Int × Int} (he : e ∈ P) : 0 ≤ numP P e ∧ numP P e < P.length := by
  obtain ⟨j, hj, rfl⟩ := List.getElem_of_mem he
  rw [numP_at hn hj]; omega
theorem stk_ok (hS : setOK c S) (hT : setOK d T) (he : stkE c d S T = 0) : setOK (stkF c d S T).1 (stkF c d S T).2 := by
  have hf : fitS (stkC c d S T) (stkT S T) := by
    unfold stkE at he
    split at he
    · assumption
    · cases he
  have e1 : stkF c d S T = (stkC c d S T, dsT (stkT S T)) := by unfold stkF; rw [if_pos hf]
  have m1 : ∀ a b : Int, a ≤ mxI a b ∧ b ≤ mxI a b := fun a b => by unfold mxI; split <;> omega
  have g1 := m1 ((prsP S T).length : Nat) c
  have g2 := m1 (mxI ((prsP S T).length : Nat) c) d
  have hC : ((prsP S T).length : Int) ≤ stkC c d S T ∧ c ≤ stkC c d S T ∧ d ≤ stkC c d S T := by unfold stkC; omega
  have hc1 := hS.1.1
  rw [e1]
  refine setOK_of (by show (1 : Int) ≤ stkC c d S T; omega) hf.1 hf.2 (pw_dsort ltT_sto _) fun t ht k hk => ?_
  have ht' := mem_dsort.1 ht
  unfold stkT at ht'
  obtain ⟨e, hes, rfl⟩ := List.mem_map.1 ht'
  obtain ⟨i, j, rfl, hi, hj, hq⟩ := stkI_mem hes
  obtain ⟨p0, p2⟩ := allP_mem hi hj hq
  have n0 := numP_lt (prsP_nodup S T) (prsP_mem.2 p0)
  have n2 := numP_lt (prsP_nodup S T) (prsP_mem.2 p2)
  have s1 := hS.side (k := 1) (by omega) hi
  have s3 := hT.side (k := 3) (by omega) hj
  show 0 ≤ sd (stile S T ((i : Int), (j : Int))) k ∧ sd (stile S T ((i : Int), (j : Int))) k < stkC c d S T
  have hk' : k = 0 ∨ k = 1 ∨ k = 2 ∨ k = 3 := by omega
  rcases hk' with rfl | rfl | rfl | rfl
  · show 0 ≤ numP _ _ ∧ numP _ _ < _; omega
  · show 0 ≤ sd (tat S (i : Int)) 1 ∧ sd (tat S (i : Int)) 1 < _; omega
  · show 0 ≤ numP _ _ ∧ numP _ _ < _; omega
  · show 0 ≤ sd (tat T (j : Int)) 3 ∧ sd (tat T (j : Int)) 3 < _; omega
theorem lastT_iff (hT : TS c ts) {i : Nat} (hi : i < ts.length) : lastT c ts i = true ↔ LastP ts ts[i] := by
  constructor
  · intro h
    refine ⟨fun t => ∃ (j : Nat) (hj : j < ts.length), t = ts[j] ∧ lastT c ts j = true, ⟨i, hi, rfl, h⟩, ?_⟩
    rintro a ⟨j, hj, rfl, h2⟩
    obtain ⟨a1, a2⟩ := last_keeps hT (Q := lastT c ts) (fun _ _ h => h) hj h2
    obtain ⟨k, hk, b1⟩ := range_any.1 a1
    obtain ⟨m, hm, b2⟩ := range_any.1 a2
    rw [Bool.and_eq_true, beq_iff_eq, tat_nat hj] at b1 b2
    rw [tat_nat hk] at b1
    rw [tat_nat hm] at b2
    exact ⟨List.getElem_mem hj, ⟨ts[k], ⟨k, hk, rfl, b1.1⟩, b1.2⟩, ⟨ts[m], ⟨m, hm, rfl, b2.1⟩, b2.2⟩⟩
  · intro h
    refine last_top hT (Q := fun j => lastB ts (tat ts (j : Nat))) (fun j hj hq => ?_) hi (by rw [tat_nat hi]; exact lastB_iff.2 h)
    rw [tat_nat hj] at hq
    obtain ⟨⟨b, b1, b2⟩, ⟨e, e1, e2⟩⟩ := (lastB_iff.1 hq).sup
    obtain ⟨k, hk, rfl⟩ := List.getElem_of_mem b1.mem
    obtain ⟨m, hm, rfl⟩ := List.getElem_of_mem e1.mem
    refine ⟨range_any.2 ⟨k, hk, ?_⟩, range_any.2 ⟨m, hm, ?_⟩⟩
    · rw [Bool.and_eq_true, beq_iff_eq, tat_nat hk, tat_nat hj]
      exact ⟨by rw [lastB_iff, tat_nat hk]; exact b1, b2⟩
    · rw [Bool.and_eq_true, beq_iff_eq, tat_nat hm, tat_nat hj]
      exact ⟨by rw [lastB_iff, tat_nat hm]; exact e1, e2⟩
end
section
variable {h0 : H} {s : Sl} {c : Int} {ts : List Tile}
theorem l04Kept_c (r : Rd h0 s 4 (tcs ts)) (hs : setOK c ts) : callA SP i_spec_l04Kept [.agg (SetC c s)] h0 fun cs h' => ∃ u, cs = SetC c u ∧ Ow h' u 4 (tcs (kpL ts)) ∧ Fr h0.length u ∧ Ext h0 h' := by
  have hsl := r.tlen
  have hT := hs.ts
  have h16 := hs.2.1
  apply spec_l04Kept_call
  unfold spec_l04Kept_main
  refine newK_obj fun h1 o1 x1 n1 => ?_
  refine newO_obj fun h2 o2 x2 n2 => ?_
  have p1 := o1.ext x2
  have X := x1.trans x2
  refine p1.ldA rfl ?_
  refine (l02Lasting_c (r.ext X) hT h16).to ?_
  rintro b h3 ⟨ob, fb, x3⟩
  have hbl := ob.blen
  refine newS_ow (by rfl) fun u h4 ou lu uo e4 => ?_
  have x4 : Ext h3 h4 := by rw [e4]; exact Ext.app _ _
  have y4 := x3.trans x4
  have Xl := X.len
  have x3l := x3.len
  refine spec_l04Kept_rule0 _ _ _ _ _ (fun u i g => ∃ z : Nat, i = z ∧ z ≤ ts.length ∧ Ow g u 4 (tcs ((ts.take z).filter (lastB ts))) ∧ Fr h3.length u ∧ Ext h3 g) (fun _ i _ => ((ts.length : Int) - i).toNat) ?_ _ _ ⟨0, rfl, by omega, by simpa [tcs] using ou, fun o e => by rw [uo] at e; cases e; omega, x4⟩
  rintro X0 u _ g ⟨z, rfl, hz, ou, fu, y⟩ hX
  unfold spec_l04Kept_b0
  have YY := X.trans (x3.trans y)
  have pg := p1.ext (x3.trans y)
  refine bif_dec (fun hi => ?_) (fun hi => ?_)
  · have hzl : z < ts.length := by omega
    refine (ob.rd.ext y).ldBl (by omega) (by omega) ?_
    rw [Int.toNat_natCast]
    have htk : (ts.take (z + 1)).filter (lastB ts) = (ts.take z).filter (lastB ts) ++ if lastB ts ts[z] then [ts[z]] else [] := by
      rw [List.take_succ_eq_append_getElem hzl, List.filter_append]
      simp only [List.filter_cons, List.filter_nil]
    have hul := ou.rd.tlen
    have hfl := List.length_filter_le (lastB ts) (ts.take z)
    have htl : (ts.take z).length = z := by rw [List.length_take]; omega
    rw [w64_of (by omega) (by omega)]
    refine bif_b (fun hb => ?_) (fun hb => ?_)
    · have hb3 : lastB ts ts[z] = true := lastB_iff.2 ((lastT_iff hT hzl).1 hb)
      refine isPt_in (pg.ldS rfl rfl ?_)
      refine (r.ext YY).tileG (by omega) (by omega) ⟨rfl, ?_⟩
      rw [tat_nat hzl]
      have hy := y.len
      refine push_tc (t := ts[z]) ou (by unfold lim; omega) fun u' q3 ou3 b3 hu3 l3 => ?_
      refine hX _ _ _ ⟨z + 1, by push_cast; rfl, by omega, ?_, fu.push (h := g) (by omega) hu3, y.but_ b3 fun o e => fu o e⟩ (by omega)
      rw [htk, hb3]
      exact ou3
    · have hb3 : lastB ts ts[z] = false := by
        cases hq : lastB ts ts[z]
        · rfl
        · have := (lastT_iff hT hzl).2 (lastB_iff.1 hq)
          rw [hb] at this; cases this
      refine hX _ _ _ ⟨z + 1, by push_cast; rfl, by omega, ?_, fu, y⟩ (by omega)
      rw [htk, hb3]
      simpa using ou
  · have hzU : z = ts.length := by omega
    rw [hzU, List.take_length] at ou
    unfold spec_l04Kept_C0
    refine isPt_in (pg.ldI rfl rfl ?_)
    have hle := kpL_len ts
    refine (l01Made_c (l := kpL ts) ou.rd (by omega) c).to ?_
    rintro _ h5 ⟨v, rfl, ov, fv, x5⟩
    rw [dsT_self hs.kept.pw] at ov
    have hy := y.len
    refine (((o2.ext (x3.trans y)).ext x5)).stA fun h6 o6 b6 n6 => ?_
    refine o6.ldA rfl ⟨_, rfl, v, rfl, ov.but b6 (.inl fun e => by have := fv _ e.symm; omega), fv.le (by omega), (YY.trans x5).but_ b6 (some_le (by omega))⟩
end
end Go.Proofs.Ytlbglfgienklfaa.Cl

/- PowerOf: the program's and the reference's. No claim is stated here. -/
set_option linter.unusedVariables false
set_option linter.unusedSimpArgs false
namespace Go.Proofs.Ytlbglfgienklfaa.Cl
open Go
noncomputable def pwS (d : Int) (T : List Tile) : Nat → Int → List Tile → Int × Int × List Tile
  | 0, c, U => (0, c, U)
  | n + 1, c, U => if stkE c d U T ≠ 0 then (stkE c d U T, 0, []) else pwS d T n (stkF c d U T).1 (kpL (stkF c d U T).2)
theorem pwS_bad {d : Int} {T : List Tile} {n : Nat} {c : Int} {U : List Tile} (h : stkE c d U T ≠ 0) : pwS d T (n + 1) c U = (stkE c d U T, 0, []) := by rw [pwS, if_pos h]
theorem pwS_ok {d : Int} {T : List Tile} {n : Nat} {c : Int} {U : List Tile} (h : stkE c d U T = 0) : pwS d T (n + 1) c U = pwS d T n (stkF c d U T).1 (kpL (stkF c d U T).2) := by rw [pwS, if_neg (by simpa using h)]
theorem pwS_len {d : Int} {T : List Tile} : ∀ (n : Nat) (c : Int) (U : List Tile), U.length ≤ 16 → (pwS d T n c U).2.2.length ≤ 16
  | 0, c, U, h => h
  | n + 1, c, U, h => by
    by_cases he : stkE c d U T = 0
    · rw [pwS_ok he]
      refine pwS_len n _ _ ?_
      have := (stkE_0 he).2
      have := kpL_len (stkF c d U T).2
      omega
    · rw [pwS_bad he]; simp
open Classical in
noncomputable def powR (c : Int) (ts : List Tile) (n : Int) : Int × Int × List Tile := if setOK c ts ∧ (1 ≤ n ∧ n ≤ 4) then pwS c ts (n - 1).toNat c (kpL ts) else (codeOf (setOK c ts) (1 ≤ n ∧ n ≤ 4), 0, [])
noncomputable def F_PowerOf_0 (c : Int) (ts : List Tile) (n : Int) : Int × List Tile := (powR c ts n).2
noncomputable def F_PowerOf_1 (c : Int) (ts : List Tile) (n : Int) : Int := (powR c ts n).1
theorem powR_ok {c : Int} {ts : List Tile} {n : Int} (h : setOK c ts ∧ (1 ≤ n ∧ n ≤ 4)) : powR c ts n = pwS c ts (n - 1).toNat c (kpL ts) := by unfold powR; rw [if_pos h]
theorem powR_no {c : Int} {ts : List Tile} {n : Int} (h : ¬ (setOK c ts ∧ (1 ≤ n ∧ n ≤ 4))) : powR c ts n = (codeOf (setOK c ts) (1 ≤ n ∧ n ≤ 4), 0, []) := by unfold powR; rw [if_neg h]
theorem PowerOf_small0 {c : Int} {ts : List Tile} {n : Int} : (F_PowerOf_0 c ts n).2.length < 1000000 := by
  unfold F_PowerOf_0
  by_cases h : setOK c ts ∧ (1 ≤ n ∧ n ≤ 4)
  · rw [powR_ok h]
    have h2 := kpL_len ts
    have h3 := h.1.2.1
    have := pwS_len (d := c) (T := ts) (n - 1).toNat c (kpL ts) (by omega)
    omega
  · rw [powR_no h]; simp
/-- What a call of PowerOf brings about. -/
def PwRes (R : Int × Int × List Tile) (h0 : H) (v : AVal) (h' : H) : Prop := ∃ u, v = .tuple [.agg (SetC R.2.1 u), i64 R.1] ∧ Pre h' u 4 (tcs R.2.2) ∧ Fr h0.length u ∧ Ext h0 h'
section
variable {h0 : H} {s : Sl} {c : Int} {ts : List Tile} {n : Int}
theorem PwRes.err {R : Int × Int × List Tile} {g : H} {o : Nat} {cs : List AVal} (p : Obj g o cs) (hcs : cs.length = 2) {k : Int} (hR : R = (k, 0, [])) (hx : h0.length ≤ o) (x : Ext h0 g) :
    stN ⟨some o, 2, 0⟩ 2 [.int .i64 0, .sl Sl.nil] g fun h9 => ldA ⟨some o, 2, 0⟩ 2 h9 fun cs10 => PwRes R h0 (.tuple [.agg cs10, .int .i64 k]) h9 := by
  refine p.stA (fun h6 o6 b6 n6 => ?_) hcs
  refine o6.ldA rfl ⟨Sl.nil, ?_, ?_, Fr.nil _, x.but_ b6 (some_le hx)⟩
  · rw [hR]; rfl
  · rw [hR]; exact Pre.nil _ _
theorem impl_PowerOf_1_c (o : Nat) (n : Int) {h : H} (v : Var h o (i64 n)) : callB SP i_impl_PowerOf_1 [.ptr (pt o)] h fun b h' => (b = true ↔ 1 ≤ n ∧ n ≤ 4) ∧ Ext h h' := by
  apply impl_PowerOf_1_call
  unfold impl_PowerOf_1_main
  refine v.ldI ?_
  exact within_k ⟨_, rfl, by rw [decide_eq_true_eq], Ext.refl _⟩
theorem impl_PowerOf_c (r : Rd h0 s 4 (tcs ts)) (sz : ts.length ≤ 1048576) (bn : i64ok n) :
    callV SP i_impl_PowerOf [.agg (SetC c s), i64 n] h0 (PwRes (powR c ts n) h0) := by
  apply impl_PowerOf_call
  unfold impl_PowerOf_main
  refine newK_obj fun h1 o1 x1 n1 => ?_
  refine newO_var fun h2 v2 x2 n2 => ?_
  refine newO_obj fun h3 o3 x3 n3 => ?_
  have p1 := o1.ext (x2.trans x3)
  have w2 := v2.ext x3
  have X := (x1.trans x2).trans x3
  have hx1 := x1.len
  have hx2 := x2.len
  have hx3 := x3.len
  refine p1.ldA rfl ?_
  refine (setCode_c (r.ext X) (by omega) i_impl_PowerOf_1 _ (1 ≤ n ∧ n ≤ 4) fun hs g hg => impl_PowerOf_1_c _ n (w2.ext hg)).to ?_
  rintro _ h4 ⟨rfl, x4⟩
  have p3 := o3.ext x4
  have X4 := X.trans x4
  refine bif_ne (fun hne => PwRes.err p3 rfl (powR_no fun h => hne (codeOf_yes h.1 h.2)) (by omega) X4) (fun he => ?_)
  have hok := codeOf_zero he
  have hs := hok.1
  have h16 := hs.2.1
  refine slotK_in fun h5 x5 l5 => ?_
  have X5 := X4.trans x5
  have p1 := p1.ext (x4.trans x5)
  have p3 := p3.ext x5
  have w2 := w2.ext (x4.trans x5)
  refine isPt_in (p1.ldI rfl rfl ?_)
  refine isPt_in (p1.ldS rfl rfl ?_)
  refine (kept_c (r.ext X5) (by omega)).to ?_
  rintro u h6 ⟨ou, fu, x6⟩
  have q1 := p1.ext x6
  have X6 := X5.trans x6
  refine ⟨by rw [q1.cellE (n := 2) rfl, p1.cellE (n := 2) rfl], ?_⟩
  have hx4 := x4.len
  have hx5 := x5.len
  have hx6 := x6.len
  refine newOat_obj (by omega) fun h7 o7 b7 l7 => ?_
  have r1 := q1.but b7 (fun e => by have := Option.some.inj e; omega)
  refine ⟨by rw [q1.cellE (n := 2) rfl, p1.cellE (n := 2) rfl], by rw [r1.cellE (n := 2) rfl, p1.cellE (n := 2) rfl], by rw [r1.cellE (n := 2) rfl, p1.cellE (n := 2) rfl], ?_⟩
  refine o7.stA fun h8 o8 b8 l8 => ?_
  have y8 : Ext h4 h8 := ((x5.trans x6).but_ b7 (some_le (by omega))).but_ b8 (some_le (by omega))
  have x38 := x4.trans y8
  have X8 := X4.trans y8
  have w8 := v2.ext (x3.trans x38)
  have p1 := o1.ext (x2.trans (x3.trans x38))
  have p3 := o3.ext x38
  have ou8 := (ou.but b7 (.inl fun e => by have := fu _ e.symm; omega)).but b8 (.inl fun e => by have := fu _ e.symm; omega)
  refine w8.ldI ?_
  rw [w64_of (by omega) (by omega)]
  have hpr := powR_ok hok
  have hy8 := y8.len
  have hh8 : h8.length = h6.length := by omega
  refine impl_PowerOf_rule0 _ _ _ _ _ _ (fun i g => ∃ (z : Nat) (c1 : Int) (U : List Tile) (u : Sl), i = z ∧ (z : Int) ≤ n - 1 ∧ Chg (fun i => i = h4.length + 6) h8 g ∧ Obj g (h4.length + 6) (SetC c1 u) ∧ Ow g u 4 (tcs U) ∧ Fr h5.length u ∧ U.length ≤ 16 ∧ pwS c ts (n - 1 - z).toNat c1 U = powR c ts n) (fun i _ => (n - 1 - i).toNat) ?_ _
    ⟨0, c, kpL ts, u, rfl, by omega, Chg.refl _ _, o8, ou8, fu, by have := kpL_len ts; omega, by rw [hpr, show (n - 1 - ((0 : Nat) : Int)).toNat = (n - 1).toNat by omega]⟩
  rintro X0 _ g ⟨z, c1, U, u1, rfl, hz, ch, og, ou1, fu1, hU, hpw⟩ hX
  have E8 : Ext h4 g := y8.chg_ ch fun i e => by omega
  have hch := ch.1
  have Eg := X4.trans E8
  have E3 := x4.trans E8
  have p1 := o1.ext (x2.trans (x3.trans E3))
  have p3 := o3.ext E3
  unfold impl_PowerOf_b0
  refine bif_dec (fun hi => ?_) (fun hi => ?_)
  · refine og.ldA rfl ?_
    refine p1.ldA rfl ?_
    refine (impl_stack_c (c := c1) (d := c) ou1.rd (r.ext Eg) hU h16).to ?_
    rintro _ g1 ⟨w, rfl, pw, fw, y1⟩
    refine ⟨_, rfl, _, rfl, _, rfl, _, rfl, ?_⟩
    refine newO_obj fun g2 q2 y2 m2 => ?_
    refine q2.stA fun g3 q3 c3 m3 => ?_
    have y3 : Ext g1 g3 := y2.but_ c3 (some_le (Nat.le_refl _))
    have y13 := y1.trans y3
    have hE8 := E8.len
    have hnz : (n - 1 - (z : Int)).toNat = (n - 1 - ((z + 1 : Nat) : Int)).toNat + 1 := by push_cast; omega
    rw [hnz] at hpw
    refine bif_ne (fun hne => PwRes.err (p3.ext y13) rfl (hpw.symm.trans (pwS_bad hne)) (by omega) (Eg.trans y13)) (fun he => ?_)
    rw [pwS_ok he] at hpw
    have h16' := (stkE_0 he).2
    refine isPt_in (q3.ldI rfl rfl ?_)
    refine isPt_in (q3.ldS rfl rfl ?_)
    refine (kept_c (pw.ext y3).rd (by omega)).to ?_
    rintro k g4 ⟨ok, fk, y4⟩
    have q4 := q3.ext y4
    refine ⟨(q4.cellE (n := 2) rfl).trans (q3.cellE (n := 2) rfl).symm, ?_⟩
    have y14 := y13.trans y4
    have hy14 := y14.len
    have hy13 := y13.len
    have hog := og.lt
    refine (og.ext y14).stA fun g5 q5 c5 m5 => ?_
    rw [w64_of (by omega) (by omega)]
    refine hX _ _ ⟨z + 1, _, _, k, by push_cast; rfl, by push_cast; omega, ch.trans ((y14.chg _).trans (c5.chg fun i e => (Option.some.inj e).symm)), q5, ok.but c5 (.inl fun e => by have := fk _ e.symm; omega), fk.le (by omega), by have := kpL_len (stkF c1 c U ts).2; omega, hpw⟩ (by omega)
  · unfold impl_PowerOf_C0
    refine og.ldA rfl ?_
    refine p3.stA fun g5 q5 c5 m5 => ?_
    have hz1 : (n - 1 - (z : Int)).toNat = 0 := by omega
    rw [hz1, pwS] at hpw
    refine q5.ldA rfl ⟨u1, by rw [← hpw], ?_, fu1.le (by have := X5.len; omega), Eg.but_ c5 (some_le (by omega))⟩
    rw [← hpw]
    exact ou1.pre.but c5 fun i ei e => by have := fu1 _ ei; have := Option.some.inj e; omega
theorem spec_PowerOf_c (r : Rd h0 s 4 (tcs ts)) (sz : ts.length ≤ 1048576) (bn : i64ok n) :
    callV SP i_spec_PowerOf [.agg (SetC c s), i64 n] h0 (PwRes (powR c ts n) h0) := by
  apply spec_PowerOf_call
  unfold spec_PowerOf_main
  refine newK_obj fun h1 o1 x1 n1 => ?_
  refine newO_obj fun h2 o2 x2 n2 => ?_
  have p1 := o1.ext x2
  have X := x1.trans x2
  have hx1 := x1.len
  have hx2 := x2.len
  refine p1.ldA rfl ?_
  refine (l01Is_c (c := c) (r.ext X)).to ?_
  rintro b h3 ⟨hb, x3⟩
  have X3 := X.trans x3
  have p2 := o2.ext x3
  refine bif_not (fun hq => PwRes.err p2 rfl ?_ (by omega) X3) (fun hq => ?_)
  · have hn : ¬ setOK c ts := fun h => by rw [hb.2 h] at hq; cases hq
    rw [powR_no fun h => hn h.1, codeOf_no hn]
  have hs := hb.1 hq
  have h16 := hs.2.1
  refine l01In_k ?_
  refine bif_not (fun hq2 => PwRes.err p2 rfl ?_ (by omega) X3) (fun hq2 => ?_)
  · have hn := of_decide_eq_false hq2
    rw [powR_no fun h => hn h.2, codeOf_range hs hn]
  have hok : setOK c ts ∧ (1 ≤ n ∧ n ≤ 4) := ⟨hs, of_decide_eq_true hq2⟩
  have hpr := powR_ok hok
  have p1 := p1.ext x3
  refine p1.ldA rfl ?_
  refine (l04Kept_c (r.ext X3) hs).to ?_
  rintro _ h4 ⟨u, rfl, ou, fu, x4⟩
  have X4 := X3.trans x4
  refine newO_obj fun h5 o5 x5 n5 => ?_
  refine o5.stA fun h6 o6 b6 n6 => ?_
  have x6 : Ext h4 h6 := x5.but_ b6 (some_le (Nat.le_refl _))
  have x46 := x4.trans x6
  have hx3 := x3.len
  have hx4 := x4.len
  refine spec_PowerOf_rule1 _ _ _ _ _ _ (fun i g => ∃ (z : Nat) (c1 : Int) (U : List Tile) (u : Sl), i = z + 1 ∧ (z : Int) ≤ n - 1 ∧ Chg (fun i => i = h4.length) h6 g ∧ Obj g h4.length (SetC c1 u) ∧ Ow g u 4 (tcs U) ∧ Fr h3.length u ∧ (∀ o, u.o = some o → o ≠ h4.length) ∧ setOK c1 U ∧ pwS c ts (n - 1 - z).toNat c1 U = powR c ts n) (fun i _ => (n - i).toNat) ?_ _
    ⟨0, c, kpL ts, u, rfl, by omega, Chg.refl _ _, o6, ou.ext x6, fu, fun o e => by have := ou.lt e; omega, hs.kept, by rw [hpr, show (n - 1 - ((0 : Nat) : Int)).toNat = (n - 1).toNat by omega]⟩
  rintro X1 _ g ⟨z, c1, U, u1, rfl, hz, ch, og, ou1, fu1, fo1, hU, hpw⟩ hX
  have E4 : Ext h4 g := x6.chg_ ch fun i e => by omega
  have E3 := x4.trans E4
  have Eg := X3.trans E3
  have p1 := p1.ext E3
  have p2 := p2.ext E3
  unfold spec_PowerOf_b1
  refine bif_dec (fun hi => ?_) (fun hi => ?_)
  · refine og.ldA rfl ?_
    refine p1.ldA rfl ?_
    refine (l04Made_c (c := c1) (d := c) ou1.rd (r.ext Eg) hU hs).to ?_
    rintro _ g1 ⟨w, rfl, pw, fw, y1⟩
    refine ⟨_, rfl, _, rfl, _, rfl, _, rfl, ?_⟩
    refine newO_obj fun g2 q2 y2 m2 => ?_
    refine q2.stA fun g3 q3 c3 m3 => ?_
    have y3 : Ext g1 g3 := y2.but_ c3 (some_le (Nat.le_refl _))
    have y13 := y1.trans y3
    have hE3 := E3.len
    have hnz : (n - 1 - (z : Int)).toNat = (n - 1 - ((z + 1 : Nat) : Int)).toNat + 1 := by push_cast; omega
    rw [hnz] at hpw
    refine bif_ne (fun hne => PwRes.err (p2.ext y13) rfl (hpw.symm.trans (pwS_bad hne)) (by omega) (Eg.trans y13)) (fun he => ?_)
    rw [pwS_ok he] at hpw
    have hok2 := stk_ok hU hs he
    refine q3.ldA rfl ?_
    refine (l04Kept_c (pw.ext y3).rd hok2).to ?_
    rintro _ g4 ⟨k, rfl, ok, fk, y4⟩
    have y14 := y13.trans y4
    have hy14 := y14.len
    have hy13 := y13.len
    have hog := og.lt
    refine (og.ext y14).stA fun g5 q5 c5 m5 => ?_
    rw [w64_of (by omega) (by omega)]
    refine hX _ _ ⟨z + 1, _, _, k, by push_cast; rfl, by push_cast; omega, ch.trans ((y14.chg _).trans (c5.chg fun i e => (Option.some.inj e).symm)), q5, ok.but c5 (.inl fun e => by have := fk _ e.symm; omega), fk.le (by omega), fun o e => by have := fk _ e; omega, hok2.kept, hpw⟩ (by omega)
  · unfold spec_PowerOf_C1
    refine og.ldA rfl ?_
    refine p2.stA fun g5 q5 c5 m5 => ?_
    have hz1 : (n - 1 - (z : Int)).toNat = 0 := by omega
    rw [hz1, pwS] at hpw
    refine q5.ldA rfl ⟨u1, by rw [← hpw], ?_, fu1.le (by have := X3.len; omega), Eg.but_ c5 (some_le (by omega))⟩
    rw [← hpw]
    exact ou1.pre.but c5 fun i ei e => by have := fu1 _ ei; have := Option.some.inj e; omega
end
end Go.Proofs.Ytlbglfgienklfaa.Cl

/- FailingHeight: the program's. No claim is stated here. -/
set_option linter.unusedVariables false
set_option linter.unusedSimpArgs false
namespace Go.Proofs.Ytlbglfgienklfaa.Cl
open Go
open Classical in
noncomputable def fhS (T : List Tile) : Nat → Int → List Tile → Int × Int
  | 0, _, _ => (0, 4)
  | n + 1, k, U => if 1 < k then (if 3000 < (stkI U T U.length).length then (0, 3) else if kpL (dsT (stkT U T)) = [] then (k, 0) else fhS T n (k + 1) (kpL (dsT (stkT U T)))) else if U = [] then (k, 0) else fhS T n (k + 1) U
section
variable {T U : List Tile} {n : Nat} {k : Int}
theorem fhS_many (h : 1 < k) (h2 : 3000 < (stkI U T U.length).length) : fhS T (n + 1) k U = (0, 3) := by rw [fhS, if_pos h, if_pos h2]
theorem fhS_end (h : 1 < k) (h2 : ¬ 3000 < (stkI U T U.length).length) (h3 : kpL (dsT (stkT U T)) = []) : fhS T (n + 1) k U = (k, 0) := by rw [fhS, if_pos h, if_neg h2, if_pos h3]
theorem fhS_on (h : 1 < k) (h2 : ¬ 3000 < (stkI U T U.length).length) (h3 : ¬ kpL (dsT (stkT U T)) = []) : fhS T (n + 1) k U = fhS T n (k + 1) (kpL (dsT (stkT U T))) := by rw [fhS, if_pos h, if_neg h2, if_neg h3]
theorem fhS_end1 (h : ¬ 1 < k) (h2 : U = []) : fhS T (n + 1) k U = (k, 0) := by rw [fhS, if_neg h, if_pos h2]
theorem fhS_on1 (h : ¬ 1 < k) (h2 : ¬ U = []) : fhS T (n + 1) k U = fhS T n (k + 1) U := by rw [fhS, if_neg h, if_neg h2]
end
open Classical in
noncomputable def failR (c : Int) (ts : List Tile) (n : Int) : Int × Int := if setOK c ts ∧ (1 ≤ n ∧ n ≤ 6) then fhS ts n.toNat 1 (kpL ts) else (0, codeOf (setOK c ts) (1 ≤ n ∧ n ≤ 6))
theorem failR_ok {c : Int} {ts : List Tile} {n : Int} (h : setOK c ts ∧ (1 ≤ n ∧ n ≤ 6)) : failR c ts n = fhS ts n.toNat 1 (kpL ts) := by unfold failR; rw [if_pos h]
theorem failR_no {c : Int} {ts : List Tile} {n : Int} (h : ¬ (setOK c ts ∧ (1 ≤ n ∧ n ≤ 6))) : failR c ts n = (0, codeOf (setOK c ts) (1 ≤ n ∧ n ≤ 6)) := by unfold failR; rw [if_neg h]
noncomputable def F_FailingHeight_0 (c : Int) (ts : List Tile) (n : Int) : Int := (failR c ts n).1
noncomputable def F_FailingHeight_1 (c : Int) (ts : List Tile) (n : Int) : Int := (failR c ts n).2
def FhRes (R : Int × Int) (h0 : H) (v : AVal) (h' : H) : Prop := v = .tuple [i64 R.1, i64 R.2] ∧ Ext h0 h'
theorem FhRes.of {R : Int × Int} {a b : Int} {h0 h' : H} (hR : R = (a, b)) (x : Ext h0 h') : FhRes R h0 (.tuple [.int .i64 a, .int .i64 b]) h' := ⟨by rw [hR], x⟩
section
variable {h0 : H} {s : Sl} {c : Int} {ts U : List Tile} {n : Int}
theorem impl_FailingHeight_1_c (o : Nat) (n : Int) {h : H} (v : Var h o (i64 n)) : callB SP i_impl_FailingHeight_1 [.ptr (pt o)] h fun b h' => (b = true ↔ 1 ≤ n ∧ n ≤ 6) ∧ Ext h h' := by
  apply impl_FailingHeight_1_call
  unfold impl_FailingHeight_1_main
  refine v.ldI ?_
  exact within_k ⟨_, rfl, by rw [decide_eq_true_eq], Ext.refl _⟩
theorem compactSorted_c (r : Rd h0 s 4 (tcs U)) (hl : U.length ≤ 1000000) {K : Sl → H → Prop} (hk : ∀ u h', Rd h' u 4 (tcs (dsT U)) → Ext h0 h' → K u h') :
    callV SP i_slices_Values_s_impl_Tile_impl_Tile_ [.sl s] h0 fun v12 h11 => callS SP i_slices_SortedFunc_impl_Tile_ [v12, .func i_impl_compare []] h11 fun s14 h13 => callS SP i_slices_Compact_s_impl_Tile_impl_Tile_ [.sl s14] h13 fun s16 h15 => K s16 h15 := by
  have hv : callV SP i_slices_Values_s_impl_Tile_impl_Tile_ [.sl s] h0 fun v h' => v = .func i_slices_Values_s_impl_Tile_impl_Tile__1 [.ptr (pt h0.length)] ∧ Var h' h0.length (.sl s) ∧ Ext h0 h' := by
    apply slices_Values_s_impl_Tile_impl_Tile__call
    unfold slices_Values_s_impl_Tile_impl_Tile__main
    exact newO_var fun h2 v2 x2 n2 => ⟨rfl, v2, x2⟩
  refine hv.to ?_
  rintro _ h2 ⟨rfl, v2, x2⟩
  refine (sortedFunc_c v2 (r.ext x2) hl).to ?_
  rintro u h3 ⟨l', o3, hp, hs, f3, x3⟩
  have hll := hp.length_eq
  refine (Compact_c o3 (by omega)).to ?_
  rintro w h4 ⟨rw4, b4, hw, ln4⟩
  rw [dsT_of hp hs] at rw4
  exact hk w h4 rw4.rd ((x2.trans x3).but_ b4 fun o e => by have := f3 o e; have := x2.len; omega)
theorem impl_FailingHeight_c (r : Rd h0 s 4 (tcs ts)) (sz : ts.length ≤ 1048576) (bn : i64ok n) :
    callV SP i_impl_FailingHeight [.agg (SetC c s), i64 n] h0 (FhRes (failR c ts n) h0) := by
  apply impl_FailingHeight_call
  unfold impl_FailingHeight_main
  refine newK_obj fun h1 o1 x1 n1 => ?_
  refine newO_var fun h2 v2 x2 n2 => ?_
  have p1 := o1.ext x2
  have X := x1.trans x2
  refine p1.ldA rfl ?_
  refine (setCode_c (r.ext X) (by omega) i_impl_FailingHeight_1 _ (1 ≤ n ∧ n ≤ 6) fun hs g hg => impl_FailingHeight_1_c _ n (v2.ext hg)).to ?_
  rintro _ h4 ⟨rfl, x4⟩
  have X4 := X.trans x4
  refine bif_ne (fun hne => FhRes.of (failR_no fun h => hne (codeOf_yes h.1 h.2)) X4) (fun he => ?_)
  have hok := codeOf_zero he
  have hs := hok.1
  have h16 := hs.2.1
  have hpr := failR_ok hok
  have p1 := p1.ext x4
  refine isPt_in (p1.ldS rfl rfl ?_)
  refine (kept_c (r.ext X4) (by omega)).to ?_
  rintro u h5 ⟨ou, fu, x5⟩
  have hkl := kpL_len ts
  refine impl_FailingHeight_rule0 _ _ _ _ (fun s7 i g => ∃ (z : Nat) (U : List Tile), i = z + 1 ∧ (z : Int) ≤ n ∧ Rd g s7 4 (tcs U) ∧ U.length ≤ 3000 ∧ Ext h4 g ∧ fhS ts (n - z).toNat (z + 1) U = failR c ts n) (fun _ i _ => (n + 1 - i).toNat) ?_ _ _
    ⟨0, kpL ts, rfl, by omega, ou.rd, by omega, x5, by rw [hpr, show (n - ((0 : Nat) : Int)).toNat = n.toNat by omega, show ((0 : Nat) : Int) + 1 = 1 by omega]⟩
  rintro X0 s7 _ g ⟨z, U, rfl, hz, r7, hU, y, hfh⟩ hX
  unfold impl_FailingHeight_b0
  have Eg := X4.trans y
  have vg := v2.ext (x4.trans y)
  have pg := p1.ext y
  have hsl := r7.tlen
  refine vg.ldI ?_
  refine bif_dec (fun hi => ?_) (fun hi => ?_)
  rotate_left
  · unfold impl_FailingHeight_C0
    rw [show (n - (z : Int)).toNat = 0 by omega, fhS] at hfh
    exact FhRes.of hfh.symm Eg
  rw [show (n - (z : Int)).toNat = (n - ((z + 1 : Nat) : Int)).toNat + 1 by push_cast; omega] at hfh
  have hst : w64 ((z : Int) + 1 + 1) = ((z + 1 : Nat) : Int) + 1 := by rw [w64_of (by omega) (by omega)]; push_cast; rfl
  have hcz : ((z : Int) + 1 + 1) = ((z + 1 : Nat) : Int) + 1 := by push_cast; rfl
  refine bif_dec (fun hk => ?_) (fun hk => ?_)
  · refine isPt_in (pg.ldS rfl rfl ?_)
    refine (stacked_c r7 (r.ext Eg) (by omega) h16).to ?_
    rintro q g1 ⟨oq, _, y1⟩
    have hql := oq.rd.plen
    have y01 := y.trans y1
    refine bif_dec (fun hm => FhRes.of (by rw [← hfh]; exact fhS_many hk (by omega)) (Eg.trans y1)) (fun hm => ?_)
    refine isPt_in ((pg.ext y1).ldS rfl rfl ?_)
    refine (stackTiles_c (r7.ext y1) (r.ext (Eg.trans y1)) (by omega) h16).to ?_
    rintro _ g2 ⟨w, rfl, ow, _, y2⟩
    refine ⟨_, rfl, _, rfl, _, rfl, _, rfl, ?_⟩
    have hsl2 : (stkT U ts).length ≤ 3000 := by unfold stkT; rw [List.length_map]; omega
    have hdl := dsT_len (stkT U ts)
    refine compactSorted_c ow.rd (by omega) fun w2 g3 r3 y3 => ?_
    refine (kept_c r3 (by omega)).to ?_
    rintro k g4 ⟨ok, fk, y4⟩
    have y14 := y1.trans (y2.trans (y3.trans y4))
    have hkl2 := ok.rd.tlen
    have hkk := kpL_len (dsT (stkT U ts))
    refine bif_eq (fun he => FhRes.of (by rw [← hfh]; exact fhS_end hk (by omega) (List.length_eq_zero_iff.1 (by omega))) (Eg.trans y14)) (fun hne => ?_)
    rw [hst]
    rw [fhS_on hk (by omega) (fun e => by rw [e] at hkl2; exact hne (by rw [hkl2]; rfl))] at hfh
    refine hX _ _ _ ⟨z + 1, _, rfl, by omega, ok.rd, by omega, y.trans y14, by rw [← hcz]; exact hfh⟩ (by omega)
  · refine bif_eq (fun he => FhRes.of (by rw [← hfh]; exact fhS_end1 hk (List.length_eq_zero_iff.1 (by omega))) Eg) (fun hne => ?_)
    rw [hst]
    rw [fhS_on1 hk (fun e => by rw [e] at hsl; exact hne (by rw [hsl]; rfl))] at hfh
    refine hX _ _ _ ⟨z + 1, _, rfl, by omega, r7, hU, y, by rw [← hcz]; exact hfh⟩ (by omega)
end
end Go.Proofs.Ytlbglfgienklfaa.Cl

/- Sets changed tile by tile; FailingWidth: the program's. No claim is stated here. -/
set_option linter.unusedVariables false
set_option linter.unusedSimpArgs false
namespace Go.Proofs.Ytlbglfgienklfaa.Cl
open Go
section
variable {h0 : H} {s : Sl} {c : Int} {ts : List Tile} {n : Int}
open Classical in
noncomputable def chR (φ : Tile → Tile) (c : Int) (ts : List Tile) : Int × Int × List Tile := if setOK c ts then (0, c, dsT (ts.map φ)) else (1, 0, [])
theorem chR_ok {φ : Tile → Tile} (h : setOK c ts) : chR φ c ts = (0, c, dsT (ts.map φ)) := by unfold chR; rw [if_pos h]
theorem chR_no {φ : Tile → Tile} (h : ¬ setOK c ts) : chR φ c ts = (1, 0, []) := by unfold chR; rw [if_neg h]
theorem fits_map {φ : Tile → Tile} (h : setOK c ts) : fitS c (ts.map φ) := by
  refine ⟨h.1.2, ?_⟩
  have h1 := dsT_len (ts.map φ)
  have h2 := h.2.1
  rw [List.length_map] at h1
  omega
theorem changed_c (r : Rd h0 s 4 (tcs ts)) (sz : ts.length ≤ 1048576) (g : Nat) (cap : List AVal) (φ : Tile → Tile)
    (hg : ∀ t h, Ext h0 h → callA SP g (.agg (tc t) :: cap) h fun cs h' => cs = tc (φ t) ∧ Ext h h') :
    callV SP i_impl_changed [.agg (SetC c s), .func g cap] h0 (PwRes (chR φ c ts) h0) := by
  have hsl := r.tlen
  apply impl_changed_call
  unfold impl_changed_main
  refine newK_obj fun h1 o1 x1 n1 => ?_
  refine newO_obj fun h2 o2 x2 n2 => ?_
  have p1 := o1.ext x2
  have X := x1.trans x2
  have hx1 := x1.len
  have hx2 := x2.len
  refine p1.ldA rfl ?_
  refine (IsSet_c (c := c) (r.ext X) (by omega)).to ?_
  rintro b h3 ⟨hb, x3⟩
  have X3 := X.trans x3
  refine bif_not (fun hq => PwRes.err (o2.ext x3) rfl (chR_no fun h => by rw [hb.2 h] at hq; cases hq) (by omega) X3) (fun hq => ?_)
  have hs := hb.1 hq
  have h16 := hs.2.1
  refine newS_ow (by rfl) fun u h4 ou lu uo e4 => ?_
  have x4 : Ext h3 h4 := by rw [e4]; exact Ext.app _ _
  refine isPt_in ((p1.ext (x3.trans x4)).ldS rfl rfl ?_)
  refine impl_changed_rule0 _ _ _ _ _ _ _ (fun u i q => ∃ z : Nat, i = z ∧ z ≤ ts.length ∧ Ow q u 4 (tcs ((ts.take z).map φ)) ∧ Fr h3.length u ∧ Ext h3 q) (fun _ i _ => ((ts.length : Int) - i).toNat) ?_ _ _ ⟨0, rfl, by omega, by simpa [tcs] using ou, fun o e => by rw [uo] at e; cases e; omega, x4⟩
  rintro X0 u _ q ⟨z, rfl, hz, ou, fu, y⟩ hX
  have Y := X3.trans y
  unfold impl_changed_b0
  refine bif_dec (fun hi => ?_) (fun hi => ?_)
  · have hzl : z < ts.length := by omega
    refine (r.ext Y).tileG (by omega) (by omega) ?_
    rw [tat_nat hzl]
    refine newO_obj fun q1 p1 v1 l1 => ?_
    refine p1.stA fun q2 p2 d2 l2 => ?_
    have v2 : Ext q q2 := v1.but_ d2 (some_le (Nat.le_refl _))
    refine p2.ldA rfl ?_
    refine via_func ?_
    refine (hg _ q2 (Y.trans v2)).to ?_
    rintro _ q3 ⟨rfl, v3⟩
    refine ⟨rfl, ?_⟩
    have v23 := v2.trans v3
    have hul := ou.rd.tlen
    rw [List.length_map, List.length_take] at hul
    refine push_tc (t := φ ts[z]) (ou.ext v23) (by rw [List.length_map, List.length_take]; unfold lim; omega) fun u' q4 ou4 b4 hu4 l4 => ?_
    rw [w64_of (by omega) (by omega)]
    have hy := y.len
    have hv := v23.len
    refine hX _ _ _ ⟨z + 1, by push_cast; rfl, by omega, ?_, fu.push (h := q3) (by omega) hu4, (y.trans v23).but_ b4 fun o e => fu o e⟩ (by omega)
    rw [List.take_succ_eq_append_getElem hzl, List.map_append]
    exact ou4
  · have hzU : z = ts.length := by omega
    rw [hzU, List.take_length] at ou
    unfold impl_changed_C0
    have q1 := p1.ext (x3.trans y)
    have q2 := o2.ext (x3.trans y)
    refine isPt_in (q1.ldI rfl rfl ?_)
    refine (limited_c (c := c) ou.rd (by rw [List.length_map]; omega)).to ?_
    rintro _ g1 ⟨w, rfl, hw, y1⟩
    refine ⟨_, rfl, _, rfl, _, rfl, _, rfl, ?_⟩
    have hf : fitS c (ts.map φ) := fits_map hs
    obtain ⟨pw, fw⟩ := hw hf
    simp only [if_pos hf]
    have hY := Y.len
    have hy := y.len
    have hx3 := x3.len
    refine (q2.ext y1).stA fun g2 p2 c2 m2 => ?_
    refine p2.ldA rfl ⟨w, by rw [chR_ok hs]; rfl, ?_, fw.le (by omega), (Y.trans y1).but_ c2 (some_le (by omega))⟩
    rw [chR_ok hs]
    exact pw.but c2 fun i ei e => by have := fw _ ei; have := Option.some.inj e; omega
theorem sides_k (t : Tile) {a b d e : Nat} (ha : a < 4) (hb : b < 4) (hd : d < 4) (he : e < 4) {h : H} : callA SP i_impl_Tile_sides [.agg (tc t), i64 a, i64 b, i64 d, i64 e] h fun r h' => r = tc (sd t a, sd t b, sd t d, sd t e) ∧ Ext h h' := by
  apply impl_Tile_sides_call
  unfold impl_Tile_sides_main
  refine newK_obj fun h1 o1 x1 n1 => ?_
  refine newO_obj fun h2 o2 x2 n2 => ?_
  have p1 := o1.ext x2
  refine p1.sdI (by omega) (by omega) ?_
  refine p1.sdI (by omega) (by omega) ?_
  refine p1.sdI (by omega) (by omega) ?_
  refine p1.sdI (by omega) (by omega) ?_
  simp only [Int.toNat_natCast]
  refine o2.stA fun h3 o3 b3 n3 => ?_
  refine o3.ldA rfl ⟨_, rfl, rfl, (x1.trans x2).but_ b3 (some_le (by have := x1.len; omega))⟩
def trn (t : Tile) : Tile := (t.2.1, t.1, t.2.2.2, t.2.2.1)
theorem transposed1_c (t : Tile) (h : H) : callA SP i_impl_TransposedSet_1 [.agg (tc t)] h fun cs h' => cs = tc (trn t) ∧ Ext h h' := by
  apply impl_TransposedSet_1_call
  unfold impl_TransposedSet_1_main
  refine newK_obj fun h1 o1 x1 n1 => ?_
  refine newO_obj fun h2 o2 x2 n2 => ?_
  refine (o1.ext x2).ldA rfl ?_
  refine (sides_k t (a := 1) (b := 0) (d := 3) (e := 2) (by omega) (by omega) (by omega) (by omega)).to ?_
  rintro _ h3 ⟨rfl, x3⟩
  refine (o2.ext x3).stA fun h4 o4 b4 n4 => ?_
  refine o4.ldA rfl ⟨_, rfl, rfl, ((x1.trans x2).trans x3).but_ b4 (some_le (by have := x1.len; omega))⟩
theorem impl_TransposedSet_c (r : Rd h0 s 4 (tcs ts)) (sz : ts.length ≤ 1048576) : callV SP i_impl_TransposedSet [.agg (SetC c s)] h0 (PwRes (chR trn c ts) h0) := by
  apply impl_TransposedSet_call
  unfold impl_TransposedSet_main
  refine newK_obj fun h1 o1 x1 n1 => ?_
  refine newO_obj fun h2 o2 x2 n2 => ?_
  have X := x1.trans x2
  have hx1 := x1.len
  refine (o1.ext x2).ldA rfl ?_
  refine (changed_c (c := c) (r.ext X) sz i_impl_TransposedSet_1 [] trn fun t h _ => transposed1_c t h).to ?_
  rintro _ h3 ⟨u, rfl, pu, fu, x3⟩
  refine ⟨_, rfl, _, rfl, _, rfl, _, rfl, ?_⟩
  have hX := X.len
  refine (o2.ext x3).stA fun h4 o4 b4 n4 => ?_
  refine o4.ldA rfl ⟨u, rfl, pu.but b4 fun i ei e => by have := fu _ ei; have := Option.some.inj e; omega, fu.le (by omega), (X.trans x3).but_ b4 (some_le (by omega))⟩
theorem setOK.img {φ : Tile → Tile} (h : setOK c ts) (hφ : ∀ t k, k < 4 → ∃ j, j < 4 ∧ sd (φ t) k = sd t j) : setOK c (dsT (ts.map φ)) := by
  have hf := fits_map (φ := φ) h
  refine setOK_of h.1.1 h.1.2 hf.2 (pw_dsort ltT_sto _) fun t ht k hk => ?_
  obtain ⟨a, ha, rfl⟩ := List.mem_map.1 (mem_dsort.1 ht)
  obtain ⟨j, hj, e⟩ := hφ a k hk
  rw [e]
  exact h.ts.2 a ha j hj
theorem trn_sides (t : Tile) (k : Nat) (hk : k < 4) : ∃ j, j < 4 ∧ sd (trn t) k = sd t j := by
  have hk' : k = 0 ∨ k = 1 ∨ k = 2 ∨ k = 3 := by omega
  rcases hk' with rfl | rfl | rfl | rfl
  · exact ⟨1, by omega, rfl⟩
  · exact ⟨0, by omega, rfl⟩
  · exact ⟨3, by omega, rfl⟩
  · exact ⟨2, by omega, rfl⟩
noncomputable def trT (ts : List Tile) : List Tile := dsT (ts.map trn)
open Classical in
noncomputable def failW (c : Int) (ts : List Tile) (n : Int) : Int × Int := if setOK c ts ∧ (1 ≤ n ∧ n ≤ 6) then fhS (trT ts) n.toNat 1 (kpL (trT ts)) else (0, codeOf (setOK c ts) (1 ≤ n ∧ n ≤ 6))
theorem failW_ok (h : setOK c ts ∧ (1 ≤ n ∧ n ≤ 6)) : failW c ts n = fhS (trT ts) n.toNat 1 (kpL (trT ts)) := by unfold failW; rw [if_pos h]
theorem failW_no (h : ¬ (setOK c ts ∧ (1 ≤ n ∧ n ≤ 6))) : failW c ts n = (0, codeOf (setOK c ts) (1 ≤ n ∧ n ≤ 6)) := by unfold failW; rw [if_neg h]
theorem failW_eq (h : setOK c ts) : failW c ts n = failR c (trT ts) n := by
  have h2 : setOK c (trT ts) := h.img trn_sides
  by_cases hn : 1 ≤ n ∧ n ≤ 6
  · rw [failW_ok ⟨h, hn⟩, failR_ok ⟨h2, hn⟩]
  · rw [failW_no fun q => hn q.2, failR_no fun q => hn q.2, codeOf_range h hn, codeOf_range h2 hn]
noncomputable def F_FailingWidth_0 (c : Int) (ts : List Tile) (n : Int) : Int := (failW c ts n).1
noncomputable def F_FailingWidth_1 (c : Int) (ts : List Tile) (n : Int) : Int := (failW c ts n).2
theorem impl_FailingWidth_c (r : Rd h0 s 4 (tcs ts)) (sz : ts.length ≤ 1048576) (bn : i64ok n) :
    callV SP i_impl_FailingWidth [.agg (SetC c s), i64 n] h0 (FhRes (failW c ts n) h0) := by
  apply impl_FailingWidth_call
  unfold impl_FailingWidth_main
  refine newK_obj fun h1 o1 x1 n1 => ?_
  refine o1.ldA rfl ?_
  refine (impl_TransposedSet_c (c := c) (r.ext x1) sz).to ?_
  rintro _ h2 ⟨u, rfl, pu, fu, x2⟩
  refine ⟨_, rfl, _, rfl, _, rfl, _, rfl, ?_⟩
  refine newO_obj fun h3 o3 x3 n3 => ?_
  refine o3.stA fun h4 o4 b4 n4 => ?_
  have x4 : Ext h2 h4 := x3.but_ b4 (some_le (Nat.le_refl _))
  have X4 := (x1.trans x2).trans x4
  by_cases hs : setOK c ts
  · rw [chR_ok hs] at pu o4 ⊢
    refine bif_ne (fun hne => absurd rfl hne) (fun _ => ?_)
    refine o4.ldA rfl ?_
    have hl := fits_map (φ := trn) hs
    have hl2 : (dsT (ts.map trn)).length ≤ 16 := hl.2
    refine (impl_FailingHeight_c (c := c) (n := n) (pu.ext x4).rd (show (dsT (ts.map trn)).length ≤ 1048576 by omega) bn).to ?_
    rintro _ h5 ⟨rfl, x5⟩
    refine ⟨_, rfl, _, rfl, _, rfl, _, rfl, ?_⟩
    exact ⟨by rw [failW_eq hs]; rfl, X4.trans x5⟩
  · rw [chR_no hs]
    refine bif_ne (fun hne => FhRes.of (by rw [failW_no fun q => hs q.1, codeOf_no hs]) X4) (fun he => by cases he)
end
end Go.Proofs.Ytlbglfgienklfaa.Cl

/- The reference's sets without limits: lists of lists of four numbers; l04Open, l04Keep. No claim is stated here. -/
set_option linter.unusedVariables false
set_option linter.unusedSimpArgs false
namespace Go.Proofs.Ytlbglfgienklfaa.Cl
open Go
/-- A list of lists of four numbers, each list a tile; all objects are in P. -/
def WR (P : Nat → Prop) (h : H) (s : Sl) (U : List Tile) : Prop :=
  ∃ vs : List Sl, vs.length = U.length ∧ Rd h s 1 (vs.map .sl) ∧ (∀ o, s.o = some o → P o) ∧ ∀ (i : Nat) v t, vs[i]? = some v → U[i]? = some t → Rd h v 1 (ic (tl t)) ∧ ∀ o, v.o = some o → P o
/-- The same, as it grows: the list's object is p. -/
def WO (P : Nat → Prop) (h : H) (p : Nat) (s : Sl) (U : List Tile) : Prop :=
  ∃ vs : List Sl, vs.length = U.length ∧ Ow h s 1 (vs.map .sl) ∧ s.o = some p ∧ ∀ (i : Nat) v t, vs[i]? = some v → U[i]? = some t → Rd h v 1 (ic (tl t)) ∧ ∀ o, v.o = some o → P o
section
variable {P P' Q : Nat → Prop} {h h' : H} {s v : Sl} {U : List Tile} {t : Tile} {p : Nat}
theorem WR.len (r : WR P h s U) : s.len = U.length := by
  obtain ⟨vs, h1, h2, _⟩ := r
  have := h2.len
  simp at this
  omega
theorem WR.to (r : WR P h s U) (hP : ∀ o, P o → P' o) : WR P' h s U := by
  obtain ⟨vs, h1, h2, h3, h4⟩ := r
  exact ⟨vs, h1, h2, fun o e => hP o (h3 o e), fun i v t a b => ⟨(h4 i v t a b).1, fun o e => hP o ((h4 i v t a b).2 o e)⟩⟩
theorem WR.ext (r : WR P h s U) (x : Ext h h') : WR P h' s U := by
  obtain ⟨vs, h1, h2, h3, h4⟩ := r
  exact ⟨vs, h1, h2.ext x, h3, fun i v t a b => ⟨(h4 i v t a b).1.ext x, (h4 i v t a b).2⟩⟩
theorem WR.chg (r : WR P h s U) (c : Chg Q h h') (hP : ∀ o, P o → ¬ Q o) : WR P h' s U := by
  obtain ⟨vs, h1, h2, h3, h4⟩ := r
  exact ⟨vs, h1, h2.chg c fun o e => hP o (h3 o e), h3, fun i v t a b => ⟨(h4 i v t a b).1.chg c fun o e => hP o ((h4 i v t a b).2 o e), (h4 i v t a b).2⟩⟩
theorem WO.rd (r : WO P h p s U) (hp : P p) : WR P h s U := by
  obtain ⟨vs, h1, h2, h3, h4⟩ := r
  exact ⟨vs, h1, h2.rd, fun o e => by rw [h3] at e; cases e; exact hp, h4⟩
theorem WO.to (r : WO P h p s U) (hP : ∀ o, P o → P' o) : WO P' h p s U := by
  obtain ⟨vs, h1, h2, h3, h4⟩ := r
  exact ⟨vs, h1, h2, h3, fun i v t a b => ⟨(h4 i v t a b).1, fun o e => hP o ((h4 i v t a b).2 o e)⟩⟩
theorem WO.chg (r : WO P h p s U) (c : Chg Q h h') (hp : ¬ Q p) (hP : ∀ o, P o → ¬ Q o) : WO P h' p s U := by
  obtain ⟨vs, h1, h2, h3, h4⟩ := r
  exact ⟨vs, h1, h2.chg c fun o e => by rw [h3] at e; cases e; exact hp, h3, fun i v t a b => ⟨(h4 i v t a b).1.chg c fun o e => hP o ((h4 i v t a b).2 o e), (h4 i v t a b).2⟩⟩
theorem WO.ext (r : WO P h p s U) (x : Ext h h') : WO P h' p s U := r.chg (x.chg fun _ => False) (fun f => f) fun _ _ f => f
theorem WO.len (r : WO P h p s U) : s.len = U.length := by
  obtain ⟨vs, h1, h2, _⟩ := r
  have := h2.len
  simp at this
  omega
theorem WO.lt (r : WO P h p s U) : p < h.length := by
  obtain ⟨vs, h1, h2, h3, _⟩ := r
  exact h2.lt h3
theorem WO.nil (o : Ow h s 1 []) (e : s.o = some p) : WO P h p s [] := ⟨[], rfl, o, e, fun i v t a => by simp at a⟩
theorem WR.ld (r : WR P h s U) {i : Nat} (hi : i < U.length) {K : Sl → Prop} (hk : ∀ v, Rd h v 1 (ic (tl U[i])) → (∀ o, v.o = some o → P o) → K v) : ixS s 1 (i : Int) fun p => Cl.ldS p h K := by
  obtain ⟨vs, e1, e2, _, e3⟩ := r
  refine e2.ldS (by omega) (by omega) fun v hv => ?_
  rw [Int.toNat_natCast] at hv
  obtain ⟨a, b⟩ := e3 i v _ hv (List.getElem?_eq_getElem hi)
  exact hk v a b
theorem Rd.ld4 (r : Rd h v 1 (ic (tl t))) {j : Nat} {i : Int} (hi : i = j) (hj : j < 4) {K : Int → Prop} (hk : K (sd t j)) : ixS v 1 i fun p => Cl.ldI .i64 p h K := by
  subst hi
  refine r.ldG (by omega) (by show (j : Int) < 4; omega) ?_
  rw [Int.toNat_natCast]
  have : (tl t).getD j 0 = sd t j := by
    have hj' : j = 0 ∨ j = 1 ∨ j = 2 ∨ j = 3 := by omega
    rcases hj' with rfl | rfl | rfl | rfl <;> rfl
  rw [this]; exact hk
theorem Rd.lt4 (r : Rd h v 1 (ic (tl t))) {o : Nat} (e : v.o = some o) : o < h.length := by
  have hl := r.ilen
  obtain hz | ⟨_, _, e2⟩ := r.at_
  · rw [hz] at hl; cases hl
  · obtain ⟨o', xs, e3, hc, _⟩ := range_some e2
    rw [e] at e3; cases e3
    exact cells_lt hc
theorem WO.app (r : WO P h p s U) {x : Sl} (rx : Rd h x 1 [.sl v]) (rv : Rd h v 1 (ic (tl t))) (hv : ∀ o, v.o = some o → P o ∧ o ≠ p) (hPp : ∀ o, P o → o ≠ p) (hl : U.length ≤ 1000000) {K : Sl → H → Prop}
    (hk : ∀ s' h', WO P h' p s' (U ++ [t]) → But (some p) h h' → K s' h') : Cl.app s x 1 h K := by
  have hsl := r.len
  have hx : x.len = 1 := by have := rx.len; simp at this; omega
  obtain ⟨vs, h1, h2, h3, h4⟩ := r
  refine app_ow (by omega) h2 rx (by rw [hsl, hx]; unfold lim; omega) fun s' h' o' ln b k1 _ => ?_
  rw [h3] at b
  refine hk s' h' ⟨vs ++ [v], by simp [h1], by rw [List.map_append]; exact o', k1 _ h3, fun i w u a c => ?_⟩ b
  have bc : Chg (fun i => i = p) h h' := b.chg fun i e => (Option.some.inj e).symm
  by_cases hi : i < vs.length
  · rw [List.getElem?_append_left hi] at a
    rw [List.getElem?_append_left (by omega)] at c
    obtain ⟨a1, a2⟩ := h4 i w u a c
    exact ⟨a1.chg bc fun o e => hPp o (a2 o e), a2⟩
  · have hi' : i = vs.length := by
      have := (List.getElem?_eq_some_iff.1 a).1
      simp at this; omega
    subst hi'
    rw [List.getElem?_append_right (by omega), Nat.sub_self] at a
    rw [h1, List.getElem?_append_right (by omega), Nat.sub_self] at c
    cases a
    cases c
    exact ⟨rv.chg bc fun o e => (hv o e).2, fun o e => (hv o e).1⟩
end
def boxLen (o : Nat) (h : H) : Nat := match h[o]? with
  | some (.own (.sl s :: _)) => s.len
  | _ => 0
theorem boxLen_of {o : Nat} {h : H} {s : Sl} (x : Obj h o [.sl s]) : boxLen o h = s.len := by unfold boxLen; rw [show h[o]? = some (.own [.sl s]) from x]
section
variable {h0 : H} {s : Sl} {c : Int} {ts U : List Tile} {P : Nat → Prop}
theorem l04Open_c (r : Rd h0 s 4 (tcs ts)) (hl : ts.length ≤ 1000) : callA SP i_spec_l04Open [.agg (SetC c s)] h0 fun cs h' => ∃ u, cs = [.sl u] ∧ WR (fun o => h0.length + 2 ≤ o ∧ o < h'.length) h' u ts ∧ Ext h0 h' := by
  have hsl := r.tlen
  apply spec_l04Open_call
  unfold spec_l04Open_main
  refine newK_obj fun h1 o1 x1 n1 => ?_
  refine newO_obj fun h2 o2 x2 n2 => ?_
  refine newS_ow (by rfl) fun u h3 ou lu uo e3 => ?_
  have x3 : Ext h2 h3 := by rw [e3]; exact Ext.app _ _
  have n3 : h3.length = h2.length + 1 := by rw [e3]; simp
  refine newO_obj fun h4 o4 x4 n4 => ?_
  refine o4.stA fun h5 o5 b5 n5 => ?_
  have y5 : Ext h3 h5 := x4.but_ b5 (some_le (Nat.le_refl _))
  have X5 := (x1.trans x2).trans (x3.trans y5)
  refine spec_l04Open_rule0 _ _ _ _ _ (fun i g => ∃ (z : Nat) (u : Sl), i = z ∧ z ≤ ts.length ∧ Obj g h3.length [.sl u] ∧ WO (fun o => h3.length < o ∧ o < g.length) g h2.length u (ts.take z) ∧ Chg (fun o => o = h2.length ∨ o = h3.length) h5 g) (fun i _ => ((ts.length : Int) - i).toNat) ?_ _
    ⟨0, u, rfl, by omega, o5, by simpa using WO.nil (ou.ext y5) uo, Chg.refl _ _⟩
  rintro X0 _ g ⟨z, u, rfl, hz, og, wo, ch⟩ hX
  have Eg : Ext h2 g := (x3.trans y5).chg_ ch fun i e => by omega
  have X := (x1.trans x2).trans Eg
  have p1 := o1.ext (x2.trans Eg)
  have hch := ch.1
  unfold spec_l04Open_b0
  refine isPt_in (p1.ldS rfl rfl ?_)
  refine bif_dec (fun hi => ?_) (fun hi => ?_)
  · have hzl : z < ts.length := by omega
    refine isPt_in (p1.ldS rfl rfl ?_)
    refine (r.ext X).tileG (by omega) (by omega) ?_
    rw [tat_nat hzl]
    refine newO_obj fun g1 q1 y1 m1 => ?_
    refine q1.stA fun g2 q2 b2 m2 => ?_
    have y2 : Ext g g2 := y1.but_ b2 (some_le (Nat.le_refl _))
    have og2 := og.ext y2
    refine isPt_in (og2.ldS rfl rfl ?_)
    refine ix4 q2 0 (by omega) fun p8 _ => ?_
    refine ix4 q2 1 (by omega) fun p10 _ => ?_
    refine ix4 q2 2 (by omega) fun p12 _ => ?_
    refine ix4 q2 3 (by omega) fun p14 _ => ?_
    refine newS_ow (z := 1) (n := 4) (by rfl) fun v g3 ov lv vo e3 => ?_
    have y3 : Ext g2 g3 := by rw [e3]; exact Ext.app _ _
    have m3 : g3.length = g2.length + 1 := by rw [e3]; simp
    refine newS_ow (by rfl) fun x g4 ox lx xo e4 => ?_
    have y4 : Ext g3 g4 := by rw [e4]; exact Ext.app _ _
    have m4 : g4.length = g3.length + 1 := by rw [e4]; simp
    have y24 := y3.trans y4
    have rv : Rd g4 v 1 (ic (tl ts[z])) := ov.rd.ext y4
    have hlen := og.lt
    have wo4 := (wo.ext (y2.trans y24)).to (P' := fun o => h3.length < o ∧ o < g4.length) fun o ho => ⟨ho.1, Nat.lt_of_lt_of_le ho.2 (by omega)⟩
    refine wo4.app ox.rd rv (fun o e => by rw [vo] at e; cases e; exact ⟨⟨by omega, by omega⟩, by omega⟩) (fun o ho => by omega) (by rw [List.length_take]; omega) fun u' g5 wo5 b5' => ?_
    have og5 := (og2.ext y24).but b5' (fun e => by have := Option.some.inj e; omega)
    refine isPt_in ?_
    refine og5.st1 rfl (by simp) _ fun g6 og6 b6 m6 => ?_
    rw [w64_of (by omega) (by omega)]
    have hb5 := b5'.1
    refine hX _ _ ⟨z + 1, u', by push_cast; rfl, by omega, og6, ?_, ?_⟩ (by omega)
    · rw [List.take_succ_eq_append_getElem hzl]
      refine ((wo5.to (P' := fun o => h3.length < o ∧ o < g6.length) fun o ho => ⟨ho.1, Nat.lt_of_lt_of_le ho.2 (by omega)⟩).chg (b6.chg (P := fun o => o = h3.length) fun i e => (Option.some.inj e).symm) (by omega) fun o ho => by omega)
    · exact ch.trans ((((y2.trans y24).chg _).trans (b5'.chg fun i e => .inl (Option.some.inj e).symm)).trans (b6.chg fun i e => .inr (Option.some.inj e).symm))
  · have hzU : z = ts.length := by omega
    rw [hzU, List.take_length] at wo
    unfold spec_l04Open_C0
    refine og.ldA rfl ?_
    have p2 := o2.ext Eg
    refine p2.stA fun g1 q1 b1 m1 => ?_
    have hwl := wo.lt
    refine q1.ldA rfl ⟨_, rfl, u, rfl, ?_, ?_⟩
    · have w2 := wo.chg (b1.chg (P := fun o => o = h1.length) fun i e => (Option.some.inj e).symm) (by omega) fun o ho => by omega
      exact (w2.to (P' := fun o => h0.length + 2 ≤ o ∧ o < g1.length) fun o ho => ⟨by omega, by omega⟩).rd ⟨by omega, by omega⟩
    · exact X.but_ b1 (some_le (by omega))
end
end Go.Proofs.Ytlbglfgienklfaa.Cl

/- The reference's l04Keep: the lasting tiles. No claim is stated here. -/
set_option linter.unusedVariables false
set_option linter.unusedSimpArgs false
namespace Go.Proofs.Ytlbglfgienklfaa.Cl
open Go
theorem find_ge {l : List Int} {x i : Int} (h : (∃ j : Nat, i = j ∧ l[j]? = some x) ∨ (x ∉ l ∧ i = -1)) : i ≥ 0 ↔ x ∈ l := by
  rcases h with ⟨j, rfl, hj⟩ | ⟨hn, rfl⟩
  · exact ⟨fun _ => List.mem_of_getElem? hj, fun _ => by omega⟩
  · exact ⟨fun h => by omega, fun h => absurd h hn⟩
section
variable {h0 : H} {s : Sl} {U : List Tile} {P : Nat → Prop}
theorem l04Keep_c (r : WR P h0 s U) (hP : ∀ o, P o → o < h0.length) (hU : U.length ≤ 3000) : callA SP i_spec_l04Keep [.agg [.sl s]] h0 fun cs h' => ∃ u, cs = [.sl u] ∧ WR (fun o => P o ∨ (h0.length + 2 ≤ o ∧ o < h'.length)) h' u (kpL U) ∧ Ext h0 h' := by
  apply spec_l04Keep_call
  unfold spec_l04Keep_main
  refine newK_obj fun h1 o1 x1 n1 => ?_
  refine newO_obj fun h2 o2 x2 n2 => ?_
  have X2 := x1.trans x2
  refine spec_l04Keep_rule0 _ _ _ _ (fun g => ∃ V s', Obj g h0.length [.sl s'] ∧ WR (fun o => P o ∨ (h0.length + 2 ≤ o ∧ o < g.length)) g s' V ∧ Stg U V ∧ V.length ≤ U.length ∧ Chg (fun o => o = h0.length) h2 g) (fun g => boxLen h0.length g) ?_
    ⟨U, s, o1.ext x2, (r.ext X2).to fun o ho => .inl ho, Stg.refl U, Nat.le_refl _, Chg.refl _ _⟩
  rintro X0 g ⟨V, s', og, wr, hS, hVl, ch⟩ hX
  have hsl := wr.len
  have hch := ch.1
  have Eg : Ext h0 g := X2.chg_ ch fun i e => by omega
  unfold spec_l04Keep_b0
  refine newS_ow (by rfl) fun a h3 oa la ao ea => ?_
  have x3 : Ext g h3 := by rw [ea]; exact Ext.app _ _
  have n3 : h3.length = g.length + 1 := by rw [ea]; simp
  refine newS_ow (by rfl) fun b h4 ob lb bo eb => ?_
  have x4 : Ext h3 h4 := by rw [eb]; exact Ext.app _ _
  have n4 : h4.length = h3.length + 1 := by rw [eb]; simp
  have y4 := x3.trans x4
  refine spec_l04Keep_rule2 _ _ X0 _ _ (fun a b i q => ∃ z : Nat, i = z ∧ z ≤ V.length ∧ Ow q a 1 (ic ((V.take z).map fun t => sd t 0)) ∧ Ow q b 1 (ic ((V.take z).map fun t => sd t 2)) ∧ a.o = some g.length ∧ b.o = some h3.length ∧ Chg (fun o => o = g.length ∨ o = h3.length) h4 q) (fun _ _ i _ => ((V.length : Int) - i).toNat) ?_ _ _ _
    ⟨0, rfl, by omega, by simpa [ic] using oa.ext x4, by simpa [ic] using ob, ao, bo, Chg.refl _ _⟩
  rintro X2' a b _ q ⟨z, rfl, hz, oa, ob, ao, bo, cq⟩ hY
  have Eq : Ext g q := y4.chg_ cq fun i e => by omega
  have ogq := og.ext Eq
  have hcq := cq.1
  unfold spec_l04Keep_b2
  refine isPt_in (ogq.ldS rfl rfl ?_)
  refine bif_dec (fun hi => ?_) (fun hi => ?_)
  · have hzl : z < V.length := by omega
    refine isPt_in (ogq.ldS rfl rfl ?_)
    refine (wr.ext Eq).ld hzl fun v rv _ => ?_
    refine rv.ld4 (j := 0) rfl (by omega) ?_
    refine pushI4 oa (by rw [List.length_map, List.length_take]; unfold lim; omega) fun a' q1 oa1 b1 k1 => ?_
    have c1 : Chg (fun o => o = g.length ∨ o = h3.length) q q1 := b1.chg fun i e => by rw [ao] at e; exact .inl (Option.some.inj e).symm
    have E1 : Ext g q1 := y4.chg_ (cq.trans (c1.to fun i _ e => e)) fun i e => by omega
    have og1 := og.ext E1
    refine isPt_in (og1.ldS rfl rfl ?_)
    refine (wr.ext E1).ld hzl fun v2 rv2 _ => ?_
    refine rv2.ld4 (j := 2) rfl (by omega) ?_
    refine pushI4 (ob.but b1 (.inl fun e => by rw [ao, bo] at e; have := Option.some.inj e; omega)) (by rw [List.length_map, List.length_take]; unfold lim; omega) fun b' q2 ob2 b2 k2 => ?_
    have a1 := k1 _ ao
    have b2o := k2 _ bo
    rw [w64_of (by omega) (by omega)]
    refine hY _ _ _ _ ⟨z + 1, by push_cast; rfl, by omega, ?_, ?_, a1, b2o, (cq.trans (c1.to fun i _ e => e)).trans (b2.chg fun i e => by rw [bo] at e; exact .inr (Option.some.inj e).symm)⟩ (by omega)
    · rw [List.take_succ_eq_append_getElem hzl, List.map_append]
      exact oa1.but b2 (.inl fun e => by rw [a1, bo] at e; have := Option.some.inj e; omega)
    · rw [List.take_succ_eq_append_getElem hzl, List.map_append]
      exact ob2
  · have hzU : z = V.length := by omega
    rw [hzU, List.take_length] at oa ob
    unfold spec_l04Keep_C2
    refine (sortedD_c _ _ a q (Nat.le_refl _) (by rw [List.length_map]; omega) oa.rd).to ?_
    rintro a5 h5 ⟨A, rA, hA, mA, lA, _, x5⟩
    rw [List.length_map] at lA
    refine (sortedD_c _ _ b h5 (Nat.le_refl _) (by rw [List.length_map]; omega) (ob.ext x5).rd).to ?_
    rintro b6 h6 ⟨B, rB, hB, mB, lB, _, x6⟩
    rw [List.length_map] at lB
    refine newS_ow (by rfl) fun u h7 ou lu uo eu => ?_
    have x7 : Ext h6 h7 := by rw [eu]; exact Ext.app _ _
    have n7 : h7.length = h6.length + 1 := by rw [eu]; simp
    refine newO_obj fun h8 o8 x8 n8 => ?_
    refine o8.stA fun h9 o9 b9 n9 => ?_
    have y9 : Ext h7 h9 := x8.but_ b9 (some_le (Nat.le_refl _))
    have y69 := x7.trans y9
    have x56 := x5.trans x6
    have hx56 := x56.len
    refine spec_l04Keep_rule4 _ _ X0 _ _ _ _ _ (fun i q => ∃ (z : Nat) (u : Sl), i = z ∧ z ≤ V.length ∧ Obj q h7.length [.sl u] ∧ WO (fun o => P o ∨ (h0.length + 2 ≤ o ∧ o < g.length)) q h6.length u ((V.take z).filter (sqB V)) ∧ Chg (fun o => o = h6.length ∨ o = h7.length) h9 q) (fun i _ => ((V.length : Int) - i).toNat) ?_ _
      ⟨0, u, rfl, by omega, o9, by simpa using WO.nil (ou.ext y9) uo, Chg.refl _ _⟩
    rintro X4 _ k ⟨z, u, rfl, hz, ok, wo, ck⟩ hZ
    have E6 : Ext h6 k := y69.chg_ ck fun i e => by omega
    have Ek : Ext g k := Eq.trans (x56.trans E6)
    have ogk := og.ext Ek
    have wrk := wr.ext Ek
    have hck := ck.1
    have hPk : ∀ o, (P o ∨ (h0.length + 2 ≤ o ∧ o < g.length)) → o < g.length := fun o ho => by
      rcases ho with ho | ho
      · have := hP o ho; have := Eg.len; omega
      · exact ho.2
    unfold spec_l04Keep_b4
    refine isPt_in (ogk.ldS rfl rfl ?_)
    refine bif_dec (fun hi2 => ?_) (fun hi2 => ?_)
    · have hzl : z < V.length := by omega
      have htk : (V.take (z + 1)).filter (sqB V) = (V.take z).filter (sqB V) ++ if sqB V V[z] then [V[z]] else [] := by
        rw [List.take_succ_eq_append_getElem hzl, List.filter_append]
        simp only [List.filter_cons, List.filter_nil]
      have skip : ¬ SQ V V[z] → X4 (spec_l04Keep_e4 ⟨some h0.length, 1, 0⟩ ⟨some h1.length, 1, 0⟩ a5 b6 ⟨some h7.length, 1, 0⟩ (w64 ((z : Int) + 1))) k := fun hn => by
        rw [w64_of (by omega) (by omega)]
        have hb : sqB V V[z] = false := by
          cases hb : sqB V V[z]
          · rfl
          · exact absurd (sqB_iff.1 hb) hn
        refine hZ _ _ ⟨z + 1, u, by push_cast; rfl, by omega, ok, ?_, ck⟩ (by omega)
        rw [htk, hb]
        simpa using wo
      have me : ∀ x, x ∈ B ↔ ∃ t ∈ V, sd t 2 = x := fun x => by rw [mB, List.mem_map]
      have mw : ∀ x, x ∈ A ↔ ∃ t ∈ V, sd t 0 = x := fun x => by rw [mA, List.mem_map]
      refine isPt_in (ogk.ldS rfl rfl ?_)
      refine wrk.ld hzl fun v rv _ => ?_
      refine rv.ld4 (j := 0) rfl (by omega) ?_
      refine l04Find_c (rB.ext E6) hB (by omega) fun i hi3 => ?_
      refine bif_dec (fun hge => ?_) (fun hge => skip fun hs => hge ((find_ge hi3).2 ((me _).2 hs.1)))
      refine isPt_in (ogk.ldS rfl rfl ?_)
      refine wrk.ld hzl fun v2 rv2 _ => ?_
      refine rv2.ld4 (j := 2) rfl (by omega) ?_
      refine l04Find_c (rA.ext (x6.trans E6)) hA (by omega) fun j hj3 => ?_
      refine bif_dec (fun hge2 => ?_) (fun hge2 => skip fun hs => hge2 ((find_ge hj3).2 ((mw _).2 hs.2)))
      have hb3 : sqB V V[z] = true := sqB_iff.2 ⟨(me _).1 ((find_ge hi3).1 hge), (mw _).1 ((find_ge hj3).1 hge2)⟩
      refine isPt_in (ok.ldS rfl rfl ?_)
      refine isPt_in (ogk.ldS rfl rfl ?_)
      refine wrk.ld hzl fun v3 rv3 pv3 => ?_
      refine newS_ow (by rfl) fun x k1 ox lx xo ex => ?_
      have y1 : Ext k k1 := by rw [ex]; exact Ext.app _ _
      have ok1 := ok.ext y1
      refine ⟨(ok1.cellE (n := 1) rfl).trans (ok.cellE (n := 1) rfl).symm, ?_⟩
      have hfl := List.length_filter_le (sqB V) (V.take z)
      have htl : (V.take z).length = z := by rw [List.length_take]; omega
      refine (wo.ext y1).app ox.rd (rv3.ext y1) (fun o e => ⟨pv3 o e, by have := hPk o (pv3 o e); have := Ek.len; have := Eq.len; omega⟩) (fun o ho => by have := hPk o ho; have := Eq.len; omega) (by omega) fun u' k2 wo2 b2 => ?_
      have ok2 := ok1.but b2 (fun e => by have := Option.some.inj e; omega)
      refine isPt_in ?_
      refine ok2.st1 rfl (by simp) _ fun k3 ok3 b3 m3 => ?_
      rw [w64_of (by omega) (by omega)]
      refine hZ _ _ ⟨z + 1, u', by push_cast; rfl, by omega, ok3, ?_, ?_⟩ (by omega)
      · rw [htk, hb3]
        exact wo2.chg (b3.chg (P := fun o => o = h7.length) fun i e => (Option.some.inj e).symm) (by omega) fun o ho => by have := hPk o ho; have := Eq.len; omega
      · exact ck.trans (((y1.chg _).trans (b2.chg fun i e => .inl (Option.some.inj e).symm)).trans (b3.chg fun i e => .inr (Option.some.inj e).symm))
    · have hzV : z = V.length := by omega
      rw [hzV, List.take_length] at wo
      have hul := wo.len
      have hEq := Eq.len
      have hEk := Ek.len
      have hEgl := Eg.len
      have hwl := wo.lt
      unfold spec_l04Keep_C4
      refine isPt_in (ok.ldS rfl rfl ?_)
      refine isPt_in (ogk.ldS rfl rfl ?_)
      refine bif_eq (fun he => ?_) (fun hne => ?_)
      · refine ok.ldA rfl ?_
        have E20 : Ext h2 h2 := Ext.refl _
        have c2k : Chg (fun o => o = h0.length) h2 k := ch.trans (Ek.chg _)
        have p2 := o2.chg c2k (by omega)
        refine p2.stA fun k1 q1 b1 m1 => ?_
        refine q1.ldA rfl ⟨_, rfl, u, rfl, ?_, (Eg.trans Ek).but_ b1 (some_le (by omega))⟩
        rw [← hS.filter_end (by omega)]
        have w2 := wo.chg (b1.chg (P := fun o => o = h1.length) fun i e => (Option.some.inj e).symm) (by omega) fun o ho e => by
          rcases ho with ho | ho
          · have := hP o ho; omega
          · omega
        refine (w2.to fun o ho => ?_).rd (.inr ⟨by omega, by omega⟩)
        rcases ho with ho | ho
        · exact .inl ho
        · exact .inr ⟨ho.1, by omega⟩
      · refine ok.ldA rfl ?_
        refine ogk.stA fun k1 q1 b1 m1 => ?_
        have hle := List.length_filter_le (sqB V) V
        have w2 := wo.chg (b1.chg (P := fun o => o = h0.length) fun i e => (Option.some.inj e).symm) (by omega) fun o ho e => by
          rcases ho with ho | ho
          · have := hP o ho; omega
          · omega
        refine hX _ ⟨_, u, q1, (w2.to fun o ho => ?_).rd (.inr ⟨by omega, by omega⟩), hS.step, by omega, ch.trans ((Ek.chg _).trans (b1.chg fun i e => (Option.some.inj e).symm))⟩ ?_
        · rcases ho with ho | ho
          · exact .inl ho
          · exact .inr ⟨ho.1, by omega⟩
        · rw [boxLen_of q1, boxLen_of og]
          omega
end
end Go.Proofs.Ytlbglfgienklfaa.Cl

/- The reference's l04Stack. No claim is stated here. -/
set_option linter.unusedVariables false
set_option linter.unusedSimpArgs false
namespace Go.Proofs.Ytlbglfgienklfaa.Cl
open Go
/-! ### plain -/
/-- A tile whose numbers can be told by one number. -/
def TB (t : Tile) : Prop := (0 ≤ t.1 ∧ t.1 < 10000) ∧ (0 ≤ t.2.1 ∧ t.2.1 < 6) ∧ (0 ≤ t.2.2.1 ∧ t.2.2.1 < 10000) ∧ (0 ≤ t.2.2.2 ∧ t.2.2.2 < 6)
def keyT (t : Tile) : Int := ((t.1 * 6 + t.2.1) * 10000 + t.2.2.1) * 6 + t.2.2.2
theorem keyT_lt {a b : Tile} (ha : TB a) (hb : TB b) (h : ltT a b) : keyT a < keyT b := by
  obtain ⟨a1, a2, a3, a4⟩ := a
  obtain ⟨b1, b2, b3, b4⟩ := b
  unfold ltT cmpT tl at h
  simp only [cmpL] at h
  unfold keyT TB at *
  simp only at *
  by_cases h1 : a1 < b1
  · omega
  · rw [if_neg h1] at h
    by_cases h2 : a1 > b1
    · rw [if_pos h2] at h; omega
    · rw [if_neg h2] at h
      by_cases h3 : a2 < b2
      · omega
      · rw [if_neg h3] at h
        by_cases h4 : a2 > b2
        · rw [if_pos h4] at h; omega
        · rw [if_neg h4] at h
          by_cases h5 : a3 < b3
          · omega
          · rw [if_neg h5] at h
            by_cases h6 : a3 > b3
            · rw [if_pos h6] at h; omega
            · rw [if_neg h6] at h
              by_cases h7 : a4 < b4
              · omega
              · rw [if_neg h7] at h
                by_cases h8 : a4 > b4
                · rw [if_pos h8] at h; omega
                · rw [if_neg h8] at h; omega
theorem key_eq {a b c d : Int} (h : TB (a, b, c, d)) : w64 ((w64 ((w64 ((w64 ((w64 ((w64 (a * (6))) + b)) * (10000))) + c)) * (6))) + d) = keyT (a, b, c, d) := by
  unfold TB at h
  simp only at h
  rw [w64_of (n := a * 6) (by omega) (by omega), w64_of (n := a * 6 + b) (by omega) (by omega), w64_of (n := (a * 6 + b) * 10000) (by omega) (by omega), w64_of (n := (a * 6 + b) * 10000 + c) (by omega) (by omega), w64_of (n := ((a * 6 + b) * 10000 + c) * 6) (by omega) (by omega), w64_of (n := ((a * 6 + b) * 10000 + c) * 6 + d) (by omega) (by omega)]
  rfl
theorem dec_eq {t : Tile} (h : TB t) : [AVal.int .i64 (w64 (Int.tdiv (w64 (Int.tdiv (w64 (Int.tdiv (keyT t) (6))) (10000))) (6))), .int .i64 (Int.tmod (w64 (Int.tdiv (w64 (Int.tdiv (keyT t) (6))) (10000))) (6)), .int .i64 (Int.tmod (w64 (Int.tdiv (keyT t) (6))) (10000)), .int .i64 (Int.tmod (keyT t) (6))] = tc t := by
  obtain ⟨a, b, c, d⟩ := t
  unfold TB at h
  simp only at h
  have e : keyT (a, b, c, d) = ((a * 6 + b) * 10000 + c) * 6 + d := rfl
  have e1 : Int.tdiv (keyT (a, b, c, d)) 6 = (a * 6 + b) * 10000 + c := by rw [e, Int.tdiv_eq_ediv_of_nonneg (by omega)]; omega
  rw [e1, w64_of (n := (a * 6 + b) * 10000 + c) (by omega) (by omega)]
  have e2 : Int.tdiv ((a * 6 + b) * 10000 + c) 10000 = a * 6 + b := by rw [Int.tdiv_eq_ediv_of_nonneg (by omega)]; omega
  rw [e2, w64_of (n := a * 6 + b) (by omega) (by omega)]
  have e3 : Int.tdiv (a * 6 + b) 6 = a := by rw [Int.tdiv_eq_ediv_of_nonneg (by omega)]; omega
  rw [e3, w64_of (n := a) (by omega) (by omega)]
  have e4 : Int.tmod (a * 6 + b) 6 = b := by rw [Int.tmod_eq_emod_of_nonneg (by omega)]; omega
  have e5 : Int.tmod ((a * 6 + b) * 10000 + c) 10000 = c := by rw [Int.tmod_eq_emod_of_nonneg (by omega)]; omega
  have e6 : Int.tmod (keyT (a, b, c, d)) 6 = d := by rw [e, Int.tmod_eq_emod_of_nonneg (by omega)]; omega
  rw [e4, e5, e6]
  rfl
theorem pair_eq {a b : Int} (h : 0 ≤ a ∧ a < 10000) (h2 : 0 ≤ b ∧ b < 16) : w64 ((w64 ((16) * a)) + b) = cdP (a, b) := by
  rw [w64_of (n := 16 * a) (by omega) (by omega), w64_of (n := 16 * a + b) (by omega) (by omega)]
  rfl
section
variable {U T : List Tile} {d : Int}
/-- All tiles of a list can be told. -/
def UOK (U : List Tile) : Prop := ∀ t ∈ U, TB t
theorem UOK.at_ (h : UOK U) {i : Nat} (hi : i < U.length) : TB (tat U (i : Int)) := by rw [tat_nat hi]; exact h _ (List.getElem_mem hi)
theorem UOK.stk (h : UOK U) (hT : setOK d T) (hn : (stkI U T U.length).length ≤ 3000) : UOK (stkT U T) := by
  intro t ht
  unfold stkT at ht
  obtain ⟨e, hes, rfl⟩ := List.mem_map.1 ht
  obtain ⟨i, j, rfl, hi, hj, hq⟩ := stkI_mem hes
  obtain ⟨p0, p2⟩ := allP_mem hi hj hq
  have n0 := numP_lt (prsP_nodup U T) (prsP_mem.2 p0)
  have n2 := numP_lt (prsP_nodup U T) (prsP_mem.2 p2)
  have hl := prsP_len U T
  have s1 := (h.at_ hi).2.1
  have s3 := hT.side (k := 3) (by omega) hj
  have := hT.1.2
  unfold TB
  refine ⟨⟨n0.1, ?_⟩, s1, ⟨n2.1, ?_⟩, ⟨s3.1, ?_⟩⟩
  · show numP _ _ < 10000; omega
  · show numP _ _ < 10000; omega
  · show sd (tat T (j : Int)) 3 < 6; omega
theorem UOK.sub {V : List Tile} (h : UOK U) (hV : ∀ t ∈ V, t ∈ U) : UOK V := fun t ht => h t (hV t ht)
theorem UOK.set {c : Int} (h : setOK c U) : UOK U := fun t ht => by
  have a0 := h.ts.2 t ht 0 (by omega)
  have a1 := h.ts.2 t ht 1 (by omega)
  have a2 := h.ts.2 t ht 2 (by omega)
  have a3 := h.ts.2 t ht 3 (by omega)
  have := h.1.2
  simp only [sd] at a0 a1 a2 a3
  unfold TB
  omega
/-- A stacked pair's tile, with pairs of colours told by numbers. -/
def raw (U T : List Tile) (e : Int × Int) : Tile := (cdP (prOf U T e 0), sd (tat U e.1) 1, cdP (prOf U T e 2), sd (tat T e.2) 3)
theorem keys_eq {V : List Tile} (hV : UOK V) {Q : List Int} (hq : Asc Q) (hm : ∀ x, x ∈ Q ↔ x ∈ V.map keyT) : Q = (dsT V).map keyT := by
  refine asc_ext hq ?_ fun x => by
    rw [hm, List.mem_map, List.mem_map]
    exact ⟨fun ⟨e, h, k⟩ => ⟨e, mem_dsort.2 h, k⟩, fun ⟨e, h, k⟩ => ⟨e, mem_dsort.1 h, k⟩⟩
  show List.Pairwise _ _
  rw [List.pairwise_map]
  exact (pw_dsort ltT_sto V).imp_of_mem fun {a b} ha hb h => keyT_lt (hV a (mem_dsort.1 ha)) (hV b (mem_dsort.1 hb)) h
end
theorem Rd.chgL {P : Nat → Prop} {h h' : H} {s : Sl} {z : Nat} {cs : List AVal} (r : Rd h s z cs) (b : Chg P h h') (hn : ∀ i, i < h.length → s.o = some i → ¬ P i) : Rd h' s z cs := by
  refine ⟨r.len, r.at_.imp id fun ⟨a, b', e⟩ => ⟨a, b', ?_⟩⟩
  obtain ⟨o, xs, ho, hc, hl, rfl⟩ := range_some e
  have hlt := cells_lt hc
  rw [ho]
  refine range_of ?_ hl
  unfold Cl.cells at hc ⊢
  rw [b.2 o hlt (hn o hlt ho)]; exact hc
section
variable {h0 : H} {s t : Sl} {U T : List Tile} {P : Nat → Prop} {d : Int}
theorem l04Stack_c (r : WR P h0 s U) (hP : ∀ o, P o → o < h0.length) (hU : U.length ≤ 3000) (ub : UOK U) (rt : Rd h0 t 4 (tcs T)) (hT : setOK d T) :
    callV SP i_spec_l04Stack [.agg [.sl s], .agg (SetC d t)] h0 fun v h' => ∃ u b, v = .tuple [.agg [.sl u], .bool b] ∧ b = decide (¬ 3000 < (stkI U T U.length).length) ∧ (b = true → WR (fun o => h0.length + 3 ≤ o ∧ o < h'.length) h' u (dsT (stkT U T))) ∧ Ext h0 h' := by
  have hsl := r.len
  have htl := rt.tlen
  have hT16 := hT.2.1
  have hd6 := hT.1.2
  have hsm : ∀ e ∈ allP U T (stkI U T U.length), SmallP e := allP_small fun k j hk hj => by have := hT.side hj hk; omega
  apply spec_l04Stack_call
  unfold spec_l04Stack_main
  refine newK_obj fun h1 o1 x1 n1 => ?_
  refine newK_obj fun h2 o2 x2 n2 => ?_
  refine newO_obj fun h3 o3 x3 n3 => ?_
  refine newS_ow (by rfl) fun u h4 ou lu uo e4 => ?_
  have x4 : Ext h3 h4 := by rw [e4]; exact Ext.app _ _
  have n4 : h4.length = h3.length + 1 := by rw [e4]; simp
  refine newS_ow (by rfl) fun w h5 ow lw wo e5 => ?_
  have x5 : Ext h4 h5 := by rw [e5]; exact Ext.app _ _
  have n5 : h5.length = h4.length + 1 := by rw [e5]; simp
  refine newO_obj fun h6 o6 x6 n6 => ?_
  refine o6.stA fun h7 o7 b7 n7 => ?_
  have y7 : Ext h5 h7 := x6.but_ b7 (some_le (Nat.le_refl _))
  have y37 : Ext h3 h7 := x4.trans (x5.trans y7)
  have X3 := (x1.trans x2).trans x3
  have hall : ∀ es : List (Int × Int), (allP U T es).length = 2 * es.length := fun es => by
    induction es with
    | nil => rfl
    | cons e es ih => unfold allP at *; simp only [List.flatMap_cons, List.length_append, List.length_cons, List.length_nil, ih]; omega
  refine spec_l04Stack_rule0 _ _ _ _ _ _ (fun a i g => ∃ (z : Nat) (u : Sl), i = z ∧ z ≤ U.length ∧ Obj g h5.length [.sl u] ∧ WO (fun o => h5.length < o ∧ o < g.length) g h3.length u ((stkI U T z).map (raw U T)) ∧ Ow g a 1 (ic ((allP U T (stkI U T z)).map cdP)) ∧ a.o = some h4.length ∧ (stkI U T z).length ≤ 3000 ∧ Chg (fun o => o = h3.length ∨ o = h4.length ∨ o = h5.length) h7 g) (fun _ i _ => ((U.length : Int) - i).toNat) ?_ _ _
    ⟨0, u, rfl, by omega, o7, by simpa [stkI] using WO.nil (ou.ext (x5.trans y7)) uo, by simpa [stkI, allP, ic] using ow.ext y7, wo, by simp [stkI], Chg.refl _ _⟩
  rintro X0 a _ g ⟨z, u, rfl, hz, ob, wu, oa, ao, hlz, ch⟩ hX
  have E3 : Ext h3 g := y37.chg_ ch fun i e => by omega
  have Eg := X3.trans E3
  have p1 := o1.ext (x2.trans (x3.trans E3))
  have hch := ch.1
  unfold spec_l04Stack_b0
  refine isPt_in (p1.ldS rfl rfl ?_)
  refine bif_dec (fun hi => ?_) (fun hi => ?_)
  · have hzl : z < U.length := by omega
    refine spec_l04Stack_rule2 _ _ X0 _ _ _ _ _ (fun a i g => ∃ (w : Nat) (u : Sl), i = w ∧ w ≤ T.length ∧ Obj g h5.length [.sl u] ∧ WO (fun o => h5.length < o ∧ o < g.length) g h3.length u ((stkI U T z ++ stkR U T z w).map (raw U T)) ∧ Ow g a 1 (ic ((allP U T (stkI U T z ++ stkR U T z w)).map cdP)) ∧ a.o = some h4.length ∧ (stkI U T z ++ stkR U T z w).length ≤ 3000 ∧ Chg (fun o => o = h3.length ∨ o = h4.length ∨ o = h5.length) h7 g) (fun _ i _ => ((T.length : Int) - i).toNat) ?_ _ _
      ⟨0, u, rfl, by omega, ob, by simpa [stkR] using wu, by simpa [stkR] using oa, ao, by simpa [stkR] using hlz, ch⟩
    clear ob wu oa ao hlz ch E3 Eg p1 hch
    rintro X2 a _ g ⟨w, u, rfl, hw, ob, wu, oa, ao, hlz, ch⟩ hY
    have E3 : Ext h3 g := y37.chg_ ch fun i e => by omega
    have Eg := X3.trans E3
    have p1 := o1.ext (x2.trans (x3.trans E3))
    have p2 := o2.ext (x3.trans E3)
    have p3 := o3.ext E3
    have hch := ch.1
    have rU := r.ext Eg
    have rT := rt.ext Eg
    unfold spec_l04Stack_b2
    refine isPt_in (p2.ldS rfl rfl ?_)
    refine bif_dec (fun hj => ?_) (fun hj => ?_)
    · have hwl : w < T.length := by omega
      refine isPt_in (p1.ldS rfl rfl ?_)
      refine rU.ld hzl fun v1 rv1 _ => rv1.ld4 (j := 3) rfl (by omega) ?_
      refine isPt_in (p2.ldS rfl rfl ?_)
      refine rT.sideG (by omega) (by omega) (by omega) (by omega) ?_
      refine bif_ne (fun hne => ?_) (fun hq => ?_)
      · rw [w64_of (by omega) (by omega)]
        refine hY _ _ _ ⟨w + 1, u, by push_cast; rfl, by omega, ob, ?_, ?_, ao, ?_, ch⟩ (by omega)
        all_goals rw [stkR_succ, if_neg (by rw [tat_nat hzl]; exact hne), List.append_nil]
        · exact wu
        · exact oa
        · exact hlz
      have hq' : sd (tat U (z : Int)) 3 = sd (tat T (w : Int)) 1 := by rw [tat_nat hzl]; exact hq
      have hul := wu.len
      rw [List.length_map] at hul
      refine isPt_in (ob.ldS rfl rfl ?_)
      refine bif_eq (fun hmany => ?_) (fun hfew => ?_)
      · refine ob.ldA rfl ?_
        refine p3.stA fun g1 q1 b1 m1 => ?_
        refine q1.ldA rfl ⟨u, false, rfl, ?_, (fun h => by cases h), Eg.but_ b1 (some_le (by omega))⟩
        obtain ⟨rr, hr⟩ := stkI_split (S := U) hq' hwl U.length hzl
        symm
        rw [decide_eq_false_iff_not]
        intro hn
        apply hn
        rw [hr, List.length_append, List.length_cons]
        omega
      have hub := ub.at_ hzl
      rw [tat_nat hzl] at hub
      have hs0 := hT.side (k := 0) (by omega) hwl
      have hs2 := hT.side (k := 2) (by omega) hwl
      refine isPt_in (p1.ldS rfl rfl ?_)
      refine rU.ld hzl fun v2 rv2 _ => rv2.ld4 (j := 0) rfl (by omega) ?_
      refine isPt_in (p2.ldS rfl rfl ?_)
      refine rT.sideG (by omega) (by omega) (by omega) (by omega) ?_
      refine isPt_in (p1.ldS rfl rfl ?_)
      refine rU.ld hzl fun v3 rv3 _ => rv3.ld4 (j := 1) rfl (by omega) ?_
      refine isPt_in (p1.ldS rfl rfl ?_)
      refine rU.ld hzl fun v4 rv4 _ => rv4.ld4 (j := 2) rfl (by omega) ?_
      refine isPt_in (p2.ldS rfl rfl ?_)
      refine rT.sideG (by omega) (by omega) (by omega) (by omega) ?_
      refine isPt_in (p2.ldS rfl rfl ?_)
      refine rT.sideG (by omega) (by omega) (by omega) (by omega) ?_
      rw [show Int.toNat 0 = 0 from rfl, show Int.toNat 2 = 2 from rfl, show Int.toNat 3 = 3 from rfl]
      rw [pair_eq (show 0 ≤ sd U[z] 0 ∧ sd U[z] 0 < 10000 from hub.1) (show 0 ≤ sd (tat T (w : Int)) 0 ∧ sd (tat T (w : Int)) 0 < 16 by omega), pair_eq (show 0 ≤ sd U[z] 2 ∧ sd U[z] 2 < 10000 from hub.2.2.1) (show 0 ≤ sd (tat T (w : Int)) 2 ∧ sd (tat T (w : Int)) 2 < 16 by omega)]
      have hraw : raw U T ((z : Int), (w : Int)) = (cdP (sd U[z] 0, sd (tat T (w : Int)) 0), sd U[z] 1, cdP (sd U[z] 2, sd (tat T (w : Int)) 2), sd (tat T (w : Int)) 3) := by
        unfold raw prOf
        simp only [tat_nat hzl]
      refine newS_ow (z := 1) (n := 4) (by rfl) fun v g3 ov lv vo e3 => ?_
      have y3 : Ext g g3 := by rw [e3]; exact Ext.app _ _
      have m3 : g3.length = g.length + 1 := by rw [e3]; simp
      have rv : Rd g3 v 1 (ic (tl (raw U T ((z : Int), (w : Int))))) := by rw [hraw]; exact ov.rd
      have ob3 := ob.ext y3
      refine isPt_in (ob3.ldS rfl rfl ?_)
      refine newS_ow (by rfl) fun x g4 ox lx xo e4 => ?_
      have y4 : Ext g3 g4 := by rw [e4]; exact Ext.app _ _
      have m4 : g4.length = g3.length + 1 := by rw [e4]; simp
      have y34 := y3.trans y4
      have hlen := ob.lt
      have wu4 := (wu.ext y34).to (P' := fun o => h5.length < o ∧ o < g4.length) fun o ho => ⟨ho.1, Nat.lt_of_lt_of_le ho.2 (by omega)⟩
      have oa4 := oa.ext y34
      refine wu4.app ox.rd (rv.ext y4) (fun o e => by rw [vo] at e; cases e; exact ⟨⟨by omega, by omega⟩, by omega⟩) (fun o ho => by omega) (by rw [List.length_map]; omega) fun u' g5 wu5 b5' => ?_
      have ob5 := (ob3.ext y4).but b5' (fun e => by have := Option.some.inj e; omega)
      have hb5 := b5'.1
      refine isPt_in ?_
      refine ob5.st1 rfl (by simp) _ fun g6 ob6 b6 m6 => ?_
      have c46 : Chg (fun o => o = h3.length ∨ o = h5.length) g4 g6 := (b5'.chg fun i e => .inl (Option.some.inj e).symm).trans (b6.chg fun i e => .inr (Option.some.inj e).symm)
      have rv6 : Rd g6 v 1 (ic (tl (raw U T ((z : Int), (w : Int))))) := (rv.ext y4).chg c46 fun o e => by rw [vo] at e; cases e; omega
      refine rv6.ld4 (j := 0) rfl (by omega) ?_
      refine rv6.ld4 (j := 2) rfl (by omega) ?_
      have oa6 := oa4.chg c46 fun o e => by rw [ao] at e; cases e; omega
      have hal := oa6.rd.ilen
      rw [List.length_map, hall] at hal
      refine newS_ow (z := 1) (n := 2) (by rfl) fun y g7 oy ly yo e7 => ?_
      have y67 : Ext g6 g7 := by rw [e7]; exact Ext.app _ _
      have m7 : g7.length = g6.length + 1 := by rw [e7]; simp
      refine app_ow (by omega) (oa6.ext y67) oy.rd (by rw [ly, hal]; unfold lim; omega) fun a' g8 oa8 la8 b8 k1 _ => ?_
      have a1 := k1 _ ao
      rw [ao] at b8
      have hb8 := b8.1
      rw [w64_of (by omega) (by omega)]
      have wu6 := wu5.chg (b6.chg (P := fun o => o = h5.length) fun i e => (Option.some.inj e).symm) (by omega) fun o ho => by have := ho.1; omega
      have wu8 := ((wu6.ext y67).to (P' := fun o => h5.length < o ∧ o < g8.length) fun o ho => ⟨ho.1, Nat.lt_of_lt_of_le ho.2 (by omega)⟩).chg (b8.chg (P := fun o => o = h4.length) fun i e => (Option.some.inj e).symm) (by omega) fun o ho => by have := ho.1; omega
      refine hY _ _ _ ⟨w + 1, u', by push_cast; rfl, by omega, (ob6.ext y67).but b8 (fun e => by have := Option.some.inj e; omega), ?_, ?_, a1, ?_, ?_⟩ (by omega)
      · rw [stkR_succ, if_pos hq', ← List.append_assoc, List.map_append]
        exact wu8
      · rw [stkR_succ, if_pos hq', ← List.append_assoc, allP_app, List.map_append, ic_app]
        exact oa8
      · rw [stkR_succ, if_pos hq', ← List.append_assoc, List.length_append]
        have : ¬ ((stkI U T z ++ stkR U T z w).length : Int) = 3000 := by rw [← hul]; exact hfew
        show _ + 1 ≤ 3000
        omega
      · exact ch.trans (((((y34.chg _).trans (c46.to fun i _ e => by omega)).trans (y67.chg _)).trans (b8.chg fun i e => .inr (.inl (Option.some.inj e).symm))))
    · have hwT : w = T.length := by omega
      unfold spec_l04Stack_C2 spec_l04Stack_C1
      rw [w64_of (by omega) (by omega)]
      rw [hwT, ← stkI_succ] at wu oa hlz
      exact hX _ _ _ ⟨z + 1, u, by push_cast; rfl, by omega, ob, wu, oa, ao, hlz, ch⟩ (by omega)
  · have hzU : z = U.length := by omega
    rw [hzU] at wu oa hlz
    generalize hE : stkI U T U.length = es at wu oa hlz
    have hmem : ∀ k (hk : k < es.length), ∃ i j : Nat, es[k] = ((i : Int), (j : Int)) ∧ i < U.length ∧ j < T.length ∧ sd (tat U (i : Int)) 3 = sd (tat T (j : Int)) 1 := fun k hk => by
      obtain ⟨i, j, e, a, b, c⟩ := stkI_mem (S := U) (T := T) (z := U.length) (e := es[k]) (by rw [hE]; exact List.getElem_mem hk)
      exact ⟨i, j, e, a, b, c⟩
    have hgo := ob.lt
    unfold spec_l04Stack_C0
    refine (sortedD_c _ _ a g (Nat.le_refl _) (by rw [List.length_map, hall]; omega) oa.rd).to ?_
    rintro q ha ⟨Q, rQ, aQ, mQ, lQ, _, xa⟩
    rw [← hE] at mQ
    have hQ := codes_eq hsm aQ mQ
    refine newS_ow (by rfl) fun kk hb okk lkk kko eb => ?_
    have xb : Ext ha hb := by rw [eb]; exact Ext.app _ _
    have nb : hb.length = ha.length + 1 := by rw [eb]; simp
    have xab := xa.trans xb
    have lQ2 : Q.length ≤ 6000 := by rw [List.length_map, hall] at lQ; omega
    refine spec_l04Stack_rule4 _ _ _ _ _ (fun kk i k => ∃ z : Nat, i = z ∧ z ≤ es.length ∧ Ow k kk 1 (ic ((es.take z).map fun e => keyT (stile U T e))) ∧ kk.o = some ha.length ∧ Chg (fun o => o = ha.length) hb k) (fun _ i _ => ((es.length : Int) - i).toNat) ?_ _ _
      ⟨0, rfl, by omega, by simpa [ic] using okk, kko, Chg.refl _ _⟩
    clear okk kko
    rintro X4 kk _ k ⟨z, rfl, hz, okk, kko, ck⟩ hZ
    have hxa := xa.len
    have Ek : Ext g k := xab.chg_ ck fun i e => by omega
    have Ea : Ext ha k := xb.chg_ ck fun i e => by omega
    have obk := ob.ext Ek
    have wuk := wu.ext Ek
    have hul := wuk.len
    rw [List.length_map] at hul
    unfold spec_l04Stack_b4
    refine isPt_in (obk.ldS rfl rfl ?_)
    refine bif_dec (fun hi2 => ?_) (fun hi2 => ?_)
    · have hzl : z < es.length := by omega
      obtain ⟨i, j, he, hiU, hjT, hq⟩ := hmem z hzl
      obtain ⟨m0, m2⟩ := allP_mem hiU hjT hq
      refine isPt_in (obk.ldS rfl rfl ?_)
      have hP3 : (fun o => h5.length < o ∧ o < g.length) h3.length ∨ True := .inr trivial
      refine ((wuk.to (P' := fun o => o < g.length) fun o ho => ho.2).rd (by omega)).ld (i := z) (by rw [List.length_map]; exact hzl) fun v rv _ => ?_
      rw [List.getElem_map, he] at rv
      refine rv.ld4 (j := 0) rfl (by omega) ?_
      refine l04Find_c (rQ.ext Ea) aQ (by omega) fun n hn => ?_
      rw [hQ] at hn
      have e0 := find_num hsm m0 hn
      refine rv.ld4 (j := 1) rfl (by omega) ⟨rfl, ?_⟩
      refine rv.ld4 (j := 2) rfl (by omega) ⟨rfl, ?_⟩
      refine l04Find_c (rQ.ext Ea) aQ (by omega) fun m hm => ?_
      rw [hQ] at hm
      have e2 := find_num hsm m2 hm
      refine ⟨rfl, ?_⟩
      refine rv.ld4 (j := 3) rfl (by omega) ⟨rfl, rfl, ?_⟩
      have hTB : TB (stile U T ((i : Int), (j : Int))) := by
        have h1 := ub.stk hT (by rw [hE]; exact hlz)
        refine h1 _ ?_
        unfold stkT
        rw [hE]
        exact List.mem_map.2 ⟨es[z], List.getElem_mem hzl, by rw [he]⟩
      have hkey : w64 ((w64 ((w64 ((w64 ((w64 ((w64 (n * (6))) + sd (raw U T ((i : Int), (j : Int))) 1)) * (10000))) + m)) * (6))) + sd (raw U T ((i : Int), (j : Int))) 3) = keyT (stile U T ((i : Int), (j : Int))) := by
        rw [e0, e2]
        exact key_eq hTB
      rw [hkey]
      refine pushI4 okk (by rw [List.length_map, List.length_take]; unfold lim; omega) fun kk' k1 ok1 b1 kp => ?_
      rw [w64_of (by omega) (by omega)]
      refine hZ _ _ _ ⟨z + 1, by push_cast; rfl, by omega, ?_, kp _ kko, ck.trans (b1.chg fun i e => by rw [kko] at e; exact (Option.some.inj e).symm)⟩ (by omega)
      rw [List.take_succ_eq_append_getElem hzl, List.map_append]
      simp only [List.map_cons, List.map_nil, he]
      exact ok1
    · have hzE : z = es.length := by omega
      rw [hzE, List.take_length] at okk
      have hmapk : (es.map fun e => keyT (stile U T e)) = (stkT U T).map keyT := by unfold stkT; rw [hE, List.map_map]; rfl
      rw [hmapk] at okk
      have hsl2 : (stkT U T).length ≤ 3000 := by unfold stkT; rw [List.length_map, hE]; exact hlz
      have hUS := ub.stk hT (by rw [hE]; exact hlz)
      unfold spec_l04Stack_C4
      refine (sortedD_c _ _ kk k (Nat.le_refl _) (by rw [List.length_map]; omega) okk.rd).to ?_
      rintro q2 hc ⟨Q2, rQ2, aQ2, mQ2, lQ2', hq2o, xc⟩
      have hQ2 := keys_eq hUS aQ2 mQ2
      subst hQ2
      have hDl := dsT_len (stkT U T)
      generalize hD : dsT (stkT U T) = D at rQ2 hDl
      have hDB : UOK D := hUS.sub fun t ht => mem_dsort.1 (by rw [← hD] at ht; exact ht)
      have hql := rQ2.ilen
      rw [List.length_map] at hql
      refine newS_ow (by rfl) fun f hd of_ lf fo ed => ?_
      have xd : Ext hc hd := by rw [ed]; exact Ext.app _ _
      have nd : hd.length = hc.length + 1 := by rw [ed]; simp
      have xcd := xc.trans xd
      have obd := obk.ext xcd
      refine isPt_in ?_
      refine obd.st1 rfl (by simp) _ fun hf obf bf mf => ?_
      have hxcd := xcd.len
      have hxc := xc.len
      have hEk := Ek.len
      have hf2 := of_.but bf (.inl fun e => by rw [fo] at e; have := Option.some.inj e; omega)
      have p3 := (o3.ext (E3.trans (Ek.trans xcd))).but bf (fun e => by have := Option.some.inj e; omega)
      refine spec_l04Stack_rule6 _ _ _ _ _ (fun i k => ∃ (z : Nat) (f : Sl), i = z ∧ z ≤ D.length ∧ Obj k h5.length [.sl f] ∧ WO (fun o => hd.length ≤ o ∧ o < k.length) k hc.length f (D.take z) ∧ Chg (fun o => o = hc.length ∨ o = h5.length) hf k) (fun i _ => ((D.length : Int) - i).toNat) ?_ _
        ⟨0, f, rfl, by omega, obf, by simpa using WO.nil hf2 fo, Chg.refl _ _⟩
      have Xhf : Ext h0 hf := ((Eg.trans Ek).trans xcd).but_ bf (some_le (by omega))
      rintro X6 _ k2 ⟨z, f, rfl, hz, obk2, wf, c2⟩ hW
      have hc2 := c2.1
      have cA : Chg (fun o => o = h5.length ∨ hc.length ≤ o) hc k2 := ((xd.chg _).trans (bf.chg fun i e => .inl (Option.some.inj e).symm)).trans (c2.to fun i _ e => by omega)
      have hkl := hgo
      have rQk := rQ2.chgL cA fun o ho e hbad => by
        rcases hbad with hbad | hbad
        · rcases hq2o o e with h' | h'
          · rw [kko] at h'; have := Option.some.inj h'; omega
          · omega
        · omega
      have Xk2 : Ext h0 k2 := Xhf.chg_ c2 fun i e => by have := Eg.len; omega
      have p3k := p3.chg c2 (by omega)
      unfold spec_l04Stack_b6
      refine bif_dec (fun hi3 => ?_) (fun hi3 => ?_)
      · have hzl : z < D.length := by omega
        have hgd : (D.map keyT).getD z 0 = keyT D[z] := by rw [List.getD_eq_getElem?_getD, List.getElem?_map, List.getElem?_eq_getElem hzl]; rfl
        have hld : ∀ {K : Int → Prop}, K (keyT D[z]) → ixS q2 1 (z : Int) fun p => Cl.ldI .i64 p k2 K := fun {K} hK => by
          refine rQk.ldG (by omega) (by rw [List.length_map]; omega) ?_
          rw [Int.toNat_natCast, hgd]; exact hK
        refine hld ⟨by decide, by decide, ?_⟩
        refine isPt_in (obk2.ldS rfl rfl ⟨by decide, by decide, ?_⟩)
        refine hld ⟨by decide, by decide, ?_⟩
        refine hld ⟨by decide, ?_⟩
        rw [dec_eq (hDB _ (List.getElem_mem hzl))]
        refine newS_ow (z := 1) (n := 4) (by rfl) fun v g3 ov lv vo e3 => ?_
        have y3 : Ext k2 g3 := by rw [e3]; exact Ext.app _ _
        have m3 : g3.length = k2.length + 1 := by rw [e3]; simp
        have ob3 := obk2.ext y3
        refine ⟨(ob3.cellE (n := 1) rfl).trans (obk2.cellE (n := 1) rfl).symm, ?_⟩
        refine newS_ow (by rfl) fun x g4 ox lx xo e4 => ?_
        have y4 : Ext g3 g4 := by rw [e4]; exact Ext.app _ _
        have m4 : g4.length = g3.length + 1 := by rw [e4]; simp
        have y34 := y3.trans y4
        have ob4 := ob3.ext y4
        refine ⟨(ob4.cellE (n := 1) rfl).trans (obk2.cellE (n := 1) rfl).symm, ?_⟩
        have rv : Rd g4 v 1 (ic (tl D[z])) := ov.rd.ext y4
        have wf4 := (wf.ext y34).to (P' := fun o => hd.length ≤ o ∧ o < g4.length) fun o ho => ⟨ho.1, Nat.lt_of_lt_of_le ho.2 (by omega)⟩
        refine wf4.app ox.rd rv (fun o e => by rw [vo] at e; cases e; exact ⟨⟨by omega, by omega⟩, by omega⟩) (fun o ho => by have := ho.1; omega) (by rw [List.length_take]; omega) fun f' g5 wf5 b5' => ?_
        have ob5 := ob4.but b5' (fun e => by have := Option.some.inj e; omega)
        have hb5 := b5'.1
        refine isPt_in ?_
        refine ob5.st1 rfl (by simp) _ fun g6 ob6 b6 m6 => ?_
        rw [w64_of (by omega) (by omega)]
        refine hW _ _ ⟨z + 1, f', by push_cast; rfl, by omega, ob6, ?_, ?_⟩ (by omega)
        · rw [List.take_succ_eq_append_getElem hzl]
          exact (wf5.chg (b6.chg (P := fun o => o = h5.length) fun i e => (Option.some.inj e).symm) (by omega) fun o ho => by have := ho.1; omega).to fun o ho => ⟨ho.1, Nat.lt_of_lt_of_le ho.2 (by omega)⟩
        · exact c2.trans (((y34.chg _).trans (b5'.chg fun i e => .inl (Option.some.inj e).symm)).trans (b6.chg fun i e => .inr (Option.some.inj e).symm))
      · have hzD : z = D.length := by omega
        rw [hzD, List.take_length] at wf
        unfold spec_l04Stack_C6
        refine obk2.ldA rfl ?_
        refine p3k.stA fun g1 q1 b1 m1 => ?_
        have hwl := wf.lt
        refine q1.ldA rfl ⟨f, true, rfl, ?_, fun _ => ?_, Xk2.but_ b1 (some_le (by omega))⟩
        · symm
          rw [decide_eq_true_eq]
          omega
        · have w2 := wf.chg (b1.chg (P := fun o => o = h2.length) fun i e => (Option.some.inj e).symm) (by omega) fun o ho => by have := ho.1; omega
          exact (w2.to (P' := fun o => h0.length + 3 ≤ o ∧ o < g1.length) fun o ho => ⟨Nat.le_trans (by omega) ho.1, Nat.lt_of_lt_of_le ho.2 (by omega)⟩).rd ⟨by omega, by omega⟩
end
end Go.Proofs.Ytlbglfgienklfaa.Cl

/- The reference's FailingHeight and FailingWidth. No claim is stated here. -/
set_option linter.unusedVariables false
set_option linter.unusedSimpArgs false
namespace Go.Proofs.Ytlbglfgienklfaa.Cl
open Go
section
variable {h0 : H} {s : Sl} {c : Int} {T ts : List Tile} {n : Int}
theorem l04Failing_c (r : Rd h0 s 4 (tcs T)) (hT : setOK c T) (hn0 : 0 ≤ n) (hn6 : n ≤ 6) : callV SP i_spec_l04Failing [.agg (SetC c s), i64 n] h0 (FhRes (fhS T n.toNat 1 (kpL T)) h0) := by
  have h16 := hT.2.1
  apply spec_l04Failing_call
  unfold spec_l04Failing_main
  refine newK_obj fun h1 o1 x1 n1 => ?_
  refine o1.ldA rfl ?_
  refine (l04Open_c (c := c) (r.ext x1) (by omega)).to ?_
  rintro _ h2 ⟨u, rfl, wu, x2⟩
  refine (l04Keep_c wu (fun o ho => ho.2) (by omega)).to ?_
  rintro _ h3 ⟨u3, rfl, wu3, x3⟩
  refine newO_obj fun h4 o4 x4 n4 => ?_
  refine o4.stA fun h5 o5 b5 n5 => ?_
  have x5 : Ext h3 h5 := x4.but_ b5 (some_le (Nat.le_refl _))
  have x25 := x2.trans (x3.trans x5)
  have hx2 := x2.len
  have hx3 := x3.len
  have hkl := kpL_len T
  generalize hR : fhS T n.toNat 1 (kpL T) = R
  have hx5 := x5.len
  have wu5 := (wu3.ext x5).to (P' := fun o => o ≠ h3.length ∧ o < h5.length) fun o ho => by
    rcases ho with ho | ho
    · have := ho.2; exact ⟨by omega, by omega⟩
    · have := ho.2; exact ⟨by omega, by omega⟩
  refine spec_l04Failing_rule0 _ _ _ _ _ (fun i g => ∃ (z : Nat) (V : List Tile) (u : Sl), i = z + 1 ∧ (z : Int) ≤ n ∧ Obj g h3.length [.sl u] ∧ WR (fun o => o ≠ h3.length ∧ o < g.length) g u V ∧ V.length ≤ 3000 ∧ UOK V ∧ fhS T (n - z).toNat (z + 1) V = R ∧ Chg (fun o => o = h3.length) h5 g) (fun i _ => (n + 1 - i).toNat) ?_ _
    ⟨0, kpL T, u3, rfl, by omega, o5, wu5, by omega, (UOK.set hT).sub fun t ht => (List.mem_filter.1 ht).1, by rw [← hR, show (n - ((0 : Nat) : Int)).toNat = n.toNat by omega, show ((0 : Nat) : Int) + 1 = 1 by omega], Chg.refl _ _⟩
  rintro X0 _ g ⟨z, V, u, rfl, hz, og, wv, hV, ub, hfh, ch⟩ hX
  have E3 : Ext h3 g := x5.chg_ ch fun i e => by omega
  have Eg := x1.trans (x2.trans (x3.trans E3))
  have p1 := o1.ext (x2.trans (x3.trans E3))
  have hwl := wv.len
  have hE3 := E3.len
  have hch := ch.1
  unfold spec_l04Failing_b0
  refine bif_dec (fun hi => ?_) (fun hi => ?_)
  rotate_left
  · unfold spec_l04Failing_C0
    rw [show (n - (z : Int)).toNat = 0 by omega, fhS] at hfh
    exact FhRes.of hfh.symm Eg
  rw [show (n - (z : Int)).toNat = (n - ((z + 1 : Nat) : Int)).toNat + 1 by push_cast; omega] at hfh
  have hst : w64 ((z : Int) + 1 + 1) = ((z + 1 : Nat) : Int) + 1 := by rw [w64_of (by omega) (by omega)]; push_cast; rfl
  have hcz : ((z : Int) + 1 + 1) = ((z + 1 : Nat) : Int) + 1 := by push_cast; rfl
  refine bif_dec (fun hk => ?_) (fun hk => ?_)
  · refine og.ldA rfl ?_
    refine p1.ldA rfl ?_
    refine (l04Stack_c (d := c) wv (fun o ho => ho.2) hV ub (r.ext Eg) hT).to ?_
    rintro _ g1 ⟨w, b, rfl, hb, hw, y1⟩
    refine ⟨_, rfl, _, rfl, _, rfl, _, rfl, ?_⟩
    refine newO_obj fun g2 q2 y2 m2 => ?_
    refine q2.stA fun g3 q3 c3 m3 => ?_
    have y3 : Ext g1 g3 := y2.but_ c3 (some_le (Nat.le_refl _))
    have y13 := y1.trans y3
    refine bif_not (fun hq => ?_) (fun hq => ?_)
    · rw [hq] at hb
      have := of_decide_eq_false hb.symm
      exact FhRes.of (by rw [← hfh]; exact fhS_many hk (by omega)) (Eg.trans y13)
    have hb2 : ¬ 3000 < (stkI V T V.length).length := of_decide_eq_true (hb.symm.trans hq)
    have wr := (hw hq).ext y3
    have hdl := dsT_len (stkT V T)
    have hsl2 : (stkT V T).length ≤ 3000 := by unfold stkT; rw [List.length_map]; omega
    have hy1 := y1.len
    have hy3 := y3.len
    refine q3.ldA rfl ?_
    refine (l04Keep_c wr (fun o ho => by have := ho.2; omega) (by omega)).to ?_
    rintro _ g4 ⟨k, rfl, wk, y4⟩
    have y14 := y13.trans y4
    refine (og.ext y14).stA fun g5 q5 c5 m5 => ?_
    have hog := og.lt
    have hy4 := y4.len
    have E5 : Ext h0 g5 := (Eg.trans y14).but_ c5 (some_le (by have := x1.len; omega))
    have wk5 := (wk.to (P' := fun o => o ≠ h3.length ∧ o < g4.length) fun o ho => by
      rcases ho with ho | ho
      · have := ho.1; have := ho.2; exact ⟨by omega, by omega⟩
      · exact ⟨by omega, ho.2⟩).chg (c5.chg (P := fun o => o = h3.length) fun i e => (Option.some.inj e).symm) fun o ho => ho.1
    have hkl2 := wk5.len
    have hkk := kpL_len (dsT (stkT V T))
    refine isPt_in (q5.ldS rfl rfl ?_)
    refine bif_eq (fun he => FhRes.of (by rw [← hfh]; exact fhS_end hk hb2 (List.length_eq_zero_iff.1 (by omega))) E5) (fun hne => ?_)
    rw [hst]
    rw [fhS_on hk hb2 (fun e => by rw [e] at hkl2; exact hne (by rw [hkl2]; rfl))] at hfh
    refine hX _ _ ⟨z + 1, _, k, rfl, by push_cast; omega, q5, wk5.to fun o ho => ⟨ho.1, Nat.lt_of_lt_of_le ho.2 (by omega)⟩, by omega, ?_, by rw [← hcz]; exact hfh, ch.trans ((y14.chg _).trans (c5.chg fun i e => (Option.some.inj e).symm))⟩ (by omega)
    have hS := ub.stk hT (by omega)
    exact hS.sub fun t ht => mem_dsort.1 (List.mem_filter.1 ht).1
  · refine isPt_in (og.ldS rfl rfl ?_)
    refine bif_eq (fun he => FhRes.of (by rw [← hfh]; exact fhS_end1 hk (List.length_eq_zero_iff.1 (by omega))) Eg) (fun hne => ?_)
    rw [hst]
    rw [fhS_on1 hk (fun e => by rw [e] at hwl; exact hne (by rw [hwl]; rfl))] at hfh
    refine hX _ _ ⟨z + 1, _, u, rfl, by push_cast; omega, og, wv, hV, ub, by rw [← hcz]; exact hfh, ch⟩ (by omega)
theorem l04Code_c (r : Rd h0 s 4 (tcs ts)) (n : Int) : callI SP .i64 i_spec_l04Code [.agg (SetC c s), i64 n] h0 fun k h' => k = codeOf (setOK c ts) (1 ≤ n ∧ n ≤ 6) ∧ Ext h0 h' := by
  apply spec_l04Code_call
  unfold spec_l04Code_main
  refine newK_obj fun h1 o1 x1 n1 => ?_
  refine o1.ldA rfl ?_
  refine (l01Is_c (c := c) (r.ext x1)).to ?_
  rintro b h2 ⟨hb, x2⟩
  have X := x1.trans x2
  refine bif_not (fun hq => ⟨_, rfl, (codeOf_no fun h => by rw [hb.2 h] at hq; cases hq).symm, X⟩) (fun hq => ?_)
  refine l01In_k ?_
  refine bif_not (fun hq2 => ⟨_, rfl, (codeOf_range (hb.1 hq) (of_decide_eq_false hq2)).symm, X⟩) (fun hq2 => ⟨_, rfl, (codeOf_yes (hb.1 hq) (of_decide_eq_true hq2)).symm, X⟩)
theorem spec_FailingHeight_c (r : Rd h0 s 4 (tcs ts)) (sz : ts.length ≤ 1048576) (bn : i64ok n) :
    callV SP i_spec_FailingHeight [.agg (SetC c s), i64 n] h0 (FhRes (failR c ts n) h0) := by
  apply spec_FailingHeight_call
  unfold spec_FailingHeight_main
  refine newK_obj fun h1 o1 x1 n1 => ?_
  refine o1.ldA rfl ?_
  refine (l04Code_c (c := c) (r.ext x1) n).to ?_
  rintro _ h2 ⟨rfl, x2⟩
  have X := x1.trans x2
  refine bif_ne (fun hne => FhRes.of (failR_no fun h => hne (codeOf_yes h.1 h.2)) X) (fun he => ?_)
  have hok := codeOf_zero he
  refine (o1.ext x2).ldA rfl ?_
  refine (l04Failing_c (c := c) (r.ext X) hok.1 (by omega) (by omega)).to ?_
  rintro _ h3 ⟨rfl, x3⟩
  refine ⟨_, rfl, _, rfl, _, rfl, _, rfl, ?_⟩
  exact ⟨by rw [failR_ok hok], X.trans x3⟩
theorem spec_FailingWidth_c (r : Rd h0 s 4 (tcs ts)) (sz : ts.length ≤ 1048576) (bn : i64ok n) :
    callV SP i_spec_FailingWidth [.agg (SetC c s), i64 n] h0 (FhRes (failW c ts n) h0) := by
  have hsl := r.tlen
  apply spec_FailingWidth_call
  unfold spec_FailingWidth_main
  refine newK_obj fun h1 o1 x1 n1 => ?_
  refine o1.ldA rfl ?_
  refine (l04Code_c (c := c) (r.ext x1) n).to ?_
  rintro _ h2 ⟨rfl, x2⟩
  have X := x1.trans x2
  refine bif_ne (fun hne => FhRes.of (failW_no fun h => hne (codeOf_yes h.1 h.2)) X) (fun he => ?_)
  have hok := codeOf_zero he
  have h16 := hok.1.2.1
  refine newS_ow (by rfl) fun u h3 ou lu uo e3 => ?_
  have x3 : Ext h2 h3 := by rw [e3]; exact Ext.app _ _
  refine spec_FailingWidth_rule0 _ _ _ _ (fun u i g => ∃ z : Nat, i = z ∧ z ≤ ts.length ∧ Ow g u 4 (tcs ((ts.take z).map trn)) ∧ Fr h2.length u ∧ Ext h2 g) (fun _ i _ => ((ts.length : Int) - i).toNat) ?_ _ _ ⟨0, rfl, by omega, by simpa [tcs] using ou, fun o e => by rw [uo] at e; cases e; omega, x3⟩
  rintro X0 u _ g ⟨z, rfl, hz, ou, fu, y⟩ hX
  have Y := X.trans y
  have p1 := o1.ext (x2.trans y)
  unfold spec_FailingWidth_b0
  refine isPt_in (p1.ldS rfl rfl ?_)
  refine bif_dec (fun hi => ?_) (fun hi => ?_)
  · have hzl : z < ts.length := by omega
    refine isPt_in (p1.ldS rfl rfl ?_)
    refine (r.ext Y).tileG (by omega) (by omega) ?_
    rw [tat_nat hzl]
    refine newO_obj fun q1 p1 v1 l1 => ?_
    refine p1.stA fun q2 p2 d2 l2 => ?_
    have v2 : Ext g q2 := v1.but_ d2 (some_le (Nat.le_refl _))
    refine ix4 p2 1 (by omega) fun p7 _ => ?_
    refine ix4 p2 0 (by omega) fun p9 _ => ?_
    refine ix4 p2 3 (by omega) fun p11 _ => ?_
    refine ix4 p2 2 (by omega) fun p13 _ => ⟨rfl, ?_⟩
    have hul := ou.rd.tlen
    rw [List.length_map, List.length_take] at hul
    refine push_tc (t := trn ts[z]) (ou.ext v2) (by rw [List.length_map, List.length_take]; unfold lim; omega) fun u' q4 ou4 b4 hu4 l4 => ?_
    rw [w64_of (by omega) (by omega)]
    have hy := y.len
    have hv := v2.len
    refine hX _ _ _ ⟨z + 1, by push_cast; rfl, by omega, ?_, fu.push (h := q2) (by omega) hu4, (y.trans v2).but_ b4 fun o e => fu o e⟩ (by omega)
    rw [List.take_succ_eq_append_getElem hzl, List.map_append]
    exact ou4
  · have hzU : z = ts.length := by omega
    rw [hzU, List.take_length] at ou
    unfold spec_FailingWidth_C0
    refine isPt_in (p1.ldI rfl rfl ?_)
    refine (l01Made_c (l := ts.map trn) ou.rd (by rw [List.length_map]; omega) c).to ?_
    rintro _ g1 ⟨w, rfl, ow, fw, y1⟩
    refine (l04Failing_c (T := dsT (ts.map trn)) (c := c) ow.rd (hok.1.img trn_sides) (by omega) (by omega)).to ?_
    rintro _ g2 ⟨rfl, y2⟩
    refine ⟨_, rfl, _, rfl, _, rfl, _, rfl, ?_⟩
    exact ⟨by rw [failW_ok hok, trT], (Y.trans y1).trans y2⟩
end
end Go.Proofs.Ytlbglfgienklfaa.Cl

/- What the arguments of a law are. No claim is stated here. -/
set_option linter.unusedVariables false
set_option linter.unusedSimpArgs false
namespace Go.Proofs.Ytlbglfgienklfaa.Cl
open Go
theorem den_int {P : Program} {h : H} {t : TypeId} {xs : List AVal} {pd : PD} {k : IntKind} (hu : P.underlying t = some (.int k)) (d : Den P h t xs pd) : ∃ n, xs = [.int k n] ∧ (Lit.int k n).wf = true := by
  cases d with
  | int a b => rw [hu] at a; cases a; exact ⟨_, rfl, b⟩
  | bool a => rw [hu] at a; cases a
  | arr a => rw [hu] at a; cases a
  | struct a => rw [hu] at a; cases a
  | sl a => rw [hu] at a; cases a
theorem den_tile {P : Program} {h : H} {t e : TypeId} {xs : List AVal} {pd : PD} (hu : P.underlying t = some (.array 4 e)) (he : P.underlying e = some (.int .i64)) (d : Den P h t xs pd) : ∃ t : Tile, xs = tc t := by
  cases d with
  | int a b => rw [hu] at a; cases a
  | bool a => rw [hu] at a; cases a
  | @arr t n e' ass ds a b c d =>
    rw [hu] at a; cases a
    match ass, ds, b, c, d with
    | [a0, a1, a2, a3], [d0, d1, d2, d3], _, _, d =>
      obtain ⟨n0, rfl, _⟩ := den_int he (d 0 a0 d0 rfl rfl)
      obtain ⟨n1, rfl, _⟩ := den_int he (d 1 a1 d1 rfl rfl)
      obtain ⟨n2, rfl, _⟩ := den_int he (d 2 a2 d2 rfl rfl)
      obtain ⟨n3, rfl, _⟩ := den_int he (d 3 a3 d3 rfl rfl)
      exact ⟨(n0, n1, n2, n3), rfl⟩
  | struct a => rw [hu] at a; cases a
  | sl a => rw [hu] at a; cases a
theorem den_sl {P : Program} {h : H} {t e : TypeId} {xs : List AVal} {pd : PD} (hu : P.underlying t = some (.slice e)) (d : Den P h t xs pd) : ∃ (s : Sl) (ass : List (List AVal)) (ds : List PD), xs = [.sl s] ∧ ass.length = s.len ∧ ds.length = s.len ∧ s.len ≤ maxLen ∧ Rd h s (P.cellsOf e) ass.flatten ∧ ∀ (i : Nat) a d, ass[i]? = some a → ds[i]? = some d → Den P h e a d := by
  cases d with
  | int a b => rw [hu] at a; cases a
  | bool a => rw [hu] at a; cases a
  | arr a => rw [hu] at a; cases a
  | struct a => rw [hu] at a; cases a
  | sl a b c d e f => rw [hu] at a; cases a; exact ⟨_, _, _, rfl, b, c, d, e, f⟩
theorem all_tiles {P : Program} {h : H} {t e : TypeId} (hu : P.underlying t = some (.array 4 e)) (he : P.underlying e = some (.int .i64)) : ∀ (ass : List (List AVal)) (ds : List PD), ass.length = ds.length → (∀ (i : Nat) a d, ass[i]? = some a → ds[i]? = some d → Den P h t a d) → ∃ ts : List Tile, ass.flatten = tcs ts
  | [], _, _, _ => ⟨[], rfl⟩
  | a :: ass, [], h, _ => by simp at h
  | a :: ass, d :: ds, hl, hd => by
    obtain ⟨t, rfl⟩ := den_tile hu he (hd 0 a d rfl rfl)
    obtain ⟨ts, e⟩ := all_tiles hu he ass ds (by simpa using hl) (fun i a d x y => hd (i + 1) a d (by simpa using x) (by simpa using y))
    exact ⟨t :: ts, by rw [List.flatten_cons, e, tcs_cons]⟩
theorem arg_tiles {P : Program} {h : H} {t u e : TypeId} {xs : List AVal} {pd : PD} (ht : P.underlying t = some (.slice u)) (hu : P.underlying u = some (.array 4 e)) (he : P.underlying e = some (.int .i64)) (hc : P.cellsOf u = 4) (d : Den P h t xs pd) : ∃ (s : Sl) (ts : List Tile), xs = [.sl s] ∧ Rd h s 4 (tcs ts) ∧ s.len ≤ 9223372036854775807 := by
  obtain ⟨s, ass, ds, rfl, l1, l2, l3, r, hd⟩ := den_sl ht d
  obtain ⟨ts, e⟩ := all_tiles hu he ass ds (by omega) hd
  rw [hc, e] at r
  exact ⟨s, ts, rfl, r, by unfold maxLen at l3; omega⟩
theorem sep_of {n : Nat} {s w : Sl} {g : H} {z : Nat} {cs : List AVal} (f : Fr n s) (r : Ow g w z cs) (h : g.length ≤ n) : s.o ≠ w.o ∨ s.o = none := by
  cases hs : s.o with
  | none => exact .inr rfl
  | some o =>
    refine .inl fun e => ?_
    have h1 := f o hs
    have h2 := r.lt e.symm
    omega
theorem all_ints {P : Program} {h : H} {t : TypeId} (ht : P.underlying t = some (.int .i64)) : ∀ (ass : List (List AVal)) (ds : List PD), ass.length = ds.length → (∀ (i : Nat) a d, ass[i]? = some a → ds[i]? = some d → Den P h t a d) → ∃ l : List Int, ass.flatten = ic l
  | [], _, _, _ => ⟨[], rfl⟩
  | a :: ass, [], h, _ => by simp at h
  | a :: ass, d :: ds, hl, hd => by
    obtain ⟨n, rfl, _⟩ := den_int ht (hd 0 a d rfl rfl)
    obtain ⟨l, e⟩ := all_ints ht ass ds (by simpa using hl) (fun i a d x y => hd (i + 1) a d (by simpa using x) (by simpa using y))
    exact ⟨n :: l, by rw [List.flatten_cons, e, ic_cons]; rfl⟩
theorem arg_ints {P : Program} {h : H} {t u : TypeId} {xs : List AVal} {pd : PD} (ht : P.underlying t = some (.slice u)) (hu : P.underlying u = some (.int .i64)) (hc : P.cellsOf u = 1) (d : Den P h t xs pd) : ∃ (s : Sl) (l : List Int), xs = [.sl s] ∧ Rd h s 1 (ic l) ∧ s.len ≤ 9223372036854775807 := by
  obtain ⟨s, ass, ds, rfl, l1, l2, l3, r, hd⟩ := den_sl ht d
  obtain ⟨l, e⟩ := all_ints hu ass ds (by omega) hd
  rw [hc, e] at r
  exact ⟨s, l, rfl, r, by unfold maxLen at l3; omega⟩
theorem all_rows {P : Program} {h : H} {t u : TypeId} (ht : P.underlying t = some (.slice u)) (hu : P.underlying u = some (.int .i64)) (hc : P.cellsOf u = 1) : ∀ (ass : List (List AVal)) (ds : List PD), ass.length = ds.length → (∀ (i : Nat) a d, ass[i]? = some a → ds[i]? = some d → Den P h t a d) →
    ∃ (vs : List Sl) (ls : List (List Int)), ass.flatten = vs.map .sl ∧ vs.length = ass.length ∧ ls.length = ass.length ∧ (∀ (i : Nat) v l, vs[i]? = some v → ls[i]? = some l → Rd h v 1 (ic l)) ∧ ∀ l ∈ ls, l.length ≤ 9223372036854775807
  | [], _, _, _ => ⟨[], [], rfl, rfl, rfl, fun i v l h => by simp at h, fun l h => by simp at h⟩
  | a :: ass, [], h, _ => by simp at h
  | a :: ass, d :: ds, hl, hd => by
    obtain ⟨s, l, rfl, r, b⟩ := arg_ints ht hu hc (hd 0 a d rfl rfl)
    obtain ⟨vs, ls, e1, e2, e3, e4, e5⟩ := all_rows ht hu hc ass ds (by simpa using hl) (fun i a d x y => hd (i + 1) a d (by simpa using x) (by simpa using y))
    refine ⟨s :: vs, l :: ls, by rw [List.flatten_cons, e1]; rfl, by simp [e2], by simp [e3], fun i v l' h1 h2 => ?_, fun l' h => ?_⟩
    · cases i with
      | zero => simp at h1 h2; subst h1 h2; exact r
      | succ i => exact e4 i v l' (by simpa using h1) (by simpa using h2)
    · rcases List.mem_cons.1 h with rfl | h
      · have := r.ilen; omega
      · exact e5 l' h
theorem arg_rows {P : Program} {h : H} {t u e : TypeId} {xs : List AVal} {pd : PD} (ht : P.underlying t = some (.slice u)) (hu : P.underlying u = some (.slice e)) (he : P.underlying e = some (.int .i64)) (hc : P.cellsOf u = 1) (hc' : P.cellsOf e = 1) (d : Den P h t xs pd) :
    ∃ (s : Sl) (ls : List (List Int)), xs = [.sl s] ∧ RdSS h s ls ∧ s.len ≤ 9223372036854775807 ∧ ∀ l ∈ ls, l.length ≤ 9223372036854775807 := by
  obtain ⟨s, ass, ds, rfl, l1, l2, l3, r, hd⟩ := den_sl ht d
  obtain ⟨vs, ls, e1, e2, e3, e4, e5⟩ := all_rows hu he hc' ass ds (by omega) hd
  rw [hc, e1] at r
  exact ⟨s, ls, rfl, ⟨vs, by omega, r, e4⟩, by unfold maxLen at l3; omega, e5⟩
theorem arg_int {P : Program} {h : H} {t : TypeId} {xs : List AVal} {pd : PD} (ht : P.underlying t = some (.int .i64)) (d : Den P h t xs pd) : ∃ n, xs = [i64 n] ∧ i64ok n := by
  obtain ⟨n, rfl, w⟩ := den_int ht d
  refine ⟨n, rfl, ?_⟩
  have w' : (decide (IntKind.i64.min ≤ n) && decide (n ≤ IntKind.i64.max)) = true := w
  simp only [Bool.and_eq_true, decide_eq_true_eq] at w'
  unfold i64ok
  have h1 : IntKind.i64.min = -9223372036854775808 := by decide
  have h2 : IntKind.i64.max = 9223372036854775807 := by decide
  omega
def structOK (P : Program) (t c u : TypeId) : Bool := match P.underlying t with
  | some (.struct fs) => fs.size == 2 && (fs[0]?).map (·.type) == some c && (fs[1]?).map (·.type) == some u
  | _ => false
theorem arg_set0 {P : Program} {h : H} {t c u v e : TypeId} {xs : List AVal} {pd : PD} {fs : Array Field} (ht : P.underlying t = some (.struct fs)) (hs : fs.size = 2) (h0 : (fs[0]?).map (·.type) = some c) (h1 : (fs[1]?).map (·.type) = some u) (hc : P.underlying c = some (.int .i64)) (hu : P.underlying u = some (.slice v)) (hv : P.underlying v = some (.array 4 e)) (he : P.underlying e = some (.int .i64)) (hz : P.cellsOf v = 4) (d : Den P h t xs pd) :
    ∃ (n : Int) (s : Sl) (ts : List Tile), xs = SetC n s ∧ Rd h s 4 (tcs ts) ∧ s.len ≤ 9223372036854775807 := by
  cases d with
  | int a b => rw [ht] at a; cases a
  | bool a => rw [ht] at a; cases a
  | arr a => rw [ht] at a; cases a
  | @struct t fs' ass ds a b b' d =>
    rw [ht] at a; cases a
    rw [hs] at b b'
    match ass, ds, b, b', d with
    | [a0, a1], [d0, d1], _, _, d =>
      cases e0 : fs[0]? with
      | none => rw [e0] at h0; cases h0
      | some f0 =>
        cases e1 : fs[1]? with
        | none => rw [e1] at h1; cases h1
        | some f1 =>
          rw [e0] at h0; rw [e1] at h1
          simp at h0 h1
          have k0 := d 0 f0 a0 d0 e0 rfl rfl
          have k1 := d 1 f1 a1 d1 e1 rfl rfl
          rw [h0] at k0; rw [h1] at k1
          obtain ⟨n, rfl, _⟩ := den_int hc k0
          obtain ⟨s, ts, rfl, r, b⟩ := arg_tiles hu hv he hz k1
          exact ⟨n, s, ts, rfl, r, b⟩
  | sl a => rw [ht] at a; cases a
theorem arg_set {P : Program} {h : H} {t c u v e : TypeId} {xs : List AVal} {pd : PD} (ht : structOK P t c u = true) (hc : P.underlying c = some (.int .i64)) (hu : P.underlying u = some (.slice v)) (hv : P.underlying v = some (.array 4 e)) (he : P.underlying e = some (.int .i64)) (hz : P.cellsOf v = 4) (d : Den P h t xs pd) :
    ∃ (n : Int) (s : Sl) (ts : List Tile), xs = SetC n s ∧ Rd h s 4 (tcs ts) ∧ s.len ≤ 9223372036854775807 := by
  unfold structOK at ht
  split at ht
  · next fs hf =>
    simp only [Bool.and_eq_true, beq_iff_eq] at ht
    exact arg_set0 hf ht.1.1 ht.1.2 ht.2 hc hu hv he hz d
  · cases ht
end Go.Proofs.Ytlbglfgienklfaa.Cl
