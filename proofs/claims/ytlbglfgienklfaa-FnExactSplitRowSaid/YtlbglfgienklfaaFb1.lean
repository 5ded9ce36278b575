/- Contracts of functions, joined. No claim is stated here. -/
import Derived.Test.YtlbglfgienklfaaFb0
import Derived.Test.YtlbglfgienklfaaFa2
/- The first place of a tile; rows of a set. No claim is stated here. -/
set_option linter.unusedVariables false
set_option linter.unusedSimpArgs false
namespace Go.Proofs.Ytlbglfgienklfaa.Cl
open Go
/-- The first place at which a tile stands in a list, else -1. -/
def idxT (L : List Tile) (t : Tile) : Int := match L.findIdx? (fun x => decide (t = x)) with
  | some k => (k : Int)
  | none => -1
variable {h0 : H} {s : Sl} {L : List Tile}
theorem index_c (r : Rd h0 s 4 (tcs L)) (hl : L.length ≤ 1000000) (t : Tile) : callI SP .i64 i_slices_Index_s_impl_Tile_impl_Tile_ [.sl s, .agg (tc t)] h0 fun n h' => n = idxT L t ∧ Ext h0 h' := by
  have hsl := r.tlen
  apply slices_Index_s_impl_Tile_impl_Tile__call
  unfold slices_Index_s_impl_Tile_impl_Tile__main
  refine newK_obj fun h1 o1 x1 n1 => ?_
  refine slices_Index_s_impl_Tile_impl_Tile__rule0 _ _ _ _ _ (fun i h => ∃ k : Nat, i = k ∧ k ≤ L.length ∧ (∀ j : Nat, j < k → ∀ x, L[j]? = some x → t ≠ x) ∧ h = h1) (fun i _ => ((L.length : Int) - i).toNat) ?_ _ ⟨0, rfl, by omega, fun j hj => by omega, rfl⟩
  rintro X _ _ ⟨k, rfl, hk, hne, rfl⟩ hX
  unfold slices_Index_s_impl_Tile_impl_Tile__b0 slices_Index_s_impl_Tile_impl_Tile__C0
  refine bif_dec (fun hi => ?_) (fun hi => ?_)
  · refine o1.ldA rfl ?_
    have hkl : k < L.length := by omega
    refine (r.ext x1).ldT (by omega) (by omega) fun x hx => eqA_tc ?_
    rw [Int.toNat_natCast] at hx
    refine bif_dec (fun he => ?_) (fun he => ?_)
    · refine ⟨_, rfl, ?_, x1⟩
      unfold idxT
      rw [show L.findIdx? (fun x => decide (t = x)) = some k from by
        rw [List.findIdx?_eq_some_iff_getElem]
        obtain ⟨hk', e⟩ := List.getElem?_eq_some_iff.1 hx
        exact ⟨hk', by simp [e, he], fun j hj => by simp; exact hne j hj _ (List.getElem?_eq_some_iff.2 ⟨by omega, rfl⟩)⟩]
    · rw [w64_of (by omega) (by omega)]
      refine hX _ _ ⟨k + 1, by push_cast; rfl, by omega, fun j hj x' hx' => ?_, rfl⟩ (by omega)
      by_cases hjk : j = k
      · subst hjk; rw [hx] at hx'; cases hx'; exact he
      · exact hne j (by omega) x' hx'
  · refine ⟨_, rfl, ?_, x1⟩
    unfold idxT
    rw [show L.findIdx? (fun x => decide (t = x)) = none from by
      rw [List.findIdx?_eq_none_iff]
      intro x hx
      obtain ⟨j, hj, e⟩ := List.mem_iff_getElem.1 hx
      simp
      exact hne j (by omega) x (List.getElem?_eq_some_iff.2 ⟨hj, e⟩)]
def rowQ (L : List Tile) (l : List Int) (k : Nat) : Prop := (0 ≤ l.getD k 0 ∧ l.getD k 0 ≤ (L.length : Int) - 1) ∧ (0 < k → sd (tat L (l.getD (k - 1) 0)) 2 = sd (tat L (l.getD k 0)) 0)
def rowOK (L : List Tile) (l : List Int) : Prop := (1 ≤ l.length ∧ l.length ≤ 20) ∧ ∀ k : Nat, k < l.length → rowQ L l k
theorem isRow_c {c : Int} {v : Sl} {l : List Int} (r : Rd h0 s 4 (tcs L)) (hl : L.length ≤ 1000000) (q : Rd h0 v 1 (ic l)) (hv : l.length ≤ 1048576) : callB SP i_impl_Set_isRow [.agg (SetC c s), .sl v] h0 fun b h' => (b = true ↔ rowOK L l) ∧ Ext h0 h' := by
  have hsl := r.tlen
  have hvl := q.ilen
  apply impl_Set_isRow_call
  unfold impl_Set_isRow_main
  refine newK_obj fun h1 o1 x1 n1 => ?_
  refine impl_Set_isRow_rule0 _ _ _ _ _ _ (fun i h => ∃ k : Nat, i = k ∧ k ≤ l.length ∧ (∀ j : Nat, j < k → rowQ L l j) ∧ Ext h1 h) (fun i _ => ((l.length : Int) - i).toNat) ?_ _ ⟨0, rfl, by omega, fun j hj => by omega, Ext.refl _⟩
  rintro X _ h2 ⟨k, rfl, hk, hq, x2⟩ hX
  unfold impl_Set_isRow_b0 impl_Set_isRow_C0
  have x := x1.trans x2
  refine bif_dec (fun hi => ?_) (fun hi => ?_)
  · refine (q.ext x).ldG (by omega) (by omega) ?_
    rw [Int.toNat_natCast]
    refine (o1.ext x2).ldA rfl ?_
    refine (isNumber_c _ (by omega)).to ?_
    rintro _ h3 ⟨rfl, x3⟩
    refine bif_not (fun hb => ⟨_, rfl, ?_, x.trans x3⟩) (fun hb => ?_)
    · have hb := of_decide_eq_false hb
      exact ⟨fun h => by simp at h, fun h => absurd (h.2 k (by omega)).1 (by omega)⟩
    · have hb := of_decide_eq_true hb
      have x' := x.trans x3
      refine bif_dec (fun hp => ?_) (fun hp => ?_)
      · have o3 := (o1.ext x2).ext x3
        refine isPt_in (o3.ldS rfl rfl ?_)
        rw [w64_of (by omega) (by omega)]
        have hk1 := (hq (k - 1) (by omega)).1
        have e1 : ((k : Int) - 1).toNat = k - 1 := by omega
        refine (q.ext x').ldG (by omega) (by omega) ?_
        rw [e1]
        refine (r.ext x').sideG (by omega) (by omega) (by omega) (by omega) ?_
        refine isPt_in (o3.ldS rfl rfl ?_)
        refine (r.ext x').sideG (by omega) (by omega) (by omega) (by omega) ?_
        refine bif_ne (fun hne => ⟨_, rfl, ?_, x'⟩) (fun heq => ?_)
        · exact ⟨fun h => by simp at h, fun h => absurd ((h.2 k (by omega)).2 (by omega)) hne⟩
        · rw [w64_of (by omega) (by omega)]
          refine hX _ _ ⟨k + 1, by push_cast; rfl, by omega, fun j hj => ?_, x2.trans x3⟩ (by omega)
          by_cases hjk : j = k
          · subst hjk; exact ⟨⟨hb.1, by omega⟩, fun _ => heq⟩
          · exact hq j (by omega)
      · rw [w64_of (by omega) (by omega)]
        refine hX _ _ ⟨k + 1, by push_cast; rfl, by omega, fun j hj => ?_, x2.trans x3⟩ (by omega)
        by_cases hjk : j = k
        · subst hjk; exact ⟨⟨hb.1, by omega⟩, fun h => by omega⟩
        · exact hq j (by omega)
  · have hkl : k = l.length := by omega
    refine within_k ⟨_, rfl, ?_, x⟩
    rw [decide_eq_true_eq]
    exact ⟨fun h => ⟨by omega, fun j hj => hq j (by omega)⟩, fun h => by have := h.1; omega⟩
theorem l02Row_c {c : Int} {v : Sl} {l : List Int} (r : Rd h0 s 4 (tcs L)) (hl : L.length ≤ 1000000) (q : Rd h0 v 1 (ic l)) (hv : l.length ≤ 1048576) : callB SP i_spec_l02Row [.agg (SetC c s), .sl v] h0 fun b h' => (b = true ↔ rowOK L l) ∧ Ext h0 h' := by
  have hsl := r.tlen
  have hvl := q.ilen
  apply spec_l02Row_call
  unfold spec_l02Row_main
  refine newK_obj fun h1 o1 x1 n1 => ?_
  refine bif_dec (fun hi => ⟨_, rfl, ⟨fun h => by simp at h, fun h => by have := h.1; omega⟩, x1⟩) (fun hi1 => ?_)
  refine bif_dec (fun hi => ⟨_, rfl, ⟨fun h => by simp at h, fun h => by have := h.1; omega⟩, x1⟩) (fun hi2 => ?_)
  refine spec_l02Row_rule0 _ _ _ _ (fun i h => ∃ k : Nat, i = k ∧ k ≤ l.length ∧ (∀ j : Nat, j < k → rowQ L l j) ∧ Ext h1 h) (fun i _ => ((l.length : Int) - i).toNat) ?_ _ ⟨0, rfl, by omega, fun j hj => by omega, Ext.refl _⟩
  rintro X _ h2 ⟨k, rfl, hk, hq, x2⟩ hX
  unfold spec_l02Row_b0 spec_l02Row_C0
  have x := x1.trans x2
  refine bif_dec (fun hi => ?_) (fun hi => ?_)
  · refine (q.ext x).ldG (by omega) (by omega) ?_
    rw [Int.toNat_natCast]
    have o2 := o1.ext x2
    refine isPt_in (o2.ldS rfl rfl ?_)
    rw [w64_of (by omega) (by omega)]
    refine l01In_k ?_
    refine bif_not (fun hb => ⟨_, rfl, ?_, x⟩) (fun hb => ?_)
    · have hb := of_decide_eq_false hb
      exact ⟨fun h => by simp at h, fun h => absurd (h.2 k (by omega)).1 (by omega)⟩
    · have hb := of_decide_eq_true hb
      refine bif_dec (fun hp => ?_) (fun hp => ?_)
      · refine isPt_in (o2.ldS rfl rfl ?_)
        rw [w64_of (n := (k : Int) - 1) (by omega) (by omega)]
        have hk1 := (hq (k - 1) (by omega)).1
        have e1 : ((k : Int) - 1).toNat = k - 1 := by omega
        refine (q.ext x).ldG (by omega) (by omega) ?_
        rw [e1]
        refine (r.ext x).sideG (by omega) (by omega) (by omega) (by omega) ?_
        refine isPt_in (o2.ldS rfl rfl ?_)
        refine (q.ext x).ldG (by omega) (by omega) ?_
        rw [Int.toNat_natCast]
        refine (r.ext x).sideG (by omega) (by omega) (by omega) (by omega) ?_
        refine bif_ne (fun hne => ⟨_, rfl, ?_, x⟩) (fun heq => ?_)
        · exact ⟨fun h => by simp at h, fun h => absurd ((h.2 k (by omega)).2 (by omega)) hne⟩
        · rw [w64_of (by omega) (by omega)]
          refine hX _ _ ⟨k + 1, by push_cast; rfl, by omega, fun j hj => ?_, x2⟩ (by omega)
          by_cases hjk : j = k
          · subst hjk; exact ⟨⟨hb.1, by omega⟩, fun _ => heq⟩
          · exact hq j (by omega)
      · rw [w64_of (by omega) (by omega)]
        refine hX _ _ ⟨k + 1, by push_cast; rfl, by omega, fun j hj => ?_, x2⟩ (by omega)
        by_cases hjk : j = k
        · subst hjk; exact ⟨⟨hb.1, by omega⟩, fun h => by omega⟩
        · exact hq j (by omega)
  · have hkl : k = l.length := by omega
    exact ⟨_, rfl, ⟨fun _ => ⟨by omega, fun j hj => hq j (by omega)⟩, fun _ => rfl⟩, x⟩
end Go.Proofs.Ytlbglfgienklfaa.Cl

/- The first stacked pair with a tile: plain; the reference's and the program's SplitRow. No claim is stated here. -/
set_option linter.unusedVariables false
set_option linter.unusedSimpArgs false
namespace Go.Proofs.Ytlbglfgienklfaa.Cl
open Go
section
variable {S T : List Tile}
theorem stkR_split {z w : Nat} (hq : sd (tat S (z : Int)) 3 = sd (tat T (w : Int)) 1) : ∀ n, w < n → ∃ r, stkR S T z n = stkR S T z w ++ ((z : Int), (w : Int)) :: r
  | 0, h => by omega
  | n + 1, h => by
    by_cases e : n = w
    · subst e
      exact ⟨[], by rw [stkR_succ, if_pos hq]⟩
    · obtain ⟨r, hr⟩ := stkR_split hq n (by omega)
      exact ⟨_, by rw [stkR_succ, hr, List.append_assoc, List.cons_append]⟩
theorem stkI_split {z w : Nat} (hq : sd (tat S (z : Int)) 3 = sd (tat T (w : Int)) 1) (hw : w < T.length) : ∀ n, z < n → ∃ r, stkI S T n = (stkI S T z ++ stkR S T z w) ++ ((z : Int), (w : Int)) :: r
  | 0, h => by omega
  | n + 1, h => by
    by_cases e : n = z
    · subst e
      obtain ⟨r, hr⟩ := stkR_split (S := S) hq T.length hw
      exact ⟨r, by rw [stkI_succ, hr, List.append_assoc]⟩
    · obtain ⟨r, hr⟩ := stkI_split hq hw n (by omega)
      exact ⟨_, by rw [stkI_succ, hr, List.append_assoc, List.cons_append]⟩
/-- The first stacked pair with a tile. -/
noncomputable def spP (S T : List Tile) (t : Tile) : Int × Int := (stkI S T S.length).getD (idxT (stkT S T) t).toNat (0, 0)
theorem spP_of {z w : Nat} (hz : z < S.length) (hw : w < T.length) (hq : sd (tat S (z : Int)) 3 = sd (tat T (w : Int)) 1) {t : Tile} (ht : t = stile S T ((z : Int), (w : Int)))
    (hne : ∀ e ∈ stkI S T z ++ stkR S T z w, t ≠ stile S T e) : spP S T t = ((z : Int), (w : Int)) := by
  obtain ⟨r, hr⟩ := stkI_split (S := S) hq hw S.length hz
  have hi : idxT (stkT S T) t = ((stkI S T z ++ stkR S T z w).length : Nat) := by
    unfold idxT stkT
    rw [hr, List.map_append, List.map_cons]
    have : List.findIdx? (fun x => decide (t = x)) (List.map (stile S T) (stkI S T z ++ stkR S T z w) ++ stile S T ((z : Int), (w : Int)) :: List.map (stile S T) r) = some (stkI S T z ++ stkR S T z w).length := by
      rw [List.findIdx?_eq_some_iff_getElem]
      refine ⟨by simp, ?_, fun j hj => ?_⟩
      · rw [List.getElem_append_right (by simp)]
        simp [ht]
      · rw [List.getElem_append_left (by rw [List.length_map]; exact hj), List.getElem_map]
        have := hne _ (List.getElem_mem hj)
        simpa using this
    rw [this]
  unfold spP
  rw [hi, Int.toNat_natCast, hr, List.getD_eq_getElem?_getD, List.getElem?_append_right (by omega)]
  simp
theorem idxT_mem {L : List Tile} {t : Tile} (h : t ∈ L) : 0 ≤ idxT L t ∧ idxT L t < L.length := by
  unfold idxT
  cases hq : L.findIdx? (fun x => decide (t = x)) with
  | none =>
    rw [List.findIdx?_eq_none_iff] at hq
    have := hq t h
    simp at this
  | some k =>
    rw [List.findIdx?_eq_some_iff_getElem] at hq
    obtain ⟨h1, _⟩ := hq
    simp only
    omega
end
section
variable {h0 : H} {s t v : Sl} {S T : List Tile} {c d : Int} {l : List Int}
open Classical in
noncomputable def codeSp (c : Int) (S : List Tile) (d : Int) (T : List Tile) (l : List Int) : Int := if setOK c S ∧ setOK d T then (if stkE c d S T ≠ 0 then stkE c d S T else if rowOK (stkF c d S T).2 l then 0 else 2) else 1
open Classical in
noncomputable def F_SplitRow_0 (c : Int) (S : List Tile) (d : Int) (T : List Tile) (l : List Int) : List Int := if codeSp c S d T l = 0 then l.map fun k => (spP S T (tat (stkF c d S T).2 k)).1 else []
open Classical in
noncomputable def F_SplitRow_1 (c : Int) (S : List Tile) (d : Int) (T : List Tile) (l : List Int) : List Int := if codeSp c S d T l = 0 then l.map fun k => (spP S T (tat (stkF c d S T).2 k)).2 else []
noncomputable def F_SplitRow_2 (c : Int) (S : List Tile) (d : Int) (T : List Tile) (l : List Int) : Int := codeSp c S d T l
theorem F_Sp0 (h : codeSp c S d T l = 0) : F_SplitRow_0 c S d T l = l.map fun k => (spP S T (tat (stkF c d S T).2 k)).1 := by unfold F_SplitRow_0; rw [if_pos h]
theorem F_Sp1 (h : codeSp c S d T l = 0) : F_SplitRow_1 c S d T l = l.map fun k => (spP S T (tat (stkF c d S T).2 k)).2 := by unfold F_SplitRow_1; rw [if_pos h]
theorem F_Sp0n (h : codeSp c S d T l ≠ 0) : F_SplitRow_0 c S d T l = [] := by unfold F_SplitRow_0; rw [if_neg h]
theorem F_Sp1n (h : codeSp c S d T l ≠ 0) : F_SplitRow_1 c S d T l = [] := by unfold F_SplitRow_1; rw [if_neg h]
/-- What a call of SplitRow brings about. -/
def SpRes (c : Int) (S : List Tile) (d : Int) (T : List Tile) (l : List Int) (h0 : H) (r : AVal) (h' : H) : Prop := ∃ a b, r = .tuple [.sl a, .sl b, i64 (codeSp c S d T l)] ∧ Ow h' a 1 (ic (F_SplitRow_0 c S d T l)) ∧ Fr h0.length a ∧ Ow h' b 1 (ic (F_SplitRow_1 c S d T l)) ∧ Fr h0.length b ∧ (∀ o, a.o = some o → b.o ≠ some o) ∧ Ext h0 h'
theorem SpRes.no {k : Int} {h' : H} (hk : k = codeSp c S d T l) (hne : k ≠ 0) (x : Ext h0 h') : SpRes c S d T l h0 (.tuple [.sl Sl.nil, .sl Sl.nil, .int .i64 k]) h' := by
  subst hk
  exact ⟨Sl.nil, Sl.nil, rfl, by rw [F_Sp0n hne]; exact Ow.nil _ _, Fr.nil _, by rw [F_Sp1n hne]; exact Ow.nil _ _, Fr.nil _, (fun o e => by cases e), x⟩
theorem codeSp_1 (h : ¬ (setOK c S ∧ setOK d T)) : 1 = codeSp c S d T l := by unfold codeSp; rw [if_neg h]
theorem codeSp_e (h : setOK c S ∧ setOK d T) (h2 : stkE c d S T ≠ 0) : stkE c d S T = codeSp c S d T l := by unfold codeSp; rw [if_pos h, if_pos h2]
theorem codeSp_2 (h : setOK c S ∧ setOK d T) (h2 : stkE c d S T = 0) (h3 : ¬ rowOK (stkF c d S T).2 l) : 2 = codeSp c S d T l := by unfold codeSp; rw [if_pos h, if_neg (by simpa using h2), if_neg h3]
theorem codeSp_0 (h : setOK c S ∧ setOK d T) (h2 : stkE c d S T = 0) (h3 : rowOK (stkF c d S T).2 l) : codeSp c S d T l = 0 := by unfold codeSp; rw [if_pos h, if_neg (by simpa using h2), if_pos h3]
theorem stkE_0 (h : stkE c d S T = 0) : (stkF c d S T).2 = dsT (stkT S T) ∧ (stkF c d S T).2.length ≤ 16 := by
  unfold stkE at h
  unfold stkF
  split at h
  · next hf => rw [if_pos hf]; exact ⟨rfl, hf.2⟩
  · cases h
theorem stkF_mem (h : stkE c d S T = 0) {k : Int} (hk : 0 ≤ k ∧ k ≤ ((stkF c d S T).2.length : Int) - 1) : tat (stkF c d S T).2 k ∈ stkT S T := by
  have h1 := (stkE_0 h).1
  have hm : tat (stkF c d S T).2 k ∈ (stkF c d S T).2 := List.mem_of_getElem? (at_tat (by omega))
  rw [h1] at hm ⊢
  exact mem_dsort.1 hm
theorem SplitRow_small0 (hS : S.length ≤ 1048576) (hT : T.length ≤ 1048576) (hl : l.length ≤ 1048576) : (F_SplitRow_0 c S d T l).length < 1000000 := by
  unfold F_SplitRow_0
  split
  · next h =>
    rw [List.length_map]
    have : rowOK (stkF c d S T).2 l := by
      unfold codeSp at h
      split at h
      · split at h
        · next h2 => exact absurd h h2
        · split at h
          · assumption
          · cases h
      · cases h
    have := this.1.2
    omega
  · simp
theorem SplitRow_small1 (hS : S.length ≤ 1048576) (hT : T.length ≤ 1048576) (hl : l.length ≤ 1048576) : (F_SplitRow_1 c S d T l).length < 1000000 := by
  have h := SplitRow_small0 (c := c) (d := d) hS hT hl
  have e : (F_SplitRow_1 c S d T l).length = (F_SplitRow_0 c S d T l).length := by
    unfold F_SplitRow_0 F_SplitRow_1
    split <;> simp
  omega
theorem impl_SplitRow_c (rs : Rd h0 s 4 (tcs S)) (rt : Rd h0 t 4 (tcs T)) (rv : Rd h0 v 1 (ic l)) (hS : S.length ≤ 1048576) (hT : T.length ≤ 1048576) (hl : l.length ≤ 1048576) :
    callV SP i_impl_SplitRow [.agg (SetC c s), .agg (SetC d t), .sl v] h0 (SpRes c S d T l h0) := by
  have hvl := rv.ilen
  apply impl_SplitRow_call
  unfold impl_SplitRow_main
  refine newK_obj fun h1 o1 x1 n1 => ?_
  refine newK_obj fun h2 o2 x2 n2 => ?_
  have p1 := o1.ext x2
  have X := x1.trans x2
  refine p1.ldA rfl ?_
  refine o2.ldA rfl ⟨rfl, rfl, ?_⟩
  refine newS_ow (by rfl) fun q h4 oq lq qo e4 => ?_
  have x4 : Ext h2 h4 := by rw [e4]; exact Ext.app _ _
  have X4 := X.trans x4
  refine (areSets_c (c := c) (d := d) (s := s) (t := t) oq.rd (rs.ext X4) (rt.ext X4) (by omega) (by omega)).to ?_
  rintro b h5 ⟨hb, x5⟩
  have X5 := X4.trans x5
  refine bif_not (fun hq => SpRes.no (codeSp_1 fun h => by rw [hb.2 h] at hq; cases hq) (by decide) X5) (fun hq => ?_)
  have hyes := hb.1 hq
  have hS16 := hyes.1.2.1
  have hT16 := hyes.2.2.1
  have p1 := p1.ext (x4.trans x5)
  have p2 := o2.ext (x4.trans x5)
  refine p1.ldA rfl ?_
  refine p2.ldA rfl ?_
  refine (impl_stack_c (c := c) (d := d) (rs.ext X5) (rt.ext X5) hS16 hT16).to ?_
  rintro _ h6 ⟨u, rfl, pu, fu, x6⟩
  refine ⟨_, rfl, _, rfl, _, rfl, _, rfl, ?_⟩
  have X6 := X5.trans x6
  refine newO_obj fun h7 o7 x7 n7 => ?_
  refine o7.stA fun h8 o8 b8 n8 => ?_
  have x8 : Ext h6 h8 := x7.but_ b8 (some_le (Nat.le_refl _))
  have X8 := X6.trans x8
  refine bif_ne (fun hne => SpRes.no (codeSp_e hyes hne) hne X8) (fun he => ?_)
  have pu8 := pu.ext x8
  have hLl := (stkE_0 he).2
  refine o8.ldA rfl ?_
  refine (isRow_c (c := (stkF c d S T).1) pu8.rd (by omega) (rv.ext X8) hl).to ?_
  rintro b h9 ⟨hb9, x9⟩
  refine bif_not (fun hq => SpRes.no (codeSp_2 hyes he fun h => by rw [hb9.2 h] at hq; cases hq) (by decide) (X8.trans x9)) (fun hq => ?_)
  have hrow := hb9.1 hq
  have hc0 := codeSp_0 hyes he hrow
  have X9 := X8.trans x9
  have o9 := o8.ext x9
  have pu9 := pu8.ext x9
  refine newS_ow (by rfl) fun a h10 oa la ao ea => ?_
  have x10 : Ext h9 h10 := by rw [ea]; exact Ext.app _ _
  have l10 : h10.length = h9.length + 1 := by rw [ea]; simp
  refine newS_ow (by rfl) fun b h11 ob lb bo eb => ?_
  have x11 : Ext h10 h11 := by rw [eb]; exact Ext.app _ _
  have l11 : h11.length = h10.length + 1 := by rw [eb]; simp
  have y11 : Ext h5 h11 := x6.trans (x8.trans (x9.trans (x10.trans x11)))
  have p1 := p1.ext y11
  have p2 := p2.ext y11
  have X11 := X5.trans y11
  refine isPt_in (p1.ldS rfl rfl ?_)
  refine isPt_in (p2.ldS rfl rfl ?_)
  refine (stacked_c (rs.ext X11) (rt.ext X11) (by omega) hT16).to ?_
  rintro w h12 ⟨ow, fw, x12⟩
  have X12 := X11.trans x12
  refine isPt_in ((p1.ext x12).ldS rfl rfl ?_)
  refine isPt_in ((p2.ext x12).ldS rfl rfl ?_)
  refine (stackTiles_c (rs.ext X12) (rt.ext X12) (by omega) hT16).to ?_
  rintro _ h13 ⟨z, rfl, oz, fz, x13⟩
  refine ⟨_, rfl, _, rfl, _, rfl, _, rfl, ?_⟩
  have X13 := X12.trans x13
  have y13 : Ext h11 h13 := x12.trans x13
  have rz := oz.rd
  have rw_ := ow.rd.ext x13
  have hbl : (stkT S T).length = (stkI S T S.length).length := by unfold stkT; rw [List.length_map]
  have hes := stkI_len S T S.length
  have hbnd : S.length * T.length ≤ 16 * 16 := Nat.mul_le_mul hS16 hT16
  have ru := (pu9.ext (x10.trans (x11.trans y13))).rd
  have o13 := o9.ext (x10.trans (x11.trans y13))
  have hy13 := y13.len
  have hX9 := X9.len
  refine impl_SplitRow_rule1 _ _ _ _ _ _ _ (fun a b i g => ∃ k : Nat, i = k ∧ k ≤ l.length ∧ Ow g a 1 (ic ((l.take k).map fun k => (spP S T (tat (stkF c d S T).2 k)).1)) ∧ Ow g b 1 (ic ((l.take k).map fun k => (spP S T (tat (stkF c d S T).2 k)).2)) ∧ a.o = some h9.length ∧ b.o = some h10.length ∧ Chg (fun i => i = h9.length ∨ i = h10.length) h13 g) (fun _ _ i _ => ((l.length : Int) - i).toNat) ?_ _ _ _
    ⟨0, rfl, by omega, by simpa [ic] using (oa.ext (x11.trans y13)), by simpa [ic] using ob.ext y13, ao, bo, Chg.refl _ _⟩
  rintro X1 a b _ g ⟨k, rfl, hk, oa, ob, ao, bo, ch⟩ hX
  unfold impl_SplitRow_b1
  refine bif_dec (fun hi => ?_) (fun hi => ?_)
  rotate_left
  · have e : k = l.length := by omega
    subst e
    rw [List.take_length] at oa ob
    unfold impl_SplitRow_C1
    refine ⟨a, b, by rw [hc0], by rw [F_Sp0 hc0]; exact oa, fun o e => by rw [ao] at e; cases e; omega, by rw [F_Sp1 hc0]; exact ob, fun o e => by rw [bo] at e; cases e; omega, fun o e e2 => by rw [ao] at e; rw [bo] at e2; cases e; have := Option.some.inj e2; omega, X13.chg_ ch fun i e => by omega⟩
  have hkl : k < l.length := by omega
  have x913 : Ext h9 h13 := x10.trans (x11.trans y13)
  have Xg : Ext h0 g := X13.chg_ ch fun i e => by omega
  have E9 : Ext h9 g := x913.chg_ ch fun i e => by omega
  have rug := (pu9.ext E9).rd
  have og := o9.ext E9
  have hx12 := x12.len
  have rzg := rz.chg ch fun i e => by have := fz i e; omega
  have rwg := rw_.chg ch fun i e => by have := fw i e; omega
  have hE9 := E9.len
  have hch := ch.1
  refine (rv.ext Xg).ldG (by omega) (by omega) ?_
  rw [Int.toNat_natCast]
  have hkk := (hrow.2 k hkl).1
  refine isPt_in (og.ldS rfl rfl ?_)
  refine rug.tileG (by omega) (by omega) ?_
  refine (index_c rzg (by omega) _).to ?_
  rintro n g1 ⟨hn, y1⟩
  have hm := idxT_mem (stkF_mem he hkk)
  rw [← hn] at hm
  have hnn : n.toNat < (stkI S T S.length).length := by omega
  have hspl : spP S T (tat (stkF c d S T).2 (l.getD k 0)) = (stkI S T S.length)[n.toNat] := by
    unfold spP
    rw [← hn, List.getD_eq_getElem?_getD, List.getElem?_eq_getElem hnn]; rfl
  rw [show n = ((n.toNat : Nat) : Int) by omega]
  refine (rwg.ext y1).ldP hnn ?_
  rw [← hspl]
  generalize hE : spP S T (tat (stkF c d S T).2 (l.getD k 0)) = E
  refine newO_obj fun g2 q2 y2 m2 => ?_
  refine q2.stA fun g3 q3 c3 m3 => ?_
  refine slotK_in fun g4 y4 m4 => ?_
  have z3 : Ext g g3 := y1.trans (y2.but_ c3 (some_le (Nat.le_refl _)))
  have z4 := z3.trans y4
  have q4 := q3.ext y4
  have hy1 := y1.len
  refine ix2 q4 0 (by omega) fun p13 hp13 => ?_
  refine ix2 q4 1 (by omega) fun p15 hp15 => ?_
  have oa4 := oa.ext z4
  have ob4 := ob.ext z4
  have hq3 := q3.lt
  have hE4 := cell_pc q4
  refine newSat_ow (by omega) (by rfl) fun t5 g5 ot5 lt5 to5 b5 m5 => ?_
  have q5 := q4.but b5 (fun e => by have := Option.some.inj e; omega)
  refine ⟨by rw [hp15, cell_pc q5 1 (by omega), cell_pc q4 1 (by omega)], ?_⟩
  have oa5 := oa4.but b5 (.inl fun e => by rw [ao] at e; have := Option.some.inj e; omega)
  have ob5 := ob4.but b5 (.inl fun e => by rw [bo] at e; have := Option.some.inj e; omega)
  have hal : a.len = k := by have := oa5.rd.ilen; rw [List.length_map, List.length_take] at this; omega
  have hbl' : b.len = k := by have := ob5.rd.ilen; rw [List.length_map, List.length_take] at this; omega
  refine app_ow (by omega) oa5 ot5.rd (by rw [lt5, hal]; unfold lim; omega) fun a2 g6 oa6 la6 b6 k1 _ => ?_
  have q6 := q5.but b6 (fun e => by rw [ao] at e; have := Option.some.inj e; omega)
  have ob6 := ob5.but b6 (.inl fun e => by rw [ao, bo] at e; have := Option.some.inj e; omega)
  have h6l := b6.1
  refine ⟨by rw [hp15, cell_pc q6 1 (by omega), cell_pc q4 1 (by omega)], ?_⟩
  have a2o := k1 _ ao
  refine newSat_ow (by omega) (by rfl) fun t7 g7 ot7 lt7 to7 b7 m7 => ?_
  have q7 := q6.but b7 (fun e => by have := Option.some.inj e; omega)
  refine ⟨by rw [hp13, cell_pc q6 0 (by omega), cell_pc q4 0 (by omega)], by rw [hp13, cell_pc q7 0 (by omega), cell_pc q4 0 (by omega)], ?_⟩
  have oa7 := oa6.but b7 (.inl fun e => by rw [a2o] at e; have := Option.some.inj e; omega)
  have ob7 := ob6.but b7 (.inl fun e => by rw [bo] at e; have := Option.some.inj e; omega)
  refine app_ow (by omega) ob7 ot7.rd (by rw [lt7, hbl']; unfold lim; omega) fun b2 g8 ob8 lb8 b8 k3 _ => ?_
  have b2o := k3 _ bo
  have oa8 := oa7.but b8 (.inl fun e => by rw [a2o, bo] at e; have := Option.some.inj e; omega)
  rw [w64_of (by omega) (by omega)]
  have hlk : l[k] = l.getD k 0 := by rw [List.getD_eq_getElem?_getD, List.getElem?_eq_getElem hkl]; rfl
  refine hX _ _ _ _ ⟨k + 1, by push_cast; rfl, by omega, ?_, ?_, a2o, b2o, ?_⟩ (by omega)
  · rw [List.take_succ_eq_append_getElem hkl, List.map_append, ic_app, hlk]
    simp only [List.map_cons, List.map_nil, hE]
    exact oa8
  · rw [List.take_succ_eq_append_getElem hkl, List.map_append, ic_app, hlk]
    simp only [List.map_cons, List.map_nil, hE]
    exact ob8
  · have n5 : Chg (fun i => g.length ≤ i ∨ i = h9.length ∨ i = h10.length) g g8 := (z4.chg _).trans ((b5.chg fun i e => by have := Option.some.inj e; omega).trans ((b6.chg fun i e => by rw [ao] at e; have := Option.some.inj e; omega).trans ((b7.chg fun i e => by have := Option.some.inj e; omega).trans (b8.chg fun i e => by rw [bo] at e; have := Option.some.inj e; omega))))
    exact ch.trans (n5.to fun i hi e => by omega)
end
end Go.Proofs.Ytlbglfgienklfaa.Cl

/- The reference's SplitRow. No claim is stated here. -/
set_option linter.unusedVariables false
set_option linter.unusedSimpArgs false
namespace Go.Proofs.Ytlbglfgienklfaa.Cl
open Go
section
variable {h0 : H} {s t v : Sl} {S T : List Tile} {c d : Int} {l : List Int}
theorem stk0_yes (h : F_StackSets_1 c S d T = 0) : (setOK c S ∧ setOK d T) ∧ stkE c d S T = 0 ∧ F_StackSets_0 c S d T = stkF c d S T := by
  unfold F_StackSets_1 at h
  unfold F_StackSets_0
  split at h
  · next hy => rw [if_pos hy]; exact ⟨hy, h, rfl⟩
  · cases h
theorem stk0_no (h : F_StackSets_1 c S d T ≠ 0) : F_StackSets_1 c S d T = codeSp c S d T l := by
  unfold F_StackSets_1 at h ⊢
  split at h
  · next hy => rw [if_pos hy]; exact codeSp_e hy h
  · next hy => rw [if_neg hy]; exact codeSp_1 hy
/-- The two lists of SplitRow, as they grow. -/
def SpL (L : List Tile) (S T : List Tile) (l : List Int) (A0 B0 : Nat) (hb : H) (a b : Sl) (k : Nat) (g : H) : Prop :=
  Ow g a 1 (ic ((l.take k).map fun k => (spP S T (tat L k)).1)) ∧ Ow g b 1 (ic ((l.take k).map fun k => (spP S T (tat L k)).2)) ∧ a.o = some A0 ∧ b.o = some B0 ∧ Chg (fun i => i = A0 ∨ i = B0) hb g
theorem SpL.ext {L S T l A0 B0 hb a b k g g'} (r : SpL L S T l A0 B0 hb a b k g) (y : Ext g g') : SpL L S T l A0 B0 hb a b k g' := by
  obtain ⟨r1, r2, r3, r4, r5⟩ := r
  exact ⟨r1.ext y, r2.ext y, r3, r4, r5.trans (y.chg _)⟩
theorem SpL.push {L S T l A0 B0 hb a b k g} (r : SpL L S T l A0 B0 hb a b k g) (hAB : A0 ≠ B0) (hk : k < l.length) (hl : l.length ≤ 1048576) {e : Int × Int} (he : spP S T (tat L (l.getD k 0)) = e) {K : Sl → Sl → H → Prop}
    (hK : ∀ a' b' g', SpL L S T l A0 B0 hb a' b' (k + 1) g' → g.length ≤ g'.length → K a' b' g') :
    newS 1 1 [.int .i64 e.1] g fun s23 h24 => app a s23 1 h24 fun s25 h26 => newS 1 1 [.int .i64 e.2] h26 fun s27 h28 => app b s27 1 h28 fun s29 h30 => K s25 s29 h30 := by
  obtain ⟨r1, r2, r3, r4, r5⟩ := r
  have hlk : l[k] = l.getD k 0 := by rw [List.getD_eq_getElem?_getD, List.getElem?_eq_getElem hk]; rfl
  refine pushI4 r1 (by rw [List.length_map, List.length_take]; unfold lim; omega) fun a' g1 o1 b1 k1 => ?_
  have a1 := k1 _ r3
  refine pushI4 (r2.but b1 (.inl fun e => by rw [r3, r4] at e; exact hAB (Option.some.inj e))) (by rw [List.length_map, List.length_take]; unfold lim; omega) fun b' g2 o2 b2 k2 => ?_
  have b2o := k2 _ r4
  have hc1 := b1.1
  have hc2 := b2.1
  refine hK _ _ _ ⟨?_, ?_, a1, b2o, r5.trans ((b1.chg fun i e => by rw [r3] at e; exact .inl (Option.some.inj e).symm).trans (b2.chg fun i e => by rw [r4] at e; exact .inr (Option.some.inj e).symm))⟩ (by omega)
  · rw [List.take_succ_eq_append_getElem hk, List.map_append, hlk]
    simp only [List.map_cons, List.map_nil, he]
    exact o1.but b2 (.inl fun e => by rw [a1, r4] at e; exact hAB (Option.some.inj e).symm)
  · rw [List.take_succ_eq_append_getElem hk, List.map_append, hlk]
    simp only [List.map_cons, List.map_nil, he]
    exact o2
theorem spec_SplitRow_c (rs : Rd h0 s 4 (tcs S)) (rt : Rd h0 t 4 (tcs T)) (rv : Rd h0 v 1 (ic l)) (hS : S.length ≤ 1048576) (hT : T.length ≤ 1048576) (hl : l.length ≤ 1048576) :
    callV SP i_spec_SplitRow [.agg (SetC c s), .agg (SetC d t), .sl v] h0 (SpRes c S d T l h0) := by
  have hvl := rv.ilen
  have hsl := rs.tlen
  have htl := rt.tlen
  apply spec_SplitRow_call
  unfold spec_SplitRow_main
  refine newK_obj fun h1 o1 x1 n1 => ?_
  refine newK_obj fun h2 o2 x2 n2 => ?_
  have p1 := o1.ext x2
  have X := x1.trans x2
  refine p1.ldA rfl ?_
  refine o2.ldA rfl ?_
  refine (spec_StackSets_c (c := c) (d := d) (rs.ext X) (rt.ext X) hS hT).to ?_
  rintro _ h3 ⟨u, rfl, pu, fu, x3⟩
  refine ⟨_, rfl, _, rfl, _, rfl, _, rfl, ?_⟩
  refine newO_obj fun h4 o4 x4 n4 => ?_
  refine o4.stA fun h5 o5 b5 n5 => ?_
  have x5 : Ext h3 h5 := x4.but_ b5 (some_le (Nat.le_refl _))
  have x35 := x3.trans x5
  have X5 := X.trans x35
  refine bif_eq (fun he => ?_) (fun hne => bif_ne (fun _ => SpRes.no (stk0_no hne) hne X5) (fun h => absurd h hne))
  obtain ⟨hyes, hE, hF⟩ := stk0_yes he
  rw [hF] at pu o5
  have hS16 := hyes.1.2.1
  have hT16 := hyes.2.2.1
  have hLl := (stkE_0 hE).2
  have pu5 := pu.ext x5
  have p1 := p1.ext x35
  have p2 := o2.ext x35
  refine o5.ldA rfl ?_
  refine (l02Row_c (c := (stkF c d S T).1) pu5.rd (by omega) (rv.ext X5) hl).to ?_
  rintro b h6 ⟨hb6, x6⟩
  have X6 := X5.trans x6
  refine bif_not (fun hq => ?_) (fun hq => ?_)
  · exact SpRes.no (codeSp_2 hyes hE fun h => by rw [hb6.2 h] at hq; cases hq) (by decide) X6
  have hrow := hb6.1 hq
  have hc0 := codeSp_0 hyes hE hrow
  refine bif_ne (fun h => absurd he h) (fun _ => ?_)
  have p1 := p1.ext x6
  have p2 := p2.ext x6
  have p5 := o5.ext x6
  refine p1.ldA rfl ?_
  refine p2.ldA rfl ?_
  refine (l04Pairs_c (c := c) (d := d) (rs.ext X6) (rt.ext X6) hyes.1 hyes.2).to ?_
  rintro q h7 ⟨rq, x7⟩
  have X7 := X6.trans x7
  refine newS_ow (by rfl) fun a h8 oa la ao ea => ?_
  have x8 : Ext h7 h8 := by rw [ea]; exact Ext.app _ _
  have l8 : h8.length = h7.length + 1 := by rw [ea]; simp
  refine newS_ow (by rfl) fun b h9 ob lb bo eb => ?_
  have x9 : Ext h8 h9 := by rw [eb]; exact Ext.app _ _
  have l9 : h9.length = h8.length + 1 := by rw [eb]; simp
  have x79 := x8.trans x9
  have p1 := p1.ext (x7.trans x79)
  have p2 := p2.ext (x7.trans x79)
  have p5 := p5.ext (x7.trans x79)
  have pu9 := pu5.ext (x6.trans (x7.trans x79))
  have hp1 := p1.lt
  have rq9 := rq.ext x79
  have hX7 := X7.len
  have hl27 := (x35.trans (x6.trans x7)).len
  have hl57 := (x6.trans x7).len
  have hl3 := x3.len
  have hAB : h7.length ≠ h8.length := by omega
  refine spec_SplitRow_rule0 _ _ _ _ _ _ _ (fun a b i g => ∃ k : Nat, i = k ∧ k ≤ l.length ∧ SpL (stkF c d S T).2 S T l h7.length h8.length h9 a b k g) (fun _ _ i _ => ((l.length : Int) - i).toNat) ?_ _ _ _
    ⟨0, rfl, by omega, by simpa [ic] using oa.ext x9, by simpa [ic] using ob, ao, bo, Chg.refl _ _⟩
  rintro X0 a b _ g ⟨k, rfl, hk, hL⟩ hX
  unfold spec_SplitRow_b0
  refine bif_dec (fun hi => ?_) (fun hi => ?_)
  rotate_left
  · have e : k = l.length := by omega
    obtain ⟨oa, ob, ao, bo, ch⟩ := hL
    subst e
    rw [List.take_length] at oa ob
    unfold spec_SplitRow_C0
    exact ⟨a, b, by rw [hc0], by rw [F_Sp0 hc0]; exact oa, (fun o e => by rw [ao] at e; cases e; omega), by rw [F_Sp1 hc0]; exact ob, (fun o e => by rw [bo] at e; cases e; omega), (fun o e e2 => by rw [ao] at e; rw [bo] at e2; cases e; have := Option.some.inj e2; omega), (X7.trans x79).chg_ ch fun i e => by omega⟩
  have hkl : k < l.length := by omega
  have hkk := (hrow.2 k hkl).1
  have hmem := stkF_mem hE hkk
  have E : ∀ {g : H}, Chg (fun i => i = h7.length ∨ i = h8.length) h9 g → Ext h7 g := fun ch => x79.chg_ ch fun i e => by omega
  generalize ht : tat (stkF c d S T).2 (l.getD k 0) = tt at hmem
  refine spec_SplitRow_rule2 _ _ X0 _ _ _ _ _ _ (fun a b f i g => ∃ z : Nat, i = z ∧ z ≤ S.length ∧ SpL (stkF c d S T).2 S T l h7.length h8.length h9 a b (if f then k + 1 else k) g ∧ (f = false → ∀ e ∈ stkI S T z, tt ≠ stile S T e)) (fun _ _ _ i _ => ((S.length : Int) - i).toNat) ?_ _ _ _ _
    ⟨0, rfl, by omega, by simpa using hL, fun _ e he => by simp [stkI] at he⟩
  clear hL
  rintro X2 a b f _ g ⟨z, rfl, hz, hL, hno⟩ hY
  unfold spec_SplitRow_b2
  have Eg := X7.trans (E hL.2.2.2.2)
  have q1 := p1.chg hL.2.2.2.2 (by omega)
  have fin : f = true ∨ z = S.length → spec_SplitRow_C2 SP (SpRes c S d T l h0) X0 v ⟨some h0.length, 2, 0⟩ ⟨some h1.length, 2, 0⟩ ⟨some h3.length, 2, 0⟩ q a b (k : Int) g := fun hf => by
    unfold spec_SplitRow_C2 spec_SplitRow_C1
    rw [w64_of (by omega) (by omega)]
    have hft : f = true := by
      rcases hf with hf | hf
      · exact hf
      · cases f with
        | true => rfl
        | false =>
          have hmem2 := hmem
          unfold stkT at hmem2
          obtain ⟨e, he, e2⟩ := List.mem_map.1 hmem2
          exact absurd e2.symm (hno rfl e (by rw [hf]; exact he))
    subst hft
    exact hX _ _ _ _ ⟨k + 1, by push_cast; rfl, by omega, by simpa using hL⟩ (by omega)
  refine isPt_in (q1.ldS rfl rfl ?_)
  refine bif_dec (fun hj => ?_) (fun hj => fin (.inr (by omega)))
  refine bif_not (fun hf => ?_) (fun hf => fin (.inl hf))
  subst hf
  have hzl : z < S.length := by omega
  refine spec_SplitRow_rule4 _ _ X0 X2 _ _ _ _ _ _ _ (fun a b f i g => ∃ w : Nat, i = w ∧ w ≤ T.length ∧ SpL (stkF c d S T).2 S T l h7.length h8.length h9 a b (if f then k + 1 else k) g ∧ (f = false → ∀ e ∈ stkI S T z ++ stkR S T z w, tt ≠ stile S T e)) (fun _ _ _ i _ => ((T.length : Int) - i).toNat) ?_ _ _ _ _
    ⟨0, rfl, by omega, hL, fun _ e he => hno rfl e (by simpa [stkR] using he)⟩
  clear hL fin q1 Eg hno
  rintro X4 a b f _ g ⟨w, rfl, hw, hL, hno⟩ hZ
  unfold spec_SplitRow_b4
  have Eg := X7.trans (E hL.2.2.2.2)
  have q1 := p1.chg hL.2.2.2.2 (by omega)
  have q2 := p2.chg hL.2.2.2.2 (by omega)
  have fin : f = true ∨ w = T.length → spec_SplitRow_C4 SP (SpRes c S d T l h0) X0 X2 v ⟨some h0.length, 2, 0⟩ ⟨some h1.length, 2, 0⟩ ⟨some h3.length, 2, 0⟩ q a b (k : Int) f (z : Int) g := fun hf => by
    unfold spec_SplitRow_C4 spec_SplitRow_C3
    rw [w64_of (by omega) (by omega)]
    refine hY _ _ _ _ _ ⟨z + 1, by push_cast; rfl, by omega, hL, fun e2 e he => ?_⟩ (by omega)
    rcases hf with hf | hf
    · rw [hf] at e2; cases e2
    · rw [stkI_succ, ← hf] at he
      exact hno e2 e he
  refine isPt_in (q2.ldS rfl rfl ?_)
  refine bif_dec (fun hj2 => ?_) (fun hj2 => fin (.inr (by omega)))
  refine bif_not (fun hf => ?_) (fun hf => fin (.inl hf))
  subst hf
  have hwl : w < T.length := by omega
  have skip : ∀ {g' : H}, Ext g g' → (sd (tat S (z : Int)) 3 = sd (tat T (w : Int)) 1 → tt ≠ stile S T ((z : Int), (w : Int))) → X4 (spec_SplitRow_e4 v ⟨some h0.length, 2, 0⟩ ⟨some h1.length, 2, 0⟩ ⟨some h3.length, 2, 0⟩ q a b (k : Int) false (z : Int) (w64 ((w : Int) + 1))) g' := fun {g'} y hq => by
    rw [w64_of (by omega) (by omega)]
    refine hZ _ _ _ _ _ ⟨w + 1, by push_cast; rfl, by omega, hL.ext y, fun _ e he => ?_⟩ (by omega)
    rw [stkR_succ, ← List.append_assoc] at he
    rcases List.mem_append.1 he with he | he
    · exact hno rfl e he
    · split at he
      · next hqq => rw [List.mem_singleton] at he; subst he; exact hq hqq
      · cases he
  refine isPt_in (q1.ldS rfl rfl ?_)
  refine (rs.ext Eg).sideG (by omega) (by omega) (by omega) (by omega) ?_
  refine isPt_in (q2.ldS rfl rfl ?_)
  refine (rt.ext Eg).sideG (by omega) (by omega) (by omega) (by omega) ?_
  refine bif_eq (fun hq => ?_) (fun hq => skip (Ext.refl _) fun h => absurd h hq)
  have hq' : sd (tat S (z : Int)) 3 = sd (tat T (w : Int)) 1 := hq
  refine isPt_in (q1.ldS rfl rfl ?_)
  refine (rs.ext Eg).tileG (by omega) (by omega) ?_
  refine isPt_in (q2.ldS rfl rfl ?_)
  refine (rt.ext Eg).tileG (by omega) (by omega) ?_
  have E7 := E hL.2.2.2.2
  refine (l04Tile_c (c := c) (d := d) hyes.1 hyes.2 hzl hwl hq' (rq.ext E7)).to ?_
  rintro _ g2 ⟨rfl, y2⟩
  have q5 := p5.chg hL.2.2.2.2 (by omega)
  have q5' := q5.ext y2
  refine isPt_in (q5'.ldS rfl rfl ?_)
  refine ⟨(q5.cellE (n := 2) rfl).trans (q5'.cellE (n := 2) rfl).symm, ?_⟩
  refine (rv.ext Eg).ixC (by omega) (by omega) fun p18 hp18 => ?_
  rw [Int.toNat_natCast] at hp18
  refine ⟨_, y2.cell hp18, by rw [hp18, y2.cell hp18], ?_⟩
  have pug := pu5.ext (x6.trans (x7.trans E7))
  refine pug.rd.ixT (by omega) (by omega) fun p20 _ hp20 => ?_
  refine ⟨_, y2.range hp20, by rw [hp20, y2.range hp20], ?_⟩
  rw [ht]
  refine eqA_tc ?_
  refine bif_dec (fun heq => ?_) (fun hneq => skip y2 fun _ h => hneq h.symm)
  have hspP := spP_of hzl hwl hq' heq.symm (hno rfl)
  rw [← ht] at hspP
  refine (hL.ext y2).push hAB (by exact hkl) hl (e := ((z : Int), (w : Int))) hspP fun a' b' g' hL' hg' => ?_
  rw [w64_of (by omega) (by omega)]
  exact hZ _ _ _ _ _ ⟨w + 1, by push_cast; rfl, by omega, by simpa using hL', fun h => by cases h⟩ (by omega)
end
end Go.Proofs.Ytlbglfgienklfaa.Cl

/- Marks of a view of the first part of an object. No claim is stated here. -/
set_option linter.unusedVariables false
set_option linter.unusedSimpArgs false
namespace Go.Proofs.Ytlbglfgienklfaa.Cl
open Go
theorem Pre.st1 {h : H} {s : Sl} {z : Nat} {l : List Int} (r : Pre h s z (ic l)) {i j : Int} (hz : 0 < z) (h0 : 0 ≤ i) (h1 : i < s.len) (j0 : 0 ≤ j) (j1 : j < z) (x : Int) {K : H → Prop}
    (hk : ∀ h', Pre h' s z (ic (l.set (i.toNat * z + j.toNat) x)) → But s.o h h' → h'.length = h.length → K h') : ixS s z i fun p => ixA p z 1 j fun q => Cl.st1 q (i64 x) h K := by
  obtain ⟨a, b⟩ | ⟨o, xs, m, a, b, c, d, e, f, g, k⟩ := r.at_
  · omega
  · have hlen := r.len
    rw [ic_len] at hlen
    have hb : i.toNat * z + j.toNat < s.len * z := by
      have : (i.toNat + 1) * z ≤ s.len * z := Nat.mul_le_mul_right _ (by omega)
      rw [Nat.add_mul] at this; omega
    have hm : s.len * z ≤ m * z := Nat.mul_le_mul_right _ f
    have ho : o < h.length := (List.getElem?_eq_some_iff.1 g).1
    refine ⟨⟨h0, h1⟩, b, by simp [a], ⟨j0, j1⟩, by simp [Pt.add, a], h.set o (.own (xs.set (i.toNat * z + j.toNat) (i64 x))), ?_, hk _ ⟨by rw [ic_len]; simpa using hlen, .inr ⟨o, xs.set (i.toNat * z + j.toNat) (i64 x), m, a, b, c, d, by rw [List.length_set]; exact e, f, by simp [ho], ?_⟩⟩ ?_ (by simp)⟩
    · unfold put1 owned Pt.add
      simp [a, c, d, e, g]
      omega
    · rw [List.take_set, k]
      unfold ic
      rw [List.map_set]
    · rw [a]
      exact ⟨by simp, fun k hk hn => by rw [List.getElem?_set, if_neg (fun e => hn (by rw [e]))]⟩
theorem markTileS_P {h0 : H} {s : Sl} {l : List Int} (r : Pre h0 s 4 (ic l)) (k0 : Int) (hk0 : 0 ≤ k0) (hk1 : k0 ≤ 1000000000000000000) (hl : s.len < 1000000000000000000) : callI SP .i64 i_laws_markTileS [.sl s, i64 k0] h0 fun n h' => n = k0 + 4 * s.len ∧ Pre h' s 4 (ic (upto k0 (s.len * 4))) ∧ But s.o h0 h' ∧ h'.length = h0.length := by
  have hlen := r.len
  rw [ic_len] at hlen
  apply laws_markTileS_call
  unfold laws_markTileS_main
  refine laws_markTileS_rule0 _ _ _ (fun k i h => 0 ≤ i ∧ i ≤ s.len ∧ k = k0 + 4 * i ∧ ∃ l', Pre h s 4 (ic l') ∧ (∀ j : Nat, j < i.toNat * 4 → l'[j]? = some (k0 + (j : Int))) ∧ But s.o h0 h ∧ h.length = h0.length) (fun k i _ => (s.len - i).toNat) ?_ _ _ ⟨by omega, by omega, by omega, l, r, fun j hj => by omega, But.refl _ _, rfl⟩
  rintro X k i h ⟨i0, i1, rfl, l1, o1, e1, b1, n1⟩ hX
  unfold laws_markTileS_b0 laws_markTileS_C0
  refine bif_dec (fun hi => ?_) (fun hi => ?_)
  · refine laws_markTileS_rule2 _ _ X s i (fun k j h => 0 ≤ j ∧ j ≤ 4 ∧ k = k0 + 4 * i + j ∧ ∃ l', Pre h s 4 (ic l') ∧ (∀ j2 : Nat, j2 < i.toNat * 4 + j.toNat → l'[j2]? = some (k0 + (j2 : Int))) ∧ But s.o h0 h ∧ h.length = h0.length) (fun k j _ => (4 - j).toNat) ?_ _ _ ⟨by omega, by omega, by omega, l1, o1, fun j hj => e1 j (by omega), b1, n1⟩
    rintro Y k j h' ⟨j0, j1, rfl, l2, o2, e2, b2, n2⟩ hY
    unfold laws_markTileS_b2 laws_markTileS_C2 laws_markTileS_C1
    refine bif_dec (fun hj => ?_) (fun hj => ?_)
    · refine o2.st1 (by omega) i0 hi j0 hj _ fun h3 o3 b3 n3 => ?_
      rw [w64_of (by omega) (by omega), w64_of (by omega) (by omega)]
      refine hY _ _ _ ⟨by omega, by omega, by omega, _, o3, fun j2 hj2 => ?_, b2.trans b3, by omega⟩ (by omega)
      have hl2 := o2.len
      rw [ic_len] at hl2
      rw [List.getElem?_set]
      split
      · next e =>
        rw [if_pos (by omega)]
        congr 1; omega
      · exact e2 j2 (by omega)
    · rw [w64_of (by omega) (by omega)]
      have : j = 4 := by omega
      subst this
      refine hX _ _ _ ⟨by omega, by omega, by omega, l2, o2, fun j hj => e2 j (by omega), b2, n2⟩ (by omega)
  · have : i = s.len := by omega
    subst this
    refine ⟨_, rfl, by omega, ?_, b1, n1⟩
    have : l1 = upto k0 (s.len * 4) := by
      have hl1 := o1.len
      rw [ic_len] at hl1
      apply List.ext_getElem?
      intro j
      by_cases hj : j < s.len * 4
      · rw [e1 j (by omega), upto_at _ _ _ hj]
      · rw [List.getElem?_eq_none (by omega), List.getElem?_eq_none (by rw [upto_len]; omega)]
    rw [← this]; exact o1
theorem markSet_P {h0 : H} {c : Int} {s : Sl} {l : List Int} (r : Pre h0 s 4 (ic l)) (k0 : Int) (hk0 : 0 ≤ k0) (hk1 : k0 ≤ 1000000000000000000) (hl : s.len < 1000000000000000000) : callI SP .i64 i_laws_markSet [.agg (SetC c s), i64 k0] h0 fun n h' => n = k0 + 4 * s.len ∧ Pre h' s 4 (ic (upto k0 (s.len * 4))) ∧ Chg (fun i => s.o = some i) h0 h' := by
  apply laws_markSet_call
  unfold laws_markSet_main
  refine newK_obj fun h1 o1 x1 n1 => ?_
  refine isPt_in (o1.ldS rfl rfl ?_)
  refine (markTileS_P (r.ext x1) k0 hk0 hk1 hl).to ?_
  rintro _ h2 ⟨rfl, o2, b2, n2⟩
  exact ⟨_, rfl, rfl, o2, (x1.chg _).trans (b2.chg fun i e => e)⟩
theorem Obj.sameR {h h' : H} {o : Nat} {cs : List AVal} (x : Obj h o cs) (y : Obj h' o cs) {n : Nat} (hn : cs.length = n) : Cl.range h (some o) n 0 n = Cl.range h' (some o) n 0 n := (x.rangeE hn).trans (y.rangeE hn).symm
theorem StackSets_small0 {c d : Int} {S T : List Tile} : (F_StackSets_0 c S d T).2.length < 1000000 := by
  unfold F_StackSets_0
  split
  · unfold stkF
    split
    · next h => have := h.2; show (dsT (stkT S T)).length < 1000000; omega
    · show ([] : List Tile).length < 1000000; simp
  · show ([] : List Tile).length < 1000000; simp
end Go.Proofs.Ytlbglfgienklfaa.Cl

/- What the arguments of a law are. No claim is stated here. -/
set_option linter.unusedVariables false
set_option linter.unusedSimpArgs false
namespace Go.Proofs.Ytlbglfgienklfaa.Cl
open Go
theorem den_int {P : Program} {h : H} {t : TypeId} {xs : List AVal} {pd : PD} {k : IntKind} (hu : P.underlying t = some (.int k)) (d : Den P h t xs pd) : ∃ n, xs = [.int k n] ∧ (Lit.int k n).wf = true := by
  cases d with
  | int a b => rw [hu] at a; cases a; exact ⟨_, rfl, b⟩
  | bool a => rw [hu] at a; cases a
  | arr a => rw [hu] at a; cases a
  | struct a => rw [hu] at a; cases a
  | sl a => rw [hu] at a; cases a
theorem den_tile {P : Program} {h : H} {t e : TypeId} {xs : List AVal} {pd : PD} (hu : P.underlying t = some (.array 4 e)) (he : P.underlying e = some (.int .i64)) (d : Den P h t xs pd) : ∃ t : Tile, xs = tc t := by
  cases d with
  | int a b => rw [hu] at a; cases a
  | bool a => rw [hu] at a; cases a
  | @arr t n e' ass ds a b c d =>
    rw [hu] at a; cases a
    match ass, ds, b, c, d with
    | [a0, a1, a2, a3], [d0, d1, d2, d3], _, _, d =>
      obtain ⟨n0, rfl, _⟩ := den_int he (d 0 a0 d0 rfl rfl)
      obtain ⟨n1, rfl, _⟩ := den_int he (d 1 a1 d1 rfl rfl)
      obtain ⟨n2, rfl, _⟩ := den_int he (d 2 a2 d2 rfl rfl)
      obtain ⟨n3, rfl, _⟩ := den_int he (d 3 a3 d3 rfl rfl)
      exact ⟨(n0, n1, n2, n3), rfl⟩
  | struct a => rw [hu] at a; cases a
  | sl a => rw [hu] at a; cases a
theorem den_sl {P : Program} {h : H} {t e : TypeId} {xs : List AVal} {pd : PD} (hu : P.underlying t = some (.slice e)) (d : Den P h t xs pd) : ∃ (s : Sl) (ass : List (List AVal)) (ds : List PD), xs = [.sl s] ∧ ass.length = s.len ∧ ds.length = s.len ∧ s.len ≤ maxLen ∧ Rd h s (P.cellsOf e) ass.flatten ∧ ∀ (i : Nat) a d, ass[i]? = some a → ds[i]? = some d → Den P h e a d := by
  cases d with
  | int a b => rw [hu] at a; cases a
  | bool a => rw [hu] at a; cases a
  | arr a => rw [hu] at a; cases a
  | struct a => rw [hu] at a; cases a
  | sl a b c d e f => rw [hu] at a; cases a; exact ⟨_, _, _, rfl, b, c, d, e, f⟩
theorem all_tiles {P : Program} {h : H} {t e : TypeId} (hu : P.underlying t = some (.array 4 e)) (he : P.underlying e = some (.int .i64)) : ∀ (ass : List (List AVal)) (ds : List PD), ass.length = ds.length → (∀ (i : Nat) a d, ass[i]? = some a → ds[i]? = some d → Den P h t a d) → ∃ ts : List Tile, ass.flatten = tcs ts
  | [], _, _, _ => ⟨[], rfl⟩
  | a :: ass, [], h, _ => by simp at h
  | a :: ass, d :: ds, hl, hd => by
    obtain ⟨t, rfl⟩ := den_tile hu he (hd 0 a d rfl rfl)
    obtain ⟨ts, e⟩ := all_tiles hu he ass ds (by simpa using hl) (fun i a d x y => hd (i + 1) a d (by simpa using x) (by simpa using y))
    exact ⟨t :: ts, by rw [List.flatten_cons, e, tcs_cons]⟩
theorem arg_tiles {P : Program} {h : H} {t u e : TypeId} {xs : List AVal} {pd : PD} (ht : P.underlying t = some (.slice u)) (hu : P.underlying u = some (.array 4 e)) (he : P.underlying e = some (.int .i64)) (hc : P.cellsOf u = 4) (d : Den P h t xs pd) : ∃ (s : Sl) (ts : List Tile), xs = [.sl s] ∧ Rd h s 4 (tcs ts) ∧ s.len ≤ 9223372036854775807 := by
  obtain ⟨s, ass, ds, rfl, l1, l2, l3, r, hd⟩ := den_sl ht d
  obtain ⟨ts, e⟩ := all_tiles hu he ass ds (by omega) hd
  rw [hc, e] at r
  exact ⟨s, ts, rfl, r, by unfold maxLen at l3; omega⟩
theorem sep_of {n : Nat} {s w : Sl} {g : H} {z : Nat} {cs : List AVal} (f : Fr n s) (r : Ow g w z cs) (h : g.length ≤ n) : s.o ≠ w.o ∨ s.o = none := by
  cases hs : s.o with
  | none => exact .inr rfl
  | some o =>
    refine .inl fun e => ?_
    have h1 := f o hs
    have h2 := r.lt e.symm
    omega
theorem all_ints {P : Program} {h : H} {t : TypeId} (ht : P.underlying t = some (.int .i64)) : ∀ (ass : List (List AVal)) (ds : List PD), ass.length = ds.length → (∀ (i : Nat) a d, ass[i]? = some a → ds[i]? = some d → Den P h t a d) → ∃ l : List Int, ass.flatten = ic l
  | [], _, _, _ => ⟨[], rfl⟩
  | a :: ass, [], h, _ => by simp at h
  | a :: ass, d :: ds, hl, hd => by
    obtain ⟨n, rfl, _⟩ := den_int ht (hd 0 a d rfl rfl)
    obtain ⟨l, e⟩ := all_ints ht ass ds (by simpa using hl) (fun i a d x y => hd (i + 1) a d (by simpa using x) (by simpa using y))
    exact ⟨n :: l, by rw [List.flatten_cons, e, ic_cons]; rfl⟩
theorem arg_ints {P : Program} {h : H} {t u : TypeId} {xs : List AVal} {pd : PD} (ht : P.underlying t = some (.slice u)) (hu : P.underlying u = some (.int .i64)) (hc : P.cellsOf u = 1) (d : Den P h t xs pd) : ∃ (s : Sl) (l : List Int), xs = [.sl s] ∧ Rd h s 1 (ic l) ∧ s.len ≤ 9223372036854775807 := by
  obtain ⟨s, ass, ds, rfl, l1, l2, l3, r, hd⟩ := den_sl ht d
  obtain ⟨l, e⟩ := all_ints hu ass ds (by omega) hd
  rw [hc, e] at r
  exact ⟨s, l, rfl, r, by unfold maxLen at l3; omega⟩
theorem all_rows {P : Program} {h : H} {t u : TypeId} (ht : P.underlying t = some (.slice u)) (hu : P.underlying u = some (.int .i64)) (hc : P.cellsOf u = 1) : ∀ (ass : List (List AVal)) (ds : List PD), ass.length = ds.length → (∀ (i : Nat) a d, ass[i]? = some a → ds[i]? = some d → Den P h t a d) →
    ∃ (vs : List Sl) (ls : List (List Int)), ass.flatten = vs.map .sl ∧ vs.length = ass.length ∧ ls.length = ass.length ∧ (∀ (i : Nat) v l, vs[i]? = some v → ls[i]? = some l → Rd h v 1 (ic l)) ∧ ∀ l ∈ ls, l.length ≤ 9223372036854775807
  | [], _, _, _ => ⟨[], [], rfl, rfl, rfl, fun i v l h => by simp at h, fun l h => by simp at h⟩
  | a :: ass, [], h, _ => by simp at h
  | a :: ass, d :: ds, hl, hd => by
    obtain ⟨s, l, rfl, r, b⟩ := arg_ints ht hu hc (hd 0 a d rfl rfl)
    obtain ⟨vs, ls, e1, e2, e3, e4, e5⟩ := all_rows ht hu hc ass ds (by simpa using hl) (fun i a d x y => hd (i + 1) a d (by simpa using x) (by simpa using y))
    refine ⟨s :: vs, l :: ls, by rw [List.flatten_cons, e1]; rfl, by simp [e2], by simp [e3], fun i v l' h1 h2 => ?_, fun l' h => ?_⟩
    · cases i with
      | zero => simp at h1 h2; subst h1 h2; exact r
      | succ i => exact e4 i v l' (by simpa using h1) (by simpa using h2)
    · rcases List.mem_cons.1 h with rfl | h
      · have := r.ilen; omega
      · exact e5 l' h
theorem arg_rows {P : Program} {h : H} {t u e : TypeId} {xs : List AVal} {pd : PD} (ht : P.underlying t = some (.slice u)) (hu : P.underlying u = some (.slice e)) (he : P.underlying e = some (.int .i64)) (hc : P.cellsOf u = 1) (hc' : P.cellsOf e = 1) (d : Den P h t xs pd) :
    ∃ (s : Sl) (ls : List (List Int)), xs = [.sl s] ∧ RdSS h s ls ∧ s.len ≤ 9223372036854775807 ∧ ∀ l ∈ ls, l.length ≤ 9223372036854775807 := by
  obtain ⟨s, ass, ds, rfl, l1, l2, l3, r, hd⟩ := den_sl ht d
  obtain ⟨vs, ls, e1, e2, e3, e4, e5⟩ := all_rows hu he hc' ass ds (by omega) hd
  rw [hc, e1] at r
  exact ⟨s, ls, rfl, ⟨vs, by omega, r, e4⟩, by unfold maxLen at l3; omega, e5⟩
theorem arg_int {P : Program} {h : H} {t : TypeId} {xs : List AVal} {pd : PD} (ht : P.underlying t = some (.int .i64)) (d : Den P h t xs pd) : ∃ n, xs = [i64 n] ∧ i64ok n := by
  obtain ⟨n, rfl, w⟩ := den_int ht d
  refine ⟨n, rfl, ?_⟩
  have w' : (decide (IntKind.i64.min ≤ n) && decide (n ≤ IntKind.i64.max)) = true := w
  simp only [Bool.and_eq_true, decide_eq_true_eq] at w'
  unfold i64ok
  have h1 : IntKind.i64.min = -9223372036854775808 := by decide
  have h2 : IntKind.i64.max = 9223372036854775807 := by decide
  omega
def structOK (P : Program) (t c u : TypeId) : Bool := match P.underlying t with
  | some (.struct fs) => fs.size == 2 && (fs[0]?).map (·.type) == some c && (fs[1]?).map (·.type) == some u
  | _ => false
theorem arg_set0 {P : Program} {h : H} {t c u v e : TypeId} {xs : List AVal} {pd : PD} {fs : Array Field} (ht : P.underlying t = some (.struct fs)) (hs : fs.size = 2) (h0 : (fs[0]?).map (·.type) = some c) (h1 : (fs[1]?).map (·.type) = some u) (hc : P.underlying c = some (.int .i64)) (hu : P.underlying u = some (.slice v)) (hv : P.underlying v = some (.array 4 e)) (he : P.underlying e = some (.int .i64)) (hz : P.cellsOf v = 4) (d : Den P h t xs pd) :
    ∃ (n : Int) (s : Sl) (ts : List Tile), xs = SetC n s ∧ Rd h s 4 (tcs ts) ∧ s.len ≤ 9223372036854775807 := by
  cases d with
  | int a b => rw [ht] at a; cases a
  | bool a => rw [ht] at a; cases a
  | arr a => rw [ht] at a; cases a
  | @struct t fs' ass ds a b b' d =>
    rw [ht] at a; cases a
    rw [hs] at b b'
    match ass, ds, b, b', d with
    | [a0, a1], [d0, d1], _, _, d =>
      cases e0 : fs[0]? with
      | none => rw [e0] at h0; cases h0
      | some f0 =>
        cases e1 : fs[1]? with
        | none => rw [e1] at h1; cases h1
        | some f1 =>
          rw [e0] at h0; rw [e1] at h1
          simp at h0 h1
          have k0 := d 0 f0 a0 d0 e0 rfl rfl
          have k1 := d 1 f1 a1 d1 e1 rfl rfl
          rw [h0] at k0; rw [h1] at k1
          obtain ⟨n, rfl, _⟩ := den_int hc k0
          obtain ⟨s, ts, rfl, r, b⟩ := arg_tiles hu hv he hz k1
          exact ⟨n, s, ts, rfl, r, b⟩
  | sl a => rw [ht] at a; cases a
theorem arg_set {P : Program} {h : H} {t c u v e : TypeId} {xs : List AVal} {pd : PD} (ht : structOK P t c u = true) (hc : P.underlying c = some (.int .i64)) (hu : P.underlying u = some (.slice v)) (hv : P.underlying v = some (.array 4 e)) (he : P.underlying e = some (.int .i64)) (hz : P.cellsOf v = 4) (d : Den P h t xs pd) :
    ∃ (n : Int) (s : Sl) (ts : List Tile), xs = SetC n s ∧ Rd h s 4 (tcs ts) ∧ s.len ≤ 9223372036854775807 := by
  unfold structOK at ht
  split at ht
  · next fs hf =>
    simp only [Bool.and_eq_true, beq_iff_eq] at ht
    exact arg_set0 hf ht.1.1 ht.1.2 ht.2 hc hu hv he hz d
  · cases ht
end Go.Proofs.Ytlbglfgienklfaa.Cl
