/- Contracts of LeastTorus. No claim is stated here. -/
import Derived.Test.YtfmjjpophipfbaaMs
set_option linter.unusedVariables false
set_option linter.unusedSimpArgs false
namespace Go.Proofs.Ytfmjjpophipfbaa.Cl
open Go
theorem find_range {β : Type} {f : Nat → Option β} {n m : Nat} {r : β} (h : ∀ j, j < n → f j = none) (e : f n = some r) (hm : n < m) : (List.range m).findSome? f = some r := by
  obtain ⟨d, rfl⟩ : ∃ d, m = n + 1 + d := ⟨m - (n + 1), by omega⟩
  rw [List.range_add, List.range_succ, List.findSome?_append, List.findSome?_append]
  have : (List.range n).findSome? f = none := List.findSome?_eq_none_iff.2 fun x hx => h x (List.mem_range.1 hx)
  rw [this]
  simp [e]
theorem find_none {β : Type} {f : Nat → Option β} {m : Nat} (h : ∀ j, j < m → f j = none) : (List.range m).findSome? f = none :=
  List.findSome?_eq_none_iff.2 fun x hx => h x (List.mem_range.1 hx)
noncomputable def valT (c : Int) (ts : List Tile) (n k : Nat) : Option (List (List Int)) := if n % k = 0 ∧ n / k ≤ 3 then firstT c ts (k : Int) ((n / k : Nat) : Int) else none
noncomputable def rowT (c : Int) (ts : List Tile) (n : Nat) : Option (List (List Int)) := (List.range 3).findSome? fun k => valT c ts n (k + 1)
noncomputable def leastT (c : Int) (ts : List Tile) : Option (List (List Int)) := (List.range 9).findSome? fun n => rowT c ts (n + 1)
noncomputable def F_LeastTorus_0 (c : Int) (ts : List Tile) : List (List Int) := sel (setOK c ts) ((leastT c ts).getD []) []
theorem valT_size {n k : Nat} (hn : 1 ≤ n) (k1 : 1 ≤ k) (k3 : k ≤ 3) (h : n % k = 0 ∧ n / k ≤ 3) : Size (k : Int) ((n / k : Nat) : Int) := by
  have : 1 ≤ n / k := by
    rcases Nat.eq_zero_or_pos (n / k) with e | e
    · have := Nat.div_add_mod n k
      rw [e, h.1] at this
      omega
    · exact e
  exact ⟨by omega, by omega⟩
theorem leastT_form {c : Int} {ts : List Tile} {ws} (h : leastT c ts = some ws) : ws.length ≤ 3 ∧ ∀ w ∈ ws, w.length ≤ 3 := by
  obtain ⟨n, hn, h⟩ := List.exists_of_findSome?_eq_some h
  obtain ⟨k, hk, h⟩ := List.exists_of_findSome?_eq_some h
  have := List.mem_range.1 hk
  unfold valT at h
  split at h
  · next hh => exact firstT_form (valT_size (by omega) (by omega) (by omega) hh) h
  · cases h
theorem LeastTorus_small0 {c : Int} {ts : List Tile} (sz : ts.length ≤ 1048576) : (F_LeastTorus_0 c ts).length < 1000000 ∧ sumLen (F_LeastTorus_0 c ts) < 1000000 :=
  sel_small fun h => getD_small fun ws e => leastT_form e
section
variable {h0 : H} {c : Int} {s : Sl} {ts : List Tile}
theorem impl_LeastTorus_c (r : Rd h0 s 4 (tcs ts)) (sz : ts.length ≤ 1048576) :
    callV SP i_impl_LeastTorus [.agg (SetC c s)] h0 fun v h' => ∃ w, v = .tuple [.sl w, i64 (code4 (setOK c ts) True (leastT c ts ≠ none))] ∧ NewSS h0.length h' w (F_LeastTorus_0 c ts) ∧ Ext h0 h' := by
  apply impl_LeastTorus_call
  unfold impl_LeastTorus_main
  refine newK_obj fun h1 o1 x1 n1 => ?_
  refine o1.ldA rfl ?_
  refine (IsSet_c (r.ext x1) (by omega)).to ?_
  rintro e h2 ⟨he, x2⟩
  have X := x1.trans x2
  refine bif_not (fun hq => ⟨Sl.nil, ?_, ?_, X⟩) (fun hq => ?_)
  · have : codeOf (setOK c ts) True = 1 := codeOf_no fun hs => by rw [he.2 hs] at hq; cases hq
    rw [code4_no (by rw [this]; decide), this]
  · rw [F_LeastTorus_0, sel_no fun hs => by rw [he.2 hs] at hq; cases hq]; exact NewSS.nil _ _
  have hs := he.1 hq
  have h0c : codeOf (setOK c ts) True = 0 := codeOf_yes hs trivial
  refine impl_LeastTorus_rule0 _ _ _ (fun i h => 1 ≤ i ∧ i ≤ 10 ∧ Ext h2 h ∧ ∀ j, j < (i - 1).toNat → rowT c ts (j + 1) = none) (fun i _ => (10 - i).toNat) ?_ _ ⟨by omega, by omega, Ext.refl _, fun j h => by omega⟩
  rintro Z i h ⟨i0, i1, x, hno⟩ hZ
  unfold impl_LeastTorus_b0 impl_LeastTorus_C0
  refine bif_dec (fun hi => ?_) (fun hi => ⟨Sl.nil, ?_, ?_, X.trans x⟩)
  rotate_left
  · have : leastT c ts = none := find_none fun j hj => hno j (by omega)
    rw [code4_4 h0c fun f => f this]
  · have : leastT c ts = none := find_none fun j hj => hno j (by omega)
    rw [F_LeastTorus_0, sel_yes hs, this]; exact NewSS.nil _ _
  obtain ⟨n, rfl⟩ : ∃ n : Nat, i = (n : Int) + 1 := ⟨(i - 1).toNat, by omega⟩
  rw [show ((n : Int) + 1 - 1).toNat = n by omega] at hno
  refine impl_LeastTorus_rule2 _ _ Z _ _ (fun k h' => 1 ≤ k ∧ k ≤ 4 ∧ Ext h h' ∧ ∀ j, j < (k - 1).toNat → valT c ts (n + 1) (j + 1) = none) (fun k _ => (4 - k).toNat) ?_ _ ⟨by omega, by omega, Ext.refl _, fun j h => by omega⟩
  rintro Y k h' ⟨k0, k1, x', hnk⟩ hY
  unfold impl_LeastTorus_b2 impl_LeastTorus_C2 impl_LeastTorus_C1
  refine bif_dec (fun hk => ?_) (fun hk => ?_)
  rotate_left
  · rw [w64_of (by omega) (by omega)]
    refine hZ _ _ ⟨by omega, by omega, x.trans x', fun j hj => ?_⟩ (by omega)
    by_cases e : j = n
    · subst e; exact find_none fun q hq => hnk q (by omega)
    · exact hno j (by omega)
  obtain ⟨q, rfl⟩ : ∃ q : Nat, k = (q : Int) + 1 := ⟨(k - 1).toNat, by omega⟩
  rw [show ((q : Int) + 1 - 1).toNat = q by omega] at hnk
  have en : (n : Int) + 1 = ((n + 1 : Nat) : Int) := by push_cast; rfl
  have ek : (q : Int) + 1 = ((q + 1 : Nat) : Int) := by push_cast; rfl
  have next : ∀ h'', Ext h h'' → valT c ts (n + 1) (q + 1) = none → Y (impl_LeastTorus_e2 ⟨some h0.length, 2, 0⟩ ((n : Int) + 1) (w64 ((q : Int) + 1 + 1))) h'' := fun h'' y hv => by
    rw [w64_of (by omega) (by omega)]
    refine hY _ _ ⟨by omega, by omega, y, fun j hj => ?_⟩ (by omega)
    by_cases e : j = q
    · subst e; exact hv
    · exact hnk j (by omega)
  have hdl : (n + 1) / (q + 1) ≤ n + 1 := Nat.div_le_self _ _
  refine ⟨by omega, ?_⟩
  rw [en, ek, tmod_nat]
  rw [← en, ← ek]
  refine bif_ne (fun hm => next _ x' ?_) (fun hm => ?_)
  · unfold valT; rw [if_neg (by omega)]
  refine ⟨by omega, ?_⟩
  rw [en, ek, tdiv_nat, w64_of (Int.le_trans (by decide) (Int.natCast_nonneg _)) (Int.lt_of_le_of_lt (Int.ofNat_le.2 hdl) (by omega))]
  rw [← en, ← ek]
  refine bif_dec (fun hm2 => next _ x' ?_) (fun hm2 => ?_)
  · unfold valT; rw [if_neg (by omega)]
  refine (o1.ext (x2.trans (x.trans x'))).ldA rfl ?_
  refine ⟨by omega, ?_⟩
  have hcond : (n + 1) % (q + 1) = 0 ∧ (n + 1) / (q + 1) ≤ 3 := by omega
  have hsz := valT_size (n := n + 1) (k := q + 1) (by omega) (by omega) (by omega) hcond
  rw [ek]
  refine (firstTorus_k (r.ext (X.trans (x.trans x'))) hs hsz).to ?_
  rintro u h5 ⟨hu, x5⟩
  have hval : valT c ts (n + 1) (q + 1) = firstT c ts ((q + 1 : Nat) : Int) (((n + 1) / (q + 1) : Nat) : Int) := by unfold valT; rw [if_pos hcond]
  cases hf : firstT c ts ((q + 1 : Nat) : Int) (((n + 1) / (q + 1) : Nat) : Int) with
  | none =>
    rw [hf] at hu
    have hu' : u = Sl.nil := hu
    subst hu'
    refine bif_not (fun e => absurd (show true = false from e) (by decide)) (fun _ => ?_)
    rw [← ek]
    exact next _ (x'.trans x5) (by rw [hval, hf])
  | some ws =>
    rw [hf] at hu
    obtain ⟨hne, nu⟩ := hu
    have hrow : rowT c ts (n + 1) = some ws := find_range (n := q) (fun j hj => hnk j hj) (by rw [hval, hf]) (by omega)
    have hleast : leastT c ts = some ws := find_range (n := n) (fun j hj => hno j hj) hrow (by omega)
    have E := X.trans (x.trans x')
    refine bif_not (fun _ => ⟨u, ?_, ?_, E.trans x5⟩) (fun e => ?_)
    · rw [code4_0 h0c (by rw [hleast]; simp)]
    · rw [F_LeastTorus_0, sel_yes hs, hleast]; exact nu.le E.len
    · rw [nu.nonnil hne] at e; cases e
theorem spec_LeastTorus_c (r : Rd h0 s 4 (tcs ts)) (sz : ts.length ≤ 1048576) :
    callV SP i_spec_LeastTorus [.agg (SetC c s)] h0 fun v h' => ∃ w, v = .tuple [.sl w, i64 (code4 (setOK c ts) True (leastT c ts ≠ none))] ∧ NewSS h0.length h' w (F_LeastTorus_0 c ts) ∧ Ext h0 h' := by
  apply spec_LeastTorus_call
  unfold spec_LeastTorus_main
  refine newK_obj fun h1 o1 x1 n1 => ?_
  refine o1.ldA rfl ?_
  refine (l01Is_c (r.ext x1)).to ?_
  rintro e h2 ⟨he, x2⟩
  have X := x1.trans x2
  refine bif_not (fun hq => ⟨Sl.nil, ?_, ?_, X⟩) (fun hq => ?_)
  · have : codeOf (setOK c ts) True = 1 := codeOf_no fun hs => by rw [he.2 hs] at hq; cases hq
    rw [code4_no (by rw [this]; decide), this]
  · rw [F_LeastTorus_0, sel_no fun hs => by rw [he.2 hs] at hq; cases hq]; exact NewSS.nil _ _
  have hs := he.1 hq
  have h0c : codeOf (setOK c ts) True = 0 := codeOf_yes hs trivial
  refine spec_LeastTorus_rule0 _ _ _ (fun i h => 1 ≤ i ∧ i ≤ 10 ∧ Ext h2 h ∧ ∀ j, j < (i - 1).toNat → rowT c ts (j + 1) = none) (fun i _ => (10 - i).toNat) ?_ _ ⟨by omega, by omega, Ext.refl _, fun j h => by omega⟩
  rintro Z i h ⟨i0, i1, x, hno⟩ hZ
  unfold spec_LeastTorus_b0 spec_LeastTorus_C0
  refine bif_dec (fun hi => ?_) (fun hi => ⟨Sl.nil, ?_, ?_, X.trans x⟩)
  rotate_left
  · have : leastT c ts = none := find_none fun j hj => hno j (by omega)
    rw [code4_4 h0c fun f => f this]
  · have : leastT c ts = none := find_none fun j hj => hno j (by omega)
    rw [F_LeastTorus_0, sel_yes hs, this]; exact NewSS.nil _ _
  obtain ⟨n, rfl⟩ : ∃ n : Nat, i = (n : Int) + 1 := ⟨(i - 1).toNat, by omega⟩
  rw [show ((n : Int) + 1 - 1).toNat = n by omega] at hno
  refine spec_LeastTorus_rule2 _ _ Z _ _ (fun k h' => 1 ≤ k ∧ k ≤ 4 ∧ Ext h h' ∧ ∀ j, j < (k - 1).toNat → valT c ts (n + 1) (j + 1) = none) (fun k _ => (4 - k).toNat) ?_ _ ⟨by omega, by omega, Ext.refl _, fun j h => by omega⟩
  rintro Y k h' ⟨k0, k1, x', hnk⟩ hY
  unfold spec_LeastTorus_b2 spec_LeastTorus_C2 spec_LeastTorus_C1
  refine bif_dec (fun hk => ?_) (fun hk => ?_)
  rotate_left
  · rw [w64_of (by omega) (by omega)]
    refine hZ _ _ ⟨by omega, by omega, x.trans x', fun j hj => ?_⟩ (by omega)
    by_cases e : j = n
    · subst e; exact find_none fun q hq => hnk q (by omega)
    · exact hno j (by omega)
  obtain ⟨q, rfl⟩ : ∃ q : Nat, k = (q : Int) + 1 := ⟨(k - 1).toNat, by omega⟩
  rw [show ((q : Int) + 1 - 1).toNat = q by omega] at hnk
  have en : (n : Int) + 1 = ((n + 1 : Nat) : Int) := by push_cast; rfl
  have ek : (q : Int) + 1 = ((q + 1 : Nat) : Int) := by push_cast; rfl
  have next : ∀ h'', Ext h h'' → valT c ts (n + 1) (q + 1) = none → Y (spec_LeastTorus_e2 ⟨some h0.length, 2, 0⟩ ((n : Int) + 1) (w64 ((q : Int) + 1 + 1))) h'' := fun h'' y hv => by
    rw [w64_of (by omega) (by omega)]
    refine hY _ _ ⟨by omega, by omega, y, fun j hj => ?_⟩ (by omega)
    by_cases e : j = q
    · subst e; exact hv
    · exact hnk j (by omega)
  have hdl : (n + 1) / (q + 1) ≤ n + 1 := Nat.div_le_self _ _
  refine ⟨by omega, ?_⟩
  rw [en, ek, tmod_nat]
  rw [← en, ← ek]
  refine bif_ne (fun hm => next _ x' ?_) (fun hm => ?_)
  · unfold valT; rw [if_neg (by omega)]
  refine ⟨by omega, ?_⟩
  rw [en, ek, tdiv_nat, w64_of (Int.le_trans (by decide) (Int.natCast_nonneg _)) (Int.lt_of_le_of_lt (Int.ofNat_le.2 hdl) (by omega))]
  rw [← en, ← ek]
  refine bif_dec (fun hm2 => next _ x' ?_) (fun hm2 => ?_)
  · unfold valT; rw [if_neg (by omega)]
  refine (o1.ext (x2.trans (x.trans x'))).ldA rfl ?_
  refine ⟨by omega, ?_⟩
  have hcond : (n + 1) % (q + 1) = 0 ∧ (n + 1) / (q + 1) ≤ 3 := by omega
  have hsz := valT_size (n := n + 1) (k := q + 1) (by omega) (by omega) (by omega) hcond
  rw [ek]
  refine (l05First_c (r.ext (X.trans (x.trans x'))) hs hsz).to ?_
  rintro _ h5 ⟨u, f, rfl, hu, x5⟩
  refine ⟨_, rfl, _, rfl, _, rfl, _, rfl, ?_⟩
  have hval : valT c ts (n + 1) (q + 1) = firstT c ts ((q + 1 : Nat) : Int) (((n + 1) / (q + 1) : Nat) : Int) := by unfold valT; rw [if_pos hcond]
  cases hf : firstT c ts ((q + 1 : Nat) : Int) (((n + 1) / (q + 1) : Nat) : Int) with
  | none =>
    rw [hf] at hu
    obtain ⟨rfl, rfl⟩ := hu
    refine bif_b (fun e => by cases e) (fun _ => ?_)
    rw [← ek]
    exact next _ (x'.trans x5) (by rw [hval, hf])
  | some ws =>
    rw [hf] at hu
    obtain ⟨rfl, nu⟩ := hu
    have hrow : rowT c ts (n + 1) = some ws := find_range (n := q) (fun j hj => hnk j hj) (by rw [hval, hf]) (by omega)
    have hleast : leastT c ts = some ws := find_range (n := n) (fun j hj => hno j hj) hrow (by omega)
    have E := X.trans (x.trans x')
    refine bif_b (fun _ => ⟨u, ?_, ?_, E.trans x5⟩) (fun e => by cases e)
    · rw [code4_0 h0c (by rw [hleast]; simp)]
    · rw [F_LeastTorus_0, sel_yes hs, hleast]; exact nu.le E.len
end
end Go.Proofs.Ytfmjjpophipfbaa.Cl
