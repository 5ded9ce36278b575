/- Contracts of FirstTorus and LeastTorus. No claim is stated here. -/
import Derived.Test.YtfmjjpophipfbaaMr
set_option linter.unusedVariables false
set_option linter.unusedSimpArgs false
namespace Go.Proofs.Ytfmjjpophipfbaa.Cl
open Go
/-! ### the first of a list that is put together -/
theorem flatMap_none {α β : Type} {f : α → List β} : ∀ (l : List α), (∀ x ∈ l, f x = []) → l.flatMap f = []
  | [], _ => rfl
  | a :: l, h => by rw [List.flatMap_cons, h a (by simp), flatMap_none l fun x hx => h x (by simp [hx])]; rfl
theorem flatMap_first {α β : Type} {f : α → List β} : ∀ (l : List α) (q : Nat) (hq : q < l.length), (∀ j (hj : j < l.length), j < q → f l[j] = []) → f l[q] ≠ [] → (l.flatMap f).head? = (f l[q]).head?
  | a :: l, 0, hq, _, h => by
    rw [List.flatMap_cons]
    simp only [List.getElem_cons_zero] at h ⊢
    cases hf : f a with
    | nil => exact absurd hf h
    | cons b m => rfl
  | a :: l, q + 1, hq, h0, h => by
    have := h0 0 (by simp) (by omega)
    simp only [List.getElem_cons_zero] at this
    rw [List.flatMap_cons, this, List.nil_append]
    simp only [List.getElem_cons_succ] at h ⊢
    exact flatMap_first l q (by simpa using hq) (fun j hj hjq => by have := h0 (j + 1) (by simp; omega) (by omega); simpa using this) h
theorem head_map {α β : Type} (f : α → β) (l : List α) : (l.map f).head? = l.head?.map f := by cases l <;> rfl
theorem rowsG_flatten {W : Nat} : ∀ (ws : List (List Int)), (∀ w ∈ ws, w.length = W) → rowsG ws.length W ws.flatten = ws := fun ws h => by
  have key : ∀ (ws : List (List Int)), (∀ w ∈ ws, w.length = W) → ∀ y (hy : y < ws.length), (ws.flatten.drop (y * W)).take W = ws[y] := fun ws => by
    induction ws with
    | nil => intro _ y hy; simp at hy
    | cons a l ih =>
      intro h y hy
      have ha := h a (by simp)
      cases y with
      | zero => simp [← ha]
      | succ y =>
        have := ih (fun w hw => h w (by simp [hw])) y (by simpa using hy)
        rw [List.flatten_cons, Nat.add_mul, Nat.one_mul, Nat.add_comm, ← List.drop_drop, ← ha, List.drop_left]
        rw [ha]
        simpa using this
  unfold rowsG tab2
  apply List.ext_getElem (by simp)
  intro i h1 h2
  simp only [List.getElem_map, List.getElem_range]
  exact key ws h i h2
noncomputable def firstT (c : Int) (ts : List Tile) (a b : Int) : Option (List (List Int)) := (toriL c ts b.toNat a.toNat).head?
theorem NewSS.nonnil {n h s ls} (r : NewSS n h s ls) (hl : ls ≠ []) : isNilS s = false := by
  have hlen := r.rd.len
  obtain ⟨vs, a1, a2, _⟩ := r
  have : 0 < ls.length := List.length_pos_iff.2 hl
  obtain ⟨p, q⟩ | ⟨o, p, _⟩ := a2.at_
  · omega
  · unfold isNilS; rw [p]; rfl
def fstF (_ : Option (List Int)) (l : List Int) : Option (List Int) × Bool := (some l, false)
theorem runU_fst (l : List (List Int)) : (runU fstF l none).1 = l.head? := by
  cases l with
  | nil => rfl
  | cons a l => simp [runU, fstF]
section
variable {h0 : H} {c : Int} {s : Sl} {ts : List Tile} {a b : Int}
theorem firstTorus_k (r : Rd h0 s 4 (tcs ts)) (hs : setOK c ts) (hz : Size a b) : callS SP i_impl_Set_firstTorus [.agg (SetC c s), i64 a, i64 b] h0 fun u h' => (match firstT c ts a b with | none => u = Sl.nil | some ws => ws ≠ [] ∧ NewSS h0.length h' u ws) ∧ Ext h0 h' := by
  obtain ⟨x, rfl⟩ : ∃ x : Nat, a = x := ⟨a.toNat, by have := hz.1; omega⟩
  obtain ⟨y, rfl⟩ : ∃ y : Nat, b = y := ⟨b.toNat, by have := hz.2; omega⟩
  have hx := hz.1; have hy := hz.2
  apply impl_Set_firstTorus_call
  unfold impl_Set_firstTorus_main
  refine newK_obj fun h1 o1 x1 l1 => ?_
  refine newO_var fun h2 v2 x2 l2 => ?_
  refine v2.st _ fun h3 v3 b3 l3 => ?_
  have X3 : Ext h0 h3 := (x1.trans x2).but_ b3 (some_le (by omega))
  have o3 := (o1.ext x2).but b3 (fun e => by have := Option.some.inj e; omega)
  refine o3.ldA rfl ?_
  refine (tori_c (σ := Option (List Int)) (f := fstF) (H_ := x) (W := y) (I := fun t h => match t with
      | none => Var h h1.length (.sl Sl.nil)
      | some l => ∃ u, Var h h1.length (.sl u) ∧ NewP (fun i => h0.length ≤ i ∧ i ≠ h3.length + 2) h u (rowsG x y l)) (t := none) r hs.2.1 (by omega) (by omega) X3 ?_ ?_ v3).to ?_
  · intro t h h' i e
    cases t with
    | none => exact Var.but i e (fun e => by have := Option.some.inj e; omega)
    | some l =>
      obtain ⟨u, v, n⟩ := i
      exact ⟨u, v.but e (fun e => by have := Option.some.inj e; omega), n.chg (e.chg (P := fun i => i = h3.length + 2) fun i hi => by cases hi; rfl) fun i p _ => p.2⟩
  · intro t l h h' u hl hxs i hlen n e
    have hv : ∃ v, Var h' h1.length v := by
      cases t with
      | none => exact ⟨_, i⟩
      | some l => obtain ⟨u, v, _⟩ := i; exact ⟨_, v⟩
    obtain ⟨v, hv⟩ := hv
    apply impl_Set_firstTorus_1_call
    unfold impl_Set_firstTorus_1_main
    refine hv.st _ fun h'' v' b' _ => ⟨_, rfl, rfl, ⟨u, v', ?_⟩, b'.chg fun i e => by cases e; omega⟩
    have n2 : NewP (fun i => h0.length ≤ i ∧ i ≠ h3.length + 2 ∧ i ≠ h1.length) h' u (rowsG x y l) := n.p fun i p q => ⟨by omega, by omega, by omega⟩
    have n3 := n2.chg (b'.chg (P := fun i => i = h1.length) fun i e => by cases e; rfl) fun i p _ => p.2.2
    obtain ⟨vs, c1, c2, c3, c4, c5⟩ := n3
    exact ⟨vs, c1, c2, fun o e => ⟨(c3 o e).1, (c3 o e).2.1⟩, fun i v l p q => ⟨(c4 i v l p q).1, fun o e => ⟨((c4 i v l p q).2 o e).1, ((c4 i v l p q).2 o e).2.1⟩⟩, c5⟩
  · rintro _ h4 ⟨hi, e⟩
    rw [runU_fst, flat_tori hs.sides (by omega) (by omega), head_map] at hi
    have hX : Ext h0 h4 := e
    unfold firstT
    simp only [Int.toNat_natCast]
    cases hh : (toriL c ts y x).head? with
    | none =>
      rw [hh] at hi
      exact Var.ldS hi ⟨_, rfl, rfl, hX⟩
    | some ws =>
      rw [hh] at hi
      obtain ⟨u, v, n⟩ := hi
      have hmem : ws ∈ toriL c ts y x := List.mem_of_head? hh
      obtain ⟨f1, f2⟩ := tori_form (by omega) hmem
      have hr : rowsG x y ws.flatten = ws := by
        have := rowsG_flatten (W := y) ws fun w hw => (f2 w hw).1
        rwa [f1] at this
      rw [hr] at n
      refine v.ldS ⟨_, rfl, ⟨?_, n.ss fun i p => p.1⟩, hX⟩
      intro hnil
      rw [hnil] at f1
      simp at f1
      omega
theorem cnt_pos {W n : Nat} {x y : Int} : cnt c ts W n x y ≠ 0 ↔ seqs c ts W n x y ≠ [] := by
  unfold cnt
  rw [Ne, List.length_eq_zero_iff]
theorem l05First_c (r : Rd h0 s 4 (tcs ts)) (hs : setOK c ts) (hz : Size a b) : callV SP i_spec_l05First [.agg (SetC c s), i64 a, i64 b] h0 fun v h' => ∃ u f, v = .tuple [.sl u, .bool f] ∧
    (match firstT c ts a b with | none => f = false ∧ u = Sl.nil | some ws => f = true ∧ NewSS h0.length h' u ws) ∧ Ext h0 h' := by
  obtain ⟨x, rfl⟩ : ∃ x : Nat, a = x := ⟨a.toNat, by have := hz.1; omega⟩
  obtain ⟨y, rfl⟩ : ∃ y : Nat, b = y := ⟨b.toNat, by have := hz.2; omega⟩
  have hx := hz.1; have hy := hz.2
  have S := hs.sides
  have hpw := pow_small (n := y) hs.1.1 hs.1.2 (by omega)
  obtain ⟨N, hN⟩ : ∃ N : Nat, (N : Int) = c ^ y := ⟨(c ^ y).toNat, by omega⟩
  have hwl : (words ts y).length ≤ 4096 := rounds_small hs.2.1 (by omega) ([] : List Int)
  apply spec_l05First_call
  unfold spec_l05First_main
  generalize hKK : (fun (v : AVal) (h' : H) => ∃ u f, v = .tuple [.sl u, .bool f] ∧ (match firstT c ts x y with | none => f = false ∧ u = Sl.nil | some ws => f = true ∧ NewSS h0.length h' u ws) ∧ Ext h0 h') = KK
  have fin0 : ∀ h', firstT c ts x y = none → Ext h0 h' → KK (.tuple [.sl Sl.nil, .bool false]) h' := fun h' e x => by rw [← hKK]; exact ⟨_, _, rfl, by rw [e]; exact ⟨rfl, rfl⟩, x⟩
  have fin1 : ∀ u ws h', firstT c ts x y = some ws → NewSS h0.length h' u ws → Ext h0 h' → KK (.tuple [.sl u, .bool true]) h' := fun u ws h' e n x => by rw [← hKK]; exact ⟨_, _, rfl, by rw [e]; exact ⟨rfl, n⟩, x⟩
  clear hKK
  refine newK_obj fun h1 o1 x1 l1 => ?_
  refine o1.ldA rfl ?_
  refine (l05Words_c (r.ext x1) hs.2.1 S hs.1.2 (W := y) (by omega)).to ?_
  rintro _ h3 ⟨wq, tq, bq, rfl, nw, rt, rb, x3⟩
  refine ⟨_, rfl, _, rfl, _, rfl, _, rfl, _, rfl, _, rfl, ?_⟩
  have o3 := o1.ext x3
  have X3 := x1.trans x3
  refine isPt_in (o3.ldI rfl rfl ?_)
  refine (l03Power_c hs.1.1 hs.1.2 (W := y) (by omega)).to ?_
  rintro _ h4 ⟨rfl, x4⟩
  rw [← hN] at hpw ⊢
  have hal := nw.rd.len
  have hgets : ∀ {k : Nat} (hk : k < (words ts y).length), rw_ (words ts y) k = (words ts y)[k] := fun {k} hk => by unfold rw_; rw [List.getD_eq_getElem?_getD, List.getElem?_eq_getElem hk]; rfl
  generalize hp : (fun w : List Int => (seqs c ts y (x - 1) (cd c ts 3 w) (cd c ts 1 w)).map (w :: ·)) = pc
  have hfirst : firstT c ts x y = ((words ts y).flatMap pc).head? := by rw [← hp]; rfl
  refine spec_l05First_rule0 _ _ _ _ _ _ _ _ (fun i h => 0 ≤ i ∧ i ≤ (words ts y).length ∧ Ext h3 h ∧ ∀ j (hj : j < (words ts y).length), j < i.toNat → pc (words ts y)[j] = []) (fun i _ => ((words ts y).length - i).toNat) ?_ _ ⟨by omega, by omega, x4, fun j hj h => by omega⟩
  rintro X i h ⟨i0, i1, e, hnone⟩ hX
  unfold spec_l05First_b0 spec_l05First_C0 spec_l05First_C1
  refine bif_dec (fun hi => ?_) (fun hi => ?_)
  rotate_left
  · refine fin0 _ ?_ (X3.trans e)
    rw [hfirst, flatMap_none _ fun w hw => ?_]; rfl
    obtain ⟨q, hq, rfl⟩ := List.getElem_of_mem hw
    exact hnone q hq (by omega)
  obtain ⟨k, rfl⟩ : ∃ k : Nat, i = k := ⟨i.toNat, by omega⟩
  rw [Int.toNat_natCast] at hnone
  have hk : k < (words ts y).length := by omega
  have hwd := words_wd (List.getElem_mem hk)
  have b1 := hwd.bound (k := 1) S (by omega)
  have b3 := hwd.bound (k := 3) S (by omega)
  rw [← hN] at b1 b3
  have hrt := rt.ext e
  have hrb := rb.ext e
  have XX := X3.trans e
  refine hrt.ldG (by omega) (by rw [List.length_map]; omega) ?_
  rw [Int.toNat_natCast, mapG hk]
  refine newS_ow (by rfl) fun u g1 ou lu uo e1 => ?_
  have y1 : Ext h g1 := by rw [e1]; exact Ext.app _ _
  refine (o3.ext (e.trans y1)).ldA rfl ?_
  rw [w64_of (n := (x : Int) - 1) (by omega) (by omega), show (x : Int) - 1 = ((x - 1 : Nat) : Int) by omega]
  refine (l05Paths_c hs.2.1 S hs.1.2 (W := y) (by omega) (hrt.ext y1) (hrb.ext y1) hN (n := x - 1) (by omega) (x := cd c ts 1 (words ts y)[k]) b1.1 b1.2).to ?_
  rintro u6 g5 ⟨ru, y5⟩
  refine (hrb.ext y1).ixC (by omega) (by rw [List.length_map]; omega) fun p hpc => ?_
  rw [Int.toNat_natCast, mapG hk] at hpc
  refine ⟨_, y5.cell hpc, ⟨(y5.cellE hpc).symm, ?_⟩⟩
  refine ru.ldG b3.1 (by rw [tab1_len]; omega) ?_
  rw [tab1_at (by omega), show (((cd c ts 3 (words ts y)[k]).toNat : Nat) : Int) = cd c ts 3 (words ts y)[k] by omega]
  have hpck : pc (words ts y)[k] = (seqs c ts y (x - 1) (cd c ts 3 (words ts y)[k]) (cd c ts 1 (words ts y)[k])).map ((words ts y)[k] :: ·) := by rw [← hp]
  refine bif_eq (fun hq => ?_) (fun hq => ?_)
  · rw [w64_of (by omega) (by omega)]
    refine hX _ _ ⟨by omega, by omega, (e.trans y1).trans y5, fun j hj hlt => ?_⟩ (by omega)
    by_cases ej : j = k
    · subst ej
      rw [hpck]
      have : cnt c ts y (x - 1) (cd c ts 3 (words ts y)[j]) (cd c ts 1 (words ts y)[j]) = 0 := by omega
      unfold cnt at this
      rw [List.length_eq_zero_iff.1 this]; rfl
    · exact hnone j hj (by omega)
  have hne : seqs c ts y (x - 1) (cd c ts 3 (words ts y)[k]) (cd c ts 1 (words ts y)[k]) ≠ [] := cnt_pos.1 (by omega)
  have hft : firstT c ts x y = (seqs c ts y (x - 1) (cd c ts 3 (words ts y)[k]) (cd c ts 1 (words ts y)[k])).head?.map ((words ts y)[k] :: ·) := by
    rw [hfirst, flatMap_first (words ts y) k hk hnone (by rw [hpck]; simpa using hne), hpck, head_map]
  have nsu : NewSS h.length g1 u [] := NewSS.mk0 ou (fun o e => by rw [uo] at e; cases e; exact Nat.le_refl _)
  have nw5 := nw.ext ((e.trans y1).trans y5)
  refine nw5.rd.ldG (by omega) (by omega) fun v rv lv => ?_
  rw [Int.toNat_natCast, hgets hk] at rv
  have hwk := hwd.1
  refine (l01Own_c rv (by omega)).to ?_
  rintro z g6 ⟨oz, fz, y6⟩
  have ly1 := y1.len; have ly5 := y5.len; have ly6 := y6.len
  refine ((nsu.ext y5).ext y6).push oz fz (by omega) ⟨g1, nsu, by omega, y5.trans y6⟩ (by unfold lim; simp) (by omega) fun u' g8 nu bu => ?_
  have z8 : Ext h g8 := ((y1.trans y5).trans y6).but_ bu fun o e => nsu.fr o e
  refine (hrb.ext z8).ldG (by omega) (by rw [List.length_map]; omega) ?_
  rw [Int.toNat_natCast, mapG hk, w64_of (n := (x : Int) - 2) (by omega) (by omega)]
  generalize hx0 : cd c ts 1 (words ts y)[k] = xt at *
  refine spec_l05First_rule2 _ _ _ _ _ _ _ _ _ (fun u nd m g => -1 ≤ m ∧ m ≤ (x : Int) - 2 ∧ Ext h g ∧ (0 ≤ nd ∧ nd < N) ∧ ∃ ws rest, NewSS h.length g u ws ∧ ws.length + (m + 1).toNat = x ∧ (seqs c ts y (m + 1).toNat nd xt).head? = some rest ∧ firstT c ts x y = some (ws ++ rest)) (fun _ _ m _ => (m + 1).toNat) ?_ _ _ _ ?_
  rotate_left
  · refine ⟨by omega, by omega, z8, b3, [(words ts y)[k]], ?_⟩
    rw [show ((x : Int) - 2 + 1).toNat = x - 1 by omega]
    cases hh : (seqs c ts y (x - 1) (cd c ts 3 (words ts y)[k]) xt).head? with
    | none => exact absurd (List.head?_eq_none_iff.1 hh) hne
    | some rest =>
      rw [hh] at hft
      exact ⟨rest, nu, by simp; omega, rfl, by rw [hft]; rfl⟩
  clear hX hnone hq nu bu z8 oz fz rv ru hpc nsu hft hne hpck
  rintro Y u nd m g ⟨m0, m1, eg, hnd, ws, rest, n, hl, hh, hf⟩ hY
  unfold spec_l05First_b2 spec_l05First_C2
  refine bif_dec (fun hm => ?_) (fun hm => ?_)
  rotate_left
  · rw [show (m + 1).toNat = 0 by omega] at hh
    have hrest : rest = [] := by
      have := (mem_sel (List.mem_of_head? hh)).2
      simpa using this
    subst hrest
    rw [List.append_nil] at hf
    exact fin1 _ _ _ hf (n.le XX.len) (XX.trans eg)
  obtain ⟨q, rfl⟩ : ∃ q : Nat, m = q := ⟨m.toNat, by omega⟩
  rw [show ((q : Int) + 1).toNat = q + 1 by omega] at hh hl
  refine (o3.ext (e.trans eg)).ldA rfl ?_
  have hx0' : 0 ≤ xt ∧ xt < N := b1
  refine (l05Paths_c hs.2.1 S hs.1.2 (W := y) (by omega) (hrt.ext eg) (hrb.ext eg) hN (n := q) (by omega) (x := xt) hx0'.1 hx0'.2).to ?_
  rintro u2 g2 ⟨ru2, y2⟩
  generalize hpp : (fun w : List Int => sel (cd c ts 1 w = nd) ((seqs c ts y q (cd c ts 3 w) xt).map (w :: ·)) []) = pp
  have hsq : seqs c ts y (q + 1) nd xt = (words ts y).flatMap pp := by rw [← hpp]; rfl
  refine spec_l05First_rule4 _ _ _ Y _ _ _ _ _ _ _ _ (fun u' nd' i g' => 0 ≤ i ∧ i ≤ (words ts y).length ∧ u = u' ∧ nd = nd' ∧ g2 = g' ∧ ∀ j (hj : j < (words ts y).length), j < i.toNat → pp (words ts y)[j] = []) (fun _ _ i _ => ((words ts y).length - i).toNat) ?_ _ _ _ ⟨by omega, by omega, rfl, rfl, rfl, fun j hj h => by omega⟩
  rintro Z _ _ i _ ⟨i0, i1, rfl, rfl, rfl, hno⟩ hZ
  unfold spec_l05First_b4 spec_l05First_C4 spec_l05First_C3
  have EG := eg.trans y2
  have ht2 := hrt.ext EG
  have hb2 := hrb.ext EG
  have hbl := rb.ilen
  rw [List.length_map] at hbl
  have htl := rt.ilen
  rw [List.length_map] at htl
  refine bif_dec (fun hi2 => ?_) (fun hi2 => ?_)
  rotate_left
  · exfalso
    rw [hsq, flatMap_none _ fun w hw => ?_] at hh
    · cases hh
    · obtain ⟨j, hj, rfl⟩ := List.getElem_of_mem hw
      exact hno j hj (by omega)
  obtain ⟨j, rfl⟩ : ∃ j : Nat, i = j := ⟨i.toNat, by omega⟩
  rw [Int.toNat_natCast] at hno
  have hj : j < (words ts y).length := by omega
  have hwd2 := words_wd (List.getElem_mem hj)
  have c1 := hwd2.bound (k := 1) S (by omega)
  have c3 := hwd2.bound (k := 3) S (by omega)
  rw [← hN] at c1 c3
  have hppj : pp (words ts y)[j] = sel (cd c ts 1 (words ts y)[j] = nd) ((seqs c ts y q (cd c ts 3 (words ts y)[j]) xt).map ((words ts y)[j] :: ·)) [] := by rw [← hpp]
  have more : pp (words ts y)[j] = [] → Z (spec_l05First_e4 ⟨some h0.length, 2, 0⟩ wq tq bq (N : Int) xt u nd (q : Int) u2 (w64 ((j : Int) + 1))) g2 := fun hpj => by
    rw [w64_of (by omega) (by omega)]
    refine hZ _ _ _ _ ⟨by omega, by omega, rfl, rfl, rfl, fun j' hj' hlt => ?_⟩ (by omega)
    by_cases ej : j' = j
    · subst ej; exact hpj
    · exact hno j' hj' (by omega)
  refine ht2.ldG (by omega) (by rw [List.length_map]; omega) ?_
  rw [Int.toNat_natCast, mapG hj]
  refine bif_eq (fun hq1 => ?_) (fun hq1 => more (by rw [hppj, sel_no hq1]))
  refine hb2.ldG (by omega) (by rw [List.length_map]; omega) ?_
  rw [Int.toNat_natCast, mapG hj]
  refine ru2.ldG c3.1 (by rw [tab1_len]; omega) ?_
  rw [tab1_at (by omega), show (((cd c ts 3 (words ts y)[j]).toNat : Nat) : Int) = cd c ts 3 (words ts y)[j] by omega]
  refine bif_dec (fun hq2 => ?_) (fun hq2 => more ?_)
  rotate_left
  · rw [hppj, sel_yes hq1]
    have : cnt c ts y q (cd c ts 3 (words ts y)[j]) xt = 0 := by omega
    unfold cnt at this
    rw [List.length_eq_zero_iff.1 this]; rfl
  have hne2 : seqs c ts y q (cd c ts 3 (words ts y)[j]) xt ≠ [] := cnt_pos.1 (by omega)
  rw [hsq, flatMap_first (words ts y) j hj hno (by rw [hppj, sel_yes hq1]; simpa using hne2), hppj, sel_yes hq1, head_map] at hh
  have nw2 := nw.ext (e.trans EG)
  refine nw2.rd.ldG (by omega) (by omega) fun v rv lv => ?_
  rw [Int.toNat_natCast, hgets hj] at rv
  have hwk2 := hwd2.1
  refine (l01Own_c rv (by omega)).to ?_
  rintro z g8 ⟨oz, fz, y8⟩
  have ly2 := y2.len; have ly8 := y8.len; have leg := eg.len
  refine ((n.ext y2).ext y8).push oz fz (by omega) ⟨g2, n.ext y2, by omega, y8⟩ (by unfold lim; omega) (by omega) fun u' g9 nu bu => ?_
  have z9 : Ext h g9 := (EG.trans y8).but_ bu fun o e => n.fr o e
  refine (hrb.ext z9).ldG (by omega) (by rw [List.length_map]; omega) ?_
  rw [Int.toNat_natCast, mapG hj, w64_of (n := (q : Int) - 1) (by omega) (by omega)]
  refine hY _ _ _ _ ⟨by omega, by omega, z9, c3, ws ++ [(words ts y)[j]], ?_⟩ (by omega)
  rw [show ((q : Int) - 1 + 1).toNat = q by omega]
  cases hh2 : (seqs c ts y q (cd c ts 3 (words ts y)[j]) xt).head? with
  | none => exact absurd (List.head?_eq_none_iff.1 hh2) hne2
  | some rest' =>
    rw [hh2] at hh
    have hr : (words ts y)[j] :: rest' = rest := Option.some.inj hh
    exact ⟨rest', nu, by simp; omega, rfl, by rw [hf, ← hr]; simp⟩
end
open Classical in
noncomputable def code4 (A B T : Prop) : Int := if codeOf A B = 0 then (if T then 0 else 4) else codeOf A B
theorem code4_no {A B T : Prop} (h : codeOf A B ≠ 0) : code4 A B T = codeOf A B := by unfold code4; rw [if_neg h]
theorem code4_4 {A B T : Prop} (h : codeOf A B = 0) (t : ¬ T) : code4 A B T = 4 := by unfold code4; rw [if_pos h, if_neg t]
theorem code4_0 {A B T : Prop} (h : codeOf A B = 0) (t : T) : code4 A B T = 0 := by unfold code4; rw [if_pos h, if_pos t]
noncomputable def F_FirstTorus_0 (c : Int) (ts : List Tile) (a b : Int) : List (List Int) := sel (setOK c ts ∧ Size a b) ((firstT c ts a b).getD []) []
theorem firstT_form {c : Int} {ts : List Tile} {a b : Int} (hz : Size a b) {ws} (h : firstT c ts a b = some ws) : ws.length ≤ 3 ∧ ∀ w ∈ ws, w.length ≤ 3 := by
  have h1 := hz.1; have h2 := hz.2
  obtain ⟨f1, f2⟩ := tori_form (by omega) (List.mem_of_head? h)
  exact ⟨by omega, fun w hw => by have := (f2 w hw).1; omega⟩
theorem getD_small {o : Option (List (List Int))} (h : ∀ ws, o = some ws → ws.length ≤ 3 ∧ ∀ w ∈ ws, w.length ≤ 3) : (o.getD []).length < 1000000 ∧ sumLen (o.getD []) < 1000000 := by
  cases o with
  | none => exact small_nil
  | some ws =>
    have := h ws rfl
    have := sumLen_le (ls := ws) (n := 3) this.2
    show ws.length < 1000000 ∧ sumLen ws < 1000000
    omega
theorem FirstTorus_small0 {c : Int} {ts : List Tile} {a b : Int} (sz : ts.length ≤ 1048576) (ba : i64ok a) (bb : i64ok b) : (F_FirstTorus_0 c ts a b).length < 1000000 ∧ sumLen (F_FirstTorus_0 c ts a b) < 1000000 :=
  sel_small fun h => getD_small fun ws e => firstT_form h.2 e
section
variable {h0 : H} {c : Int} {s : Sl} {ts : List Tile} {a b : Int}
theorem impl_FirstTorus_c (r : Rd h0 s 4 (tcs ts)) (sz : ts.length ≤ 1048576) (ba : i64ok a) (bb : i64ok b) :
    callV SP i_impl_FirstTorus [.agg (SetC c s), i64 a, i64 b] h0 fun v h' => ∃ w, v = .tuple [.sl w, i64 (code4 (setOK c ts) (Size a b) (firstT c ts a b ≠ none))] ∧ NewSS h0.length h' w (F_FirstTorus_0 c ts a b) ∧ Ext h0 h' := by
  apply impl_FirstTorus_call
  unfold impl_FirstTorus_main
  refine newK_obj fun h1 o1 x1 n1 => ?_
  refine newO_var fun h2 v2 x2 n2 => ?_
  refine newO_var fun h3 v3 x3 n3 => ?_
  have o3 := o1.ext (x2.trans x3)
  have w2 := v2.ext x3
  have x13 := x1.trans (x2.trans x3)
  refine o3.ldA rfl ?_
  refine (setCode_c (r.ext x13) (by omega) _ _ (Size a b) fun _ h x => ?_).to ?_
  · apply impl_FirstTorus_1_call
    unfold impl_FirstTorus_1_main
    refine (w2.ext x).ldI ?_
    refine (v3.ext x).ldI ?_
    exact areSizes_k.to fun b h' e => ⟨_, rfl, e⟩
  rintro n h4 ⟨rfl, x4⟩
  have X := x13.trans x4
  refine bif_ne (fun hq => ⟨Sl.nil, ?_, ?_, X⟩) (fun hq => ?_)
  · rw [code4_no hq]
  · rw [F_FirstTorus_0, sel_no (codeOf_cond hq)]; exact NewSS.nil _ _
  have hc := codeOf_zero hq
  refine (o3.ext x4).ldA rfl ?_
  refine (w2.ext x4).ldI ?_
  refine (v3.ext x4).ldI ?_
  refine (firstTorus_k (r.ext X) hc.1 hc.2).to ?_
  rintro u h5 ⟨hu, x5⟩
  rw [F_FirstTorus_0, sel_yes hc]
  cases hf : firstT c ts a b with
  | none =>
    rw [hf] at hu
    have hu' : u = Sl.nil := hu
    subst hu'
    refine bif_b (fun _ => ⟨Sl.nil, ?_, NewSS.nil _ _, X.trans x5⟩) (fun e => absurd (show true = false from e) (by decide))
    rw [code4_4 hq fun f => f rfl]
  | some ws =>
    rw [hf] at hu
    obtain ⟨hne, nu⟩ := hu
    refine bif_b (fun e => ?_) (fun _ => ⟨u, ?_, nu.le X.len, X.trans x5⟩)
    · rw [nu.nonnil hne] at e; cases e
    · rw [code4_0 hq (by simp)]
theorem spec_FirstTorus_c (r : Rd h0 s 4 (tcs ts)) (sz : ts.length ≤ 1048576) (ba : i64ok a) (bb : i64ok b) :
    callV SP i_spec_FirstTorus [.agg (SetC c s), i64 a, i64 b] h0 fun v h' => ∃ w, v = .tuple [.sl w, i64 (code4 (setOK c ts) (Size a b) (firstT c ts a b ≠ none))] ∧ NewSS h0.length h' w (F_FirstTorus_0 c ts a b) ∧ Ext h0 h' := by
  apply spec_FirstTorus_call
  unfold spec_FirstTorus_main
  refine newK_obj fun h1 o1 x1 n1 => ?_
  refine o1.ldA rfl ?_
  refine (l05Code_c (r.ext x1)).to ?_
  rintro n h4 ⟨rfl, x4⟩
  have X := x1.trans x4
  refine bif_ne (fun hq => ⟨Sl.nil, ?_, ?_, X⟩) (fun hq => ?_)
  · rw [code4_no hq]
  · rw [F_FirstTorus_0, sel_no (codeOf_cond hq)]; exact NewSS.nil _ _
  have hc := codeOf_zero hq
  refine (o1.ext x4).ldA rfl ?_
  refine (l05First_c (r.ext X) hc.1 hc.2).to ?_
  rintro _ h5 ⟨u, f, rfl, hu, x5⟩
  refine ⟨_, rfl, _, rfl, _, rfl, _, rfl, ?_⟩
  rw [F_FirstTorus_0, sel_yes hc]
  cases hf : firstT c ts a b with
  | none =>
    rw [hf] at hu
    obtain ⟨rfl, rfl⟩ := hu
    refine bif_not (fun _ => ⟨Sl.nil, ?_, NewSS.nil _ _, X.trans x5⟩) (fun e => by cases e)
    rw [code4_4 hq fun f => f rfl]
  | some ws =>
    rw [hf] at hu
    obtain ⟨rfl, nu⟩ := hu
    refine bif_not (fun e => by cases e) (fun _ => ⟨u, ?_, nu.le X.len, X.trans x5⟩)
    rw [code4_0 hq (by simp)]
end
end Go.Proofs.Ytfmjjpophipfbaa.Cl
