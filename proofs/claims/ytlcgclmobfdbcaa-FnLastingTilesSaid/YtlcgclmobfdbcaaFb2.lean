/- Contracts of functions, joined. No claim is stated here. -/
import Derived.Test.YtlcgclmobfdbcaaFb1
import Derived.Test.YtlcgclmobfdbcaaFb0
/- Sorted tiles, each once: the program's walk. No claim is stated here. -/
set_option linter.unusedVariables false
set_option linter.unusedSimpArgs false
namespace Go.Proofs.Ytlcgclmobfdbcaa.Cl
open Go
section
variable {h0 : H} {s : Sl} {l : List Tile} {ps : Nat}
theorem sortedFunc_c (hv : Var h0 ps (.sl s)) (r : Rd h0 s 4 (tcs l)) (hl : l.length ≤ 1000000) :
    callS SP i_slices_SortedFunc_impl_Tile_ [.func i_slices_Values_s_impl_Tile_impl_Tile__1 [.ptr (pt ps)], .func i_impl_compare []] h0 fun u h' => ∃ l', Ow h' u 4 (tcs l') ∧ l'.Perm l ∧ l'.Pairwise (fun a b => ¬ ltT b a) ∧ Fr h0.length u ∧ Ext h0 h' := by
  apply slices_SortedFunc_impl_Tile__call
  unfold slices_SortedFunc_impl_Tile__main
  have hc : callS SP i_slices_Collect_impl_Tile_ [.func i_slices_Values_s_impl_Tile_impl_Tile__1 [.ptr (pt ps)]] h0 fun u h' => Ow h' u 4 (tcs l) ∧ Fr h0.length u ∧ Ext h0 h' := by
    apply slices_Collect_impl_Tile__call
    unfold slices_Collect_impl_Tile__main
    refine (appendSeq_c hv r hl).to ?_
    rintro u h' ⟨o, f, x, _⟩
    exact ⟨u, rfl, o, f, x⟩
  refine hc.to ?_
  rintro u h1 ⟨o1, f1, x1⟩
  refine (sortT_c o1 (by omega)).to ?_
  rintro v h2 ⟨rfl, l', o2, hp, hs, b2, ln⟩
  exact ⟨u, rfl, l', o2, hp, hs, f1, x1.but_ b2 fun o e => f1 o e⟩
/-! ### each once -/
def cmpl : List Tile → List Tile
  | [] => []
  | [a] => [a]
  | a :: b :: l => if a = b then cmpl (b :: l) else a :: cmpl (b :: l)
theorem mem_cmpl {x : Tile} : ∀ {l : List Tile}, x ∈ cmpl l ↔ x ∈ l
  | [] => Iff.rfl
  | [a] => Iff.rfl
  | a :: b :: l => by
    have ih := mem_cmpl (x := x) (l := b :: l)
    unfold cmpl
    split
    · next h => subst h; rw [ih]; simp
    · rw [List.mem_cons, ih, List.mem_cons (l := b :: l)]
theorem pw_cmpl : ∀ {l : List Tile}, l.Pairwise (fun a b => ¬ ltT b a) → (cmpl l).Pairwise ltT
  | [], _ => List.Pairwise.nil
  | [a], _ => by simp [cmpl]
  | a :: b :: l, h => by
    have h1 := List.pairwise_cons.1 h
    have ih := pw_cmpl h1.2
    unfold cmpl
    split
    · exact ih
    · next hne =>
      refine List.pairwise_cons.2 ⟨fun x hx => ?_, ih⟩
      have hab : ltT a b := (ltT_sto.tri a b hne).resolve_right (h1.1 b (by simp))
      rcases List.mem_cons.1 (mem_cmpl.1 hx) with rfl | hx'
      · exact hab
      · have h2 := (List.pairwise_cons.1 h1.2).1 x hx'
        by_cases e : b = x
        · rw [← e]; exact hab
        · exact ltT_sto.trans _ _ _ hab ((ltT_sto.tri b x e).resolve_right h2)
theorem cmpl_app : ∀ (l : List Tile) (a x : Tile), cmpl (l ++ [a, x]) = if a = x then cmpl (l ++ [a]) else cmpl (l ++ [a]) ++ [x]
  | [], a, x => by
    simp only [List.nil_append, cmpl]
    split <;> simp_all
  | [b], a, x => by
    have ih := cmpl_app [] a x
    simp only [List.nil_append, List.cons_append] at ih ⊢
    rw [cmpl, ih]
    conv => rhs; rw [cmpl]
    by_cases h1 : b = a
    · simp [h1]
    · simp only [if_neg h1]
      by_cases h2 : a = x
      · rw [if_pos h2, if_pos h2]
      · rw [if_neg h2, if_neg h2]; simp
  | b :: c :: l, a, x => by
    have ih := cmpl_app (c :: l) a x
    simp only [List.cons_append] at ih ⊢
    rw [cmpl, ih]
    conv => rhs; rw [cmpl]
    by_cases h1 : b = c
    · simp [h1]
    · simp only [if_neg h1]
      by_cases h2 : a = x
      · rw [if_pos h2, if_pos h2]
      · rw [if_neg h2, if_neg h2]; simp
theorem cmpl_take {l : List Tile} {k : Nat} (h0 : 1 ≤ k) (hk : k < l.length) : cmpl (l.take (k + 1)) = if l[k - 1]'(by omega) = l[k] then cmpl (l.take k) else cmpl (l.take k) ++ [l[k]] := by
  obtain ⟨j, rfl⟩ : ∃ j, k = j + 1 := ⟨k - 1, by omega⟩
  have e1 : l.take (j + 1 + 1) = l.take j ++ [l[j], l[j + 1]] := by
    rw [List.take_succ_eq_append_getElem hk, List.take_succ_eq_append_getElem (show j < l.length by omega), List.append_assoc]
    rfl
  have e2 : l.take (j + 1) = l.take j ++ [l[j]] := List.take_succ_eq_append_getElem (by omega)
  rw [e1, e2]
  exact cmpl_app _ _ _
theorem Compact_c (r : Ow h0 s 4 (tcs l)) (hl : l.length ≤ 1000000) :
    callS SP i_slices_Compact_s_impl_Tile_impl_Tile_ [.sl s] h0 fun u h' => Pre h' u 4 (tcs (cmpl l)) ∧ But s.o h0 h' ∧ (∀ o, u.o = some o → s.o = some o) ∧ h'.length = h0.length := by
  have hsl := r.rd.tlen
  apply slices_Compact_s_impl_Tile_impl_Tile__call
  unfold slices_Compact_s_impl_Tile_impl_Tile__main
  refine bif_dec (fun h2 => ?_) (fun h2 => ?_)
  · have : cmpl l = l := by
      match l, hsl, h2 with
      | [], _, _ => rfl
      | [a], _, _ => rfl
      | a :: b :: m, e, h2 => simp at e; omega
    exact ⟨s, rfl, by rw [this]; exact r.pre, ⟨Nat.le_refl _, fun _ _ _ => rfl⟩, fun o e => e, rfl⟩
  obtain ⟨o, hso⟩ : ∃ o, s.o = some o := by
    obtain ⟨a, b⟩ | ⟨o, a, _⟩ := r.at_
    · omega
    · exact ⟨o, a⟩
  refine slices_Compact_s_impl_Tile_impl_Tile__rule0 _ _ _ (fun i h => ∃ k : Nat, i = k ∧ 1 ≤ k ∧ k ≤ l.length ∧ h = h0 ∧ cmpl (l.take k) = l.take k) (fun i _ => (l.length - i).toNat) ?_ _ ⟨1, rfl, by omega, by omega, rfl, ?_⟩
  rotate_left
  · match l, hsl with
    | [], _ => rfl
    | a :: m, _ => rfl
  rintro X0 _ h ⟨k, rfl, k1, k2, rfl, hk⟩ hX
  unfold slices_Compact_s_impl_Tile_impl_Tile__b0 slices_Compact_s_impl_Tile_impl_Tile__C0
  refine bif_dec (fun hi => ?_) (fun hi => ?_)
  rotate_left
  · rw [show k = l.length by omega, List.take_length] at hk
    exact ⟨s, rfl, by rw [hk]; exact r.pre, ⟨Nat.le_refl _, fun _ _ _ => rfl⟩, fun o e => e, rfl⟩
  have hkl : k < l.length := by omega
  have tatN : ∀ {B : List Tile} {j : Nat} (hj : j < B.length), tat B (j : Int) = B[j] := fun {B j} hj => tat_at (by rw [Int.toNat_natCast, List.getElem?_eq_getElem hj])
  refine r.rd.tileG (by omega) (by omega) ?_
  rw [w64_of (n := (k : Int) - 1) (by omega) (by omega), show (k : Int) - 1 = ((k - 1 : Nat) : Int) by omega]
  refine r.rd.tileG (by omega) (by omega) (eqA_tc ?_)
  rw [tatN hkl, tatN (show k - 1 < l.length by omega)]
  have hct := cmpl_take k1 hkl
  refine bif_dec (fun he => ?_) (fun he => ?_)
  rotate_left
  · unfold slices_Compact_s_impl_Tile_impl_Tile__C1
    rw [w64_of (n := (k : Int) + 1) (by omega) (by omega)]
    refine hX _ _ ⟨k + 1, by push_cast; rfl, by omega, by omega, rfl, ?_⟩ (by omega)
    rw [hct, if_neg (fun e => he e.symm), hk, List.take_succ_eq_append_getElem hkl]
  rw [if_pos he.symm, hk] at hct
  refine r.cutV hso (by omega) (by omega) (by omega) ?_
  rw [Int.toNat_natCast, show ((s.len : Int) - (k : Int)).toNat = l.length - k by omega]
  refine slices_Compact_s_impl_Tile_impl_Tile__rule2 _ _ X0 _ _ (fun a b g => ∃ (kk k2 : Nat) (A : List Tile), a = kk ∧ b = k2 ∧ 1 ≤ k2 ∧ k + k2 ≤ l.length ∧ Ow g s 4 (tcs A) ∧ A.length = l.length ∧ kk ≤ k + k2 - 1 ∧ A.take kk = cmpl (l.take (k + k2)) ∧ kk = (cmpl (l.take (k + k2))).length ∧ A.drop (k + k2 - 1) = l.drop (k + k2 - 1) ∧ But s.o h g ∧ g.length = h.length) (fun _ b _ => (l.length - b).toNat) ?_ _ _
    ⟨k, 1, l, rfl, rfl, by omega, by omega, r, rfl, by omega, hct.symm, by rw [hct, List.length_take]; omega, rfl, ⟨Nat.le_refl _, fun _ _ _ => rfl⟩, rfl⟩
  rintro X2 _ _ g ⟨kk, q, A, rfl, rfl, q1, q2, rA, hA, hkk, ht, hkl2, hd, hbut, hgl⟩ hY
  unfold slices_Compact_s_impl_Tile_impl_Tile__b2 slices_Compact_s_impl_Tile_impl_Tile__C2
  refine bif_dec (fun hj => ?_) (fun hj => ?_)
  · have hq : k + q < l.length := by have : (q : Int) < ((l.length - k : Nat) : Int) := hj; omega
    have rv := rA.viewT hso (lo := k) (n := l.length - k) (by omega)
    have hvl : ((A.drop k).take (l.length - k)).length = l.length - k := by rw [List.length_take, List.length_drop]; omega
    have hget : ∀ j, k + q - 1 ≤ k + j → k + j < l.length → ((A.drop k).take (l.length - k)).getD j (0, 0, 0, 0) = l.getD (k + j) (0, 0, 0, 0) := fun j h1 h2 => by
      have e1 := congrArg (fun m => m[k + j - (k + q - 1)]?) hd
      simp only [List.getElem?_drop] at e1
      rw [List.getD_eq_getElem?_getD, List.getD_eq_getElem?_getD, List.getElem?_take, if_pos (by omega), List.getElem?_drop]
      rw [show k + q - 1 + (k + j - (k + q - 1)) = k + j by omega] at e1
      rw [e1]
    have ld : ∀ j : Nat, k + q - 1 ≤ k + j → k + j < l.length → tat ((A.drop k).take (l.length - k)) (j : Int) = tat l ((k + j : Nat) : Int) := fun j h1 h2 => by
      unfold tat
      rw [Int.toNat_natCast, Int.toNat_natCast]
      exact hget j h1 h2
    refine rv.tileG (by omega) (by rw [hvl]; omega) ?_
    rw [w64_of (n := (q : Int) - 1) (by omega) (by omega), show (q : Int) - 1 = ((q - 1 : Nat) : Int) by omega]
    refine rv.tileG (by omega) (by rw [hvl]; omega) (eqA_tc ?_)
    rw [ld q (by omega) hq, ld (q - 1) (by omega) (by omega), tatN hq, tatN (show k + (q - 1) < l.length by omega)]
    have hct2 := cmpl_take (l := l) (k := k + q) (by omega) hq
    have hst : ((q : Int) + 1) = ((q + 1 : Nat) : Int) := by push_cast; rfl
    rw [w64_of (n := (q : Int) + 1) (by omega) (by omega)]
    have hidx : l[k + (q - 1)]'(by omega) = l[k + q - 1]'(by omega) := by congr 1; omega
    refine bif_not (fun he => ?_) (fun he => ?_)
    · have he := of_decide_eq_false he
      refine rv.tileG (by omega) (by rw [hvl]; omega) ?_
      rw [ld q (by omega) hq, tatN hq]
      refine rA.stA (by omega) (by omega) (tc l[k + q]) rfl fun g' rA' b' hl' => ?_
      rw [Int.toNat_natCast, tcs_set A kk l[k + q] (by omega)] at rA'
      rw [if_neg (fun e => he (by rw [hidx]; exact e.symm))] at hct2
      rw [w64_of (n := (kk : Int) + 1) (by omega) (by omega)]
      refine hY _ _ _ ⟨kk + 1, q + 1, A.set kk l[k + q], by push_cast; rfl, hst, by omega, by omega, rA', by rw [List.length_set]; exact hA, by omega, ?_, ?_, ?_, hbut.trans b', by omega⟩ (by omega)
      · rw [show k + (q + 1) = k + q + 1 by omega, hct2, ← ht]
        rw [List.take_succ_eq_append_getElem (by rw [List.length_set]; omega), List.getElem_set_self, List.take_set_of_le (Nat.le_refl _)]
      · rw [show k + (q + 1) = k + q + 1 by omega, hct2, List.length_append, ← hkl2]; rfl
      · rw [show k + (q + 1) - 1 = (k + q - 1) + 1 by omega, List.drop_set_of_lt (by omega), ← List.drop_drop, ← List.drop_drop, hd]
    · have he := of_decide_eq_true he
      rw [if_pos (by rw [← hidx]; exact he.symm)] at hct2
      refine hY _ _ _ ⟨kk, q + 1, A, rfl, hst, by omega, by omega, rA, hA, by omega, ?_, ?_, ?_, hbut, hgl⟩ (by omega)
      · rw [show k + (q + 1) = k + q + 1 by omega, hct2]; exact ht
      · rw [show k + (q + 1) = k + q + 1 by omega, hct2]; exact hkl2
      · rw [show k + (q + 1) - 1 = (k + q - 1) + 1 by omega, ← List.drop_drop, ← List.drop_drop, hd]
  · have hq : k + q = l.length := by have : ¬ (q : Int) < ((l.length - k : Nat) : Int) := hj; omega
    rw [hq, List.take_length] at ht hkl2
    have hkk' : kk < l.length := by omega
    refine rA.cutV hso (by omega) (by omega) (by omega) ?_
    rw [Int.toNat_natCast, show ((s.len : Int) - (kk : Int)).toNat = l.length - kk by omega]
    obtain ⟨a, _⟩ | ⟨o', a, b, c, d, e⟩ := rA.at_
    · rw [hso] at a; cases a
    unfold clearS
    rw [if_neg (show ¬ (l.length - kk = 0) by omega)]
    have hz : (List.replicate (l.length - kk) [i64 0, i64 0, i64 0, i64 0]).flatten = tcs (List.replicate (l.length - kk) (0, 0, 0, 0)) := by
      unfold tcs
      rw [List.map_replicate]
      rfl
    have hzl : (tcs (List.replicate (l.length - kk) ((0, 0, 0, 0) : Tile))).length = (l.length - kk) * 4 := by rw [tcs_len, List.length_replicate]
    have hol : o' < g.length := (List.getElem?_eq_some_iff.1 e).1
    have hsp : splice (tcs A) (kk * 4) (tcs (List.replicate (l.length - kk) ((0, 0, 0, 0) : Tile))) = tcs (A.take kk ++ List.replicate (l.length - kk) (0, 0, 0, 0)) := by
      unfold splice
      rw [tcs_take4, tcs_app, hzl, List.drop_of_length_le (by rw [tcs_len]; omega), List.append_nil]
    refine ⟨g.set o' (.own (tcs (A.take kk ++ List.replicate (l.length - kk) (0, 0, 0, 0)))), rfl, ?_, ?_⟩
    · show putN g s.o s.n (kk * 4) (List.replicate (l.length - kk) [i64 0, i64 0, i64 0, i64 0]).flatten = _
      rw [hz, a]
      have hlen : (tcs A).length = s.n := by rw [tcs_len, d, hA, hsl]
      simp only [putN, owned, e]
      rw [if_pos hlen]
      simp only [Option.bind_some]
      rw [if_pos (by rw [hzl, tcs_len]; omega), hsp]
    · have rB : Ow (g.set o' (.own (tcs (A.take kk ++ List.replicate (l.length - kk) (0, 0, 0, 0))))) s 4 (tcs (A.take kk ++ List.replicate (l.length - kk) (0, 0, 0, 0))) := ⟨by rw [tcs_len, List.length_append, List.length_take, List.length_replicate]; congr 1; omega, .inr ⟨o', a, b, c, d, by simp [hol]⟩⟩
      refine rB.cutV hso (by omega) (by omega) (by omega) ?_
      have e5 : (tcs (A.take kk ++ List.replicate (l.length - kk) (0, 0, 0, 0))).take (kk * 4) = tcs (cmpl l) := by rw [tcs_take4, List.take_left' (by rw [List.length_take]; omega), ht]
      have hlt : (tcs (A.take kk ++ List.replicate (l.length - kk) (0, 0, 0, 0))).length = s.len * 4 := rB.len
      have rv : Pre (g.set o' (.own (tcs (A.take kk ++ List.replicate (l.length - kk) (0, 0, 0, 0))))) ⟨s.o, s.n, 0, kk, 4⟩ 4 (tcs (cmpl l)) :=
        ⟨by rw [tcs_len, ← hkl2], .inr ⟨o', _, s.len, a, rfl, rfl, d, hlt, by show kk ≤ s.len; omega, by simp [hol], e5⟩⟩
      rw [show (0 : Int).toNat = 0 from rfl, show ((kk : Int) - 0).toNat = kk by omega]
      refine ⟨_, rfl, rv, ?_, fun o e => e, by rw [List.length_set]; exact hgl⟩
      refine hbut.trans ⟨by rw [List.length_set]; omega, fun i hi hne => by rw [List.getElem?_set, if_neg (fun e => hne (by rw [a, e]))]⟩
end
end Go.Proofs.Ytlcgclmobfdbcaa.Cl

/- The sets of tiles in order; pairs of colours: the program's walk. No claim is stated here. -/
set_option linter.unusedVariables false
set_option linter.unusedSimpArgs false
namespace Go.Proofs.Ytlcgclmobfdbcaa.Cl
open Go
theorem dsT_of {l l' : List Tile} (hp : l'.Perm l) (hs : l'.Pairwise fun a b => ¬ ltT b a) : cmpl l' = dsT l :=
  dsort_eq ltT_sto (pw_cmpl hs) fun x => by rw [mem_cmpl]; exact hp.mem_iff
/-- Small enough for a set? -/
def fitV (c : Int) (l : List Tile) : Prop := c ≤ 6 ∧ (dsT l).length ≤ 16
section
variable {h0 : H} {s : Sl} {l : List Tile} {c : Int}
open Classical in
theorem setOf_c (r : Rd h0 s 4 (tcs l)) (hl : l.length ≤ 1000000) :
    callV SP i_impl_setOf [i64 c, .sl s] h0 fun v h' => ∃ u, v = .tuple [.agg [i64 c, .sl u], .bool (decide (fitV c l))] ∧ Pre h' u 4 (tcs (dsT l)) ∧ Fr h0.length u ∧ Ext h0 h' := by
  apply impl_setOf_call
  unfold impl_setOf_main
  refine newO_obj fun h1 o1 x1 n1 => ?_
  have hv : callV SP i_slices_Values_s_impl_Tile_impl_Tile_ [.sl s] h1 fun v h' => v = .func i_slices_Values_s_impl_Tile_impl_Tile__1 [.ptr (pt h1.length)] ∧ Var h' h1.length (.sl s) ∧ Ext h1 h' := by
    apply slices_Values_s_impl_Tile_impl_Tile__call
    unfold slices_Values_s_impl_Tile_impl_Tile__main
    exact newO_var fun h2 v2 x2 n2 => ⟨rfl, v2, x2⟩
  refine hv.to ?_
  rintro _ h2 ⟨rfl, v2, x2⟩
  have X2 := x1.trans x2
  refine (sortedFunc_c v2 (r.ext X2) hl).to ?_
  rintro u h3 ⟨l', o3, hp, hs, f3, x3⟩
  have hll := hp.length_eq
  refine (Compact_c o3 (by omega)).to ?_
  rintro w h4 ⟨rw4, b4, hw, ln4⟩
  rw [dsT_of hp hs] at rw4
  have X4 : Ext h0 h4 := (X2.trans x3).but_ b4 fun o e => by have := f3 o e; have := X2.len; omega
  have hwl := rw4.rd.tlen
  have o4 : Obj h4 h0.length [i64 0, .sl Sl.nil] := (o1.ext (x2.trans x3)).but b4 (fun e => by
    have := f3 _ e
    have := X2.len
    have := x1.len
    have := x2.len
    omega)
  refine newO_obj fun h5 o5 x5 n5 => ?_
  refine o5.stA fun h6 o6 b6 n6 => ?_
  have y6 : Ext h4 h6 := x5.but_ b6 (some_le (Nat.le_refl _))
  refine o6.ldA rfl ?_
  refine isPt_in (o6.ldI rfl rfl ?_)
  have ho := o4.ext y6
  have hol := o4.lt
  have hdl := dsT_len l
  have hfw : Fr h0.length w := fun o e => by have := f3 _ (hw _ e); have := X2.len; omega
  refine bif_dec (fun hc => ?_) (fun hc => ?_)
  · refine isPt_in (o6.ldS rfl rfl ?_)
    refine ho.stA fun h7 o7 b7 n7 => ?_
    have o67 : Obj h7 h4.length [i64 c, .sl w] := o6.but b7 (fun e => by have := Option.some.inj e; omega)
    have hcell : cell h7 (Pt.add ⟨some h4.length, 2, 0⟩ 1) = cell h6 (Pt.add ⟨some h4.length, 2, 0⟩ 1) := by rw [o67.cellE (n := 2) rfl, o6.cellE (n := 2) rfl]
    refine ⟨hcell, ?_⟩
    refine o7.ldA rfl ⟨w, ?_, (rw4.ext y6).but b7 (fun i ei e => ?_), hfw, (X4.trans y6).but_ b7 (some_le (Nat.le_refl _))⟩
    · have : decide ((w.len : Int) ≤ 16) = decide (fitV c l) := by
        rw [decide_eq_decide]
        unfold fitV
        rw [hwl]
        exact ⟨fun h => ⟨hc, by omega⟩, fun h => by have := h.2; omega⟩
      rw [this]
    · have := f3 _ (hw _ ei)
      have := X2.len
      have := x1.len
      have := x2.len
      have := Option.some.inj e
      omega
  · refine ho.stA fun h7 o7 b7 n7 => ?_
    refine o7.ldA rfl ⟨w, ?_, (rw4.ext y6).but b7 (fun i ei e => ?_), hfw, (X4.trans y6).but_ b7 (some_le (Nat.le_refl _))⟩
    · have : decide (fitV c l) = false := decide_eq_false fun h => hc h.1
      rw [this]
    · have := f3 _ (hw _ ei)
      have := X2.len
      have := x1.len
      have := x2.len
      have := Option.some.inj e
      omega
open Classical in
theorem limited_c (r : Rd h0 s 4 (tcs l)) (hl : l.length ≤ 1000000) :
    callV SP i_impl_limited [i64 c, .sl s] h0 fun v h' => ∃ u, v = .tuple [.agg (if fitV c l then [i64 c, .sl u] else [i64 0, .sl Sl.nil]), i64 (if fitV c l then 0 else 3)] ∧ (fitV c l → Pre h' u 4 (tcs (dsT l)) ∧ Fr h0.length u) ∧ Ext h0 h' := by
  apply impl_limited_call
  unfold impl_limited_main
  refine newO_obj fun h1 o1 x1 n1 => ?_
  refine (setOf_c (c := c) (r.ext x1) hl).to ?_
  rintro _ h2 ⟨u, rfl, ru, fu, x2⟩
  refine ⟨_, rfl, _, rfl, _, rfl, _, rfl, ?_⟩
  refine newO_obj fun h3 o3 x3 n3 => ?_
  refine o3.stA fun h4 o4 b4 n4 => ?_
  have y4 : Ext h2 h4 := x3.but_ b4 (some_le (Nat.le_refl _))
  have ho := o1.ext (x2.trans y4)
  have X := (x1.trans x2).trans y4
  by_cases hf : fitV c l
  · simp only [if_pos hf]
    rw [decide_eq_true hf]
    refine bif_b (fun e => by cases e) (fun _ => ?_)
    refine o4.ldA rfl ?_
    refine ho.stA fun h5 o5 b5 n5 => ?_
    refine o5.ldA rfl ⟨u, rfl, fun _ => ?_, X.but_ b5 (some_le (Nat.le_refl _))⟩
    exact ⟨(ru.ext y4).but b5 (fun i ei e => by have := fu _ ei; have := Option.some.inj e; omega), fu.le (by omega)⟩
  · simp only [if_neg hf]
    rw [decide_eq_false hf]
    refine bif_b (fun _ => ?_) (fun e => by cases e)
    refine ho.stA fun h5 o5 b5 n5 => ?_
    exact o5.ldA rfl ⟨u, rfl, fun h => absurd h hf, X.but_ b5 (some_le (Nat.le_refl _))⟩
end
end Go.Proofs.Ytlcgclmobfdbcaa.Cl

/- Sets changed tile by tile: the walk. No claim is stated here. -/
set_option linter.unusedVariables false
set_option linter.unusedSimpArgs false
namespace Go.Proofs.Ytlcgclmobfdbcaa.Cl
open Go
/-- What a call that makes a set brings about: a code, a number of colours, tiles. -/
def PwRes (R : Int × Int × List Tile) (h0 : H) (v : AVal) (h' : H) : Prop := ∃ u, v = .tuple [.agg (SetC R.2.1 u), i64 R.1] ∧ Pre h' u 4 (tcs R.2.2) ∧ Fr h0.length u ∧ Ext h0 h'
section
variable {h0 : H} {s : Sl} {c : Int} {ts : List Tile} {n : Int}
theorem PwRes.err {R : Int × Int × List Tile} {g : H} {o : Nat} {cs : List AVal} (p : Obj g o cs) (hcs : cs.length = 2) {k : Int} (hR : R = (k, 0, [])) (hx : h0.length ≤ o) (x : Ext h0 g) :
    stN ⟨some o, 2, 0⟩ 2 [.int .i64 0, .sl Sl.nil] g fun h9 => ldA ⟨some o, 2, 0⟩ 2 h9 fun cs10 => PwRes R h0 (.tuple [.agg cs10, .int .i64 k]) h9 := by
  refine p.stA (fun h6 o6 b6 n6 => ?_) hcs
  refine o6.ldA rfl ⟨Sl.nil, ?_, ?_, Fr.nil _, x.but_ b6 (some_le hx)⟩
  · rw [hR]; rfl
  · rw [hR]; exact Pre.nil _ _
open Classical in
noncomputable def chR (φ : Tile → Tile) (c : Int) (ts : List Tile) : Int × Int × List Tile := if setOK c ts then (0, c, dsT (ts.map φ)) else (1, 0, [])
theorem chR_ok {φ : Tile → Tile} (h : setOK c ts) : chR φ c ts = (0, c, dsT (ts.map φ)) := by unfold chR; rw [if_pos h]
theorem chR_no {φ : Tile → Tile} (h : ¬ setOK c ts) : chR φ c ts = (1, 0, []) := by unfold chR; rw [if_neg h]
theorem fits_map {φ : Tile → Tile} (h : setOK c ts) : fitV c (ts.map φ) := by
  refine ⟨h.1.2, ?_⟩
  have h1 := dsT_len (ts.map φ)
  have h2 := h.2.1
  rw [List.length_map] at h1
  omega
theorem changed_c (r : Rd h0 s 4 (tcs ts)) (sz : ts.length ≤ 1048576) (g : Nat) (cap : List AVal) (φ : Tile → Tile)
    (hg : ∀ t h, Ext h0 h → callA SP g (.agg (tc t) :: cap) h fun cs h' => cs = tc (φ t) ∧ Ext h h') :
    callV SP i_impl_changed [.agg (SetC c s), .func g cap] h0 (PwRes (chR φ c ts) h0) := by
  have hsl := r.tlen
  apply impl_changed_call
  unfold impl_changed_main
  refine newK_obj fun h1 o1 x1 n1 => ?_
  refine newO_obj fun h2 o2 x2 n2 => ?_
  have p1 := o1.ext x2
  have X := x1.trans x2
  have hx1 := x1.len
  have hx2 := x2.len
  refine p1.ldA rfl ?_
  refine (IsSet_c (c := c) (r.ext X) (by omega)).to ?_
  rintro b h3 ⟨hb, x3⟩
  have X3 := X.trans x3
  refine bif_not (fun hq => PwRes.err (o2.ext x3) rfl (chR_no fun h => by rw [hb.2 h] at hq; cases hq) (by omega) X3) (fun hq => ?_)
  have hs := hb.1 hq
  have h16 := hs.2.1
  refine newS_ow (by rfl) fun u h4 ou lu uo e4 => ?_
  have x4 : Ext h3 h4 := by rw [e4]; exact Ext.app _ _
  refine isPt_in ((p1.ext (x3.trans x4)).ldS rfl rfl ?_)
  refine impl_changed_rule0 _ _ _ _ _ _ _ (fun u i q => ∃ z : Nat, i = z ∧ z ≤ ts.length ∧ Ow q u 4 (tcs ((ts.take z).map φ)) ∧ Fr h3.length u ∧ Ext h3 q) (fun _ i _ => ((ts.length : Int) - i).toNat) ?_ _ _ ⟨0, rfl, by omega, by simpa [tcs] using ou, fun o e => by rw [uo] at e; cases e; omega, x4⟩
  rintro X0 u _ q ⟨z, rfl, hz, ou, fu, y⟩ hX
  have Y := X3.trans y
  unfold impl_changed_b0
  refine bif_dec (fun hi => ?_) (fun hi => ?_)
  · have hzl : z < ts.length := by omega
    refine (r.ext Y).tileG (by omega) (by omega) ?_
    rw [tat_nat hzl]
    refine newO_obj fun q1 p1 v1 l1 => ?_
    refine p1.stA fun q2 p2 d2 l2 => ?_
    have v2 : Ext q q2 := v1.but_ d2 (some_le (Nat.le_refl _))
    refine p2.ldA rfl ?_
    refine via_func ?_
    refine (hg _ q2 (Y.trans v2)).to ?_
    rintro _ q3 ⟨rfl, v3⟩
    refine ⟨rfl, ?_⟩
    have v23 := v2.trans v3
    have hul := ou.rd.tlen
    rw [List.length_map, List.length_take] at hul
    refine push_tc (t := φ ts[z]) (ou.ext v23) (by rw [List.length_map, List.length_take]; unfold lim; omega) fun u' q4 ou4 b4 hu4 l4 => ?_
    rw [w64_of (by omega) (by omega)]
    have hy := y.len
    have hv := v23.len
    refine hX _ _ _ ⟨z + 1, by push_cast; rfl, by omega, ?_, fu.push (h := q3) (by omega) hu4, (y.trans v23).but_ b4 fun o e => fu o e⟩ (by omega)
    rw [List.take_succ_eq_append_getElem hzl, List.map_append]
    exact ou4
  · have hzU : z = ts.length := by omega
    rw [hzU, List.take_length] at ou
    unfold impl_changed_C0
    have q1 := p1.ext (x3.trans y)
    have q2 := o2.ext (x3.trans y)
    refine isPt_in (q1.ldI rfl rfl ?_)
    refine (limited_c (c := c) ou.rd (by rw [List.length_map]; omega)).to ?_
    rintro _ g1 ⟨w, rfl, hw, y1⟩
    refine ⟨_, rfl, _, rfl, _, rfl, _, rfl, ?_⟩
    have hf : fitV c (ts.map φ) := fits_map hs
    obtain ⟨pw, fw⟩ := hw hf
    simp only [if_pos hf]
    have hY := Y.len
    have hy := y.len
    have hx3 := x3.len
    refine (q2.ext y1).stA fun g2 p2 c2 m2 => ?_
    refine p2.ldA rfl ⟨w, by rw [chR_ok hs]; rfl, ?_, fw.le (by omega), (Y.trans y1).but_ c2 (some_le (by omega))⟩
    rw [chR_ok hs]
    exact pw.but c2 fun i ei e => by have := fw _ ei; have := Option.some.inj e; omega
theorem sides_k (t : Tile) {a b d e : Nat} (ha : a < 4) (hb : b < 4) (hd : d < 4) (he : e < 4) {h : H} : callA SP i_impl_Tile_sides [.agg (tc t), i64 a, i64 b, i64 d, i64 e] h fun r h' => r = tc (sd t a, sd t b, sd t d, sd t e) ∧ Ext h h' := by
  apply impl_Tile_sides_call
  unfold impl_Tile_sides_main
  refine newK_obj fun h1 o1 x1 n1 => ?_
  refine newO_obj fun h2 o2 x2 n2 => ?_
  have p1 := o1.ext x2
  refine p1.sdI (by omega) (by omega) ?_
  refine p1.sdI (by omega) (by omega) ?_
  refine p1.sdI (by omega) (by omega) ?_
  refine p1.sdI (by omega) (by omega) ?_
  simp only [Int.toNat_natCast]
  refine o2.stA fun h3 o3 b3 n3 => ?_
  refine o3.ldA rfl ⟨_, rfl, rfl, (x1.trans x2).but_ b3 (some_le (by have := x1.len; omega))⟩
theorem setOK.img {φ : Tile → Tile} (h : setOK c ts) (hφ : ∀ t k, k < 4 → ∃ j, j < 4 ∧ sd (φ t) k = sd t j) : setOK c (dsT (ts.map φ)) := by
  have hf := fits_map (φ := φ) h
  refine setOK_of h.1.1 h.1.2 hf.2 (pw_dsort ltT_sto _) fun t ht k hk => ?_
  obtain ⟨a, ha, rfl⟩ := List.mem_map.1 (mem_dsort.1 ht)
  obtain ⟨j, hj, e⟩ := hφ a k hk
  rw [e]
  exact h.ts.2 a ha j hj
end
/-- A tile turned, flipped, mirrored. -/
def trd (t : Tile) : Tile := (sd t 3, sd t 0, sd t 1, sd t 2)
theorem trd_sd (t : Tile) (k : Nat) (hk : k < 4) : sd (trd t) ((k + 1) % 4) = sd t k := by
  have hk' : k = 0 ∨ k = 1 ∨ k = 2 ∨ k = 3 := by omega
  rcases hk' with rfl | rfl | rfl | rfl <;> rfl
theorem trd_sides (t : Tile) (k : Nat) (hk : k < 4) : ∃ j, j < 4 ∧ sd (trd t) k = sd t j := by
  have hk' : k = 0 ∨ k = 1 ∨ k = 2 ∨ k = 3 := by omega
  rcases hk' with rfl | rfl | rfl | rfl
  · exact ⟨3, by omega, rfl⟩
  · exact ⟨0, by omega, rfl⟩
  · exact ⟨1, by omega, rfl⟩
  · exact ⟨2, by omega, rfl⟩
theorem trd_inj {a b : Tile} (h : trd a = trd b) : a = b := by
  obtain ⟨a0, a1, a2, a3⟩ := a
  obtain ⟨b0, b1, b2, b3⟩ := b
  simp only [trd, sd, Prod.mk.injEq] at h ⊢
  omega
section
variable {h0 : H} {s : Sl} {c : Int} {ts : List Tile}
theorem trd1_c (t : Tile) (h : H) : callA SP i_impl_Tile_turned [.agg (tc t)] h fun cs h' => cs = tc (trd t) ∧ Ext h h' := by
  apply impl_Tile_turned_call
  unfold impl_Tile_turned_main
  refine newK_obj fun h1 o1 x1 n1 => ?_
  refine newO_obj fun h2 o2 x2 n2 => ?_
  refine (o1.ext x2).ldA rfl ?_
  refine (sides_k t (a := 3) (b := 0) (d := 1) (e := 2) (by omega) (by omega) (by omega) (by omega)).to ?_
  rintro _ h3 ⟨rfl, x3⟩
  refine (o2.ext x3).stA fun h4 o4 b4 n4 => ?_
  refine o4.ldA rfl ⟨_, rfl, rfl, ((x1.trans x2).trans x3).but_ b4 (some_le (by have := x1.len; omega))⟩
theorem impl_TurnedSet_c (r : Rd h0 s 4 (tcs ts)) (sz : ts.length ≤ 1048576) : callV SP i_impl_TurnedSet [.agg (SetC c s)] h0 (PwRes (chR trd c ts) h0) := by
  apply impl_TurnedSet_call
  unfold impl_TurnedSet_main
  refine newK_obj fun h1 o1 x1 n1 => ?_
  refine newO_obj fun h2 o2 x2 n2 => ?_
  have X := x1.trans x2
  have hx1 := x1.len
  refine (o1.ext x2).ldA rfl ?_
  refine (changed_c (c := c) (r.ext X) sz i_impl_Tile_turned [] trd fun t h _ => trd1_c t h).to ?_
  rintro _ h3 ⟨u, rfl, pu, fu, x3⟩
  refine ⟨_, rfl, _, rfl, _, rfl, _, rfl, ?_⟩
  have hX := X.len
  refine (o2.ext x3).stA fun h4 o4 b4 n4 => ?_
  refine o4.ldA rfl ⟨u, rfl, pu.but b4 fun i ei e => by have := fu _ ei; have := Option.some.inj e; omega, fu.le (by omega), (X.trans x3).but_ b4 (some_le (by omega))⟩
end
end Go.Proofs.Ytlcgclmobfdbcaa.Cl

/- TrimSet: the program's and the reference's; KeepLasting. No claim is stated here. -/
set_option linter.unusedVariables false
set_option linter.unusedSimpArgs false
namespace Go.Proofs.Ytlcgclmobfdbcaa.Cl
open Go
theorem newOat_objY {cs : List AVal} {h : H} {n : Nat} (hn : n < h.length) {K : Pt → H → Prop} (hk : ∀ h', Obj h' n cs → But (some n) h h' → h'.length = h.length → K ⟨some n, cs.length, 0⟩ h') : newOat cs h n K :=
  hk _ (by unfold Obj; simp [hn]) ⟨by simp, fun i hi hne => by rw [List.getElem?_set, if_neg (fun e => hne (by rw [e]))]⟩ (by simp)
section
variable {h0 : H} {c : Int} {s : Sl} {ts : List Tile}
open Classical in
noncomputable def keepR (c : Int) (ts : List Tile) : Int × Int × List Tile := if setOK c ts then (0, c, kpL ts) else (1, 0, [])
theorem keepR_ok (h : setOK c ts) : keepR c ts = (0, c, kpL ts) := by unfold keepR; rw [if_pos h]
theorem keepR_no (h : ¬ setOK c ts) : keepR c ts = (1, 0, []) := by unfold keepR; rw [if_neg h]
open Classical in
noncomputable def trimR (c : Int) (ts : List Tile) : Int × Int × List Tile := if setOK c ts then (0, c, tmL ts) else (1, 0, [])
theorem trimR_ok (h : setOK c ts) : trimR c ts = (0, c, tmL ts) := by unfold trimR; rw [if_pos h]
theorem trimR_no (h : ¬ setOK c ts) : trimR c ts = (1, 0, []) := by unfold trimR; rw [if_neg h]
theorem keepR_len : (keepR c ts).2.2.length ≤ 16 := by
  by_cases h : setOK c ts
  · rw [keepR_ok h]; have := kpL_len ts; have := h.2.1; show (kpL ts).length ≤ 16; omega
  · rw [keepR_no h]; simp
theorem trimR_len : (trimR c ts).2.2.length ≤ 16 := by
  by_cases h : setOK c ts
  · rw [trimR_ok h]; have := tmL_len ts; have := h.2.1; show (tmL ts).length ≤ 16; omega
  · rw [trimR_no h]; simp
/-- The end of a call that hands on a set. -/
theorem PwRes.end_ {R : Int × Int × List Tile} {g : H} {o : Nat} {cs : List AVal} (p : Obj g o cs) (hcs : cs.length = 2) {k : Int} {u : Sl} {d : Int} {U : List Tile} (hR : R = (k, d, U)) (pu : Pre g u 4 (tcs U)) (fu : Fr h0.length u) (hn : ∀ i, u.o = some i → i ≠ o) (hx : h0.length ≤ o) (x : Ext h0 g) :
    stN ⟨some o, 2, 0⟩ 2 (SetC d u) g fun h9 => ldA ⟨some o, 2, 0⟩ 2 h9 fun cs10 => PwRes R h0 (.tuple [.agg cs10, .int .i64 k]) h9 := by
  refine p.stA (fun h6 o6 b6 n6 => ?_) hcs
  refine o6.ldA rfl ⟨u, ?_, ?_, fu, x.but_ b6 (some_le hx)⟩
  · rw [hR]
  · rw [hR]; exact pu.but b6 fun i ei e => hn i ei (Option.some.inj e).symm
theorem impl_KeepLasting_c (r : Rd h0 s 4 (tcs ts)) (sz : ts.length ≤ 1048576) : callV SP i_impl_KeepLasting [.agg (SetC c s)] h0 (PwRes (keepR c ts) h0) := by
  apply impl_KeepLasting_call
  unfold impl_KeepLasting_main
  refine newK_obj fun h1 o1 x1 n1 => ?_
  refine newO_obj fun h2 o2 x2 n2 => ?_
  have p1 := o1.ext x2
  have X := x1.trans x2
  have hx1 := x1.len
  have hx2 := x2.len
  refine p1.ldA rfl ?_
  refine (IsSet_c (c := c) (r.ext X) (by omega)).to ?_
  rintro b h3 ⟨hb, x3⟩
  have X3 := X.trans x3
  refine bif_not (fun hq => PwRes.err (o2.ext x3) rfl (keepR_no fun h => by rw [hb.2 h] at hq; cases hq) (by omega) X3) (fun hq => ?_)
  have hs := hb.1 hq
  have h16 := hs.2.1
  have p3 := p1.ext x3
  refine isPt_in (p3.ldI rfl rfl ?_)
  refine isPt_in (p3.ldS rfl rfl ?_)
  refine (kept_c (r.ext X3) (by omega)).to ?_
  rintro u h4 ⟨ou, fu, x4⟩
  have p4 := p3.ext x4
  refine ⟨by rw [p4.cellE (n := 2) rfl, p3.cellE (n := 2) rfl], ?_⟩
  have hx3 := x3.len
  exact PwRes.end_ ((o2.ext x3).ext x4) rfl (keepR_ok hs) ou.pre (fu.le (by omega)) (fun i e => by have := fu i e; omega) (by omega) (X3.trans x4)
theorem spec_KeepLasting_c (r : Rd h0 s 4 (tcs ts)) (sz : ts.length ≤ 1048576) : callV SP i_spec_KeepLasting [.agg (SetC c s)] h0 (PwRes (keepR c ts) h0) := by
  apply spec_KeepLasting_call
  unfold spec_KeepLasting_main
  refine newK_obj fun h1 o1 x1 n1 => ?_
  refine newO_obj fun h2 o2 x2 n2 => ?_
  have p1 := o1.ext x2
  have X := x1.trans x2
  have hx1 := x1.len
  have hx2 := x2.len
  refine p1.ldA rfl ?_
  refine (l01Is_c (c := c) (r.ext X)).to ?_
  rintro b h3 ⟨hb, x3⟩
  have X3 := X.trans x3
  refine bif_not (fun hq => PwRes.err (o2.ext x3) rfl (keepR_no fun h => by rw [hb.2 h] at hq; cases hq) (by omega) X3) (fun hq => ?_)
  have hs := hb.1 hq
  have h16 := hs.2.1
  have p3 := p1.ext x3
  refine p3.ldA rfl ?_
  refine (l04Kept_c (r.ext X3) hs).to ?_
  rintro _ h4 ⟨u, rfl, ou, fu, x4⟩
  have hx3 := x3.len
  exact PwRes.end_ ((o2.ext x3).ext x4) rfl (keepR_ok hs) ou.pre (fu.le (by omega)) (fun i e => by have := fu i e; omega) (by omega) (X3.trans x4)
theorem cloneT_c (r : Rd h0 s 4 (tcs ts)) (hl : ts.length ≤ 1048576) : callS SP i_slices_Clone_s_impl_Tile_impl_Tile_ [.sl s] h0 fun u h' => Ow h' u 4 (tcs ts) ∧ Fr h0.length u ∧ Ext h0 h' := by
  have hx := r.tlen
  apply slices_Clone_s_impl_Tile_impl_Tile__call
  unfold slices_Clone_s_impl_Tile_impl_Tile__main
  refine bif_b (fun hn => ⟨_, rfl, ?_, Fr.nil _, Ext.refl _⟩) (fun hn => ?_)
  · have : s.len = 0 := by
      rcases r.at_ with h | ⟨_, h, _⟩
      · exact h
      · unfold isNilS at hn
        cases ho : s.o <;> simp [ho] at hn h
    have : ts = [] := List.length_eq_zero_iff.1 (by omega)
    subst this
    exact Ow.nil _ _
  · refine newS_ow (by rfl) fun u h1 os ls so e1 => ?_
    have x1 : Ext h0 h1 := by rw [e1]; exact Ext.app _ _
    refine app_ow (cs := []) (by omega) os (r.ext x1) (by unfold lim; omega) fun u' h' o' ln b k1 k2 => ⟨_, rfl, by simpa using o', fun o e => ?_, x1.but_ b fun o e => by rw [so] at e; cases e; exact Nat.le_refl _⟩
    have := k1 _ so
    rw [this] at e; cases e; exact Nat.le_refl _
theorem impl_TrimSet_c (r : Rd h0 s 4 (tcs ts)) (sz : ts.length ≤ 1048576) : callV SP i_impl_TrimSet [.agg (SetC c s)] h0 (PwRes (trimR c ts) h0) := by
  apply impl_TrimSet_call
  unfold impl_TrimSet_main
  refine newK_obj fun h1 o1 x1 n1 => ?_
  refine newO_obj fun h2 o2 x2 n2 => ?_
  have p1 := o1.ext x2
  have X := x1.trans x2
  have hx1 := x1.len
  have hx2 := x2.len
  refine p1.ldA rfl ?_
  refine (IsSet_c (c := c) (r.ext X) (by omega)).to ?_
  rintro b h3 ⟨hb, x3⟩
  have X3 := X.trans x3
  refine bif_not (fun hq => PwRes.err (o2.ext x3) rfl (trimR_no fun h => by rw [hb.2 h] at hq; cases hq) (by omega) X3) (fun hq => ?_)
  have hs := hb.1 hq
  have h16 := hs.2.1
  refine slotK_in fun h5 x5 n5 => ?_
  have X5 := X3.trans x5
  have p5 := p1.ext (x3.trans x5)
  have q5 := o2.ext (x3.trans x5)
  refine isPt_in (p5.ldI rfl rfl ?_)
  refine isPt_in (p5.ldS rfl rfl ?_)
  refine (cloneT_c (r.ext X5) (by omega)).to ?_
  rintro u h6 ⟨ou, fu, x6⟩
  have p6 := p5.ext x6
  have hx3 := x3.len
  have hx5 := x5.len
  have hx6 := x6.len
  refine ⟨by rw [p6.cellE (n := 2) rfl, p5.cellE (n := 2) rfl], ?_⟩
  refine newOat_objY (by omega) fun h7 o7 b7 n7 => ?_
  have p7 := p6.but b7 (fun e => by have := Option.some.inj e; omega)
  refine ⟨by rw [p6.cellE (n := 2) rfl, p5.cellE (n := 2) rfl], ?_⟩
  refine ⟨by rw [p7.cellE (n := 2) rfl, p5.cellE (n := 2) rfl], ?_⟩
  refine ⟨by rw [p7.cellE (n := 2) rfl, p5.cellE (n := 2) rfl], ?_⟩
  refine o7.stA fun h8 o8 b8 n8 => ?_
  have X8 : Ext h0 h8 := ((X5.trans x6).but_ b7 (some_le (by omega))).but_ b8 (some_le (by omega))
  have pu : Pre h8 u 4 (tcs ts) := (ou.pre.but b7 fun i ei e => by have := fu _ ei; have := Option.some.inj e; omega).but b8 fun i ei e => by have := fu _ ei; have := Option.some.inj e; omega
  have q8 := ((q5.ext x6).but b7 (fun e => by have := Option.some.inj e; omega)).but b8 (fun e => by have := Option.some.inj e; omega)
  refine impl_TrimSet_rule0 _ _ _ _ (fun g => ∃ v U, Obj g (h3.length + 6) (SetC c v) ∧ Pre g v 4 (tcs U) ∧ Stm ts U ∧ Fr h5.length v ∧ Obj g h1.length [.int .i64 0, .sl Sl.nil] ∧ Ext h0 g) (fun g => match g[h3.length + 6]? with | some (.own [_, .sl v]) => v.len | _ => 0) ?_ ⟨u, ts, o8, pu, Stm.refl ts, fu, ?_, X8⟩
  · rintro X0 g ⟨v, U, og, pv, hS, fv, qg, xg⟩ hX
    have hUl : U.length ≤ ts.length := hS.1.length_le
    have hvl := pv.rd.tlen
    have hm : ∀ {g' : H} {w : Sl}, Obj g' (h3.length + 6) (SetC c w) → (match g'[h3.length + 6]? with | some (.own [_, .sl v]) => v.len | _ => 0) = w.len := fun {g' w} ob => by
      have : g'[h3.length + 6]? = some (.own (SetC c w)) := ob
      rw [this]; rfl
    unfold impl_TrimSet_b0
    refine isPt_in (og.ldS rfl rfl ?_)
    refine (indexFunc_tile_c pv.rd (by omega) i_impl_TrimSet_1 [.ptr ⟨some (h3.length + 6), 2, 0⟩] (fun t => !tqB U t) fun t ht g' x => (trim1_c (og.ext x) (pv.ext x).rd (by omega) t).to ?_).to ?_
    · rintro b _ ⟨hb, y⟩
      refine ⟨?_, y⟩
      rw [Bool.eq_iff_iff, hb, Bool.not_eq_true', ← Bool.not_eq_true, tqB_iff]
    rintro n g1 ⟨hn, y1⟩
    have og1 := og.ext y1
    have pv1 := pv.ext y1
    refine bif_dec (fun hneg => ?_) (fun hpos => ?_)
    · refine og1.ldA rfl ?_
      have hall : ∀ t ∈ U, TQ U t := fun t ht => by
        refine Classical.byContradiction fun hq => ?_
        have h2 := findI_ge (fun t => !tqB U t) U
        have h3 : U.any (fun t => !tqB U t) = true := List.any_eq_true.2 ⟨t, ht, by rw [Bool.not_eq_true', ← Bool.not_eq_true, tqB_iff]; exact hq⟩
        rw [h3, decide_eq_true_eq] at h2
        omega
      have hU : U = tmL ts := hS.end_ hs.pw hall
      subst hU
      exact PwRes.end_ (qg.ext y1) rfl (trimR_ok hs) pv1 (fv.le (by omega)) (fun i e => by have := fv i e; omega) (by omega) (xg.trans y1)
    · have hf : ∃ i : Nat, n = i ∧ ∃ hi : i < U.length, ¬ TQ U U[i] := by
        unfold findI at hn
        cases hq : U.findIdx? (fun t => !tqB U t) with
        | none => rw [hq] at hn; simp only at hn; omega
        | some i =>
          rw [hq] at hn
          rw [List.findIdx?_eq_some_iff_getElem] at hq
          obtain ⟨a1, a2, _⟩ := hq
          refine ⟨i, hn, a1, fun ht => ?_⟩
          rw [tqB_iff.2 ht] at a2; cases a2
      obtain ⟨i, rfl, hi, hnq⟩ := hf
      refine isPt_in (og1.ldS rfl rfl ?_)
      rw [w64_of (n := (i : Int) + 1) (by omega) (by omega)]
      refine (delete_c pv1 (by omega) hi).to ?_
      rintro w g2 ⟨pw, hwo, b2, l2⟩
      have hvo : ∀ j, v.o = some j → h5.length ≤ j := fv
      have og2 := og1.but b2 (fun e => by have := fv _ e; omega)
      refine isPt_in (og2.st1 (n := 2) (i := 1) rfl (by decide) _ fun g3 og3 b3 n3 => ?_)
      have og3' : Obj g3 (h3.length + 6) (SetC c w) := og3
      have fw : Fr h5.length w := fun j e => fv j (by rw [← hwo]; exact e)
      have hwl : w.len = U.length - 1 := by
        have := pw.rd.tlen
        rw [List.length_eraseIdx, if_pos hi] at this
        exact this
      refine hX _ ⟨w, U.eraseIdx i, og3', pw.but b3 fun j ej e => by have := fw _ ej; have := Option.some.inj e; omega, hS.erase hi hnq, fw, ((qg.ext y1).but b2 fun e => by have := fv _ e; omega).but b3 (fun e => by have := Option.some.inj e; omega), ((xg.trans y1).but_ b2 fun j e => by have := fv j e; omega).but_ b3 (some_le (by omega))⟩ ?_
      rw [hm og3', hm og, hwl]
      omega
  · exact q8
theorem spec_TrimSet_c (r : Rd h0 s 4 (tcs ts)) (sz : ts.length ≤ 1048576) : callV SP i_spec_TrimSet [.agg (SetC c s)] h0 (PwRes (trimR c ts) h0) := by
  apply spec_TrimSet_call
  unfold spec_TrimSet_main
  refine newK_obj fun h1 o1 x1 n1 => ?_
  refine newO_obj fun h2 o2 x2 n2 => ?_
  have p1 := o1.ext x2
  have X := x1.trans x2
  have hx1 := x1.len
  have hx2 := x2.len
  refine p1.ldA rfl ?_
  refine (l01Is_c (c := c) (r.ext X)).to ?_
  rintro b h3 ⟨hb, x3⟩
  have X3 := X.trans x3
  refine bif_not (fun hq => PwRes.err (o2.ext x3) rfl (trimR_no fun h => by rw [hb.2 h] at hq; cases hq) (by omega) X3) (fun hq => ?_)
  have hs := hb.1 hq
  have h16 := hs.2.1
  have hx3 := x3.len
  refine newS_ow (by rfl) fun u h4 ou lu uo e4 => ?_
  have x4 : Ext h3 h4 := by rw [e4]; exact Ext.app _ _
  refine isPt_in ((p1.ext (x3.trans x4)).ldS rfl rfl ?_)
  have rs := r.ext (X3.trans x4)
  have hsl := rs.tlen
  refine app_ow (cs := []) (by omega) ou rs (by rw [lu]; unfold lim; omega) fun v h5 ov lv b5 k1 k2 => ?_
  have x5 : Ext h3 h5 := x4.but_ b5 fun i e => by rw [uo] at e; cases e; omega
  have X5 := X3.trans x5
  have q5 := o2.ext (x3.trans x5)
  have P5 := p1.ext (x3.trans x5)
  have hx5 := x5.len
  refine spec_TrimSet_rule0 _ _ _ _ (fun v g => ∃ U, Rd g v 4 (tcs U) ∧ Stm ts U ∧ Ext h5 g) (fun v g => v.len) ?_ _ ⟨ts, by simpa using ov.rd, Stm.refl ts, Ext.refl _⟩
  rintro X0 v g ⟨U, rv, hS, xg⟩ hX
  have hUl : U.length ≤ ts.length := hS.1.length_le
  have hvl := rv.tlen
  have hgl := xg.len
  unfold spec_TrimSet_b0
  refine newS_ow (by rfl) fun w0 g1 ow0 lw0 wo0 e1 => ?_
  have y1 : Ext g g1 := by rw [e1]; exact Ext.app _ _
  refine spec_TrimSet_rule2 _ _ X0 _ _ _ (fun w i q => ∃ z : Nat, i = z ∧ z ≤ U.length ∧ Ow q w 4 (tcs ((U.take z).filter (tqB U))) ∧ Fr g.length w ∧ Ext g q) (fun _ i _ => ((U.length : Int) - i).toNat) ?_ _ _ ⟨0, rfl, by omega, by simpa [tcs] using ow0, fun o e => by rw [wo0] at e; cases e; omega, y1⟩
  rintro X2 w _ q ⟨z, rfl, hz, ow, fw, yq⟩ hY
  unfold spec_TrimSet_b2
  refine bif_dec (fun hi => ?_) (fun hi => ?_)
  · have hzl : z < U.length := by omega
    have tw : tat U (z : Int) = U[z] := tat_nat hzl
    refine newS_ow (by rfl) fun m q1 om lm mo em => ?_
    have y2 : Ext q q1 := by rw [em]; exact Ext.app _ _
    have hml : m.len = 4 := lm
    have om0 : Ow q1 m 1 ((bl 4 fun _ => false).map .bool) := om
    refine spec_TrimSet_rule4 _ _ X0 X2 _ _ _ _ _ _ (fun j q' => ∃ (y : Nat) (A : Nat → Bool), j = y ∧ y ≤ U.length ∧ Ow q' m 1 ((bl 4 A).map .bool) ∧ (∀ k, k < 4 → (A k = true ↔ ∃ a ∈ U.take y, sd a ((k + 2) % 4) = sd U[z] k)) ∧ Ext q q') (fun j _ => ((U.length : Int) - j).toNat) ?_ _ ⟨0, fun _ => false, rfl, by omega, om0, fun k _ => by simp, y2⟩
    rintro X4 _ q2 ⟨y, A, rfl, hy, om2, hA, yy⟩ hZ
    unfold spec_TrimSet_b4
    refine bif_dec (fun hj => ?_) (fun hj => ?_)
    · have hyl : y < U.length := by omega
      have ty : tat U (y : Int) = U[y] := tat_nat hyl
      have hmem : ∀ k, (∃ a ∈ U.take (y + 1), sd a ((k + 2) % 4) = sd U[z] k) ↔ (∃ a ∈ U.take y, sd a ((k + 2) % 4) = sd U[z] k) ∨ sd U[y] ((k + 2) % 4) = sd U[z] k := fun k => by
        rw [List.take_succ_eq_append_getElem hyl]
        constructor
        · rintro ⟨a, ha, e⟩
          rcases List.mem_append.1 ha with ha | ha
          · exact .inl ⟨a, ha, e⟩
          · rw [List.mem_singleton] at ha; subst ha; exact .inr e
        · rintro (⟨a, ha, e⟩ | e)
          · exact ⟨a, List.mem_append_left _ ha, e⟩
          · exact ⟨_, List.mem_append_right _ (List.mem_singleton_self _), e⟩
      refine spec_TrimSet_rule6 _ _ X0 X2 X4 _ _ _ _ _ _ _ (fun k q' => ∃ (x : Nat) (B : Nat → Bool), k = x ∧ x ≤ 4 ∧ Ow q' m 1 ((bl 4 B).map .bool) ∧ (∀ k, k < 4 → (B k = true ↔ ((∃ a ∈ U.take y, sd a ((k + 2) % 4) = sd U[z] k) ∨ (k < x ∧ sd U[y] ((k + 2) % 4) = sd U[z] k)))) ∧ Ext q q') (fun k _ => (4 - k).toNat) ?_ _ ⟨0, A, rfl, by omega, om2, fun k hk => (by rw [hA k hk]; exact ⟨.inl, fun h => h.elim id fun h => by omega⟩), yy⟩
      rintro X6 _ q3 ⟨x, B, rfl, hx, om3, hB, y3⟩ hW
      unfold spec_TrimSet_b6
      refine bif_dec (fun hk => ?_) (fun hk => ?_)
      · have hx4 : x < 4 := by omega
        have rq := rv.ext (yq.trans y3)
        have ek : Int.tmod (w64 ((x : Int) + 2)) 4 = (((x + 2) % 4 : Nat) : Int) := by
          rw [w64_of (by omega) (by omega), Int.tmod_eq_emod_of_nonneg (by omega)]; omega
        have hm4 : (x + 2) % 4 < 4 := Nat.mod_lt _ (by omega)
        refine ⟨by decide, ?_⟩
        rw [ek]
        refine rq.sideG (by omega) (by omega) (by omega) (by omega) ?_
        refine rq.sideG (by omega) (by omega) (by omega) (by omega) ?_
        rw [ty, tw, Int.toNat_natCast, Int.toNat_natCast, w64_of (n := (x : Int) + 1) (by omega) (by omega)]
        refine bif_eq (fun e => ?_) (fun hne => ?_)
        · refine om3.stBl (by omega) (by omega) true fun q4 om4 b4 n4 => ?_
          refine hW _ _ ⟨x + 1, _, by push_cast; rfl, by omega, om4, fun k hk' => ?_, y3.but_ b4 fun i e => by rw [mo] at e; cases e; exact Nat.le_refl _⟩ (by omega)
          simp only [Int.toNat_natCast]
          by_cases h : k = x
          · subst h
            simp [e]
          · rw [if_neg h, hB k hk']
            exact ⟨fun h => h.imp id fun h => ⟨by omega, h.2⟩, fun h => h.imp id fun h => ⟨by omega, h.2⟩⟩
        · refine hW _ _ ⟨x + 1, B, by push_cast; rfl, by omega, om3, fun k hk' => ?_, y3⟩ (by omega)
          rw [hB k hk']
          by_cases h : k = x
          · subst h
            exact ⟨fun h => h.imp id fun h => absurd h.2 hne, fun h => h.imp id fun h => absurd h.2 hne⟩
          · exact ⟨fun h => h.imp id fun h => ⟨by omega, h.2⟩, fun h => h.imp id fun h => ⟨by omega, h.2⟩⟩
      · unfold spec_TrimSet_C6 spec_TrimSet_C5
        rw [w64_of (by omega) (by omega)]
        refine hZ _ _ ⟨y + 1, B, by push_cast; rfl, by omega, om3, fun k hk' => ?_, y3⟩ (by omega)
        rw [hB k hk', hmem]
        exact ⟨fun h => h.imp id fun h => h.2, fun h => h.imp id fun h => ⟨by omega, h⟩⟩
    · have hyU : y = U.length := by omega
      rw [hyU, List.take_length] at hA
      unfold spec_TrimSet_C4
      have htk : (U.take (z + 1)).filter (tqB U) = (U.take z).filter (tqB U) ++ if tqB U U[z] then [U[z]] else [] := by
        rw [List.take_succ_eq_append_getElem hzl, List.filter_append]
        simp only [List.filter_cons, List.filter_nil]
      have hfl := List.length_filter_le (tqB U) (U.take z)
      have htl : (U.take z).length = z := by rw [List.length_take]; omega
      have skip : ∀ {k : Nat}, k < 4 → A k = false → spec_TrimSet_C3 SP (fun v h' => PwRes (trimR c ts) h0 v h') X0 X2 ⟨some h0.length, 2, 0⟩ ⟨some h1.length, 2, 0⟩ v w z q2 := fun {k} hk hf => by
        unfold spec_TrimSet_C3
        rw [w64_of (by omega) (by omega)]
        have hb : tqB U U[z] = false := by
          cases hb : tqB U U[z]
          · rfl
          · have := (hA k hk).2 (tqB_iff.1 hb k hk)
            rw [hf] at this; cases this
        refine hY _ _ _ ⟨z + 1, by push_cast; rfl, by omega, ?_, fw, yq.trans yy⟩ (by omega)
        rw [htk, hb]
        simpa using ow.ext yy
      refine om2.rd.ldBl (i := 0) (by omega) (by omega) ?_
      refine bif_b (fun a0 => ?_) (fun hf => skip (k := 0) (by omega) hf)
      refine om2.rd.ldBl (i := 1) (by omega) (by omega) ?_
      refine bif_b (fun a1 => ?_) (fun hf => skip (k := 1) (by omega) hf)
      refine om2.rd.ldBl (i := 2) (by omega) (by omega) ?_
      refine bif_b (fun a2 => ?_) (fun hf => skip (k := 2) (by omega) hf)
      refine om2.rd.ldBl (i := 3) (by omega) (by omega) ?_
      refine bif_b (fun a3 => ?_) (fun hf => skip (k := 3) (by omega) hf)
      have hb3 : tqB U U[z] = true := tqB_iff.2 fun k hk => by
        have hk' : k = 0 ∨ k = 1 ∨ k = 2 ∨ k = 3 := by omega
        rcases hk' with rfl | rfl | rfl | rfl
        · exact (hA 0 (by omega)).1 a0
        · exact (hA 1 (by omega)).1 a1
        · exact (hA 2 (by omega)).1 a2
        · exact (hA 3 (by omega)).1 a3
      refine (rv.ext (yq.trans yy)).tileG (by omega) (by omega) ⟨rfl, ?_⟩
      rw [tw]
      have hyq := yq.len
      have hyy := yy.len
      refine push_tc (t := U[z]) (ow.ext yy) (by unfold lim; omega) fun w' q5 ow5 b5 hw5 l5 => ?_
      unfold spec_TrimSet_C3
      rw [w64_of (by omega) (by omega)]
      refine hY _ _ _ ⟨z + 1, by push_cast; rfl, by omega, ?_, fw.push (h := q2) (by omega) hw5, (yq.trans yy).but_ b5 fun o e => fw o e⟩ (by omega)
      rw [htk, hb3]
      exact ow5
  · unfold spec_TrimSet_C2
    have hzU : z = U.length := by omega
    rw [hzU, List.take_length] at ow
    have hwl := ow.rd.tlen
    have hyq := yq.len
    have XX := X5.trans (xg.trans yq)
    refine bif_eq (fun he => ?_) (fun hne => ?_)
    · have hall : ∀ t ∈ U, TQ U t := fun t ht => by
        have h1 : (U.filter (tqB U)).length = U.length := by omega
        rw [List.length_filter_eq_length_iff] at h1
        exact tqB_iff.1 (h1 t ht)
      have hfe : U.filter (tqB U) = U := List.filter_eq_self.2 fun t ht => tqB_iff.2 (hall t ht)
      have hU : U = tmL ts := hS.end_ hs.pw hall
      rw [hfe, hU] at ow
      refine isPt_in ((P5.ext (xg.trans yq)).ldI rfl rfl ?_)
      have htm := tmL_len ts
      refine (l01Made_c (l := tmL ts) ow.rd (by omega) c).to ?_
      rintro _ g9 ⟨u9, rfl, o9, f9, x9⟩
      rw [dsT_self hs.trim.pw] at o9
      exact PwRes.end_ ((q5.ext (xg.trans yq)).ext x9) rfl (trimR_ok hs) o9.pre (f9.le (by omega)) (fun i e => by have := f9 i e; omega) (by omega) (XX.trans x9)
    · have hle := List.length_filter_le (tqB U) U
      exact hX _ _ ⟨_, ow.rd, hS.step, xg.trans yq⟩ (by omega)
end
end Go.Proofs.Ytlcgclmobfdbcaa.Cl

/- Draws: texts of sets. No claim is stated here. -/
set_option linter.unusedVariables false
set_option linter.unusedSimpArgs false
namespace Go.Proofs.Ytlcgclmobfdbcaa.Cl
open Go
theorem ixStr_of {t : ByteArray} {i : Int} (h0 : 0 ≤ i) (h1 : i < t.size) {K : Int → Prop} (hk : ∀ b : Int, 0 ≤ b → b < 256 → K b) : ixStr t i K := by
  have hlt : i.toNat < t.size := by omega
  refine ⟨t[i.toNat], h0, getElem?_pos t i.toNat hlt, hk _ (by omega) ?_⟩
  have := t[i.toNat].toNat_lt
  omega
theorem cutStr_of {t : ByteArray} {a b : Int} (h0 : 0 ≤ a) (h1 : a ≤ b) (h2 : b ≤ t.size) {K : ByteArray → Prop} (hk : ∀ s : ByteArray, s.size ≤ t.size → K s) : cutStr t a b K := by
  refine ⟨⟨h0, h1, h2⟩, hk _ ?_⟩
  rw [ByteArray.size_extract]
  omega
theorem via_str {t : ByteArray} {K : ByteArray → Prop} (hk : K t) : viaStr (.str t) K := ⟨t, rfl, hk⟩
theorem pushV {h : H} {s : Sl} {l : List AVal} {x : AVal} (r : Ow h s 1 l) (hl : (l.length : Int) + 1 ≤ lim) {K : Sl → H → Prop}
    (hk : ∀ s' h', Ow h' s' 1 (l ++ [x]) → But s.o h h' → (∀ o, s'.o = some o → s.o = some o ∨ h.length ≤ o) → h.length ≤ h'.length → K s' h') : newS 1 1 [x] h fun t h1 => app s t 1 h1 K := by
  refine newS_ow (by rfl) fun t h1 ot tl to e1 => ?_
  have e1' : Ext h h1 := by rw [e1]; exact Ext.app _ _
  have hln := e1'.len
  have hsl : s.len = l.length := by have := r.len; omega
  refine app_ow (by omega) (r.ext e1') ot.rd (by rw [tl, hsl]; exact_mod_cast hl) fun s' h' o' ln b k1 k2 => hk s' h' o' ((e1'.but _).trans b) (fun o e => ?_) (Nat.le_trans hln b.1)
  cases hq : s.o with
  | none => have := k2 hq o e; exact .inr (by omega)
  | some p => rw [k1 p hq] at e; exact .inl e
/-- A slice of texts. -/
def RdT (h : H) (s : Sl) (L : List ByteArray) : Prop := Rd h s 1 (L.map .str) ∧ ∀ x ∈ L, x.size ≤ 1000
theorem RdT.len {h s L} (r : RdT h s L) : s.len = L.length := by have := r.1.len; rw [List.length_map] at this; omega
theorem RdT.ext {h h' s L} (r : RdT h s L) (x : Ext h h') : RdT h' s L := ⟨r.1.ext x, r.2⟩
theorem RdT.ld {h : H} {s : Sl} {L : List ByteArray} (r : RdT h s L) {i : Int} (h0 : 0 ≤ i) (h1 : i < L.length) {K : AVal → Prop} (hk : ∀ x : ByteArray, x.size ≤ 1000 → K (.str x)) : ixS s 1 i fun p => Cl.ldV p h K := by
  have hlen := r.len
  have hx : L[i.toNat]? = some L[i.toNat] := List.getElem?_eq_getElem (by omega)
  obtain hl | ⟨a, b, c⟩ := r.1.at_
  · omega
  · refine ⟨⟨h0, by omega⟩, a, b, .str L[i.toNat], ?_, hk _ (r.2 _ (List.getElem_mem _))⟩
    have := cell_of_range c (i := i.toNat) (by omega)
    rw [Nat.mul_one, this, List.getElem?_map, hx]
    rfl
section
variable {h : H}
theorem split_c (t : ByteArray) (ht : t.size ≤ 1000) (b : Int) : callS SP i_spec_l01Split [.str t, .int .u8 b] h fun u h' => ∃ L, RdT h' u L ∧ L.length ≤ t.size + 1 ∧ Fr h.length u ∧ Ext h h' := by
  apply spec_l01Split_call
  unfold spec_l01Split_main
  refine newS_ow (by rfl) fun u h1 ou lu uo e1 => ?_
  have x1 : Ext h h1 := by rw [e1]; exact Ext.app _ _
  refine spec_l01Split_rule0 _ _ _ _ (fun u a i g => ∃ (L : List ByteArray) (k m : Nat), a = k ∧ i = m ∧ k ≤ m ∧ m ≤ t.size ∧ Ow g u 1 (L.map .str) ∧ (∀ x ∈ L, x.size ≤ 1000) ∧ L.length ≤ m ∧ Fr h.length u ∧ Ext h g) (fun _ _ i _ => ((t.size : Int) - i).toNat) ?_ _ _ _
    ⟨[], 0, 0, rfl, rfl, Nat.le_refl _, by omega, ou, fun x hx => (by cases hx), Nat.le_refl _, fun o e => (by rw [uo] at e; cases e; exact Nat.le_refl _), x1⟩
  rintro X u _ _ g ⟨L, k, m, rfl, rfl, hkm, hm, ou, hL, hl, fu, x⟩ hX
  have hgl := x.len
  unfold spec_l01Split_b0
  refine via_str ?_
  refine bif_dec (fun hi => ?_) (fun hi => ?_)
  · refine via_str (ixStr_of (by omega) hi fun y y0 y1 => ?_)
    refine bif_eq (fun _ => ?_) (fun _ => ?_)
    · refine via_str (cutStr_of (by omega) (by omega) (by omega) fun w hw => ?_)
      refine pushV ou (by rw [List.length_map]; unfold lim; omega) fun u' g' ou' b' hu' hl' => ?_
      rw [w64_of (by omega) (by omega)]
      refine hX _ _ _ _ ⟨L ++ [w], m + 1, m + 1, by push_cast; rfl, by push_cast; rfl, Nat.le_refl _, by omega, by rw [List.map_append]; exact ou', fun x hx => ?_, by rw [List.length_append, List.length_singleton]; omega, fun o e => ?_, x.but_ b' fun o e => fu o e⟩ (by omega)
      · rcases List.mem_append.1 hx with hx | hx
        · exact hL x hx
        · rw [List.mem_singleton] at hx; subst hx; omega
      · rcases hu' o e with h1 | h1
        · exact fu o h1
        · omega
    · rw [w64_of (by omega) (by omega)]
      exact hX _ _ _ _ ⟨L, k, m + 1, rfl, by push_cast; rfl, by omega, by omega, ou, hL, by omega, fu, x⟩ (by omega)
  · unfold spec_l01Split_C0
    refine via_str (cutStr_of (by omega) (by omega) (by omega) fun w hw => ?_)
    refine pushV ou (by rw [List.length_map]; unfold lim; omega) fun u' g' ou' b' hu' hl' => ?_
    refine ⟨u', rfl, L ++ [w], ⟨by rw [List.map_append]; exact ou'.rd, fun x hx => ?_⟩, by rw [List.length_append, List.length_singleton]; omega, fun o e => ?_, x.but_ b' fun o e => fu o e⟩
    · rcases List.mem_append.1 hx with hx | hx
      · exact hL x hx
      · rw [List.mem_singleton] at hx; subst hx; omega
    · rcases hu' o e with h1 | h1
      · exact fu o h1
      · omega
theorem number_c (t : ByteArray) (ht : t.size ≤ 1000) : callI SP .i64 i_spec_l01Number [.str t] h fun n h' => h = h' := by
  apply spec_l01Number_call
  unfold spec_l01Number_main
  have loop : ¬ (t.size : Int) > 9 → spec_l01Number_L0 SP (fun v h' => ∃ r, v = .int .i64 r ∧ h = h') (.str t) 0 0 h := fun h9 => by
    refine spec_l01Number_rule0 _ _ _ (fun n i g => ∃ m : Nat, i = m ∧ m ≤ t.size ∧ g = h) (fun _ i _ => ((t.size : Int) - i).toNat) ?_ _ _ ⟨0, rfl, by omega, rfl⟩
    rintro X n _ g ⟨m, rfl, hm, rfl⟩ hX
    unfold spec_l01Number_b0
    refine via_str ?_
    refine bif_dec (fun hi => ?_) (fun hi => ⟨_, rfl, rfl⟩)
    refine via_str (ixStr_of (by omega) hi fun y _ _ => ?_)
    refine bif_dec (fun _ => ⟨_, rfl, rfl⟩) (fun _ => ?_)
    refine via_str (ixStr_of (by omega) hi fun y _ _ => ?_)
    refine bif_dec (fun _ => ⟨_, rfl, rfl⟩) (fun _ => ?_)
    refine via_str (ixStr_of (by omega) hi fun y _ _ => ?_)
    rw [w64_of (n := (m : Int) + 1) (by omega) (by omega)]
    exact hX _ _ _ ⟨m + 1, by push_cast; rfl, by omega, rfl⟩ (by omega)
  refine via_str ?_
  refine bif_eq (fun _ => ⟨_, rfl, rfl⟩) (fun _ => ?_)
  refine via_str ?_
  refine bif_dec (fun _ => ⟨_, rfl, rfl⟩) (fun h9 => ?_)
  refine via_str ?_
  refine bif_dec (fun hi => ?_) (fun _ => loop h9)
  refine via_str (ixStr_of (by omega) (by omega) fun y _ _ => ?_)
  exact bif_eq (fun _ => ⟨_, rfl, rfl⟩) (fun _ => loop h9)
/-- A set, or nothing. -/
def WSet (c : Int) (ts : List Tile) : Prop := setOK c ts ∨ (c = 0 ∧ ts = [])
theorem WSet.len {c ts} (h : WSet c ts) : ts.length ≤ 16 := by
  rcases h with h | h
  · exact h.2.1
  · rw [h.2]; simp
theorem WSet.col {c ts} (h : WSet c ts) : 0 ≤ c ∧ c ≤ 6 := by
  rcases h with h | h
  · have := h.1; omega
  · omega
/-- What a text read as a set brings. -/
def RdR (h : H) (v : AVal) (h' : H) : Prop := ∃ u c ts f, v = .tuple [.agg (SetC c u), .bool f] ∧ Rd h' u 4 (tcs ts) ∧ WSet c ts ∧ Fr h.length u ∧ Ext h h'
theorem RdR.no {g : H} {o : Nat} {cs : List AVal} (p : Obj g o cs) (hcs : cs.length = 2) {f : Bool} (hx : h.length ≤ o) (x : Ext h g) :
    stN ⟨some o, 2, 0⟩ 2 [.int .i64 0, .sl Sl.nil] g fun h9 => ldA ⟨some o, 2, 0⟩ 2 h9 fun cs10 => RdR h (.tuple [.agg cs10, .bool f]) h9 := by
  refine p.stA (fun h6 o6 b6 n6 => ?_) hcs
  exact o6.ldA rfl ⟨Sl.nil, 0, [], f, rfl, Rd.nil _ _, .inr ⟨rfl, rfl⟩, Fr.nil _, x.but_ b6 (some_le hx)⟩
theorem read_c (t : ByteArray) (ht : t.size ≤ 1000) : callV SP i_spec_l01Read [.str t] h (RdR h) := by
  apply spec_l01Read_call
  unfold spec_l01Read_main
  refine newO_obj fun h1 o1 x1 n1 => ?_
  refine (split_c t ht _).to ?_
  rintro u h2 ⟨L, rL, hL, fu, x2⟩
  have X2 := x1.trans x2
  have hul := rL.len
  have hx2 := x2.len
  refine bif_ne (fun _ => RdR.no (o1.ext x2) rfl (Nat.le_refl _) X2) (fun h2l => ?_)
  refine rL.ld (by omega) (by omega) fun a ha => ?_
  refine (number_c a ha).to ?_
  rintro n _ rfl
  refine newS_ow (by rfl) fun w h3 ow lw wo e3 => ?_
  have x3 : Ext h2 h3 := by rw [e3]; exact Ext.app _ _
  have n3 : h3.length = h2.length + 1 := by rw [e3]; simp
  refine newO_obj fun h4 o4 x4 n4 => ?_
  refine o4.stA fun h5 o5 b5 n5 => ?_
  have x35 : Ext h3 h5 := x4.but_ b5 (some_le (Nat.le_refl _))
  have x25 := x3.trans x35
  have X5 := X2.trans x25
  have fin : ∀ {g : H} {w : Sl} {ts : List Tile}, Ext h2 g → Obj g h3.length [i64 n, .sl w] → Ow g w 4 (tcs ts) → Fr h2.length w → spec_l01Read_C0 SP (RdR h) ⟨some h.length, 2, 0⟩ ⟨some h3.length, 2, 0⟩ g := fun {g w ts} E og ow fw => by
    unfold spec_l01Read_C0
    have Eg := X2.trans E
    refine og.ldA rfl ?_
    refine (l01Is_c (c := n) ow.rd).to ?_
    rintro b g1 ⟨hb, y1⟩
    have p1 := (o1.ext (x2.trans E)).ext y1
    refine bif_not (fun _ => RdR.no p1 rfl (Nat.le_refl _) (Eg.trans y1)) (fun hq => ?_)
    refine (og.ext y1).ldA rfl ?_
    refine p1.stA fun g2 q2 b2 m2 => ?_
    refine q2.ldA rfl ⟨w, n, ts, true, rfl, (ow.ext y1).rd.but b2 ?_, .inl (hb.1 hq), fw.le (by omega), (Eg.trans y1).but_ b2 (some_le (Nat.le_refl _))⟩
    refine .inl fun e => ?_
    have := fw _ e.symm
    omega
  refine (rL.ext x25).ld (by omega) (by omega) fun a2 ha2 => ?_
  refine ⟨a2, rfl, ByteArray.empty, rfl, ?_⟩
  refine bif_not (fun hne => ?_) (fun _ => ?_)
  · refine (rL.ext x25).ld (by omega) (by omega) fun a3 ha3 => ?_
    refine (split_c a3 ha3 _).to ?_
    rintro v h6 ⟨M, rM, hM, fv, x6⟩
    have hml := rM.len
    refine spec_l01Read_rule0 _ _ _ _ _ (fun i g => ∃ (k : Nat) (w : Sl) (ts : List Tile), i = k ∧ k ≤ M.length ∧ Obj g h3.length [i64 n, .sl w] ∧ Ow g w 4 (tcs ts) ∧ w.o = some h2.length ∧ ts.length ≤ k ∧ Chg (fun o => o = h2.length ∨ o = h3.length) h6 g) (fun i _ => ((M.length : Int) - i).toNat) ?_ _
      ⟨0, w, [], rfl, by omega, o5.ext x6, (by simpa [tcs] using (ow.ext (x35.trans x6))), wo, Nat.le_refl _, Chg.refl _ _⟩
    rintro X _ g ⟨k, w, ts, rfl, hk, og, ow, wo, htl, ch⟩ hX
    have E2 : Ext h2 g := (x25.trans x6).chg_ ch fun i e => by omega
    unfold spec_l01Read_b0
    refine bif_dec (fun hi => ?_) (fun _ => fin E2 og ow (fun o e => by rw [wo] at e; cases e; exact Nat.le_refl _))
    have rMg : RdT g v M := ⟨rM.1.chg ch fun i e => by have := fv i e; have := x25.len; omega, rM.2⟩
    refine rMg.ld (by omega) (by omega) fun a4 ha4 => ?_
    refine via_str ?_
    refine bif_ne (fun _ => RdR.no ((o1.ext (x2.trans (x25.trans x6))).chg ch (by omega)) rfl (Nat.le_refl _) (X2.trans E2)) (fun h4 => ?_)
    refine isPt_in (og.ldS (m := w) rfl rfl ?_)
    refine via_str (ixStr_of (by omega) (by omega) fun y0 _ _ => ?_)
    refine via_str (ixStr_of (by omega) (by omega) fun y1 _ _ => ?_)
    refine via_str (ixStr_of (by omega) (by omega) fun y2 _ _ => ?_)
    refine via_str (ixStr_of (by omega) (by omega) fun y3 _ _ => ?_)
    refine ⟨rfl, ?_⟩
    refine newS_ow (z := 4) (n := 1) (by rfl) fun x g1 ox lx xo e1 => ?_
    have z1 : Ext g g1 := by rw [e1]; exact Ext.app _ _
    have og1 := og.ext z1
    refine ⟨(og1.cellE (n := 2) rfl).trans (og.cellE (n := 2) rfl).symm, ?_⟩
    have hwl := ow.rd.tlen
    have hkM : M.length ≤ 1001 := by omega
    refine app_ow (by omega) (ow.ext z1) ox.rd (by rw [lx, hwl]; unfold lim; omega) fun w' g2 ow2 lw2 b2 k1 _ => ?_
    have wo2 := k1 _ wo
    rw [wo] at b2
    have og2 := og1.but b2 (fun e => by have := Option.some.inj e; omega)
    refine isPt_in ?_
    refine og2.st1 rfl (by simp) _ fun g3 og3 b3 m3 => ?_
    rw [w64_of (n := (k : Int) + 1) (by omega) (by omega)]
    refine hX _ _ ⟨k + 1, w', ts ++ [(w64 ((w64 y0) - 48), w64 ((w64 y1) - 48), w64 ((w64 y2) - 48), w64 ((w64 y3) - 48))], by push_cast; rfl, by omega, og3, ?_, wo2, by rw [List.length_append, List.length_singleton]; omega, ?_⟩ (by omega)
    · refine Ow.but (o := some h3.length) ?_ b3 (.inl fun e => by rw [wo2] at e; have := Option.some.inj e; omega)
      rw [tcs_app, tcs_one]
      exact ow2
    · exact ch.trans (((z1.chg _).trans (b2.chg fun i e => .inl (Option.some.inj e).symm)).trans (b3.chg fun i e => .inr (Option.some.inj e).symm))
  · have := fin (ts := []) x25 o5 (by simpa [tcs] using ow.ext x35) (fun o e => by rw [wo] at e; cases e; exact Nat.le_refl _)
    exact this
end
end Go.Proofs.Ytlcgclmobfdbcaa.Cl

/- Draws: sets. No claim is stated here. -/
set_option linter.unusedVariables false
set_option linter.unusedSimpArgs false
namespace Go.Proofs.Ytlcgclmobfdbcaa.Cl
open Go
section
variable {h : H} {o : Nat}
theorem names_c : callS SP i_spec_l01Names [] h fun u h' => ∃ L, RdT h' u L ∧ L.length = 8 ∧ Fr h.length u ∧ Ext h h' := by
  apply spec_l01Names_call
  unfold spec_l01Names_main
  refine newS_ow (by rfl) fun u h1 ou lu uo e1 => ?_
  refine ⟨u, rfl, [_, _, _, _, _, _, _, _], ⟨ou.rd, ?_⟩, rfl, fun o e => (by rw [uo] at e; cases e; exact Nat.le_refl _), by rw [e1]; exact Ext.app _ _⟩
  decide
theorem named_c (t : ByteArray) : callV SP i_spec_l01Named [.str t] h (RdR h) := by
  apply spec_l01Named_call
  unfold spec_l01Named_main
  refine newO_obj fun h1 o1 x1 n1 => ?_
  refine names_c.to ?_
  rintro u h2 ⟨L, rL, hL, fu, x2⟩
  refine newS_ow (by rfl) fun v h3 ov lv vo e3 => ?_
  have x3 : Ext h2 h3 := by rw [e3]; exact Ext.app _ _
  have X3 := x1.trans (x2.trans x3)
  obtain ⟨M, rM, hM⟩ : ∃ M, RdT h3 v M ∧ M.length = 8 := ⟨[_, _, _, _, _, _, _, _], ⟨ov.rd, by decide⟩, rfl⟩
  have rL3 := rL.ext x3
  have hul := rL3.len
  have p1 := o1.ext (x2.trans x3)
  refine spec_l01Named_rule0 _ _ _ _ _ _ (fun i g => ∃ k : Nat, i = k ∧ k ≤ 8 ∧ g = h3) (fun i _ => (8 - i).toNat) ?_ _ ⟨0, rfl, by omega, rfl⟩
  rintro X _ _ ⟨k, rfl, hk, rfl⟩ hX
  unfold spec_l01Named_b0
  refine bif_dec (fun hi => ?_) (fun _ => RdR.no p1 rfl (Nat.le_refl _) X3)
  refine rL3.ld (by omega) (by omega) fun x _ => ?_
  refine ⟨x, rfl, t, rfl, ?_⟩
  refine bif_b (fun _ => ?_) (fun _ => ?_)
  · refine rM.ld (by omega) (by omega) fun y hy => ?_
    refine (read_c y hy).to ?_
    rintro _ h4 ⟨w, c, ts, f, rfl, rw', hw, fw, x4⟩
    refine ⟨_, rfl, _, rfl, _, rfl, _, rfl, ?_⟩
    refine newO_obj fun h5 o5 x5 n5 => ?_
    refine o5.stA fun h6 o6 b6 n6 => ?_
    have x46 : Ext h4 h6 := x5.but_ b6 (some_le (Nat.le_refl _))
    refine o6.ldA rfl ?_
    have hx3 := X3.len
    refine (p1.ext (x4.trans x46)).stA fun h7 o7 b7 n7 => ?_
    refine o7.ldA rfl ⟨w, c, ts, true, rfl, (rw'.ext x46).but b7 (.inl fun e => by have := fw _ e.symm; have := x1.len; have := x2.len; have := x3.len; omega), hw, fw.le (by omega), ((X3.trans x4).trans x46).but_ b7 (some_le (Nat.le_refl _))⟩
  · rw [w64_of (by omega) (by omega)]
    exact hX _ _ ⟨k + 1, by push_cast; rfl, by omega, rfl⟩ (by omega)
theorem renamed_c {u v : Sl} {c : Int} {ts : List Tile} {l : List Int} (r : Rd h u 4 (tcs ts)) (hw : WSet c ts) (rv : Rd h v 1 (ic l)) (hl : (l.length : Int) = c) (hb : ∀ x ∈ l, 0 ≤ x ∧ x < c) :
    callA SP i_spec_l01Renamed [.agg (SetC c u), .sl v] h fun cs h' => ∃ w ts', cs = SetC c w ∧ Rd h' w 4 (tcs ts') ∧ WSet c ts' ∧ Fr h.length w ∧ Ext h h' := by
  have hul := r.tlen
  have hvl := rv.ilen
  have h16 := hw.len
  apply spec_l01Renamed_call
  unfold spec_l01Renamed_main
  refine newK_obj fun h1 o1 x1 n1 => ?_
  refine newO_obj fun h2 o2 x2 n2 => ?_
  refine newS_ow (by rfl) fun w h3 ow lw wo e3 => ?_
  have x3 : Ext h2 h3 := by rw [e3]; exact Ext.app _ _
  have X3 := x1.trans (x2.trans x3)
  refine spec_l01Renamed_rule0 _ _ _ _ _ (fun w i g => ∃ (k : Nat) (A : List Tile), i = k ∧ k ≤ ts.length ∧ A.length = k ∧ (∀ t ∈ A, ∀ j, j < 4 → 0 ≤ sd t j ∧ sd t j < c) ∧ Ow g w 4 (tcs A) ∧ Fr h2.length w ∧ Ext h2 g) (fun _ i _ => ((ts.length : Int) - i).toNat) ?_ _ _
    ⟨0, [], rfl, by omega, rfl, fun t ht => (by cases ht), by simpa [tcs] using ow, fun o e => (by rw [wo] at e; cases e; exact Nat.le_refl _), x3⟩
  rintro X w _ g ⟨k, A, rfl, hk, hA, hAb, ow, fw, x⟩ hX
  have Xg := x1.trans (x2.trans x)
  have p1 := o1.ext (x2.trans x)
  have hgl := x.len
  unfold spec_l01Renamed_b0
  refine isPt_in (p1.ldS rfl rfl ?_)
  refine bif_dec (fun hi => ?_) (fun hi => ?_)
  · have hkl : k < ts.length := by omega
    have hs : setOK c ts := by
      rcases hw with h | h
      · exact h
      · rw [h.2] at hkl; simp at hkl
    have hT := fun j hj => hs.ts.2 ts[k] (List.getElem_mem hkl) j hj
    refine isPt_in (p1.ldS rfl rfl ?_)
    refine (r.ext Xg).tileG (by omega) (by omega) ?_
    rw [tat_nat hkl]
    refine newO_obj fun g1 q1 y1 m1 => ?_
    refine q1.stA fun g2 q2 b2 m2 => ?_
    have y2 : Ext g g2 := y1.but_ b2 (some_le (Nat.le_refl _))
    have rvg := rv.ext (Xg.trans y2)
    have ld : ∀ (j : Nat) (hj : j < 4) {K : Int → Prop}, (∀ x, x ∈ l → K x) → ixS v 1 (sd ts[k] j) fun p => Cl.ldI .i64 p g2 K := fun j hj K hK => by
      have := hT j hj
      exact rvg.ldI this.1 (by omega) fun x hx => hK x (List.mem_of_getElem? hx)
    refine ix4 q2 0 (by omega) fun p7 _ => ?_
    refine ld 0 (by omega) fun a ha => ?_
    refine ix4 q2 1 (by omega) fun p11 _ => ?_
    refine ld 1 (by omega) fun b hb' => ?_
    refine ix4 q2 2 (by omega) fun p15 _ => ?_
    refine ld 2 (by omega) fun d hd => ?_
    refine ix4 q2 3 (by omega) fun p19 _ => ?_
    refine ld 3 (by omega) fun e he => ⟨rfl, ?_⟩
    have hwl := ow.rd.tlen
    refine push_tc (t := (a, b, d, e)) (ow.ext y2) (by unfold lim; omega) fun w' g3 ow3 b3 hw3 l3 => ?_
    rw [w64_of (by omega) (by omega)]
    have hy2 := y2.len
    refine hX _ _ _ ⟨k + 1, A ++ [(a, b, d, e)], by push_cast; rfl, by omega, by simp [hA], fun t ht j hj => ?_, ow3, fw.push (h := g2) (by omega) hw3, (x.trans y2).but_ b3 fun o e => fw o e⟩ (by omega)
    rcases List.mem_append.1 ht with ht | ht
    · exact hAb t ht j hj
    · rw [List.mem_singleton] at ht
      subst ht
      have hj' : j = 0 ∨ j = 1 ∨ j = 2 ∨ j = 3 := by omega
      rcases hj' with rfl | rfl | rfl | rfl
      · exact hb a ha
      · exact hb b hb'
      · exact hb d hd
      · exact hb e he
  · have hkU : k = ts.length := by omega
    unfold spec_l01Renamed_C0
    refine isPt_in (p1.ldI rfl rfl ?_)
    have hdl := dsT_len A
    refine (l01Made_c (l := A) ow.rd (by omega) c).to ?_
    rintro _ g1 ⟨z, rfl, oz, fz, y1⟩
    have hwset : WSet c (dsT A) := by
      rcases hw with hs | hs
      · exact .inl (setOK_of hs.1.1 hs.1.2 (by omega) (pw_dsort ltT_sto _) fun t ht => hAb t (mem_dsort.1 ht))
      · have : A = [] := List.length_eq_zero_iff.1 (by rw [hA, hkU, hs.2]; rfl)
        subst this
        exact .inr ⟨hs.1, rfl⟩
    have hx1 := x1.len
    have hXg := Xg.len
    refine ((o2.ext x).ext y1).stA fun g2 q2 b2 m2 => ?_
    refine q2.ldA rfl ⟨_, rfl, z, dsT A, rfl, (oz.rd).but b2 (.inl fun e => by have := fz _ e.symm; omega), hwset, fz.le (by omega), (Xg.trans y1).but_ b2 (some_le (by omega))⟩
end
end Go.Proofs.Ytlcgclmobfdbcaa.Cl

/- Draws: orders, sets drawn, sets spoilt. No claim is stated here. -/
set_option linter.unusedVariables false
set_option linter.unusedSimpArgs false
namespace Go.Proofs.Ytlcgclmobfdbcaa.Cl
open Go
section
variable {h : H} {o : Nat}
theorem Ow.okS {s : Sl} {z : Nat} {cs : List AVal} (r : Ow h s z cs) : Cl.okS h s := by
  unfold Cl.okS
  obtain ⟨a, _⟩ | ⟨i, a, _, _, d, e⟩ := r.at_
  · rw [a]; trivial
  · rw [a]; unfold cells; simp [e, d, r.len]
theorem Ow.cutZ {s : Sl} {z : Nat} {cs : List AVal} (r : Ow h s z cs) {p : Nat} (hp : s.o = some p) {lo hi : Int} (h0 : 0 ≤ lo) (h1 : lo ≤ hi) (h2 : hi ≤ s.len) {K : Sl → Prop}
    (hk : ∀ s', s'.o = some p → s'.len = (hi - lo).toNat → (∀ g, Ow g s z cs → Rd g s' z ((cs.drop (lo.toNat * z)).take ((hi - lo).toNat * z))) → K s') : cut s z lo hi h K := by
  have hok := r.okS
  obtain ⟨a, _⟩ | ⟨i, a, b, c, d, e⟩ := r.at_
  · rw [hp] at a; cases a
  have hm : hi.toNat * z ≤ s.len * z := Nat.mul_le_mul_right _ (by omega)
  refine ⟨⟨h0, h1⟩, hok, (fun hn => by rw [hp] at hn; cases hn), fun _ => ⟨b, by rw [c, d]; omega⟩, hk _ hp rfl fun g rg => ?_⟩
  have hlm : (hi - lo).toNat * z + lo.toNat * z = hi.toNat * z := by rw [← Nat.add_mul]; congr 1; omega
  have hlen := rg.len
  refine ⟨?_, ?_⟩
  · show _ = (hi - lo).toNat * z
    simp only [List.length_take, List.length_drop]
    omega
  · refine .inr ⟨rfl, by show s.o.isSome = true; rw [hp]; rfl, ?_⟩
    obtain ⟨a', _⟩ | ⟨j, a', b', c', d', e'⟩ := rg.at_
    · rw [hp] at a'; cases a'
    have hc : cells g j s.n = some cs := by unfold cells; rw [e']; simp only; rw [if_pos (by rw [rg.len, d'])]
    show range g s.o s.n (s.off + lo.toNat * z) ((hi - lo).toNat * z) = _
    rw [a', range_of hc (by rw [hlen, c']; omega), c', Nat.zero_add]
theorem ownD_c {x : Sl} {l : List Int} (r : Rd h x 1 (ic l)) (hl : l.length ≤ 1048576) : callS SP i_spec_l01Own [.sl x] h fun s h' => Ow h' s 1 (ic l) ∧ Fr h.length s ∧ Ext h h' := by
  have hx := r.ilen
  apply spec_l01Own_call
  unfold spec_l01Own_main
  refine newS_ow (by rfl) fun s h1 os ls so he => ?_
  have e1 : Ext h h1 := he ▸ Ext.app _ _
  refine app_ow (by omega) os (r.ext e1) (by rw [ls, hx]; unfold lim; omega) fun s' h' o' l' b' k1 _ => ?_
  have := k1 _ so
  exact ⟨s', rfl, by simpa using o', fun i e => by rw [this] at e; cases e; exact Nat.le_refl _, e1.but_ b' (by rw [so]; exact some_le (Nat.le_refl _))⟩
theorem Ow.someO {s : Sl} {z : Nat} {cs : List AVal} (r : Ow h s z cs) (hl : 0 < s.len) : ∃ p, s.o = Option.some p := by
  obtain ⟨_, b⟩ | ⟨i, a, _⟩ := r.at_
  · omega
  · exact ⟨i, a⟩
theorem drawOrder_c (r : Src h o) (n : Int) (h0 : 0 ≤ n) (h6 : n ≤ 1000) : callS SP i_spec_l01DrawOrder [.ptr ⟨some o, 3, 0⟩, i64 n] h fun u h' => ∃ l, Ow h' u 1 (ic l) ∧ (l.length : Int) = n ∧ (∀ x ∈ l, 0 ≤ x ∧ x < n) ∧ Fr h.length u ∧ Src h' o ∧ Chg (fun i => i = o) h h' := by
  have hlt := r.lt
  apply spec_l01DrawOrder_call
  unfold spec_l01DrawOrder_main
  refine newS_ow (by rfl) fun u h1 ou lu uo e1 => ?_
  have x1 : Ext h h1 := by rw [e1]; exact Ext.app _ _
  refine spec_l01DrawOrder_rule0 _ _ _ _ (fun u i g => ∃ (k : Nat) (l : List Int), i = k ∧ (k : Int) ≤ n ∧ Ow g u 1 (ic l) ∧ u.o.isSome = true ∧ l.length = k ∧ (∀ x ∈ l, 0 ≤ x ∧ x < n) ∧ Fr h.length u ∧ Src g o ∧ Chg (fun i => i = o ∨ h.length ≤ i) h g) (fun _ i _ => (n - i).toNat) ?_ _ _
    ⟨0, [], rfl, h0, ou, by rw [uo]; rfl, rfl, fun x hx => (by cases hx), fun i e => (by rw [uo] at e; cases e; exact Nat.le_refl _), r.ext x1, x1.chg _⟩
  rintro X u _ g ⟨k, l, rfl, hk, ou, su, hl, hb, fu, rg, ch⟩ hX
  have hgl := ch.1
  unfold spec_l01DrawOrder_b0
  refine bif_dec (fun hi => ?_) (fun hi => ⟨u, rfl, l, ou, by omega, hb, fu, rg, ch.to fun i hi e => by omega⟩)
  obtain ⟨p, hp⟩ := Option.isSome_iff_exists.1 su
  have hpf := fu p hp
  have hpl := ou.lt hp
  rw [w64_of (n := (k : Int) + 1) (by omega) (by omega)]
  refine (next_c rg _).to ?_
  rintro x g1 ⟨hx, r1, b1, l1⟩
  have hx2 := hx.2.1 (by omega)
  have hx1 := hx.1
  have ou1 := ou.but b1 (.inl fun e => by rw [hp] at e; have := Option.some.inj e; omega)
  refine slotK_in fun g2 y2 m2 => ?_
  have ou2 := ou1.ext y2
  have hul := ou2.rd.ilen
  refine ou2.cutZ hp (Int.le_refl 0) hx.1 (by omega) fun s3 s3o s3l v3 => ?_
  have rv3 := v3 g2 ou2
  have e3 : (((ic l).drop ((0 : Int).toNat * 1)).take ((x - 0).toNat * 1)) = ic (l.take x.toNat) := by
    unfold ic
    rw [show (0 : Int).toNat * 1 = 0 by rfl, List.drop_zero, ← List.map_take, Nat.mul_one, show (x - 0).toNat = x.toNat by omega]
  rw [e3] at rv3
  refine (ownD_c rv3 (by rw [List.length_take]; omega)).to ?_
  rintro s5 g4 ⟨o5, f5, y4⟩
  have ou4 := ou2.ext y4
  refine ou4.cutZ hp hx.1 (by omega) (Int.le_refl _) fun s6 s6o s6l v6 => ?_
  refine ⟨ou2.okS, ?_⟩
  have hy4 := y4.len
  refine newSat_ow (by omega) (by rfl) fun s7 g8 o7 l7 s7o b8 m8 => ?_
  have ou8 := ou4.but b8 (.inl fun e => by rw [hp] at e; have := Option.some.inj e; omega)
  refine ⟨ou4.okS, ou8.okS, ou8.okS, ?_⟩
  have o58 := o5.but b8 (by
    cases hq : s5.o with
    | none => exact .inl (by simp)
    | some q => exact .inl fun e => by have := f5 q hq; have := Option.some.inj e; omega)
  have h5l := o58.rd.ilen
  rw [List.length_take] at h5l
  refine app_ow (by omega) o58 o7.rd (by rw [h5l, l7]; unfold lim; omega) fun s9 g10 o9 l9 b10 k9 k9' => ?_
  have hs9 : ∀ q, s9.o = some q → g2.length ≤ q := fun q e => by
    cases hq : s5.o with
    | none => have := k9' hq q e; omega
    | some q' => rw [k9 q' hq] at e; have := f5 q' hq; have := Option.some.inj e; omega
  have hs5 : ∀ i, s5.o = some i → g2.length ≤ i := f5
  have ou10 := ou8.but b10 (by
    cases hq : s5.o with
    | none => exact .inr rfl
    | some q => exact .inl fun e => by have := f5 q hq; rw [hp] at e; have := Option.some.inj e; omega)
  refine ⟨ou10.okS, ?_⟩
  have rv6 := v6 g10 ou10
  have e6 : (((ic l).drop (x.toNat * 1)).take (((u.len : Int) - x).toNat * 1)) = ic (l.drop x.toNat) := by
    unfold ic
    rw [Nat.mul_one, Nat.mul_one, ← List.map_drop, ← List.map_take, List.take_of_length_le (by rw [List.length_drop]; omega)]
  rw [e6] at rv6
  have h10 : s9.len = min x.toNat l.length + 1 := by rw [l9, h5l, l7]
  refine app_ow (by omega) o9 rv6 (by rw [h10, s6l]; unfold lim; omega) fun s11 g12 o11 l11 b12 k11 k11' => ?_
  have hs11 : ∀ q, s11.o = some q → g2.length ≤ q := fun q e => by
    cases hq : s9.o with
    | none => have := k11' hq q e; have := b10.1; omega
    | some q' => rw [k11 q' hq] at e; have := hs9 q' hq; have := Option.some.inj e; omega
  have hl11 : ic (l.take x.toNat) ++ [i64 (k : Int)] ++ ic (l.drop x.toNat) = ic (l.take x.toNat ++ [(k : Int)] ++ l.drop x.toNat) := by rw [ic_app, ic_app]; rfl
  have o11' : Ow g12 s11 1 (ic (l.take x.toNat ++ [(k : Int)] ++ l.drop x.toNat)) := by rw [← hl11]; exact o11
  obtain ⟨q11, hq11⟩ := o11.someO (by rw [l11, h10]; omega)
  have c2 : Chg (fun i => i = o ∨ h.length ≤ i) g g12 := ((((b1.chg fun i e => .inl (Option.some.inj e).symm).trans (y2.chg _)).trans (y4.chg _)).trans (b8.chg fun i e => .inr (by have := Option.some.inj e; omega))).trans ((b10.chg fun i e => .inr (by have := hs5 i e; omega)).trans (b12.chg fun i e => .inr (by have := hs9 i e; omega)))
  have r12 : Src g12 o := (((r1.ext y2).ext y4).but b8 (fun i e => by have := Option.some.inj e; omega)).but b10 (fun i e => by have := hs5 i e; omega) |>.but b12 (fun i e => by have := hs9 i e; omega)
  refine hX _ _ _ ⟨k + 1, _, by push_cast; rfl, by omega, o11', by rw [hq11]; rfl, ?_, fun y hy => ?_, fun i e => by have := hs11 i e; omega, r12, ch.trans c2⟩ (by omega)
  · simp only [List.length_append, List.length_take, List.length_drop, List.length_singleton]
    omega
  · rw [List.mem_append, List.mem_append, List.mem_singleton] at hy
    rcases hy with (hy | hy) | hy
    · exact hb y (List.mem_of_mem_take hy)
    · subst hy; omega
    · exact hb y (List.mem_of_mem_drop hy)
/-- A drawn set. -/
def DrS (h : H) (o : Nat) (cs : List AVal) (h' : H) : Prop := ∃ u c ts, cs = SetC c u ∧ Rd h' u 4 (tcs ts) ∧ WSet c ts ∧ Fr h.length u ∧ Src h' o ∧ Chg (fun i => i = o) h h'
theorem drawOf_c (r : Src h o) (c n : Int) (hc : 1 ≤ c ∧ c ≤ 6) (hn : n ≤ 16) : callA SP i_spec_l01DrawOf [.ptr ⟨some o, 3, 0⟩, i64 c, i64 n] h fun cs h' => ∃ u ts, cs = SetC c u ∧ Rd h' u 4 (tcs ts) ∧ setOK c ts ∧ (ts.length : Int) ≤ max n 0 ∧ Fr h.length u ∧ Src h' o ∧ Chg (fun i => i = o) h h' := by
  have hlt := r.lt
  apply spec_l01DrawOf_call
  unfold spec_l01DrawOf_main
  refine newO_obj fun h1 o1 x1 n1 => ?_
  refine newS_ow (by rfl) fun u h2 ou lu uo e2 => ?_
  have x2 : Ext h1 h2 := by rw [e2]; exact Ext.app _ _
  have X2 := x1.trans x2
  refine spec_l01DrawOf_rule0 _ _ _ _ _ (fun u i g => ∃ A : List Tile, i ≤ n ∧ (A.length : Int) + (max i 0) = max n 0 ∧ Ow g u 4 (tcs A) ∧ (∀ t ∈ A, DT c t) ∧ Fr h1.length u ∧ Src g o ∧ Chg (fun i => i = o ∨ h1.length ≤ i) h2 g) (fun _ i _ => i.toNat) ?_ _ _
    ⟨[], Int.le_refl _, by simp, by simpa [tcs] using ou, fun t ht => (by cases ht), fun i e => (by rw [uo] at e; cases e; exact Nat.le_refl _), r.ext X2, Chg.refl _ _⟩
  rintro X u i g ⟨A, hi, hA, ou, hD, fu, rg, ch⟩ hX
  have hch := ch.1
  have hx2 := x2.len
  unfold spec_l01DrawOf_b0
  refine bif_dec (fun h0 => ?_) (fun h0 => ?_)
  · refine (drawTile_c rg c).to ?_
    rintro _ g1 ⟨t, rfl, ht, r1, c1⟩
    refine ⟨rfl, ?_⟩
    have hg1 := c1.1
    have hul := ou.rd.tlen
    refine push_tc (t := t) (ou.chg c1 fun i e e2 => by have := fu i e; omega) (by unfold lim; omega) fun u' g2 ou2 b2 hu2 l2 => ?_
    rw [w64_of (by omega) (by omega)]
    refine hX _ _ _ ⟨A ++ [t], by omega, by rw [List.length_append, List.length_singleton]; omega, ou2, fun y hy => ?_, fu.push (h := g1) (by omega) hu2, r1.but b2 fun i e => by have := fu i e; omega, (ch.trans (c1.to fun i _ e => .inl e)).trans (b2.chg fun i e => .inr (fu i e))⟩ (by omega)
    rcases List.mem_append.1 hy with hy | hy
    · exact hD y hy
    · rw [List.mem_singleton] at hy; subst hy; exact ht
  · unfold spec_l01DrawOf_C0
    have hdl := dsT_len A
    have hAl : A.length ≤ 16 := by omega
    refine (l01Made_c (l := A) ou.rd (by omega) c).to ?_
    rintro _ g1 ⟨z, rfl, oz, fz, y1⟩
    have hs : setOK c (dsT A) := setOK_of hc.1 hc.2 (by omega) (pw_dsort ltT_sto _) fun t ht j hj => by
      have := hD t (mem_dsort.1 ht) j hj
      exact ⟨this.1, this.2.1 hc.1⟩
    have og := (o1.ext x2).chg ch (by omega)
    have r1 := rg.ext y1
    refine (og.ext y1).stA fun g2 q2 b2 m2 => ?_
    refine q2.ldA rfl ⟨_, rfl, z, dsT A, rfl, (oz.rd).but b2 (.inl fun e => by have := fz _ e.symm; omega), hs, by omega, fz.le (by omega), r1.but b2 fun i e => by have := Option.some.inj e; omega, ?_⟩
    exact ((((X2.chg (fun i => i = o ∨ h.length ≤ i)).trans (ch.to fun i _ e => by omega)).trans (y1.chg _)).trans (b2.chg fun i e => .inr (by have := Option.some.inj e; omega))).to fun i hi e => by omega
end
end Go.Proofs.Ytlcgclmobfdbcaa.Cl

/- Draws: small sets, sets, sets spoilt. No claim is stated here. -/
set_option linter.unusedVariables false
set_option linter.unusedSimpArgs false
namespace Go.Proofs.Ytlcgclmobfdbcaa.Cl
open Go
section
variable {h : H} {o : Nat}
theorem ret_set {g : H} {p n : Nat} {l : List AVal} {u : Sl} {c : Int} {ts : List Tile} (P : Obj g p l) (hl : l.length = 2) (hp : h.length ≤ p) (hop : o < h.length) (r : Rd g u 4 (tcs ts)) (f : Fr n u) (hn : u.o ≠ some p) (s : Src g o) (ch : Chg (fun i => i = o ∨ h.length ≤ i) h g)
    {Q : List AVal → H → Prop} (hk : ∀ h', Rd h' u 4 (tcs ts) → Src h' o → Chg (fun i => i = o) h h' → Q (SetC c u) h') : stN ⟨some p, 2, 0⟩ 2 (SetC c u) g fun h6 => ldA ⟨some p, 2, 0⟩ 2 h6 fun cs => Q cs h6 := by
  refine P.stA (fun h6 o6 b6 n6 => ?_) hl
  refine o6.ldA rfl (hk h6 (r.but b6 (.inl fun e => hn e.symm)) (s.but b6 fun i e => by have := Option.some.inj e; omega) ?_)
  exact (ch.trans (b6.chg fun i e => .inr (by have := Option.some.inj e; omega))).to fun i hi e => by omega
theorem some_ne {i o : Nat} (h : i ≠ o) : some i ≠ some o := fun e => h (Option.some.inj e)
theorem Src.self {h' : H} {n : Nat} (r : Src h o) (b : But (some o) h h') : Chg (fun i => i = o ∨ n ≤ i) h h' := b.chg fun i e => .inl (Option.some.inj e).symm
theorem small_c (r : Src h o) : callA SP i_spec_l01Small [.ptr ⟨some o, 3, 0⟩] h fun cs h' => DrS h o cs h' := by
  have hlt := r.lt
  apply spec_l01Small_call
  unfold spec_l01Small_main
  refine newO_obj fun h1 o1 x1 n1 => ?_
  have r1 := r.ext x1
  refine (next_c r1 3).to ?_
  rintro a h2 ⟨ha, r2, b2, l2⟩
  have c2 : Chg (fun i => i = o ∨ h.length ≤ i) h h2 := (x1.chg _).trans (r1.self b2)
  have o2 := o1.but b2 (some_ne (by omega))
  refine bif_eq (fun _ => ?_) (fun _ => ?_)
  · refine names_c.to ?_
    rintro u h3 ⟨L, rL, hL, fu, x3⟩
    have hul := rL.len
    have r3 := r2.ext x3
    have hx3 := x3.len
    refine (next_c r3 _).to ?_
    rintro b h4 ⟨hb, r4, b4, l4⟩
    have hb2 := hb.2.1 (by omega)
    have rL4 : RdT h4 u L := ⟨rL.1.but b4 (by
      cases hq : u.o with
      | none => exact .inl (by simp)
      | some q => exact .inl fun e => by have := fu q hq; have := Option.some.inj e; omega), rL.2⟩
    refine rL4.ld hb.1 (by omega) fun t ht => ?_
    refine (named_c t).to ?_
    rintro _ h5 ⟨w, c, ts, f, rfl, rw', hw, fw, x5⟩
    refine ⟨_, rfl, _, rfl, _, rfl, _, rfl, ?_⟩
    refine newO_obj fun h6 o6 x6 n6 => ?_
    refine o6.stA fun h7 o7 b7 n7 => ?_
    have x57 : Ext h5 h7 := x6.but_ b7 (some_le (Nat.le_refl _))
    have hx5 := x5.len
    have hx57 := x57.len
    refine o7.ldA rfl ?_
    refine isPt_in (o7.ldI rfl rfl ?_)
    have hcol := hw.col
    have r7 := (r4.ext x5).ext x57
    refine (drawOrder_c r7 c hcol.1 (by omega)).to ?_
    rintro v h8 ⟨l, ov, hl, hlb, fv, r8, c8⟩
    have o8 := o7.chg c8 (by omega)
    refine ⟨(o8.rangeE rfl).trans (o7.rangeE rfl).symm, ?_⟩
    have hx8 := c8.1
    have rw8 := (rw'.ext x57).chg c8 fun i e => by have := fw i e; omega
    refine (renamed_c rw8 hw ov.rd hl hlb).to ?_
    rintro _ h9 ⟨z, ts', rfl, rz, hz, fz, x9⟩
    have C := ((((((c2.trans (x3.chg _)).trans (r3.self b4)).trans (x5.chg _)).trans (x57.chg _)).trans (c8.to fun i _ e => .inl e))).trans (x9.chg _)
    have o9 := ((((o2.ext x3).but b4 (some_ne (by omega))).ext (x5.trans x57)).chg c8 (by omega)).ext x9
    exact ret_set o9 rfl (Nat.le_refl _) hlt rz (fz.le (n := h8.length) (m := h.length) (by omega)) (fun e => by have := fz _ e; omega) (r8.ext x9) C fun h' a b c' => ⟨_, rfl, z, c, ts', rfl, a, hz, fz.le (by omega), b, c'⟩
  · refine pickN_c r2 (l := [1, 2, 2, 2, 3]) rfl rfl (by simp) fun a h3 ha r3 c3 => ?_
    refine pickN_c r3 (l := [3, 6, 9]) rfl rfl (by simp) fun b h4 hb r4 c4 => ?_
    refine (next_c r4 b).to ?_
    rintro n h5 ⟨hn, r5, b5, l5⟩
    have hn' := hn.le
    have ha' : 1 ≤ a ∧ a ≤ 3 := by simp at ha; omega
    have hb' : 3 ≤ b ∧ b ≤ 9 := by simp at hb; omega
    refine (drawOf_c r5 a n (by omega) (by omega)).to ?_
    rintro _ h6 ⟨u, ts, rfl, ru, hs, _, fu, r6, c6⟩
    have hx3 := c3.1
    have hx4 := c4.1
    have C := (((c2.trans (c3.to fun i _ e => .inl e)).trans (c4.to fun i _ e => .inl e)).trans (r4.self b5)).trans (c6.to fun i _ e => .inl e)
    have o6 := (((o2.chg c3 (by omega)).chg c4 (by omega)).but b5 (some_ne (by omega))).chg c6 (by omega)
    exact ret_set o6 rfl (Nat.le_refl _) hlt ru fu (fun e => by have := fu _ e; omega) r6 C fun h' a' b' c' => ⟨_, rfl, u, a, ts, rfl, a', .inl hs, fu.le (by omega), b', c'⟩
theorem setOK.dsT_app {c : Int} {ts : List Tile} (hs : setOK c ts) {t : Tile} (hl : ts.length ≤ 15) (ht : ∀ k, k < 4 → 0 ≤ sd t k ∧ sd t k < c) : setOK c (dsT (ts ++ [t])) := by
  have := dsT_len (ts ++ [t])
  rw [List.length_append, List.length_singleton] at this
  refine setOK_of hs.1.1 hs.1.2 (by omega) (pw_dsort ltT_sto _) fun x hx j hj => ?_
  rcases List.mem_append.1 (mem_dsort.1 hx) with h1 | h1
  · exact hs.ts.2 x h1 j hj
  · rw [List.mem_singleton] at h1; subst h1; exact ht j hj
theorem draw_c (r : Src h o) : callA SP i_spec_l01Draw [.ptr ⟨some o, 3, 0⟩] h fun cs h' => DrS h o cs h' := by
  have hlt := r.lt
  apply spec_l01Draw_call
  unfold spec_l01Draw_main
  refine newO_obj fun h1 o1 x1 n1 => ?_
  have r1 := r.ext x1
  refine (next_c r1 4).to ?_
  rintro a h2 ⟨ha, r2, b2, l2⟩
  have c2 : Chg (fun i => i = o ∨ h.length ≤ i) h h2 := (x1.chg _).trans (r1.self b2)
  have o2 := o1.but b2 (some_ne (by omega))
  have fin : ∀ {g : H} {cs : List AVal}, DrS h2 o cs g → ∃ u c, cs = SetC c u ∧ stN ⟨some h.length, 2, 0⟩ 2 (SetC c u) g fun h6 => ldA ⟨some h.length, 2, 0⟩ 2 h6 fun cs => ∃ cs', AVal.agg cs = AVal.agg cs' ∧ DrS h o cs' h6 := by
    rintro g cs ⟨u, c, ts, rfl, ru, hw, fu, rg, cg⟩
    refine ⟨u, c, rfl, ?_⟩
    exact ret_set (o2.chg cg (by omega)) rfl (Nat.le_refl _) hlt ru fu (fun e => by have := fu _ e; omega) rg (c2.trans (cg.to fun i _ e => .inl e)) fun h' a' b' c' => ⟨_, rfl, u, c, ts, rfl, a', hw, fu.le (by omega), b', c'⟩
  have sml : callA SP i_spec_l01Small [.ptr ⟨some o, 3, 0⟩] h2 fun cs5 h4 => stN ⟨some h.length, 2, 0⟩ 2 cs5 h4 fun h6 => ldA ⟨some h.length, 2, 0⟩ 2 h6 fun cs => ∃ cs', AVal.agg cs = AVal.agg cs' ∧ DrS h o cs' h6 := by
    refine (small_c r2).to ?_
    rintro cs g d
    obtain ⟨u, c, rfl, hk⟩ := fin d
    exact hk
  refine bif_eq (fun ea => ?_) (fun na => ?_)
  · refine bif_eq (fun _ => sml) (fun ne => absurd ea ne)
  refine bif_eq (fun ea => sml) (fun na1 => ?_)
  refine bif_eq (fun ea => ?_) (fun na2 => ?_)
  · refine pickN_c r2 (l := [2, 3, 4]) rfl rfl (by simp) fun c h3 hc r3 c3 => ?_
    refine (next_c r3 10).to ?_
    rintro n h4 ⟨hn, r4, b4, l4⟩
    have hn' := hn.2.1 (by omega)
    have hn0 := hn.1
    have hc' : 2 ≤ c ∧ c ≤ 4 := by simp at hc; omega
    refine (drawOf_c r4 c n (by omega) (by omega)).to ?_
    rintro _ h5 ⟨u, ts, rfl, ru, hs, hsl, fu, r5, c5⟩
    have hul := ru.tlen
    refine newO_obj fun h6 o6 x6 n6 => ?_
    refine o6.stA fun h7 o7 b7 n7 => ?_
    have x57 : Ext h5 h7 := x6.but_ b7 (some_le (Nat.le_refl _))
    have r7 := r5.ext x57
    have hx3 := c3.1
    have hx5 := c5.1
    refine isPt_in (o7.ldI rfl rfl ?_)
    refine (next_c r7 c).to ?_
    rintro x h8 ⟨hx, r8, b8, l8⟩
    have o8 := o7.but b8 (some_ne (by omega))
    refine isPt_in (o8.ldI rfl rfl ?_)
    refine ⟨(o7.cellE rfl).trans (o8.cellE rfl).symm, ?_⟩
    refine (next_c r8 c).to ?_
    rintro y h9 ⟨hy, r9, b9, l9⟩
    have o9 := o8.but b9 (some_ne (by omega))
    refine slotK_in fun g1 y1 m1 => ?_
    have p1 := o9.ext y1
    refine isPt_in (p1.ldI rfl rfl (isPt_in (p1.ldS rfl rfl ?_)))
    refine newSat_ow (by omega) (by rfl) fun s2 g2 q2 ll2 so2 bb2 m2 => ?_
    have p2 := p1.but bb2 (some_ne (by omega))
    refine ⟨(p2.cellE rfl).trans (p1.cellE rfl).symm, (p2.cellE rfl).trans (p1.cellE rfl).symm, ?_⟩
    have ru9 := ((ru.ext x57).but b8 (.inl fun e => by have := fu _ e.symm; omega)).but b9 (.inl fun e => by have := fu _ e.symm; omega)
    have ru2 := ru9.ext (y1.but_ bb2 (some_le (by omega)))
    refine app_ow (by omega) q2 ru2 (by rw [ll2, hul]; unfold lim; omega) fun s3 g3 q3 ll3 bb3 k3 k3' => ?_
    have so3 := k3 _ so2
    rw [so2] at bb3
    have p3 := p2.but bb3 (some_ne (by omega))
    refine ⟨(p3.cellE rfl).trans (p1.cellE rfl).symm, rfl, ?_⟩
    have hb3 := bb3.1
    refine newSat_ow (by omega) (by rfl) fun s4 g4 q4 ll4 so4 bb4 m4 => ?_
    have p4 := p3.but bb4 (some_ne (by omega))
    refine ⟨(p3.cellE rfl).trans (p1.cellE rfl).symm, (p4.cellE rfl).trans (p1.cellE rfl).symm, (p4.cellE rfl).trans (p1.cellE rfl).symm, ?_⟩
    have q34 := q3.but bb4 (.inl fun e => by rw [so3] at e; have := Option.some.inj e; omega)
    refine app_ow (by omega) q34 q4.rd (by rw [ll3, ll2, hul, ll4]; unfold lim; omega) fun s5 g5 q5 ll5 bb5 k5 k5' => ?_
    have so5 := k5 _ so3
    rw [so3] at bb5
    have p5 := p4.but bb5 (some_ne (by omega))
    refine ⟨(p5.cellE rfl).trans (p1.cellE rfl).symm, ?_⟩
    have e5 : ([] : List AVal) ++ tcs ts ++ spl [.int .i64 0, .int .i64 0, .int .i64 0, .int .i64 0] 0 4 [.int .i64 x, .int .i64 y, .int .i64 x, .int .i64 y] = tcs (ts ++ [(x, y, x, y)]) := by rw [tcs_app, tcs_one]; rfl
    have q5' : Ow g5 s5 4 (tcs (ts ++ [(x, y, x, y)])) := by rw [← e5]; exact q5
    have hts : ts.length ≤ 15 := by omega
    refine (l01Made_c (l := ts ++ [(x, y, x, y)]) q5'.rd (by rw [List.length_append, List.length_singleton]; omega) c).to ?_
    rintro _ g6 ⟨z, rfl, oz, fz, y6⟩
    have hxc := hx.2.1 (by omega)
    have hyc := hy.2.1 (by omega)
    have hx0 := hx.1
    have hy0 := hy.1
    have hset : setOK c (dsT (ts ++ [(x, y, x, y)])) := hs.dsT_app hts fun k hk => by
      have hk' : k = 0 ∨ k = 1 ∨ k = 2 ∨ k = 3 := by omega
      rcases hk' with rfl | rfl | rfl | rfl
      · exact ⟨hx0, hxc⟩
      · exact ⟨hy0, hyc⟩
      · exact ⟨hx0, hxc⟩
      · exact ⟨hy0, hyc⟩
    have hb5 := bb5.1
    have C : Chg (fun i => i = o ∨ h.length ≤ i) h g6 := ((((((((((c2.trans (c3.to fun i _ e => .inl e)).trans (r3.self b4)).trans (c5.to fun i _ e => .inl e)).trans (x57.chg _)).trans (r7.self b8)).trans (r8.self b9)).trans (y1.chg _)).trans (bb2.chg fun i e => .inr (by have := Option.some.inj e; omega))).trans (bb3.chg fun i e => .inr (by have := Option.some.inj e; omega))).trans ((bb4.chg fun i e => .inr (by have := Option.some.inj e; omega)).trans (bb5.chg fun i e => .inr (by have := Option.some.inj e; omega)))).trans (y6.chg _)
    have rs : Src g6 o := (((((r9.ext y1).but bb2 fun i e => by have := Option.some.inj e; omega).but bb3 fun i e => by have := Option.some.inj e; omega).but bb4 fun i e => by have := Option.some.inj e; omega).but bb5 fun i e => by have := Option.some.inj e; omega).ext y6
    have oo := (((((((((((o2.chg c3 (by omega)).but b4 (some_ne (by omega))).chg c5 (by omega)).ext x57).but b8 (some_ne (by omega))).but b9 (some_ne (by omega))).ext y1).but bb2 (some_ne (by omega))).but bb3 (some_ne (by omega))).but bb4 (some_ne (by omega))).but bb5 (some_ne (by omega))).ext y6
    exact ret_set oo rfl (Nat.le_refl _) hlt oz.rd fz (fun e => by have := fz _ e; omega) rs C fun h' a' b' c' => ⟨_, rfl, z, c, _, rfl, a', .inl hset, fz.le (by omega), b', c'⟩
  · refine (next_c r2 6).to ?_
    rintro c h3 ⟨hc, r3, b3, l3⟩
    have hc' := hc.2.1 (by omega)
    have hc0 := hc.1
    refine (next_c r3 17).to ?_
    rintro n h4 ⟨hn, r4, b4, l4⟩
    have hn' := hn.2.1 (by omega)
    rw [w64_of (by omega) (by omega)]
    refine (drawOf_c r4 (1 + c) n (by omega) (by omega)).to ?_
    rintro _ h5 ⟨u, ts, rfl, ru, hs, hsl, fu, r5, c5⟩
    have C := ((c2.trans (r2.self b3)).trans (r3.self b4)).trans (c5.to fun i _ e => .inl e)
    have o5 := ((o2.but b3 (some_ne (by omega))).but b4 (some_ne (by omega))).chg c5 (by omega)
    exact ret_set o5 rfl (Nat.le_refl _) hlt ru fu (fun e => by have := fu _ e; omega) r5 C fun h' a' b' c' => ⟨_, rfl, u, 1 + c, ts, rfl, a', .inl hs, fu.le (by omega), b', c'⟩
end
end Go.Proofs.Ytlcgclmobfdbcaa.Cl

/- Draws: sets that seldom are none. No claim is stated here. -/
set_option linter.unusedVariables false
set_option linter.unusedSimpArgs false
namespace Go.Proofs.Ytlcgclmobfdbcaa.Cl
open Go
theorem Rd.keep {h h' : H} {s : Sl} {z : Nat} {cs : List AVal} {P : Nat → Prop} (r : Rd h s z cs) (c : Chg (fun i => P i ∨ h.length ≤ i) h h') (hn : ∀ i, s.o = some i → ¬ P i) : Rd h' s z cs := by
  refine ⟨r.len, r.at_.imp id fun ⟨x, y, e⟩ => ⟨x, y, c.range e fun i hi => ?_⟩⟩
  obtain ⟨j, xs, hj, hc, _, _⟩ := range_some e
  have := cells_lt hc
  rw [hi] at hj
  have := Option.some.inj hj
  rintro (h1 | h1)
  · exact hn i hi h1
  · omega
/-- A set, or seldom none. -/
def DrB (n : Nat) (h : H) (o : Nat) (cs : List AVal) (h' : H) : Prop := ∃ u c ts, cs = SetC c u ∧ Rd h' u 4 (tcs ts) ∧ ts.length ≤ 17 ∧ Fr n u ∧ Src h' o ∧ Chg (fun i => i = o) h h'
section
variable {h : H} {o n : Nat} {u : Sl} {c : Int} {ts : List Tile}
theorem DrB.ret {g : H} {p : Nat} {l : List AVal} {w : Sl} {d : Int} {us : List Tile} (P : Obj g p l) (hl : l.length = 2) (hp : h.length ≤ p) (hop : o < h.length) (r : Rd g w 4 (tcs us)) (f : Fr n w) (hn : w.o ≠ some p) (s : Src g o) (ch : Chg (fun i => i = o ∨ h.length ≤ i) h g)
    (hu : us.length ≤ 17) : stN ⟨some p, 2, 0⟩ 2 (SetC d w) g fun h6 => ldA ⟨some p, 2, 0⟩ 2 h6 fun cs => ∃ cs', AVal.agg cs = AVal.agg cs' ∧ DrB n h o cs' h6 :=
  ret_set P hl hp hop r f hn s ch fun h' a b c' => ⟨_, rfl, w, d, us, rfl, a, hu, f, b, c'⟩
theorem bad_c (r : Src h o) (ru : Rd h u 4 (tcs ts)) (hw : WSet c ts) (fu : Fr n u) (hn : n ≤ h.length) (ho : o < n) : callA SP i_spec_l01Bad [.ptr ⟨some o, 3, 0⟩, .agg (SetC c u)] h fun cs h' => DrB n h o cs h' := by
  have hlt := r.lt
  have h16 := hw.len
  have hul := ru.tlen
  apply spec_l01Bad_call
  unfold spec_l01Bad_main
  refine newK_obj fun h1 a1 x1 n1 => ?_
  refine newO_obj fun h2 o2 x2 n2 => ?_
  refine newS_ow (by rfl) fun s h3 os ls so e3 => ?_
  have x3 : Ext h2 h3 := by rw [e3]; exact Ext.app _ _
  have n3 : h3.length = h2.length + 1 := by rw [e3]; simp
  have X3 := x1.trans (x2.trans x3)
  have a3 := a1.ext (x2.trans x3)
  have o3 := o2.ext x3
  refine isPt_in (a3.ldS rfl rfl ?_)
  refine app_ow (by omega) os (ru.ext X3) (by rw [ls, hul]; unfold lim; omega) fun s4 h4 os4 l4 b4 k4 _ => ?_
  have so4 := k4 _ so
  rw [so] at b4
  rw [List.nil_append] at os4
  have hb4 := b4.1
  have r4 := (r.ext X3).but b4 fun i e => by have := Option.some.inj e; omega
  have a4 := a3.but b4 (some_ne (by omega))
  have o4 := o3.but b4 (some_ne (by omega))
  have C4 : Chg (fun i => i = o ∨ h.length ≤ i) h h4 := (X3.chg _).trans (b4.chg fun i e => .inr (by have := Option.some.inj e; omega))
  refine (next_c r4 50).to ?_
  rintro x h5 ⟨hx, r5, b5, l5⟩
  have os5 := os4.but b5 (.inl fun e => by rw [so4] at e; have := Option.some.inj e; omega)
  have a5 := a4.but b5 (some_ne (by omega))
  have o5 := o4.but b5 (some_ne (by omega))
  have C5 := C4.trans (r4.self b5)
  have f4 : Fr n s4 := fun i e => by rw [so4] at e; have := Option.some.inj e; omega
  have hs4 := os5.rd.tlen
  have hp : h.length ≤ h1.length := by omega
  have ne4 : s4.o ≠ some h1.length := by rw [so4]; exact some_ne (by omega)
  refine bif_eq (fun _ => ?_) (fun _ => ?_)
  · refine pickN_c r5 (l := [0, 7, -1]) rfl rfl (by simp) fun a g1 ha r6 c6 => ?_
    exact DrB.ret (o5.chg c6 (by omega)) rfl hp hlt (os5.chg c6 fun i e => by rw [so4] at e; have := Option.some.inj e; omega).rd f4 ne4 r6 (C5.trans (c6.to fun i _ e => .inl e)) (by omega)
  refine bif_eq (fun _ => ?_) (fun _ => ?_)
  · refine isPt_in (a5.ldI rfl rfl ?_)
    refine newS_ow (by rfl) fun q g1 oq lq qo e1 => ?_
    have y1 : Ext h5 g1 := by rw [e1]; exact Ext.app _ _
    have m1 : g1.length = h5.length + 1 := by rw [e1]; simp
    have a6 := a5.ext y1
    refine ⟨(a6.cellE rfl).trans (a5.cellE rfl).symm, ?_⟩
    refine (pick_c (r5.ext y1) (l := [0, -1]) oq.rd (by rw [qo]; exact some_ne (by omega)) (by simp)).to ?_
    rintro a g2 ⟨ha, r6, b6, l6⟩
    have a7 := a6.but b6 (some_ne (by omega))
    refine ⟨(a7.cellE rfl).trans (a5.cellE rfl).symm, rfl, ?_⟩
    have os7 := (os5.ext y1).but b6 (.inl fun e => by rw [so4] at e; have := Option.some.inj e; omega)
    refine push_tc (t := (c, 0, 0, a)) os7 (by unfold lim; omega) fun s7 g3 os8 b7 hs7 l7 => ?_
    rw [so4] at b7
    have a8 := a7.but b7 (some_ne (by omega))
    refine isPt_in (a8.ldI rfl rfl ?_)
    have fr7 : ∀ i, s7.o = some i → i = h2.length ∨ g2.length ≤ i := fun i e => (hs7 i e).imp (fun e => by rw [so4] at e; exact (Option.some.inj e).symm) id
    exact DrB.ret (((o5.ext y1).but b6 (some_ne (by omega))).but b7 (some_ne (by omega))) rfl hp hlt os8.rd (fun i e => by have := fr7 i e; omega) (fun e => by have := fr7 _ e; omega) (r6.but b7 fun i e => by have := Option.some.inj e; omega) (((C5.trans (y1.chg _)).trans ((r5.ext y1).self b6)).trans (b7.chg fun i e => .inr (by have := Option.some.inj e; omega))) (by rw [List.length_append, List.length_singleton]; omega)
  refine bif_eq (fun _ => ?_) (fun _ => ?_)
  · refine isPt_in (a5.ldI rfl rfl ?_)
    refine (drawTile_c r5 c).to ?_
    rintro _ g2 ⟨t, rfl, ht, r6, c6⟩
    have hc6 := c6.1
    refine ⟨rfl, ?_⟩
    have a7 := a5.chg c6 (by omega)
    have os7 := os5.chg c6 fun i e => by rw [so4] at e; have := Option.some.inj e; omega
    refine push_tc (t := t) os7 (by unfold lim; omega) fun s7 g3 os8 b7 hs7 l7 => ?_
    rw [so4] at b7
    have a8 := a7.but b7 (some_ne (by omega))
    refine isPt_in (a8.ldI rfl rfl ?_)
    have fr7 : ∀ i, s7.o = some i → i = h2.length ∨ g2.length ≤ i := fun i e => (hs7 i e).imp (fun e => by rw [so4] at e; exact (Option.some.inj e).symm) id
    exact DrB.ret ((o5.chg c6 (by omega)).but b7 (some_ne (by omega))) rfl hp hlt os8.rd (fun i e => by have := fr7 i e; omega) (fun e => by have := fr7 _ e; omega) (r6.but b7 fun i e => by have := Option.some.inj e; omega) ((C5.trans (c6.to fun i _ e => .inl e)).trans (b7.chg fun i e => .inr (by have := Option.some.inj e; omega))) (by rw [List.length_append, List.length_singleton]; omega)
  refine bif_eq (fun _ => ?_) (fun _ => ?_)
  · refine bif_dec (fun h2l => ?_) (fun _ => ?_)
    · refine os5.rd.tileG (by omega) (by omega) ?_
      refine newO_obj fun g1 q1 y1 m1 => ?_
      refine q1.stA fun g2 q2 bb2 m2 => ?_
      have y12 := y1.but_ bb2 (some_le (Nat.le_refl _))
      have os6 := os5.ext y12
      refine os6.rd.tileG (by omega) (by omega) ?_
      refine os6.stA (by omega) (by omega) _ (tc_len _) fun g3 os7 b7 n7 => ?_
      rw [so4] at b7
      rw [show (0 : Int).toNat * 4 = 0 * 4 by rfl, tcs_set _ _ _ (by omega)] at os7
      refine (q2.but b7 (some_ne (by omega))).ldA rfl ?_
      refine os7.stA (by omega) (by omega) _ (tc_len _) fun g4 os8 b8 n8 => ?_
      rw [so4] at b8
      rw [show (1 : Int).toNat * 4 = 1 * 4 by rfl, tcs_set _ _ _ (by rw [List.length_set]; omega)] at os8
      have A := ((a5.ext y12).but b7 (some_ne (by omega))).but b8 (some_ne (by omega))
      refine isPt_in (A.ldI rfl rfl ?_)
      exact DrB.ret (((o5.ext y12).but b7 (some_ne (by omega))).but b8 (some_ne (by omega))) rfl hp hlt os8.rd f4 ne4 (((r5.ext y12).but b7 fun i e => by have := Option.some.inj e; omega).but b8 fun i e => by have := Option.some.inj e; omega) (((C5.trans (y12.chg _)).trans (b7.chg fun i e => .inr (by have := Option.some.inj e; omega))).trans (b8.chg fun i e => .inr (by have := Option.some.inj e; omega))) (by simp only [List.length_set]; omega)
    · refine isPt_in (a5.ldI rfl rfl ?_)
      exact DrB.ret o5 rfl hp hlt os5.rd f4 ne4 r5 C5 (by omega)
  · refine a5.ldA rfl ?_
    have rd5 := ru.keep (P := fun i => i = o) C5 fun i e => by have := fu i e; omega
    refine o5.stA (fun h6 o6 b6 n6 => ?_) rfl
    have C6 : Chg (fun i => i = o ∨ h.length ≤ i) h h6 := C5.trans (b6.chg fun i e => .inr (by have := Option.some.inj e; omega))
    exact o6.ldA rfl ⟨_, rfl, u, c, ts, rfl, ru.keep (P := fun i => i = o) C6 fun i e => (by have := fu i e; omega), (by omega), fu, r5.but b6 fun i e => (by have := Option.some.inj e; omega), C6.to fun i hi e => (by omega)⟩
theorem spoil_c (r : Src h o) : callA SP i_spec_l01Spoil [.ptr ⟨some o, 3, 0⟩] h fun cs h' => DrB h.length h o cs h' := by
  have hlt := r.lt
  apply spec_l01Spoil_call
  unfold spec_l01Spoil_main
  refine newO_obj fun h1 o1 x1 n1 => ?_
  refine (draw_c (r.ext x1)).to ?_
  rintro _ h2 ⟨u, c, ts, rfl, ru, hw, fu, r2, c2⟩
  have hc2 := c2.1
  refine (bad_c r2 ru hw fu hc2 (by omega)).to ?_
  rintro _ h3 ⟨w, d, us, rfl, rw', hus, fw, r3, c3⟩
  exact DrB.ret ((o1.chg c2 (by omega)).chg c3 (by omega)) rfl (Nat.le_refl _) hlt rw' (fw.le (by omega)) (fun e => by have := fw _ e; omega) r3 (((x1.chg _).trans (c2.to fun i _ e => .inl e)).trans (c3.to fun i _ e => .inl e)) hus
end
end Go.Proofs.Ytlcgclmobfdbcaa.Cl

/- Draws for stacks. No claim is stated here. -/
set_option linter.unusedVariables false
set_option linter.unusedSimpArgs false
namespace Go.Proofs.Ytlcgclmobfdbcaa.Cl
open Go
/-- A code that is not too long. -/
def CodeB (h : H) (s : Sl) (q : List Int) : Prop := Rd h s 1 (bc q) ∧ q.length ≤ 1000000 ∧ ∀ b ∈ q, 0 ≤ b ∧ b < 256
section
variable {h : H} {o : Nat}
theorem CodeB.ext {h h' : H} {s : Sl} {q : List Int} (r : CodeB h s q) (x : Ext h h') : CodeB h' s q := ⟨r.1.ext x, r.2⟩
theorem CodeB.from {s : Sl} {q : List Int} (r : CodeB h s q) : callP SP i_spec_l01From [.sl s] h fun p h' => p = ⟨some h.length, 3, 0⟩ ∧ Src h' h.length ∧ Ext h h' := by
  refine from_c r.1 ?_ r.2.1 r.2.2
  obtain hl | ⟨x, y, e⟩ := r.1.at_
  · exact .inl hl
  · refine .inr fun i hi => ?_
    obtain ⟨j, xs, hj, hc, _, _⟩ := range_some e
    rw [hi] at hj
    rw [Option.some.inj hj]
    exact cells_lt hc
theorem newboxS {u : Sl} {c : Int} {K : Pt → H → Prop} (hk : ∀ h', Obj h' h.length (SetC c u) → Ext h h' → h'.length = h.length + 1 → K ⟨some h.length, 2, 0⟩ h') :
    newO [.int .i64 0, .sl Sl.nil] h fun p h1 => stN p 2 (SetC c u) h1 fun h2 => K p h2 := by
  refine newO_obj fun h1 o1 x1 n1 => ?_
  refine o1.stA fun h2 o2 b2 n2 => ?_
  exact hk h2 o2 (x1.but_ b2 (some_le (Nat.le_refl _))) (by omega)
end
end Go.Proofs.Ytlcgclmobfdbcaa.Cl

/- Draws for lasting tiles; equal sets; kept tiles by their numbers; determined sets turned. No claim is stated here. -/
set_option linter.unusedVariables false
set_option linter.unusedSimpArgs false
namespace Go.Proofs.Ytlcgclmobfdbcaa.Cl
open Go
/-- A set, drawn. -/
def DrU (h : H) (cs : List AVal) (h' : H) : Prop := ∃ u c ts, cs = SetC c u ∧ Rd h' u 4 (tcs ts) ∧ ts.length ≤ 17 ∧ Ext h h'
/-- A set and a number, drawn. -/
def DrUN (h : H) (v : AVal) (h' : H) : Prop := ∃ u c ts n, v = .tuple [.agg (SetC c u), i64 n] ∧ Rd h' u 4 (tcs ts) ∧ ts.length ≤ 17 ∧ i64ok n ∧ Ext h h'
section
variable {h : H}
theorem DrawLastingTiles_c {s : Sl} {q : List Int} (r : CodeB h s q) : callA SP i_spec_DrawLastingTiles [.sl s] h (DrU h) := by
  apply spec_DrawLastingTiles_call
  unfold spec_DrawLastingTiles_main
  refine newO_obj fun h1 o1 x1 n1 => ?_
  refine (r.ext x1).from.to ?_
  rintro _ h2 ⟨rfl, r2, x2⟩
  refine (spoil_c r2).to ?_
  rintro _ h3 ⟨u, c, ts, rfl, ru, hl, fu, r3, c3⟩
  have hx2 := x2.len
  have hl2 := r2.lt
  refine ((o1.ext x2).chg c3 (by omega)).stA fun h4 o4 b4 n4 => ?_
  refine o4.ldA rfl ⟨_, rfl, u, c, ts, rfl, ru.but b4 (.inl fun e => by have := fu _ e.symm; omega), hl, ((x1.trans x2).chg_ c3 fun i e => by omega).but_ b4 (some_le (by omega))⟩
theorem DrawTrimSet_c {s : Sl} {q : List Int} (r : CodeB h s q) : callA SP i_spec_DrawTrimSet [.sl s] h (DrU h) := by
  apply spec_DrawTrimSet_call
  unfold spec_DrawTrimSet_main
  refine newO_obj fun h1 o1 x1 n1 => ?_
  refine (r.ext x1).from.to ?_
  rintro _ h2 ⟨rfl, r2, x2⟩
  refine (spoil_c r2).to ?_
  rintro _ h3 ⟨u, c, ts, rfl, ru, hl, fu, r3, c3⟩
  have hx2 := x2.len
  have hl2 := r2.lt
  refine ((o1.ext x2).chg c3 (by omega)).stA fun h4 o4 b4 n4 => ?_
  refine o4.ldA rfl ⟨_, rfl, u, c, ts, rfl, ru.but b4 (.inl fun e => by have := fu _ e.symm; omega), hl, ((x1.trans x2).chg_ c3 fun i e => by omega).but_ b4 (some_le (by omega))⟩
theorem DrawIsDetermined_c {s : Sl} {q : List Int} (r : CodeB h s q) : callV SP i_spec_DrawIsDetermined [.sl s] h (DrUN h) := by
  apply spec_DrawIsDetermined_call
  unfold spec_DrawIsDetermined_main
  refine newO_obj fun h1 o1 x1 n1 => ?_
  refine (r.ext x1).from.to ?_
  rintro _ h2 ⟨rfl, r2, x2⟩
  refine (spoil_c r2).to ?_
  rintro _ h3 ⟨u, c, ts, rfl, ru, hl, fu, r3, c3⟩
  have hx2 := x2.len
  have hl2 := r2.lt
  have hc3 := c3.1
  refine (next_c r3 4).to ?_
  rintro a h4 ⟨ha, r4, b4, n4⟩
  refine (next_c r4 24).to ?_
  rintro b h5 ⟨hb, r5, b5, n5⟩
  refine ⟨by decide, ?_⟩
  have ha1 := ha.1; have ha2 := ha.2.1 (by omega)
  have hb1 := hb.1; have hb2 := hb.2.1 (by omega)
  have C : Chg (fun i => i = h1.length) h3 h5 := (b4.chg fun i e => (Option.some.inj e).symm).trans (b5.chg fun i e => (Option.some.inj e).symm)
  refine (((o1.ext x2).chg c3 (by omega)).chg C (by omega)).stA fun h6 o6 b6 n6 => ?_
  have hd : 0 ≤ Int.tdiv b 23 ∧ Int.tdiv b 23 ≤ 24 := by
    rw [Int.tdiv_eq_ediv_of_nonneg hb1]; omega
  refine o6.ldA rfl ⟨u, c, ts, _, rfl, (ru.chg C fun i e => by have := fu i e; omega).but b6 (.inl fun e => by have := fu _ e.symm; omega), hl, ?_, (((x1.trans x2).chg_ c3 fun i e => by omega).chg_ C fun i e => by omega).but_ b6 (some_le (by omega))⟩
  rw [w64_of (n := Int.tdiv b 23) (by omega) (by omega), w64_of (n := Int.tdiv b 23 * 4) (by omega) (by omega), w64_of (by omega) (by omega)]
  unfold i64ok; omega
theorem set9_y {u w : Sl} {c : Int} {L : List Tile} (r : Rd h u 4 (tcs L)) (r' : Rd h w 4 (tcs L)) (hL : L.length ≤ 1000000) : callB SP i_laws_set9 [.agg (SetC c u), .agg (SetC c w)] h fun b h' => b = true ∧ Ext h h' := by
  have hul := r.tlen
  have hwl := r'.tlen
  apply laws_set9_call
  unfold laws_set9_main
  refine newK_obj fun h1 o1 x1 n1 => ?_
  refine newK_obj fun h2 o2 x2 n2 => ?_
  have p1 := o1.ext x2
  have X := x1.trans x2
  refine isPt_in (p1.ldI rfl rfl (isPt_in (o2.ldI rfl rfl ?_)))
  refine bif_ne (fun hq => absurd rfl hq) (fun _ => ?_)
  refine isPt_in (p1.ldS rfl rfl (isPt_in (o2.ldS rfl rfl ?_)))
  refine bif_ne (fun hq => absurd (by omega) hq) (fun _ => ?_)
  refine laws_set9_rule0 _ _ _ _ (fun i g => ∃ k : Nat, i = k ∧ k ≤ L.length ∧ h2 = g) (fun i _ => ((L.length : Int) - i).toNat) ?_ _ ⟨0, rfl, by omega, rfl⟩
  rintro X' _ _ ⟨k, rfl, hk, rfl⟩ hX
  unfold laws_set9_b0
  refine isPt_in (p1.ldS rfl rfl ?_)
  refine bif_dec (fun hi => ?_) (fun _ => ⟨_, rfl, rfl, X⟩)
  refine isPt_in (p1.ldS rfl rfl ?_)
  refine (r.ext X).tileG (by omega) (by omega) ?_
  refine isPt_in (o2.ldS rfl rfl ?_)
  refine (r'.ext X).tileG (by omega) (by omega) ?_
  refine eqA_tc ?_
  rw [decide_eq_true rfl]
  rw [w64_of (by omega) (by omega)]
  exact hX _ _ ⟨k + 1, by push_cast; rfl, by omega, rfl⟩ (by omega)
end
/-! ### kept tiles -/
section
variable {c : Int} {ts : List Tile}
theorem keep_take (hT : TS c ts) : ∀ k, k ≤ ts.length → (ts.take k).filter (lastB ts) = (lastL c ts k).map (tat ts)
  | 0, _ => by simp [lastL]
  | k + 1, hk => by
    have hkl : k < ts.length := hk
    have ih := keep_take hT k (by omega)
    have e : lastB ts ts[k] = lastT c ts k := by
      rw [Bool.eq_iff_iff, lastB_iff, lastT_iff hT hkl]
    rw [lastL_succ, List.take_succ_eq_append_getElem hkl, List.filter_append, ih]
    simp only [List.filter_cons, List.filter_nil, e]
    by_cases h : lastT c ts k = true
    · rw [if_pos h, if_pos h, List.map_append]; simp [tat_nat hkl]
    · rw [if_neg h, if_neg h, List.append_nil]
theorem keep_eq (hT : TS c ts) : kpL ts = (lastL c ts ts.length).map (tat ts) := by
  have := keep_take hT ts.length (Nat.le_refl _)
  rw [List.take_length] at this
  exact this
theorem kp_pos : 0 < (kpL ts).length ↔ ∃ t, LastP ts t := by
  rw [List.length_pos_iff_exists_mem]
  constructor
  · rintro ⟨t, ht⟩; exact ⟨t, lastB_iff.1 (List.mem_filter.1 ht).2⟩
  · rintro ⟨t, ht⟩; exact ⟨t, List.mem_filter.2 ⟨ht.mem, lastB_iff.2 ht⟩⟩
/-! ### determined sets -/
theorem det_iff (hp : ts.Pairwise ltT) (k : Nat) : detC ts k ↔ ∀ a b, a ∈ ts → b ∈ ts → a ≠ b → ¬ (sd a k = sd b k ∧ sd a ((k + 1) % 4) = sd b ((k + 1) % 4)) := by
  constructor
  · intro h a b ha hb hne hab
    obtain ⟨i, hi, rfl⟩ := List.getElem_of_mem ha
    obtain ⟨j, hj, rfl⟩ := List.getElem_of_mem hb
    rcases Nat.lt_trichotomy i j with hij | hij | hij
    · refine h j i hij hj ?_
      unfold alikeC
      rw [tat_nat hi, tat_nat hj]
      exact ⟨hab.1.symm, hab.2.symm⟩
    · subst hij; exact hne rfl
    · refine h i j hij hi ?_
      unfold alikeC
      rw [tat_nat hi, tat_nat hj]
      exact hab
  · intro h i j hji hi hab
    unfold alikeC at hab
    rw [tat_nat hi, tat_nat (show j < ts.length by omega)] at hab
    refine h _ _ (List.getElem_mem hi) (List.getElem_mem (show j < ts.length by omega)) (fun e => ?_) hab
    have := List.pairwise_iff_getElem.1 hp j i (by omega) hi hji
    rw [e] at this
    exact ltT_sto.irr _ this
theorem trd_sd2 (t : Tile) (k : Nat) (hk : k < 4) : sd (trd t) (((k + 1) % 4 + 1) % 4) = sd t ((k + 1) % 4) := by
  have hk' : k = 0 ∨ k = 1 ∨ k = 2 ∨ k = 3 := by omega
  rcases hk' with rfl | rfl | rfl | rfl <;> rfl
theorem det_turned (hs : setOK c ts) {k : Nat} (hk : k < 4) : detC (dsT (ts.map trd)) ((k + 1) % 4) ↔ detC ts k := by
  have hpw : (dsT (ts.map trd)).Pairwise ltT := pw_dsort ltT_sto _
  rw [det_iff hpw, det_iff hs.pw]
  constructor
  · intro h a b ha hb hne hab
    refine h (trd a) (trd b) (mem_dsort.2 (List.mem_map_of_mem ha)) (mem_dsort.2 (List.mem_map_of_mem hb)) (fun e => hne (trd_inj e)) ?_
    rw [trd_sd _ _ hk, trd_sd _ _ hk, trd_sd2 _ _ hk, trd_sd2 _ _ hk]
    exact hab
  · intro h a b ha hb hne hab
    obtain ⟨a', ha', rfl⟩ := List.mem_map.1 (mem_dsort.1 ha)
    obtain ⟨b', hb', rfl⟩ := List.mem_map.1 (mem_dsort.1 hb)
    rw [trd_sd _ _ hk, trd_sd _ _ hk, trd_sd2 _ _ hk, trd_sd2 _ _ hk] at hab
    exact h a' b' ha' hb' (fun e => hne (by rw [e])) hab
end
end Go.Proofs.Ytlcgclmobfdbcaa.Cl
