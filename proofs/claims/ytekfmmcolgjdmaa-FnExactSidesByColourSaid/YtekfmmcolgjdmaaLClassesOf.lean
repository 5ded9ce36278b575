/- The law FnExactClassesOf holds of the program's own text (clean machine). No claim is stated here. -/
import Derived.Test.YtekfmmcolgjdmaaLAreAlike
set_option linter.unusedVariables false
set_option linter.unusedSimpArgs false
set_option linter.unusedSectionVars false
namespace Go.Proofs.Ytekfmmcolgjdmaa.Cl
open Go
attribute [local simp] newK newO ixA ldI ldA stN st1 Cl.range cell Cl.cells putN put1 owned get_app get_app0 set_app set_app0 Pt.add splice Ext.app Ext.refl cutA isPt
def tileOf (c i : Int) : Tile := (i / (c * c * c), i / (c * c) % c, i / c % c, i % c)
def isCls (t : Tile) : Bool := t == cls t
def classesN (c : Int) (n : Nat) : List Tile := ((List.range n).map fun (i : Nat) => tileOf c i).filter isCls
theorem classesN_succ (c : Int) (n : Nat) : classesN c (n + 1) = classesN c n ++ (if isCls (tileOf c n) then [tileOf c n] else []) := by
  unfold classesN
  rw [List.range_succ, List.map_append, List.filter_append]
  congr 1
  simp only [List.map_cons, List.map_nil]
  cases h : isCls (tileOf c n) <;> simp [List.filter_cons, h]
theorem classesN_len (c : Int) (n : Nat) : (classesN c n).length ≤ n := by
  unfold classesN
  refine Nat.le_trans (List.length_filter_le _ _) (by simp)
section
variable {c i : Int} (h1 : 1 ≤ c) (h4 : c ≤ 4) (i0 : 0 ≤ i) (i1 : i < 256)
include h1 h4
theorem four_c : c = 1 ∨ c = 2 ∨ c = 3 ∨ c = 4 := by omega
theorem sq_c : w64 (c * c) = c * c ∧ w64 (c * c * c) = c * c * c ∧ w64 (c * c * c * c) = c * c * c * c ∧ 0 < c * c ∧ 0 < c * c * c ∧ 0 < c * c * c * c ∧ c * c * c * c ≤ 256 := by
  rcases four_c h1 h4 with rfl | rfl | rfl | rfl <;> decide
include i0 i1
theorem wdiv (b : Int) (hb : 0 < b) : w64 (Int.tdiv i b) = i / b ∧ 0 ≤ i / b ∧ i / b < 256 := by
  have a := Int.ediv_nonneg i0 (Int.le_of_lt hb)
  have d := Int.ediv_le_self b i0
  rw [Int.tdiv_eq_ediv_of_nonneg i0, w64_of (by omega) (by omega)]
  omega
theorem tile_spec : [AVal.int .i64 (w64 (Int.tdiv i (w64 ((w64 (c * c)) * c)))), .int .i64 (Int.tmod (w64 (Int.tdiv i (w64 (c * c)))) c), .int .i64 (Int.tmod (w64 (Int.tdiv i c)) c), .int .i64 (Int.tmod i c)] = tc (tileOf c i) := by
  obtain ⟨e2, e3, e4, p2, p3, p4, _⟩ := sq_c h1 h4
  rw [e2, e3]
  obtain ⟨a1, a2, a3⟩ := wdiv h1 h4 i0 i1 (c * c * c) p3
  obtain ⟨b1, b2, b3⟩ := wdiv h1 h4 i0 i1 (c * c) p2
  obtain ⟨d1, d2, d3⟩ := wdiv h1 h4 i0 i1 c (by omega)
  rw [a1, b1, d1, Int.tmod_eq_emod_of_nonneg b2, Int.tmod_eq_emod_of_nonneg d2, Int.tmod_eq_emod_of_nonneg i0]
  rfl
theorem tile_impl : [AVal.int .i64 (w64 (Int.tdiv (w64 (Int.tdiv (w64 (Int.tdiv i c)) c)) c)), .int .i64 (Int.tmod (w64 (Int.tdiv (w64 (Int.tdiv i c)) c)) c), .int .i64 (Int.tmod (w64 (Int.tdiv i c)) c), .int .i64 (Int.tmod i c)] = tc (tileOf c i) := by
  obtain ⟨d1, d2, d3⟩ := wdiv h1 h4 i0 i1 c (by omega)
  have dd : i / c / c = i / (c * c) := by rw [Int.ediv_ediv, if_neg (by omega), Int.sub_zero]
  obtain ⟨b1, b2, b3⟩ := wdiv h1 h4 d2 d3 c (by omega)
  have ddd : i / c / c / c = i / (c * c * c) := by rw [dd, Int.ediv_ediv, if_neg (by have := (sq_c h1 h4).2.2.2.1; omega), Int.sub_zero]
  obtain ⟨a1, a2, a3⟩ := wdiv h1 h4 b2 b3 c (by omega)
  rw [d1, b1, a1, Int.tmod_eq_emod_of_nonneg b2, Int.tmod_eq_emod_of_nonneg d2, Int.tmod_eq_emod_of_nonneg i0, ddd, dd]
  rfl
end
def classesOf (c : Int) : List Tile × Int := if 1 ≤ c ∧ c ≤ 4 then (classesN c (c * c * c * c).toNat, 0) else ([], 2)
theorem impl_ClassesOf_c (c : Int) (h : H) : callV SP i_impl_ClassesOf [i64 c] h fun v h' => ∃ s, v = .tuple [.sl s, i64 (classesOf c).2] ∧ Ow h' s 4 (tcs (classesOf c).1) ∧ Fr h.length s ∧ Ext h h' := by
  apply impl_ClassesOf_call
  unfold impl_ClassesOf_main
  refine (within_c _ _ _ _).to ?_
  rintro _ _ ⟨rfl, rfl⟩
  refine bif_not (fun hq => ?_) (fun hq => ?_)
  · have hq := of_decide_eq_false hq
    simp only [classesOf, hq]
    exact ⟨_, rfl, Ow.nil _ _, Fr.nil _, Ext.refl _⟩
  · have hq := of_decide_eq_true hq
    obtain ⟨c1, c4⟩ := hq
    obtain ⟨e2, e3, e4, p2, p3, p4, p5⟩ := sq_c c1 c4
    simp only [classesOf, c1, c4]
    refine newS_ow rfl fun s h1 ho hlen hso he => ?_
    rw [e2, e3, e4]
    refine impl_ClassesOf_rule0 _ _ c _ (fun s i h' => 0 ≤ i ∧ i ≤ c * c * c * c ∧ Ow h' s 4 (tcs (classesN c i.toNat)) ∧ s.o = some _ ∧ Ext _ h') (fun _ i _ => (c * c * c * c - i).toNat) ?_ _ _ ⟨by omega, by omega, ho, hso, by rw [he]; exact Ext.app _ _⟩
    rintro X s i h' ⟨i0, i1, o1, o2, x⟩ hX
    unfold impl_ClassesOf_b0 impl_ClassesOf_C0
    refine bif_dec (fun hi => ?_) (fun hi => ?_)
    · have cz : c ≠ 0 := by omega
      have ei : (i + 1).toNat = i.toNat + 1 := by omega
      have ci : ((i.toNat : Nat) : Int) = i := by omega
      have hs := classesN_succ c i.toNat
      rw [ci] at hs
      have hl := classesN_len c i.toNat
      have hsl := o1.len
      rw [tcs_len] at hsl
      refine ⟨cz, cz, cz, cz, cz, cz, cz, cz, cz, ?_⟩
      rw [tile_impl c1 c4 i0 (by omega)]
      simp only [newO]
      refine st_own (k := 4) (cs := [.int .i64 0, .int .i64 0, .int .i64 0, .int .i64 0]) (by simp) rfl rfl fun b2 g2 => ?_
      have x2 := (Ext.app h' [AObj.own [.int .i64 0, .int .i64 0, .int .i64 0, .int .i64 0]]).but_ b2 (some_le (Nat.le_refl _))
      revert b2 g2 x2
      generalize List.set (h' ++ [AObj.own [.int .i64 0, .int .i64 0, .int .i64 0, .int .i64 0]]) h'.length (AObj.own (tc (tileOf c i))) = h2
      intro b2 g2 x2
      refine ld_own g2 rfl (ld_own g2 rfl ((class_c _ h2).to ?_))
      rintro _ h3 ⟨rfl, x3⟩
      have g3 := x3.own g2
      refine ⟨by simp [g2, g3], eqA_tc _ _ (bif_b (fun hq => ?_) (fun hq => ?_))⟩
      · refine ld_own g3 rfl ⟨rfl, newS_ow rfl fun sx hx ox lx sox hex => ?_⟩
        have x4 : Ext h3 hx := hex ▸ Ext.app _ _
        have x24 := x2.trans (x3.trans x4)
        refine app_ow (by omega) (o1.ext x24) ox.rd (by rw [lx]; unfold lim; omega) fun s2 h5 oo ll bb rr _ => ?_
        rw [w64_of (by omega) (by omega)]
        refine hX _ _ _ ⟨by omega, by omega, ?_, rr _ o2, (x.trans x24).but_ bb (by rw [o2]; exact some_le (by simp))⟩ (by omega)
        rw [ei, hs, show isCls (tileOf c i) = true from hq, if_pos rfl, tcs_app, tcs_one]
        exact oo
      · rw [w64_of (by omega) (by omega)]
        refine hX _ _ _ ⟨by omega, by omega, ?_, o2, x.trans (x2.trans x3)⟩ (by omega)
        rw [ei, hs, show isCls (tileOf c i) = false from hq, if_neg (by simp), List.append_nil]
        exact o1.ext (x2.trans x3)
    · have : i = c * c * c * c := by omega
      subst this
      exact ⟨_, rfl, o1, fun o e => by rw [o2] at e; cases e; simp, x⟩
theorem spec_ClassesOf_c (c : Int) (h : H) : callV SP i_spec_ClassesOf [i64 c] h fun v h' => ∃ s, v = .tuple [.sl s, i64 (classesOf c).2] ∧ Ow h' s 4 (tcs (classesOf c).1) ∧ Fr h.length s ∧ Ext h h' := by
  apply spec_ClassesOf_call
  unfold spec_ClassesOf_main
  refine (l01In_c _ _ _ _).to ?_
  rintro _ _ ⟨rfl, rfl⟩
  refine bif_not (fun hq => ?_) (fun hq => ?_)
  · have hq := of_decide_eq_false hq
    simp only [classesOf, hq]
    exact ⟨_, rfl, Ow.nil _ _, Fr.nil _, Ext.refl _⟩
  · have hq := of_decide_eq_true hq
    obtain ⟨c1, c4⟩ := hq
    obtain ⟨e2, e3, e4, p2, p3, p4, p5⟩ := sq_c c1 c4
    simp only [classesOf, c1, c4]
    refine newS_ow rfl fun s h1 ho hlen hso he => ?_
    refine spec_ClassesOf_rule0 _ _ c (fun s i h' => 0 ≤ i ∧ i ≤ c * c * c * c ∧ Ow h' s 4 (tcs (classesN c i.toNat)) ∧ s.o = some _ ∧ Ext _ h') (fun _ i _ => (c * c * c * c - i).toNat) ?_ _ _ ⟨by omega, by omega, ho, hso, by rw [he]; exact Ext.app _ _⟩
    rintro X s i h' ⟨i0, i1, o1, o2, x⟩ hX
    unfold spec_ClassesOf_b0 spec_ClassesOf_C0
    refine bif_dec (fun hi => ?_) (fun hi => ?_)
    · rw [e2, e3, e4] at hi
      have cz : c ≠ 0 := by omega
      have ei : (i + 1).toNat = i.toNat + 1 := by omega
      have ci : ((i.toNat : Nat) : Int) = i := by omega
      have hs := classesN_succ c i.toNat
      rw [ci] at hs
      have hl := classesN_len c i.toNat
      have hsl := o1.len
      rw [tcs_len] at hsl
      refine ⟨by rw [e2, e3]; omega, by rw [e2]; omega, cz, cz, cz, cz, ?_⟩
      rw [tile_spec c1 c4 i0 (by omega)]
      simp only [newO]
      refine st_own (k := 4) (cs := [.int .i64 0, .int .i64 0, .int .i64 0, .int .i64 0]) (by simp) rfl rfl fun b2 g2 => ?_
      have x2 := (Ext.app h' [AObj.own [.int .i64 0, .int .i64 0, .int .i64 0, .int .i64 0]]).but_ b2 (some_le (Nat.le_refl _))
      revert b2 g2 x2
      generalize List.set (h' ++ [AObj.own [.int .i64 0, .int .i64 0, .int .i64 0, .int .i64 0]]) h'.length (AObj.own (tc (tileOf c i))) = h2
      intro b2 g2 x2
      refine ld_own g2 rfl ((l07Class_c _ h2).to ?_)
      rintro _ h3 ⟨rfl, x3⟩
      have g3 := x3.own g2
      refine ld_own g3 rfl ⟨by simp [g2, g3], eqA_tc _ _ (bif_b (fun hq => ?_) (fun hq => ?_))⟩
      · refine ld_own g3 rfl ⟨rfl, newS_ow rfl fun sx hx ox lx sox hex => ?_⟩
        have x4 : Ext h3 hx := hex ▸ Ext.app _ _
        have x24 := x2.trans (x3.trans x4)
        refine app_ow (by omega) (o1.ext x24) ox.rd (by rw [lx]; unfold lim; omega) fun s2 h5 oo ll bb rr _ => ?_
        rw [w64_of (by omega) (by omega)]
        refine hX _ _ _ ⟨by omega, by omega, ?_, rr _ o2, (x.trans x24).but_ bb (by rw [o2]; exact some_le (by simp))⟩ (by omega)
        rw [ei, hs, show isCls (tileOf c i) = true from (BEq.comm.trans hq), if_pos rfl, tcs_app, tcs_one]
        exact oo
      · rw [w64_of (by omega) (by omega)]
        refine hX _ _ _ ⟨by omega, by omega, ?_, o2, x.trans (x2.trans x3)⟩ (by omega)
        rw [ei, hs, show isCls (tileOf c i) = false from (BEq.comm.trans hq), if_neg (by simp), List.append_nil]
        exact o1.ext (x2.trans x3)
    · rw [e2, e3, e4] at hi
      have : i = c * c * c * c := by omega
      subst this
      exact ⟨_, rfl, o1, fun o e => by rw [o2] at e; cases e; simp, x⟩
theorem classesOf_len (c : Int) : (classesOf c).1.length ≤ 256 := by
  unfold classesOf
  split
  · next hc =>
    have := classesN_len c (c * c * c * c).toNat
    have := (sq_c hc.1 hc.2).2.2.2.2.2.2
    show (classesN c (c * c * c * c).toNat).length ≤ 256
    omega
  · simp
theorem tcs_ic (l : List Tile) : tcs l = ic (l.map tl).flatten := by unfold ic tcs; rw [List.map_flatten, List.map_map]; rfl
theorem law_ClassesOf (c : Int) (h : H) : callB SP i_laws_FnExactClassesOf [i64 c] h fun b h' => b = true := by
  apply laws_FnExactClassesOf_call
  unfold laws_FnExactClassesOf_main
  have hlen := classesOf_len c
  refine (spec_ClassesOf_c c h).to ?_
  rintro _ g2 ⟨w, rfl, ow, fw, x2⟩
  refine ⟨_, rfl, _, rfl, _, rfl, _, rfl, ?_⟩
  refine (impl_ClassesOf_c c g2).to ?_
  rintro _ g4 ⟨s, rfl, os, fs, x4⟩
  refine ⟨_, rfl, _, rfl, _, rfl, _, rfl, ?_⟩
  refine (eqTileS_c os.rd (ow.ext x4).rd (by omega)).to ?_
  rintro _ g5 ⟨rfl, x5⟩
  refine bif_not (fun hq => by simp at hq) (fun _ => bif_ne (fun hq => absurd rfl hq) (fun _ => ?_))
  have os5 := os.ext x5
  have hsl : s.len ≤ 256 := by have := os.rd.tlen; omega
  have hsep : s.o ≠ w.o ∨ s.o = none := by
    cases hs : s.o with
    | none => exact .inr rfl
    | some o =>
      refine .inl fun e => ?_
      have h1 := fs o hs
      have h2 := ow.lt e.symm
      omega
  rw [tcs_ic] at os5
  refine (markTileS_c os5 (by omega)).to ?_
  rintro _ g6 ⟨rfl, o6, b6, n6⟩
  refine (heldTileS_c o6.rd (by omega)).to ?_
  rintro _ _ ⟨rfl, rfl⟩
  refine bif_dec (fun hq => by omega) (fun _ => bif_ne (fun hq => absurd rfl hq) (fun _ => ?_))
  refine (impl_ClassesOf_c c _).to ?_
  rintro _ g8 ⟨s', rfl, os', fs', x8⟩
  refine ⟨_, rfl, _, rfl, _, rfl, _, rfl, ?_⟩
  have ow8 := ((ow.ext (x4.trans x5)).but b6 hsep).ext x8
  refine (eqTileS_c os'.rd ow8.rd (by omega)).to ?_
  rintro _ g9 ⟨rfl, x9⟩
  refine bif_not (fun hq => by simp at hq) (fun _ => bif_ne (fun hq => absurd rfl hq) (fun _ => ?_))
  refine (heldTileS_c (o6.ext (x8.trans x9)).rd (by omega)).to ?_
  rintro _ _ ⟨rfl, rfl⟩
  exact bif_dec (fun hq => by omega) (fun _ => bif_ne (fun hq => absurd rfl hq) (fun _ => ⟨_, rfl, rfl⟩))
set_option maxRecDepth 100000 in
theorem law_ClassesOf_in (h : H) (xs : List AVal) (hl : xs.length = Try.f8.params.toList.length) (ha : ∀ (i : Nat) t a, Try.f8.params.toList[i]? = some t → xs[i]? = some a → ArgIs Try.prog h t a) : callB (Sat Try.prog) 8 xs h fun b _ => b = true := by
  rw [show Try.f8.params.toList.length = 1 by kernel_rfl] at hl
  obtain ⟨a, rfl⟩ := List.length_eq_one_iff.1 hl
  obtain ⟨c, pd, d, rfl⟩ := ha 0 2 a (by kernel_rfl) rfl
  obtain ⟨n, rfl, _⟩ := den_int (k := .i64) (by kernel_rfl) d
  refine (show callB _ _ [argV Try.prog 2 [.int .i64 n]] _ _ from ?_)
  rw [show argV Try.prog 2 [.int .i64 n] = .int .i64 n by kernel_rfl]
  exact law_ClassesOf n h
end Go.Proofs.Ytekfmmcolgjdmaa.Cl
