/- Contracts of functions, joined. No claim is stated here. -/
import Derived.Test.YtlbglfgienklfaaFb0
import Derived.Test.YtlbglfgienklfaaFa2
/- Marks of a view of the first part of an object. No claim is stated here. -/
set_option linter.unusedVariables false
set_option linter.unusedSimpArgs false
namespace Go.Proofs.Ytlbglfgienklfaa.Cl
open Go
theorem Pre.st1 {h : H} {s : Sl} {z : Nat} {l : List Int} (r : Pre h s z (ic l)) {i j : Int} (hz : 0 < z) (h0 : 0 ≤ i) (h1 : i < s.len) (j0 : 0 ≤ j) (j1 : j < z) (x : Int) {K : H → Prop}
    (hk : ∀ h', Pre h' s z (ic (l.set (i.toNat * z + j.toNat) x)) → But s.o h h' → h'.length = h.length → K h') : ixS s z i fun p => ixA p z 1 j fun q => Cl.st1 q (i64 x) h K := by
  obtain ⟨a, b⟩ | ⟨o, xs, m, a, b, c, d, e, f, g, k⟩ := r.at_
  · omega
  · have hlen := r.len
    rw [ic_len] at hlen
    have hb : i.toNat * z + j.toNat < s.len * z := by
      have : (i.toNat + 1) * z ≤ s.len * z := Nat.mul_le_mul_right _ (by omega)
      rw [Nat.add_mul] at this; omega
    have hm : s.len * z ≤ m * z := Nat.mul_le_mul_right _ f
    have ho : o < h.length := (List.getElem?_eq_some_iff.1 g).1
    refine ⟨⟨h0, h1⟩, b, by simp [a], ⟨j0, j1⟩, by simp [Pt.add, a], h.set o (.own (xs.set (i.toNat * z + j.toNat) (i64 x))), ?_, hk _ ⟨by rw [ic_len]; simpa using hlen, .inr ⟨o, xs.set (i.toNat * z + j.toNat) (i64 x), m, a, b, c, d, by rw [List.length_set]; exact e, f, by simp [ho], ?_⟩⟩ ?_ (by simp)⟩
    · unfold put1 owned Pt.add
      simp [a, c, d, e, g]
      omega
    · rw [List.take_set, k]
      unfold ic
      rw [List.map_set]
    · rw [a]
      exact ⟨by simp, fun k hk hn => by rw [List.getElem?_set, if_neg (fun e => hn (by rw [e]))]⟩
theorem markTileS_P {h0 : H} {s : Sl} {l : List Int} (r : Pre h0 s 4 (ic l)) (k0 : Int) (hk0 : 0 ≤ k0) (hk1 : k0 ≤ 1000000000000000000) (hl : s.len < 1000000000000000000) : callI SP .i64 i_laws_markTileS [.sl s, i64 k0] h0 fun n h' => n = k0 + 4 * s.len ∧ Pre h' s 4 (ic (upto k0 (s.len * 4))) ∧ But s.o h0 h' ∧ h'.length = h0.length := by
  have hlen := r.len
  rw [ic_len] at hlen
  apply laws_markTileS_call
  unfold laws_markTileS_main
  refine laws_markTileS_rule0 _ _ _ (fun k i h => 0 ≤ i ∧ i ≤ s.len ∧ k = k0 + 4 * i ∧ ∃ l', Pre h s 4 (ic l') ∧ (∀ j : Nat, j < i.toNat * 4 → l'[j]? = some (k0 + (j : Int))) ∧ But s.o h0 h ∧ h.length = h0.length) (fun k i _ => (s.len - i).toNat) ?_ _ _ ⟨by omega, by omega, by omega, l, r, fun j hj => by omega, But.refl _ _, rfl⟩
  rintro X k i h ⟨i0, i1, rfl, l1, o1, e1, b1, n1⟩ hX
  unfold laws_markTileS_b0 laws_markTileS_C0
  refine bif_dec (fun hi => ?_) (fun hi => ?_)
  · refine laws_markTileS_rule2 _ _ X s i (fun k j h => 0 ≤ j ∧ j ≤ 4 ∧ k = k0 + 4 * i + j ∧ ∃ l', Pre h s 4 (ic l') ∧ (∀ j2 : Nat, j2 < i.toNat * 4 + j.toNat → l'[j2]? = some (k0 + (j2 : Int))) ∧ But s.o h0 h ∧ h.length = h0.length) (fun k j _ => (4 - j).toNat) ?_ _ _ ⟨by omega, by omega, by omega, l1, o1, fun j hj => e1 j (by omega), b1, n1⟩
    rintro Y k j h' ⟨j0, j1, rfl, l2, o2, e2, b2, n2⟩ hY
    unfold laws_markTileS_b2 laws_markTileS_C2 laws_markTileS_C1
    refine bif_dec (fun hj => ?_) (fun hj => ?_)
    · refine o2.st1 (by omega) i0 hi j0 hj _ fun h3 o3 b3 n3 => ?_
      rw [w64_of (by omega) (by omega), w64_of (by omega) (by omega)]
      refine hY _ _ _ ⟨by omega, by omega, by omega, _, o3, fun j2 hj2 => ?_, b2.trans b3, by omega⟩ (by omega)
      have hl2 := o2.len
      rw [ic_len] at hl2
      rw [List.getElem?_set]
      split
      · next e =>
        rw [if_pos (by omega)]
        congr 1; omega
      · exact e2 j2 (by omega)
    · rw [w64_of (by omega) (by omega)]
      have : j = 4 := by omega
      subst this
      refine hX _ _ _ ⟨by omega, by omega, by omega, l2, o2, fun j hj => e2 j (by omega), b2, n2⟩ (by omega)
  · have : i = s.len := by omega
    subst this
    refine ⟨_, rfl, by omega, ?_, b1, n1⟩
    have : l1 = upto k0 (s.len * 4) := by
      have hl1 := o1.len
      rw [ic_len] at hl1
      apply List.ext_getElem?
      intro j
      by_cases hj : j < s.len * 4
      · rw [e1 j (by omega), upto_at _ _ _ hj]
      · rw [List.getElem?_eq_none (by omega), List.getElem?_eq_none (by rw [upto_len]; omega)]
    rw [← this]; exact o1
theorem markSet_P {h0 : H} {c : Int} {s : Sl} {l : List Int} (r : Pre h0 s 4 (ic l)) (k0 : Int) (hk0 : 0 ≤ k0) (hk1 : k0 ≤ 1000000000000000000) (hl : s.len < 1000000000000000000) : callI SP .i64 i_laws_markSet [.agg (SetC c s), i64 k0] h0 fun n h' => n = k0 + 4 * s.len ∧ Pre h' s 4 (ic (upto k0 (s.len * 4))) ∧ Chg (fun i => s.o = some i) h0 h' := by
  apply laws_markSet_call
  unfold laws_markSet_main
  refine newK_obj fun h1 o1 x1 n1 => ?_
  refine isPt_in (o1.ldS rfl rfl ?_)
  refine (markTileS_P (r.ext x1) k0 hk0 hk1 hl).to ?_
  rintro _ h2 ⟨rfl, o2, b2, n2⟩
  exact ⟨_, rfl, rfl, o2, (x1.chg _).trans (b2.chg fun i e => e)⟩
theorem Obj.sameR {h h' : H} {o : Nat} {cs : List AVal} (x : Obj h o cs) (y : Obj h' o cs) {n : Nat} (hn : cs.length = n) : Cl.range h (some o) n 0 n = Cl.range h' (some o) n 0 n := (x.rangeE hn).trans (y.rangeE hn).symm
theorem StackSets_small0 {c d : Int} {S T : List Tile} : (F_StackSets_0 c S d T).2.length < 1000000 := by
  unfold F_StackSets_0
  split
  · unfold stkF
    split
    · next h => have := h.2; show (dsT (stkT S T)).length < 1000000; omega
    · show ([] : List Tile).length < 1000000; simp
  · show ([] : List Tile).length < 1000000; simp
end Go.Proofs.Ytlbglfgienklfaa.Cl

/- What the arguments of a law are. No claim is stated here. -/
set_option linter.unusedVariables false
set_option linter.unusedSimpArgs false
namespace Go.Proofs.Ytlbglfgienklfaa.Cl
open Go
theorem den_int {P : Program} {h : H} {t : TypeId} {xs : List AVal} {pd : PD} {k : IntKind} (hu : P.underlying t = some (.int k)) (d : Den P h t xs pd) : ∃ n, xs = [.int k n] ∧ (Lit.int k n).wf = true := by
  cases d with
  | int a b => rw [hu] at a; cases a; exact ⟨_, rfl, b⟩
  | bool a => rw [hu] at a; cases a
  | arr a => rw [hu] at a; cases a
  | struct a => rw [hu] at a; cases a
  | sl a => rw [hu] at a; cases a
theorem den_tile {P : Program} {h : H} {t e : TypeId} {xs : List AVal} {pd : PD} (hu : P.underlying t = some (.array 4 e)) (he : P.underlying e = some (.int .i64)) (d : Den P h t xs pd) : ∃ t : Tile, xs = tc t := by
  cases d with
  | int a b => rw [hu] at a; cases a
  | bool a => rw [hu] at a; cases a
  | @arr t n e' ass ds a b c d =>
    rw [hu] at a; cases a
    match ass, ds, b, c, d with
    | [a0, a1, a2, a3], [d0, d1, d2, d3], _, _, d =>
      obtain ⟨n0, rfl, _⟩ := den_int he (d 0 a0 d0 rfl rfl)
      obtain ⟨n1, rfl, _⟩ := den_int he (d 1 a1 d1 rfl rfl)
      obtain ⟨n2, rfl, _⟩ := den_int he (d 2 a2 d2 rfl rfl)
      obtain ⟨n3, rfl, _⟩ := den_int he (d 3 a3 d3 rfl rfl)
      exact ⟨(n0, n1, n2, n3), rfl⟩
  | struct a => rw [hu] at a; cases a
  | sl a => rw [hu] at a; cases a
theorem den_sl {P : Program} {h : H} {t e : TypeId} {xs : List AVal} {pd : PD} (hu : P.underlying t = some (.slice e)) (d : Den P h t xs pd) : ∃ (s : Sl) (ass : List (List AVal)) (ds : List PD), xs = [.sl s] ∧ ass.length = s.len ∧ ds.length = s.len ∧ s.len ≤ maxLen ∧ Rd h s (P.cellsOf e) ass.flatten ∧ ∀ (i : Nat) a d, ass[i]? = some a → ds[i]? = some d → Den P h e a d := by
  cases d with
  | int a b => rw [hu] at a; cases a
  | bool a => rw [hu] at a; cases a
  | arr a => rw [hu] at a; cases a
  | struct a => rw [hu] at a; cases a
  | sl a b c d e f => rw [hu] at a; cases a; exact ⟨_, _, _, rfl, b, c, d, e, f⟩
theorem all_tiles {P : Program} {h : H} {t e : TypeId} (hu : P.underlying t = some (.array 4 e)) (he : P.underlying e = some (.int .i64)) : ∀ (ass : List (List AVal)) (ds : List PD), ass.length = ds.length → (∀ (i : Nat) a d, ass[i]? = some a → ds[i]? = some d → Den P h t a d) → ∃ ts : List Tile, ass.flatten = tcs ts
  | [], _, _, _ => ⟨[], rfl⟩
  | a :: ass, [], h, _ => by simp at h
  | a :: ass, d :: ds, hl, hd => by
    obtain ⟨t, rfl⟩ := den_tile hu he (hd 0 a d rfl rfl)
    obtain ⟨ts, e⟩ := all_tiles hu he ass ds (by simpa using hl) (fun i a d x y => hd (i + 1) a d (by simpa using x) (by simpa using y))
    exact ⟨t :: ts, by rw [List.flatten_cons, e, tcs_cons]⟩
theorem arg_tiles {P : Program} {h : H} {t u e : TypeId} {xs : List AVal} {pd : PD} (ht : P.underlying t = some (.slice u)) (hu : P.underlying u = some (.array 4 e)) (he : P.underlying e = some (.int .i64)) (hc : P.cellsOf u = 4) (d : Den P h t xs pd) : ∃ (s : Sl) (ts : List Tile), xs = [.sl s] ∧ Rd h s 4 (tcs ts) ∧ s.len ≤ 9223372036854775807 := by
  obtain ⟨s, ass, ds, rfl, l1, l2, l3, r, hd⟩ := den_sl ht d
  obtain ⟨ts, e⟩ := all_tiles hu he ass ds (by omega) hd
  rw [hc, e] at r
  exact ⟨s, ts, rfl, r, by unfold maxLen at l3; omega⟩
theorem sep_of {n : Nat} {s w : Sl} {g : H} {z : Nat} {cs : List AVal} (f : Fr n s) (r : Ow g w z cs) (h : g.length ≤ n) : s.o ≠ w.o ∨ s.o = none := by
  cases hs : s.o with
  | none => exact .inr rfl
  | some o =>
    refine .inl fun e => ?_
    have h1 := f o hs
    have h2 := r.lt e.symm
    omega
theorem all_ints {P : Program} {h : H} {t : TypeId} (ht : P.underlying t = some (.int .i64)) : ∀ (ass : List (List AVal)) (ds : List PD), ass.length = ds.length → (∀ (i : Nat) a d, ass[i]? = some a → ds[i]? = some d → Den P h t a d) → ∃ l : List Int, ass.flatten = ic l
  | [], _, _, _ => ⟨[], rfl⟩
  | a :: ass, [], h, _ => by simp at h
  | a :: ass, d :: ds, hl, hd => by
    obtain ⟨n, rfl, _⟩ := den_int ht (hd 0 a d rfl rfl)
    obtain ⟨l, e⟩ := all_ints ht ass ds (by simpa using hl) (fun i a d x y => hd (i + 1) a d (by simpa using x) (by simpa using y))
    exact ⟨n :: l, by rw [List.flatten_cons, e, ic_cons]; rfl⟩
theorem arg_ints {P : Program} {h : H} {t u : TypeId} {xs : List AVal} {pd : PD} (ht : P.underlying t = some (.slice u)) (hu : P.underlying u = some (.int .i64)) (hc : P.cellsOf u = 1) (d : Den P h t xs pd) : ∃ (s : Sl) (l : List Int), xs = [.sl s] ∧ Rd h s 1 (ic l) ∧ s.len ≤ 9223372036854775807 := by
  obtain ⟨s, ass, ds, rfl, l1, l2, l3, r, hd⟩ := den_sl ht d
  obtain ⟨l, e⟩ := all_ints hu ass ds (by omega) hd
  rw [hc, e] at r
  exact ⟨s, l, rfl, r, by unfold maxLen at l3; omega⟩
theorem all_rows {P : Program} {h : H} {t u : TypeId} (ht : P.underlying t = some (.slice u)) (hu : P.underlying u = some (.int .i64)) (hc : P.cellsOf u = 1) : ∀ (ass : List (List AVal)) (ds : List PD), ass.length = ds.length → (∀ (i : Nat) a d, ass[i]? = some a → ds[i]? = some d → Den P h t a d) →
    ∃ (vs : List Sl) (ls : List (List Int)), ass.flatten = vs.map .sl ∧ vs.length = ass.length ∧ ls.length = ass.length ∧ (∀ (i : Nat) v l, vs[i]? = some v → ls[i]? = some l → Rd h v 1 (ic l)) ∧ ∀ l ∈ ls, l.length ≤ 9223372036854775807
  | [], _, _, _ => ⟨[], [], rfl, rfl, rfl, fun i v l h => by simp at h, fun l h => by simp at h⟩
  | a :: ass, [], h, _ => by simp at h
  | a :: ass, d :: ds, hl, hd => by
    obtain ⟨s, l, rfl, r, b⟩ := arg_ints ht hu hc (hd 0 a d rfl rfl)
    obtain ⟨vs, ls, e1, e2, e3, e4, e5⟩ := all_rows ht hu hc ass ds (by simpa using hl) (fun i a d x y => hd (i + 1) a d (by simpa using x) (by simpa using y))
    refine ⟨s :: vs, l :: ls, by rw [List.flatten_cons, e1]; rfl, by simp [e2], by simp [e3], fun i v l' h1 h2 => ?_, fun l' h => ?_⟩
    · cases i with
      | zero => simp at h1 h2; subst h1 h2; exact r
      | succ i => exact e4 i v l' (by simpa using h1) (by simpa using h2)
    · rcases List.mem_cons.1 h with rfl | h
      · have := r.ilen; omega
      · exact e5 l' h
theorem arg_rows {P : Program} {h : H} {t u e : TypeId} {xs : List AVal} {pd : PD} (ht : P.underlying t = some (.slice u)) (hu : P.underlying u = some (.slice e)) (he : P.underlying e = some (.int .i64)) (hc : P.cellsOf u = 1) (hc' : P.cellsOf e = 1) (d : Den P h t xs pd) :
    ∃ (s : Sl) (ls : List (List Int)), xs = [.sl s] ∧ RdSS h s ls ∧ s.len ≤ 9223372036854775807 ∧ ∀ l ∈ ls, l.length ≤ 9223372036854775807 := by
  obtain ⟨s, ass, ds, rfl, l1, l2, l3, r, hd⟩ := den_sl ht d
  obtain ⟨vs, ls, e1, e2, e3, e4, e5⟩ := all_rows hu he hc' ass ds (by omega) hd
  rw [hc, e1] at r
  exact ⟨s, ls, rfl, ⟨vs, by omega, r, e4⟩, by unfold maxLen at l3; omega, e5⟩
theorem arg_int {P : Program} {h : H} {t : TypeId} {xs : List AVal} {pd : PD} (ht : P.underlying t = some (.int .i64)) (d : Den P h t xs pd) : ∃ n, xs = [i64 n] ∧ i64ok n := by
  obtain ⟨n, rfl, w⟩ := den_int ht d
  refine ⟨n, rfl, ?_⟩
  have w' : (decide (IntKind.i64.min ≤ n) && decide (n ≤ IntKind.i64.max)) = true := w
  simp only [Bool.and_eq_true, decide_eq_true_eq] at w'
  unfold i64ok
  have h1 : IntKind.i64.min = -9223372036854775808 := by decide
  have h2 : IntKind.i64.max = 9223372036854775807 := by decide
  omega
def structOK (P : Program) (t c u : TypeId) : Bool := match P.underlying t with
  | some (.struct fs) => fs.size == 2 && (fs[0]?).map (·.type) == some c && (fs[1]?).map (·.type) == some u
  | _ => false
theorem arg_set0 {P : Program} {h : H} {t c u v e : TypeId} {xs : List AVal} {pd : PD} {fs : Array Field} (ht : P.underlying t = some (.struct fs)) (hs : fs.size = 2) (h0 : (fs[0]?).map (·.type) = some c) (h1 : (fs[1]?).map (·.type) = some u) (hc : P.underlying c = some (.int .i64)) (hu : P.underlying u = some (.slice v)) (hv : P.underlying v = some (.array 4 e)) (he : P.underlying e = some (.int .i64)) (hz : P.cellsOf v = 4) (d : Den P h t xs pd) :
    ∃ (n : Int) (s : Sl) (ts : List Tile), xs = SetC n s ∧ Rd h s 4 (tcs ts) ∧ s.len ≤ 9223372036854775807 := by
  cases d with
  | int a b => rw [ht] at a; cases a
  | bool a => rw [ht] at a; cases a
  | arr a => rw [ht] at a; cases a
  | @struct t fs' ass ds a b b' d =>
    rw [ht] at a; cases a
    rw [hs] at b b'
    match ass, ds, b, b', d with
    | [a0, a1], [d0, d1], _, _, d =>
      cases e0 : fs[0]? with
      | none => rw [e0] at h0; cases h0
      | some f0 =>
        cases e1 : fs[1]? with
        | none => rw [e1] at h1; cases h1
        | some f1 =>
          rw [e0] at h0; rw [e1] at h1
          simp at h0 h1
          have k0 := d 0 f0 a0 d0 e0 rfl rfl
          have k1 := d 1 f1 a1 d1 e1 rfl rfl
          rw [h0] at k0; rw [h1] at k1
          obtain ⟨n, rfl, _⟩ := den_int hc k0
          obtain ⟨s, ts, rfl, r, b⟩ := arg_tiles hu hv he hz k1
          exact ⟨n, s, ts, rfl, r, b⟩
  | sl a => rw [ht] at a; cases a
theorem arg_set {P : Program} {h : H} {t c u v e : TypeId} {xs : List AVal} {pd : PD} (ht : structOK P t c u = true) (hc : P.underlying c = some (.int .i64)) (hu : P.underlying u = some (.slice v)) (hv : P.underlying v = some (.array 4 e)) (he : P.underlying e = some (.int .i64)) (hz : P.cellsOf v = 4) (d : Den P h t xs pd) :
    ∃ (n : Int) (s : Sl) (ts : List Tile), xs = SetC n s ∧ Rd h s 4 (tcs ts) ∧ s.len ≤ 9223372036854775807 := by
  unfold structOK at ht
  split at ht
  · next fs hf =>
    simp only [Bool.and_eq_true, beq_iff_eq] at ht
    exact arg_set0 hf ht.1.1 ht.1.2 ht.2 hc hu hv he hz d
  · cases ht
end Go.Proofs.Ytlbglfgienklfaa.Cl
