/- The law FnLastingTiles holds of all codes. The statement itself stands in another text. -/
import Derived.Test.YtlcgclmobfdbcaaFb0
import Derived.Test.YtlcgclmobfdbcaaFb2
set_option linter.unusedVariables false
set_option linter.unusedSimpArgs false
namespace Go.Proofs.Ytlcgclmobfdbcaa.Cl
open Go
section
variable {h g : H} {s0 : Sl} {q0 : List Int} {u w k : Sl} {c : Int} {ts : List Tile}
abbrev KL : AVal → H → Prop := fun v _ => ∃ b, v = AVal.bool b ∧ b = true
/-- The first set, its lasting tiles, and the set of the kept ones. -/
structure Las (g : H) (p3 : Pt) (s4 : Sl) (i5 : Int) (p8 : Pt) (i9 : Int) : Prop where
  ex : ∃ (a b : Nat) (u k : Sl) (c : Int) (ts : List Tile), p3 = ⟨some a, 2, 0⟩ ∧ p8 = ⟨some b, 2, 0⟩ ∧ Obj g a (SetC c u) ∧ Rd g u 4 (tcs ts) ∧ ts.length ≤ 17 ∧ Rd g s4 1 (ic (F_LastingTiles_0 c ts)) ∧ i5 = codeOf (setOK c ts) True ∧ Obj g b (SetC (keepR c ts).2.1 k) ∧ Rd g k 4 (tcs (keepR c ts).2.2) ∧ i9 = (keepR c ts).1
theorem Las.ext {g g' : H} {p3 : Pt} {s4 : Sl} {i5 : Int} {p8 : Pt} {i9 : Int} (l : Las g p3 s4 i5 p8 i9) (x : Ext g g') : Las g' p3 s4 i5 p8 i9 := by
  obtain ⟨a, b, u, k, c, ts, e1, e2, o1, r1, hl, r2, e3, o2, r3, e4⟩ := l.ex
  exact ⟨a, b, u, k, c, ts, e1, e2, o1.ext x, r1.ext x, hl, r2.ext x, e3, o2.ext x, r3.ext x, e4⟩
theorem last30_c {p3 p8 : Pt} {s4 : Sl} {i5 i9 : Int} (l : Las g p3 s4 i5 p8 i9) : laws_FnLastingTiles_r30 SP KL p3 s4 i5 p8 i9 false g := by
  obtain ⟨a, b, u, k, c, ts, rfl, rfl, o1, r1, hl, r2, rfl, o2, r3, rfl⟩ := l.ex
  unfold laws_FnLastingTiles_r30
  refine bif_b (fun hf => by cases hf) (fun _ => ?_)
  unfold laws_FnLastingTiles_g32_0
  rw [laws_FnLastingTiles_cut32]
  unfold laws_FnLastingTiles_r32
  have l2 := r2.ilen
  by_cases hs : setOK c ts
  · rw [codeOf_yes hs trivial]
    refine bif_b (fun hf => by simp at hf) (fun _ => ?_)
    unfold laws_FnLastingTiles_g34_0
    rw [keepR_ok hs] at o2 r3 ⊢
    rw [F_LastingTiles_0, sel0_yes hs] at r2 l2
    have hk := keep_eq hs.ts
    have hkle := kpL_len ts
    have hkl : (kpL ts).length = (lastL c ts ts.length).length := by rw [hk, List.length_map]
    refine bif_ne (fun hq => absurd rfl hq) (fun _ => ?_)
    refine isPt_in (o2.ldS rfl rfl ?_)
    have l3 := r3.tlen
    have l3' : k.len = (kpL ts).length := l3
    rw [laws_FnLastingTiles_cut34]
    unfold laws_FnLastingTiles_r34
    refine bif_ne (fun hq => absurd (by rw [l3', l2, hkl]) hq) (fun _ => ?_)
    unfold laws_FnLastingTiles_g36_0
    rw [laws_FnLastingTiles_cut36]
    unfold laws_FnLastingTiles_r36
    refine laws_FnLastingTiles_rule0 _ _ _ _ _ (fun i g' => ∃ z : Nat, i = z ∧ z ≤ (lastL c ts ts.length).length ∧ g = g') (fun i _ => (((lastL c ts ts.length).length : Int) - i).toNat) ?_ _ ⟨0, rfl, by omega, rfl⟩
    rintro X _ _ ⟨z, rfl, hz, rfl⟩ hX
    unfold laws_FnLastingTiles_b0
    refine bif_dec (fun hi => ?_) (fun hi => ?_)
    · have hzl : z < (lastL c ts ts.length).length := by omega
      have r3' : Rd g k 4 (tcs (kpL ts)) := r3
      refine isPt_in (o2.ldS rfl rfl ?_)
      refine r3'.tileG (by omega) (by omega) ?_
      refine isPt_in (o1.ldS rfl rfl ?_)
      refine r2.ldI (by omega) (by omega) fun x hx => ?_
      rw [Int.toNat_natCast, List.getElem?_eq_getElem hzl] at hx
      have hxe := Option.some.inj hx
      have hxb : 0 ≤ x ∧ x < ts.length := by
        rw [← hxe]
        obtain ⟨m, hm, e⟩ := List.mem_map.1 (List.getElem_mem hzl)
        have := List.mem_range.1 (List.mem_filter.1 hm).1
        rw [← e]; omega
      refine r1.tileG hxb.1 hxb.2 ?_
      refine eqA_tc ?_
      have et : tat (kpL ts) (z : Int) = tat ts x := by
        rw [tat_nat (by omega)]
        simp only [hk, List.getElem_map, hxe]
      rw [et, decide_eq_true rfl, w64_of (by omega) (by omega)]
      exact hX _ _ ⟨z + 1, by push_cast; rfl, by omega, rfl⟩ (by omega)
    · refine o1.ldA rfl ?_
      refine (impl_CountRows_k r1 hs (n := 17) (by omega)).to ?_
      rintro _ g2 ⟨rfl, x2⟩
      refine ⟨_, rfl, _, rfl, _, rfl, _, rfl, ?_⟩
      have hw := ways_last hs
      rw [← kp_pos, hkl] at hw
      show bif (if waysT (edR ts) c.toNat 17 > topS then 3 else 0 : Int) == 3 then _ else _
      by_cases ht : waysT (edR ts) c.toNat 17 > topS
      · rw [if_pos ht]
        exact ⟨true, rfl, rfl⟩
      · rw [if_neg ht, show (17 : Int).toNat = 17 from rfl, if_neg ht]
        refine ⟨_, rfl, ?_⟩
        rw [l2, beq_iff_eq, decide_eq_decide]
        omega
  · rw [codeOf_no hs]
    refine bif_b (fun _ => ?_) (fun hf => by simp at hf)
    unfold laws_FnLastingTiles_g33_0
    rw [F_LastingTiles_0, sel0_no hs] at l2
    refine bif_eq (fun _ => ?_) (fun hne => absurd (by rw [l2]; rfl) hne)
    rw [laws_FnLastingTiles_cut33]
    unfold laws_FnLastingTiles_r33
    exact ⟨_, rfl, by rw [keepR_no hs]; rfl⟩
/-- The trimmed set. -/
def Trm (g : H) (p13 : Pt) (i14 : Int) : Prop := ∃ (a : Nat) (w : Sl) (c : Int) (ts : List Tile), p13 = ⟨some a, 2, 0⟩ ∧ Obj g a (SetC (trimR c ts).2.1 w) ∧ Rd g w 4 (tcs (trimR c ts).2.2) ∧ i14 = (trimR c ts).1
theorem Trm.ext {g g' : H} {p13 : Pt} {i14 : Int} (l : Trm g p13 i14) (x : Ext g g') : Trm g' p13 i14 := by
  obtain ⟨a, w, c, ts, e1, o1, r1, e2⟩ := l
  exact ⟨a, w, c, ts, e1, o1.ext x, r1.ext x, e2⟩
theorem last25_c {p3 p8 p13 : Pt} {s4 : Sl} {i5 i9 i14 : Int} (l : Las g p3 s4 i5 p8 i9) (t : Trm g p13 i14) : laws_FnLastingTiles_r27 SP KL p3 s4 i5 p8 i9 p13 (i14 == 0) g := by
  obtain ⟨a, w, c, ts, rfl, o1, r1, rfl⟩ := t
  unfold laws_FnLastingTiles_r27
  by_cases hs : setOK c ts
  · rw [trimR_ok hs] at o1 r1 ⊢
    have o1 : Obj g a (SetC c w) := o1
    have r1 : Rd g w 4 (tcs (tmL ts)) := r1
    have hst := hs.trim
    have h16 := hst.2.1
    refine bif_b (fun _ => ?_) (fun hf => by simp at hf)
    unfold laws_FnLastingTiles_g28_0
    refine o1.ldA rfl ?_
    refine (impl_TrimSet_c (c := c) r1 (by omega)).to ?_
    rintro _ g2 ⟨v, rfl, pv, fv, x2⟩
    rw [trimR_ok hst] at pv ⊢
    rw [tmL_idem hs.pw] at pv
    have pv : Pre g2 v 4 (tcs (tmL ts)) := pv
    refine ⟨_, rfl, _, rfl, _, rfl, _, rfl, ?_⟩
    refine newboxS fun g3 o3 x3 n3 => ?_
    rw [laws_FnLastingTiles_cut28]
    unfold laws_FnLastingTiles_r28 laws_FnLastingTiles_g29_0
    have X3 := x2.trans x3
    refine (o1.ext X3).ldA rfl ?_
    refine (impl_KeepLasting_c (c := c) (r1.ext X3) (by omega)).to ?_
    rintro _ g4 ⟨k, rfl, pk, fk, x4⟩
    rw [keepR_ok hst] at pk ⊢
    rw [kpL_tmL] at pk
    have pk : Pre g4 k 4 (tcs (tmL ts)) := pk
    refine ⟨_, rfl, _, rfl, _, rfl, _, rfl, ?_⟩
    refine newboxS fun g5 o5 x5 n5 => ?_
    rw [laws_FnLastingTiles_cut29]
    unfold laws_FnLastingTiles_r29 laws_FnLastingTiles_g30_0
    refine bif_ne (fun hq => absurd rfl hq) (fun _ => ?_)
    have x45 := x4.trans x5
    refine (o3.ext x45).ldA rfl ?_
    have o15 := o1.ext (X3.trans x45)
    have r15 := r1.ext (X3.trans x45)
    refine o15.ldA rfl ?_
    refine (set9_y (pv.ext (x3.trans x45)).rd r15 (by omega)).to ?_
    rintro _ g6 ⟨rfl, x6⟩
    refine bif_not (fun hf => by cases hf) (fun _ => ?_)
    refine bif_ne (fun hq => absurd rfl hq) (fun _ => ?_)
    refine (o5.ext x6).ldA rfl ?_
    refine (o15.ext x6).ldA rfl ?_
    refine (set9_y (pk.ext (x5.trans x6)).rd (r15.ext x6) (by omega)).to ?_
    rintro _ g7 ⟨rfl, x7⟩
    rw [laws_FnLastingTiles_cut30]
    exact last30_c (l.ext ((X3.trans x45).trans (x6.trans x7)))
  · rw [trimR_no hs]
    refine bif_b (fun hf => by simp at hf) (fun _ => ?_)
    unfold laws_FnLastingTiles_g32_1
    show laws_FnLastingTiles_ks40 SP KL .normal (laws_FnLastingTiles_f32 p3 s4 i5 p8 i9 (i5 != 0)) g
    rw [laws_FnLastingTiles_cut32]
    have := last30_c l
    unfold laws_FnLastingTiles_r30 laws_FnLastingTiles_g31_0 laws_FnLastingTiles_g32_0 at this
    rw [laws_FnLastingTiles_cut32] at this
    exact this
theorem last15_c {p3 p8 p13 : Pt} {s4 : Sl} {i5 i9 i14 : Int} (l : Las g p3 s4 i5 p8 i9) (t : Trm g p13 i14) (C : CodeB g s0 q0) : laws_FnLastingTiles_r15 SP KL s0 p3 s4 i5 p8 i9 p13 i14 false g := by
  unfold laws_FnLastingTiles_r15
  refine bif_b (fun hf => by cases hf) (fun _ => ?_)
  unfold laws_FnLastingTiles_g17_0
  refine (DrawIsDetermined_c C).to ?_
  rintro _ g1 ⟨u, c, ts, n, rfl, ru, hl, bn, x1⟩
  refine ⟨_, rfl, _, rfl, _, rfl, _, rfl, ?_⟩
  refine newboxS fun g2 o2 x2 n2 => ?_
  rw [laws_FnLastingTiles_cut17]
  unfold laws_FnLastingTiles_r17 laws_FnLastingTiles_g18_0
  refine o2.ldA rfl ?_
  refine (impl_IsDetermined_c (ru.ext x2) (by omega) bn).to ?_
  rintro _ g3 ⟨rfl, x3⟩
  refine ⟨_, rfl, _, rfl, _, rfl, _, rfl, ?_⟩
  dsimp only
  rw [laws_FnLastingTiles_cut18]
  unfold laws_FnLastingTiles_r18 laws_FnLastingTiles_g19_0
  refine (o2.ext x3).ldA rfl ?_
  refine (spec_IsDetermined_c (ru.ext (x2.trans x3)) (by omega)).to ?_
  rintro _ g4 ⟨rfl, x4⟩
  refine ⟨_, rfl, _, rfl, _, rfl, _, rfl, ?_⟩
  dsimp only
  rw [laws_FnLastingTiles_cut19]
  unfold laws_FnLastingTiles_r19 laws_FnLastingTiles_g20_0
  refine bif_ne (fun hq => absurd rfl hq) (fun _ => ?_)
  rw [laws_FnLastingTiles_cut20]
  unfold laws_FnLastingTiles_r20
  refine bif_b (fun hf => by simp at hf) (fun _ => ?_)
  unfold laws_FnLastingTiles_g22_0
  rw [laws_FnLastingTiles_cut22]
  unfold laws_FnLastingTiles_r22
  have X4 := x1.trans (x2.trans (x3.trans x4))
  by_cases hc : codeOf (setOK c ts) (0 ≤ n ∧ n ≤ 3) = 0
  · obtain ⟨hs, hn⟩ := codeOf_zero hc
    have h16 := hs.2.1
    rw [hc]
    refine bif_b (fun _ => ?_) (fun hf => by simp at hf)
    unfold laws_FnLastingTiles_g23_0
    refine (o2.ext (x3.trans x4)).ldA rfl ?_
    refine (impl_TurnedSet_c (c := c) (ru.ext (x2.trans (x3.trans x4))) (by omega)).to ?_
    rintro _ g5 ⟨v, rfl, pv, fv, x5⟩
    rw [chR_ok hs] at pv ⊢
    have pv : Pre g5 v 4 (tcs (dsT (ts.map trd))) := pv
    refine ⟨_, rfl, _, rfl, _, rfl, _, rfl, ?_⟩
    refine newboxS fun g6 o6 x6 n6 => ?_
    rw [laws_FnLastingTiles_cut23]
    unfold laws_FnLastingTiles_r23 laws_FnLastingTiles_g24_0
    refine o6.ldA rfl ⟨by decide, ?_⟩
    have hk1 : Int.tmod (w64 (n + 1)) 4 = (((n.toNat + 1) % 4 : Nat) : Int) := by
      rw [w64_of (by omega) (by omega), Int.tmod_eq_emod_of_nonneg (by omega)]; omega
    have hk4 : (n.toNat + 1) % 4 < 4 := Nat.mod_lt _ (by omega)
    rw [hk1]
    have hs2 : setOK c (dsT (ts.map trd)) := hs.img trd_sides
    have h16' := hs2.2.1
    refine (impl_IsDetermined_c (c := c) (n := (((n.toNat + 1) % 4 : Nat) : Int)) (pv.ext x6).rd (by omega) (by unfold i64ok; omega)).to ?_
    rintro _ g7 ⟨rfl, x7⟩
    refine ⟨_, rfl, _, rfl, _, rfl, _, rfl, ?_⟩
    dsimp only
    rw [laws_FnLastingTiles_cut24]
    unfold laws_FnLastingTiles_r24 laws_FnLastingTiles_g25_0
    have hc2 : codeOf (setOK c (dsT (ts.map trd))) (0 ≤ (((n.toNat + 1) % 4 : Nat) : Int) ∧ (((n.toNat + 1) % 4 : Nat) : Int) ≤ 3) = 0 := codeOf_yes hs2 ⟨by omega, by omega⟩
    refine bif_ne (fun hq => absurd rfl hq) (fun _ => ?_)
    refine bif_ne (fun hq => absurd hc2 hq) (fun _ => ?_)
    have he : F_IsDetermined_0 c (dsT (ts.map trd)) (((n.toNat + 1) % 4 : Nat) : Int) = F_IsDetermined_0 c ts n := by
      unfold F_IsDetermined_0
      rw [if_pos hc2, if_pos hc, Int.toNat_natCast]
      have hd := det_turned hs (k := n.toNat) (by omega)
      unfold bP
      exact decide_eq_decide.2 hd
    rw [he, laws_FnLastingTiles_cut25]
    unfold laws_FnLastingTiles_r25
    refine bif_b (fun hf => by simp at hf) (fun _ => ?_)
    unfold laws_FnLastingTiles_g27_0
    rw [laws_FnLastingTiles_cut27]
    have X7 := X4.trans (x5.trans (x6.trans x7))
    exact last25_c (l.ext X7) (t.ext X7)
  · refine bif_b (fun hf => absurd (by simpa using hf) hc) (fun _ => ?_)
    unfold laws_FnLastingTiles_g27_1
    show laws_FnLastingTiles_ks34 SP KL .normal (laws_FnLastingTiles_f27 p3 s4 i5 p8 i9 p13 (i14 == 0)) g4
    rw [laws_FnLastingTiles_cut27]
    exact last25_c (l.ext X4) (t.ext X4)
end
theorem law_LastingTiles {h : H} {s0 : Sl} {q0 : List Int} (r0 : Rd h s0 1 (bc q0)) (hq0 : ∀ b ∈ q0, 0 ≤ b ∧ b < 256) : callB SP i_laws_FnLastingTiles [.sl s0] h fun b _ => b = true := by
  have hsl := r0.blen
  apply laws_FnLastingTiles_call
  unfold laws_FnLastingTiles_main laws_FnLastingTiles_g0_0
  rw [laws_FnLastingTiles_cut0]
  unfold laws_FnLastingTiles_r0 laws_FnLastingTiles_g1_0
  refine (big_c s0).to ?_
  rintro _ _ ⟨rfl, rfl⟩
  rw [laws_FnLastingTiles_cut1]
  unfold laws_FnLastingTiles_r1
  refine bif_dec (fun _ => ?_) (fun hbig => ?_)
  · unfold laws_FnLastingTiles_g2_0
    rw [laws_FnLastingTiles_cut2]
    exact ⟨_, rfl, rfl⟩
  have C0 : CodeB h s0 q0 := ⟨r0, by omega, hq0⟩
  unfold laws_FnLastingTiles_g3_0
  refine (DrawLastingTiles_c C0).to ?_
  rintro _ h2 ⟨u, c, ts, rfl, ru, hl, x2⟩
  refine newboxS fun h3 o3 x3 n3 => ?_
  rw [laws_FnLastingTiles_cut3]
  unfold laws_FnLastingTiles_r3 laws_FnLastingTiles_g4_0
  have ru3 := ru.ext x3
  refine o3.ldA rfl ?_
  refine (impl_LastingTiles_c ru3 (by omega)).to ?_
  rintro _ h4 ⟨w, rfl, ow, fw, x4⟩
  refine ⟨_, rfl, _, rfl, _, rfl, _, rfl, ?_⟩
  dsimp only
  rw [laws_FnLastingTiles_cut4]
  unfold laws_FnLastingTiles_r4 laws_FnLastingTiles_g5_0
  refine (o3.ext x4).ldA rfl ?_
  refine (spec_LastingTiles_c (ru3.ext x4) (by omega)).to ?_
  rintro _ h5 ⟨w', rfl, ow', fw', x5⟩
  refine ⟨_, rfl, _, rfl, _, rfl, _, rfl, ?_⟩
  dsimp only
  rw [laws_FnLastingTiles_cut5]
  unfold laws_FnLastingTiles_r5 laws_FnLastingTiles_g6_0
  refine bif_ne (fun hq => absurd rfl hq) (fun _ => ?_)
  have sm := LastingTiles_small0 (c := c) (ts := ts) (by omega)
  refine (likeInts_c (ow.rd.ext x5) ow'.rd (by omega)).to ?_
  rintro _ _ ⟨rfl, rfl⟩
  rw [beq_self_eq_true, laws_FnLastingTiles_cut6]
  unfold laws_FnLastingTiles_r6
  refine bif_b (fun hf => by cases hf) (fun _ => ?_)
  unfold laws_FnLastingTiles_g8_0
  have X5 := x4.trans x5
  refine (o3.ext X5).ldA rfl ?_
  refine (impl_KeepLasting_c (c := c) (ru3.ext X5) (by omega)).to ?_
  rintro _ h6 ⟨k, rfl, pk, fk, x6⟩
  refine ⟨_, rfl, _, rfl, _, rfl, _, rfl, ?_⟩
  refine newboxS fun h7 o7 x7 n7 => ?_
  rw [laws_FnLastingTiles_cut8]
  unfold laws_FnLastingTiles_r8 laws_FnLastingTiles_g9_0
  have X7 := X5.trans (x6.trans x7)
  refine (o3.ext X7).ldA rfl ?_
  refine (spec_KeepLasting_c (c := c) (ru3.ext X7) (by omega)).to ?_
  rintro _ h8 ⟨k', rfl, pk', fk', x8⟩
  refine ⟨_, rfl, _, rfl, _, rfl, _, rfl, ?_⟩
  refine newboxS fun h9 o9 x9 n9 => ?_
  rw [laws_FnLastingTiles_cut9]
  unfold laws_FnLastingTiles_r9 laws_FnLastingTiles_g10_0
  refine bif_ne (fun hq => absurd rfl hq) (fun _ => ?_)
  have x89 := x8.trans x9
  refine (o7.ext x89).ldA rfl ?_
  refine o9.ldA rfl ?_
  have hkl := keepR_len (c := c) (ts := ts)
  have pk9 := (pk.ext (x7.trans x89)).rd
  refine (set9_y pk9 (pk'.ext x9).rd (by omega)).to ?_
  rintro _ h10 ⟨rfl, x10⟩
  rw [laws_FnLastingTiles_cut10]
  unfold laws_FnLastingTiles_r10
  refine bif_b (fun hf => by cases hf) (fun _ => ?_)
  unfold laws_FnLastingTiles_g12_0
  have X10 := X7.trans (x89.trans x10)
  have L10 : Las h10 ⟨some h2.length, 2, 0⟩ w (codeOf (setOK c ts) True) ⟨some h6.length, 2, 0⟩ (keepR c ts).1 :=
    ⟨h2.length, h6.length, u, k, c, ts, rfl, rfl, o3.ext X10, ru3.ext X10, hl, ow.rd.ext (x5.trans ((x6.trans x7).trans (x89.trans x10))), rfl, o7.ext (x89.trans x10), pk9.ext x10, rfl⟩
  refine (DrawTrimSet_c (C0.ext ((x2.trans x3).trans X10))).to ?_
  rintro _ g1 ⟨v, d, us, rfl, rv, hv, y1⟩
  refine newboxS fun g2 p2 y2 m2 => ?_
  rw [laws_FnLastingTiles_cut12]
  unfold laws_FnLastingTiles_r12 laws_FnLastingTiles_g13_0
  have rv2 := rv.ext y2
  refine p2.ldA rfl ?_
  refine (impl_TrimSet_c (c := d) rv2 (by omega)).to ?_
  rintro _ g3 ⟨t, rfl, pt, ft, y3⟩
  refine ⟨_, rfl, _, rfl, _, rfl, _, rfl, ?_⟩
  refine newboxS fun g4 p4 y4 m4 => ?_
  rw [laws_FnLastingTiles_cut13]
  unfold laws_FnLastingTiles_r13 laws_FnLastingTiles_g14_0
  have y34 := y3.trans y4
  refine (p2.ext y34).ldA rfl ?_
  refine (spec_TrimSet_c (c := d) (rv2.ext y34) (by omega)).to ?_
  rintro _ g5 ⟨t', rfl, pt', ft', y5⟩
  refine ⟨_, rfl, _, rfl, _, rfl, _, rfl, ?_⟩
  refine newboxS fun g6 p6 y6 m6 => ?_
  rw [laws_FnLastingTiles_cut14]
  unfold laws_FnLastingTiles_r14 laws_FnLastingTiles_g15_0
  refine bif_ne (fun hq => absurd rfl hq) (fun _ => ?_)
  have y56 := y5.trans y6
  refine (p4.ext y56).ldA rfl ?_
  refine p6.ldA rfl ?_
  have htl := trimR_len (c := d) (ts := us)
  have pt6 := (pt.ext (y4.trans y56)).rd
  refine (set9_y pt6 (pt'.ext y6).rd (by omega)).to ?_
  rintro _ g7 ⟨rfl, y7⟩
  rw [laws_FnLastingTiles_cut15]
  have Y := (y1.trans y2).trans (y34.trans (y56.trans y7))
  exact last15_c (L10.ext Y) ⟨_, t, d, us, rfl, p4.ext (y56.trans y7), pt6.ext y7, rfl⟩ (C0.ext (((x2.trans x3).trans X10).trans Y))
set_option maxRecDepth 100000 in
theorem law_LastingTiles_in (h : H) (xs : List AVal) (hl : xs.length = Try.f3.params.toList.length) (ha : ∀ (i : Nat) t a, Try.f3.params.toList[i]? = some t → xs[i]? = some a → ArgIs Try.prog h t a) : callB (Sat Try.prog) 3 xs h fun b _ => b = true := by
  rw [show Try.f3.params.toList.length = 1 by kernel_rfl] at hl
  match xs, hl with
  | [e0], _ =>
    obtain ⟨k0, pd0, dd0, rfl⟩ := ha 0 22 e0 (by kernel_rfl) rfl
    obtain ⟨s0, q0, rfl, r0, hq0⟩ := arg_bytes (u := 5) (by kernel_rfl) (by kernel_rfl) (by kernel_rfl) dd0
    rw [show argV Try.prog 22 [.sl s0] = .sl s0 by kernel_rfl]
    exact law_LastingTiles r0 hq0
end Go.Proofs.Ytlcgclmobfdbcaa.Cl
