/- The law FnColumnGraphs holds of all codes. The statement itself stands in another text. -/
import Derived.Test.YtcoampecbpiecaaFb0
import Derived.Test.YtcoampecbpiecaaFb2
set_option linter.unusedVariables false
set_option linter.unusedSimpArgs false
namespace Go.Proofs.Ytcoampecbpiecaa.Cl
open Go
theorem codeQ_ok {c : Int} {ts : List Tile} {a n : Int} (h : codeQ c ts a n = 0) : SizeS a n ∧ codeS c ts a = 0 ∧ ∀ y ∈ strS c ts a n, y ≤ topS := by
 by_cases h1 : codeOf (setOK c ts) (SizeS a n) = 0
 ·by_cases h2 : codeS c ts a = 0
  ·by_cases h3 : ∀ y ∈ strS c ts a n, y ≤ topS
   ·exact ⟨(codeOf_zero h1).2, h2, h3⟩
   ·rw [codeQ_3 h1 h2 h3] at h; cases h
  ·rw [codeQ_2 h1 h2] at h; exact absurd h h2
 ·rw [codeQ_1 h1] at h; exact absurd h h1
theorem flat_mid {A L D : List Int} {x : Int} {z : Nat} (h : L = L.take z ++ x :: L.drop (z + 1)) : A ++ (L ++ D) = (A ++ L.take z) ++ x :: (L.drop (z + 1) ++ D) := by
 conv => lhs; rw [h]
 simp only [List.append_assoc, List.cons_append]
theorem flat_at {P : List (List Int)} {k : Nat} (hk : k < P.length) {z : Nat} (hz : z < P[k].length) : ∃ rest, P.flatten = ((P.take k).flatten ++ P[k].take z) ++ P[k][z] :: rest := by
 refine ⟨P[k].drop (z + 1) ++ (P.drop (k + 1)).flatten, ?_⟩
 have h1 : P = P.take k ++ P[k] :: P.drop (k + 1) := by
  conv => lhs; rw [← List.take_append_drop k P]
  rw [List.drop_eq_getElem_cons hk]
 have h2 : P[k] = P[k].take z ++ P[k][z] :: P[k].drop (z + 1) := by
  conv => lhs; rw [← List.take_append_drop z P[k]]
  rw [List.drop_eq_getElem_cons hz]
 have e : P.flatten = (P.take k).flatten ++ (P[k] ++ (P.drop (k + 1)).flatten) := by
  conv => lhs; rw [h1, List.flatten_append, List.flatten_cons]
 rw [e]
 exact flat_mid h2
def seenB (P : List (List Int)) (k z : Nat) (x : Nat) : Bool := decide ((x : Int) ∈ (P.take k).flatten ++ (P.getD k []).take z)
theorem getD_at {P : List (List Int)} {k : Nat} (hk : k < P.length) : P.getD k [] = P[k] := by rw [List.getD_eq_getElem?_getD, List.getElem?_eq_getElem hk]; rfl
theorem seenB_next {P : List (List Int)} {k : Nat} (hk : k < P.length) (x : Nat) : seenB P k P[k].length x = seenB P (k + 1) 0 x := by
 unfold seenB
 rw [getD_at hk, List.take_length, List.take_zero, List.append_nil, List.take_succ_eq_append_getElem hk, List.flatten_append]
 simp
section
variable {c a : Int} {ts : List Tile}
theorem per_code (h : codeL c ts a = 0) : (F_PeriodOfHeight_1 c ts a = 0 ↔ perOf c ts a ≠ 0) ∧ F_PeriodOfHeight_0 c ts a = perOf c ts a ∧ F_IsMixing_0 c ts a = (perOf c ts a == 1) := by
 unfold F_PeriodOfHeight_1 F_PeriodOfHeight_0 F_IsMixing_0
 rw [if_pos h, if_pos h, h]
 refine ⟨?_, rfl, by simp⟩
 by_cases e : perOf c ts a = 0
 ·rw [if_pos e]; exact ⟨fun h => (by cases h), fun h => absurd e h⟩
 ·rw [if_neg e]; exact ⟨fun _ => e, fun _ => rfl⟩
theorem per_parts (h : codeL c ts a = 0) : perOf c ts a ≠ 0 ↔ ((partsOf c ts a).length = 1 ∧ (rw_ (partsOf c ts a) 0).length = (wordsS c ts a).length) := by
 have ok := codeL_ok h
 unfold perOf
 constructor
 ·intro hne
  exact Classical.byContradiction fun hn => hne (perL_no hn)
 ·intro hp
  exact perL_ne (table_sq ok.1) hp
end
section
variable {g : H} {u w1 : Sl} {c a : Int} {ts : List Tile}
theorem graphs_tail {p : Nat} (o : Obj g p (SetC c u)) (ru : Rd g u 4 (tcs ts)) (hl : ts.length ≤ 17) (ba : i64ok a) (rP : RdSS g w1 (F_StrongParts_0 c ts a)) :
  f2_C0 SP (fun v _ => ∃ b, v = AVal.bool b ∧ b = true) ⟨some p, 2, 0⟩ a w1 (codeL c ts a) (F_PeriodOfHeight_0 c ts a) (F_PeriodOfHeight_1 c ts a) (F_IsMixing_0 c ts a) (codeL c ts a) g := by
 have hw1 := rP.len
 unfold f2_C0
 refine bif_eq (fun hq => ?_) (fun hq => ?_)
 rotate_left
 ·refine bif_ne (fun _ => ⟨_, rfl, ?_⟩) (fun h => absurd h hq)
  rw [F_StrongParts_0, sel0_no hq] at hw1
  rw [hw1]; rfl
 obtain ⟨hp1, hp0, hmx⟩ := per_code hq
 have ok := codeL_ok hq
 have eP : F_StrongParts_0 c ts a = partsOf c ts a := by rw [F_StrongParts_0, sel0_yes hq]
 rw [eP] at rP hw1
 have hap := parts_apart (N := (wordsS c ts a).length) (R := R_ (tableS c ts a) (wordsS c ts a).length) (R_trans _ _)
 change (partsOf c ts a).flatten.Nodup ∧ ∀ x ∈ (partsOf c ts a).flatten, 0 ≤ x ∧ x < (wordsS c ts a).length at hap
 have hrows := partsL_rows (N := (wordsS c ts a).length) (R := R_ (tableS c ts a) (wordsS c ts a).length)
 change (partsOf c ts a).length ≤ _ ∧ ∀ l ∈ partsOf c ts a, l.length ≤ _ at hrows
 have rest : ldA ⟨some p, 2, 0⟩ 2 g fun cs => callV SP i_f8 [.agg cs, .int .i64 a] g fun v h1 => viaT v fun vs3 => exS vs3 0 fun s4 => viaT v fun vs5 => exI .i64 vs5 1 fun n6 => mkS (s4.len : Int) [.bool false] h1 fun s7 h8 => f2_L4 SP (fun v _ => ∃ b, v = AVal.bool b ∧ b = true) w1 (F_PeriodOfHeight_1 c ts a) s4 n6 s7 0 h8 := by
  refine o.ldA rfl ?_
  refine (impl_ColumnWords_c ru (by omega) ba).to ?_
  rintro _ g1 ⟨w2, rfl, nw2, y1⟩
  refine ⟨_, rfl, _, rfl, _, rfl, _, rfl, ?_⟩
  have hw2 := nw2.rd.len
  rw [F_ColumnWords_0, sel0_yes hq, List.length_map] at hw2
  generalize hn : (wordsS c ts a).length = n at *
  generalize hPP : partsOf c ts a = P at *
  have hn40 := ok.2
  refine mkS_ow (by omega) (by unfold lim; omega) fun m g2 om lm mo e2 => ?_
  have y2 : Ext g1 g2 := by rw [e2]; exact Ext.app _ _
  have hz : (List.replicate (w2.len : Int).toNat [AVal.bool false]).flatten = (bl n (seenB P 0 0)).map .bool := by
   rw [Int.toNat_natCast, hw2]
   unfold bl
   rw [List.map_map]
   apply List.ext_getElem?
   intro i
   have hrep : (List.replicate n [AVal.bool false]).flatten = List.replicate n (AVal.bool false) := by simp
   rw [hrep, List.getElem?_replicate, List.getElem?_map]
   by_cases hi : i < n
   ·rw [if_pos hi, List.getElem?_range hi]; simp [seenB]
   ·rw [if_neg hi, List.getElem?_eq_none (by rw [List.length_range]; omega)]; rfl
  rw [hz] at om
  have fm : Fr g1.length m := fun o e => by rw [mo] at e; cases e; exact Nat.le_refl _
  refine f2_rule4 _ _ _ _ _ _ _ (fun i g' => ∃ k : Nat, i = k ∧ k ≤ P.length ∧ Ow g' m 1 ((bl n (seenB P k 0)).map .bool) ∧ Ext g1 g') (fun i _ => ((P.length : Int) - i).toNat) ?_ _ ⟨0, rfl, by omega, om, y2⟩
  rintro X _ g3 ⟨k, rfl, hk, om3, y3⟩ hX
  unfold f2_b4
  refine bif_dec (fun hi => ?_) (fun hi => ?_)
  ·have hkl : k < P.length := by omega
   have hlk := hrows.2 P[k] (List.getElem_mem _)
   refine f2_rule6 _ _ X _ _ _ _ _ _ (fun j g' => ∃ z : Nat, j = z ∧ z ≤ P[k].length ∧ Ow g' m 1 ((bl n (seenB P k z)).map .bool) ∧ Ext g1 g') (fun j _ => ((P[k].length : Int) - j).toNat) ?_ _ ⟨0, rfl, by omega, om3, y3⟩
   rintro X6 _ g4 ⟨z, rfl, hz, om4, y4⟩ hX6
   unfold f2_b6
   have rP4 := rP.ext (y1.trans y4)
   refine rP4.ld (by omega) (by omega) fun v l hv rv lv => ?_
   rw [Int.toNat_natCast, List.getElem?_eq_getElem hkl] at hv
   have hle := Option.some.inj hv
   subst hle
   refine bif_dec (fun hj => ?_) (fun hj => ?_)
   ·have hzl : z < P[k].length := by omega
    refine rP4.ld (by omega) (by omega) fun v' l' hv' rv' lv' => ?_
    rw [Int.toNat_natCast, List.getElem?_eq_getElem hkl] at hv'
    have hle' := Option.some.inj hv'
    subst hle'
    refine rv'.ldI (by omega) (by omega) fun x hx => ?_
    rw [Int.toNat_natCast, List.getElem?_eq_getElem hzl] at hx
    have hxe := Option.some.inj hx
    obtain ⟨rs, hfl⟩ := flat_at hkl hzl
    rw [hxe] at hfl
    have hxb := hap.2 x (by rw [hfl]; simp)
    have hnd := hap.1
    rw [hfl] at hnd
    have hnot : x ∉ (P.take k).flatten ++ P[k].take z := fun hm => by
     have := (List.nodup_append.1 hnd).2.2 x hm x (by simp)
     exact this rfl
    refine bif_dec (fun h => absurd h (by omega)) (fun _ => ?_)
    refine bif_dec (fun h => absurd h (by omega)) (fun _ => ?_)
    refine om4.rd.ldBl hxb.1 (by omega) ?_
    refine bif_b (fun hb => ?_) (fun _ => ?_)
    ·exfalso
     unfold seenB at hb
     rw [decide_eq_true_eq, Int.toNat_of_nonneg hxb.1, getD_at hkl] at hb
     exact hnot hb
    refine om4.stBl hxb.1 (by omega) true fun g5 om5 b5 l5 => ?_
    rw [w64_of (n := (z : Int) + 1) (by omega) (by omega)]
    refine hX6 _ _ ⟨z + 1, by push_cast; rfl, by omega, ?_, y4.but_ b5 fun o e => fm o e⟩ (by omega)
    have hb : bl n (seenB P k (z + 1)) = bl n (fun w => if w = x.toNat then true else seenB P k z w) := bl_congr fun w hw => by
     unfold seenB
     rw [getD_at hkl, List.take_succ_eq_append_getElem hzl, hxe, ← List.append_assoc]
     by_cases e : w = x.toNat
     ·rw [if_pos e, decide_eq_true_eq, e, Int.toNat_of_nonneg hxb.1]; simp
     ·rw [if_neg e]
      have : ((w : Int) ∈ (P.take k).flatten ++ P[k].take z ++ [x]) ↔ ((w : Int) ∈ (P.take k).flatten ++ P[k].take z) := by
       rw [List.mem_append, List.mem_singleton]
       exact ⟨fun h => h.resolve_right (by omega), .inl⟩
      exact decide_eq_decide.2 this
    rw [hb]
    exact om5
   ·unfold f2_C6 f2_C5
    have hzU : z = P[k].length := by omega
    rw [w64_of (n := (k : Int) + 1) (by omega) (by omega)]
    refine hX _ _ ⟨k + 1, by push_cast; rfl, by omega, ?_, y4⟩ (by omega)
    rw [← bl_congr fun x _ => seenB_next hkl x, ← hzU]
    exact om4
  ·unfold f2_C4
   have hpp := per_parts hq
   rw [hn, hPP] at hpp
   refine bif_eq (fun _ => ?_) (fun hne => absurd hq hne)
   refine bif_eq (fun h1 => ?_) (fun h1 => ⟨_, rfl, ?_⟩)
   ·have hP1 : P.length = 1 := by omega
    refine (rP.ext (y1.trans y3)).ld (by omega) (by omega) fun v l hv rv lv => ⟨_, rfl, ?_⟩
    have hl0 : rw_ P 0 = l := by
     unfold rw_
     rw [List.getD_eq_getElem?_getD]
     rw [show (0 : Int).toNat = 0 from rfl] at hv
     rw [hv]; rfl
    rw [hl0] at hpp
    rw [beq_iff_eq, Bool.eq_iff_iff, beq_iff_eq, beq_iff_eq, hp1, hpp]
    constructor
    ·intro h; omega
    ·intro h; exact ⟨hP1, by omega⟩
   ·rw [beq_iff_eq, Bool.eq_false_iff]
    intro h2
    rw [ne_eq, beq_iff_eq] at *
    have := hpp.1 (hp1.1 (by simpa using h2))
    omega
 refine bif_eq (fun h33 => ?_) (fun h33 => ?_)
 ·refine bif_neb (fun hne => absurd (by rw [hmx, hp0]) hne) (fun _ => ?_)
  exact bif_ne (fun hne => absurd hq hne) (fun _ => rest)
 ·refine bif_neb (fun hne => absurd ?_ hne) (fun _ => ?_)
  ·rw [hmx]
   have : perOf c ts a = 0 := Classical.byContradiction fun h => h33 (hp1.2 h)
   rw [this]; rfl
  ·exact bif_ne (fun hne => absurd hq hne) (fun _ => rest)
end
theorem law_ColumnGraphs {h : H} {s0 : Sl} {q0 : List Int} (r0 : Rd h s0 1 (bc q0)) (hq0 : ∀ b ∈ q0, 0 ≤ b ∧ b < 256) : callB SP i_f2 [.sl s0] h fun b _ => b = true := by
 have hsl := r0.blen
 apply f2_call
 unfold f2_main
 refine (big_c s0).to ?_
 rintro _ _ ⟨rfl, rfl⟩
 refine bif_dec (fun _ => ⟨_, rfl, rfl⟩) (fun hbig => ?_)
 have C0 : CodeB h s0 q0 := ⟨r0, by omega, hq0⟩
 refine (DrawStrongParts_c C0).to ?_
 rintro _ h2 ⟨u, c, ts, a, rfl, ru, hl, ba, fu, x2⟩
 refine ⟨_, rfl, _, rfl, _, rfl, _, rfl, ?_⟩
 refine newbox fun h3 o3 x3 n3 => ?_
 have ru3 := ru.ext x3
 refine (impl_StrongParts_c ru3 (by omega) ba).to ?_
 rintro _ h4 ⟨w1, rfl, nw1, x4⟩
 refine ⟨_, rfl, _, rfl, _, rfl, _, rfl, ?_⟩
 refine (o3.ext x4).ldA rfl ?_
 refine (spec_StrongParts_c (ru3.ext x4) (by omega) ba).to ?_
 rintro _ h5 ⟨v1, rfl, nv1, x5⟩
 refine ⟨_, rfl, _, rfl, _, rfl, _, rfl, ?_⟩
 refine bif_ne (fun hq => absurd rfl hq) (fun _ => ?_)
 have sm1 := StrongParts_small0 (c := c) (ts := ts) (a := a) (by omega) ba
 refine rows9_yes (nw1.rd.ext x5) nv1.rd (by omega) (fun l hl => by have := sumLen_mem hl; omega) ?_
 have X5 := x4.trans x5
 refine (o3.ext X5).ldA rfl ?_
 refine (impl_PeriodOfHeight_c (ru3.ext X5) (by omega) ba).to ?_
 rintro _ h6 ⟨rfl, x6⟩
 refine ⟨_, rfl, _, rfl, _, rfl, _, rfl, ?_⟩
 have X6 := X5.trans x6
 refine (o3.ext X6).ldA rfl ?_
 refine (spec_PeriodOfHeight_c (ru3.ext X6) (by omega) ba).to ?_
 rintro _ h7 ⟨rfl, x7⟩
 refine ⟨_, rfl, _, rfl, _, rfl, _, rfl, ?_⟩
 refine bif_ne (fun hq => absurd rfl hq) (fun _ => ?_)
 refine bif_ne (fun hq => absurd rfl hq) (fun _ => ?_)
 have X7 := X6.trans x7
 refine (o3.ext X7).ldA rfl ?_
 refine (impl_IsMixing_c (ru3.ext X7) (by omega) ba).to ?_
 rintro _ h8 ⟨rfl, x8⟩
 refine ⟨_, rfl, _, rfl, _, rfl, _, rfl, ?_⟩
 have X8 := X7.trans x8
 refine (o3.ext X8).ldA rfl ?_
 refine (spec_IsMixing_c (ru3.ext X8) (by omega) ba).to ?_
 rintro _ h9 ⟨rfl, x9⟩
 refine ⟨_, rfl, _, rfl, _, rfl, _, rfl, ?_⟩
 refine bif_ne (fun hq => absurd rfl hq) (fun _ => ?_)
 refine bif_neb (fun hq => absurd rfl hq) (fun _ => ?_)
 have X9 := X8.trans x9
 have tail : ∀ {g : H}, Ext h9 g → f2_C0 SP (fun v _ => ∃ b, v = AVal.bool b ∧ b = true) ⟨some h2.length, 2, 0⟩ a w1 (codeL c ts a) (F_PeriodOfHeight_0 c ts a) (F_PeriodOfHeight_1 c ts a) (F_IsMixing_0 c ts a) (codeL c ts a) g := fun {g} y =>
  graphs_tail (o3.ext (X9.trans y)) (ru3.ext (X9.trans y)) hl ba (nw1.rd.ext ((x5.trans (x6.trans (x7.trans (x8.trans x9)))).trans y))
 refine (DrawRecurrenceOf_c ((C0.ext x2).ext (x3.trans X9))).to ?_
 rintro _ g1 ⟨u', c', ts', k, rfl, ru', hl', bk, fu', y1⟩
 refine ⟨_, rfl, _, rfl, _, rfl, _, rfl, ?_⟩
 refine newbox fun g2 p2 y2 m2 => ?_
 have ru2 := ru'.ext y2
 refine (impl_RecurrenceOf_c ru2 (by omega) bk).to ?_
 rintro _ g3 ⟨w3, rfl, ow3, fw3, y3⟩
 refine ⟨_, rfl, _, rfl, _, rfl, _, rfl, ?_⟩
 refine (p2.ext y3).ldA rfl ?_
 refine (spec_RecurrenceOf_c (ru2.ext y3) (by omega) bk).to ?_
 rintro _ g4 ⟨v3, rfl, ov3, fv3, y4⟩
 refine ⟨_, rfl, _, rfl, _, rfl, _, rfl, ?_⟩
 refine bif_ne (fun hq => absurd rfl hq) (fun _ => ?_)
 have sm3 := RecurrenceOf_small0 (c := c') (ts := ts') (n := k) (by omega) bk
 refine likeInts_yes (ow3.rd.ext y4) ov3.rd (by omega) ?_
 have Y4 := y3.trans y4
 have Y := (y1.trans y2).trans Y4
 refine bif_eq (fun hr => ?_) (fun _ => tail Y)
 refine (p2.ext Y4).ldA rfl ?_
 refine (impl_StripSequence_c (ru2.ext Y4) (by omega) bk (n := 12) (by unfold i64ok; omega)).to ?_
 rintro _ g5 ⟨w5, rfl, ow5, fw5, y5⟩
 refine ⟨_, rfl, _, rfl, _, rfl, _, rfl, ?_⟩
 refine bif_eq (fun hs => ?_) (fun _ => tail (Y.trans y5))
 obtain ⟨hbm, h40, htell⟩ := rec_tells hr
 obtain ⟨hz, hS, htop⟩ := codeQ_ok hs
 have ok := codeS_ok hS
 have eS : F_StripSequence_0 c' ts' k 12 = strS c' ts' k 12 := by rw [F_StripSequence_0, sel0_yes hs]
 rw [eS] at ow5
 have hl12 : (strS c' ts' k 12).length = 12 := by unfold strS; exact seqL_len _ _
 have rw3 := ow3.rd.ext (y4.trans y5)
 have rw5 := ow5.rd
 have l3 := rw3.ilen
 have l5 := rw5.ilen
 generalize hrc : F_RecurrenceOf_0 c' ts' k = rc at *
 have hsq : ∀ i, i < 12 → (strS c' ts' k 12)[i]? = some (seqE (colsOf c' ts' k) (nW c' k) i) := fun i hi => seq_exact ok htop hi
 generalize hE : seqE (colsOf c' ts' k) (nW c' k) = E at *
 have hE0 : ∀ i, 0 ≤ E i := fun i => by rw [← hE]; exact seqE_nn _ _ _
 have hEt : ∀ i, i < 12 → E i ≤ 1000000000000000 := fun i hi => htop _ (List.mem_of_getElem? (hsq i hi))
 generalize strS c' ts' k 12 = sq at *
 refine f2_rule0 _ _ _ _ _ _ _ _ _ _ _ _ (fun i g' => ∃ n : Nat, i = n ∧ rc.length ≤ n ∧ n ≤ max 12 rc.length ∧ g5 = g') (fun i _ => ((12 : Int) - i).toNat) ?_ _ ⟨rc.length, by omega, Nat.le_refl _, by omega, rfl⟩
 rintro X _ _ ⟨n, rfl, hn1, hn2, rfl⟩ hX
 unfold f2_b0
 refine bif_dec (fun hi => ?_) (fun _ => tail (Y.trans y5))
 have hn12 : n < 12 := by omega
 refine f2_rule2 _ _ X _ _ _ _ _ _ _ _ _ _ _ (fun t j g' => ∃ z : Nat, j = z ∧ z ≤ rc.length ∧ t = sm (fun j => rc.getD j 0 * E (n - 1 - j)) z % MD ∧ g5 = g') (fun _ j _ => ((rc.length : Int) - j).toNat) ?_ _ _ ⟨0, rfl, by omega, rfl, rfl⟩
 rintro X2 t _ _ ⟨z, rfl, hz', rfl, rfl⟩ hX2
 unfold f2_b2
 refine bif_dec (fun hj => ?_) (fun hj => ?_)
 ·have hzl : z < rc.length := by omega
  refine rw3.ldI (by omega) (by omega) fun x hx => ?_
  rw [Int.toNat_natCast] at hx
  rw [w64_of (n := (n : Int) - 1) (by omega) (by omega), w64_of (n := (n : Int) - 1 - (z : Int)) (by omega) (by omega)]
  refine rw5.ldI (by omega) (by omega) fun y hy => ?_
  rw [show ((n : Int) - 1 - (z : Int)).toNat = n - 1 - z by omega, hsq _ (by omega)] at hy
  have hye := Option.some.inj hy
  have hxe : rc.getD z 0 = x := by rw [List.getD_eq_getElem?_getD, hx]; rfl
  have hxb := hbm.at z
  rw [hxe] at hxb
  have hE1 := hE0 (n - 1 - z)
  refine ⟨by decide, by decide, ?_⟩
  have e1 : Int.tmod y 10007 = y % MD := tmod_nn (by omega)
  have hyb := emodMD y
  have hm := mulM hxb hyb
  have htb := emodMD (sm (fun j => rc.getD j 0 * E (n - 1 - j)) z)
  have h7 : (sm (fun j => rc.getD j 0 * E (n - 1 - j)) z) % MD < 10007 := htb.2
  rw [e1, w64_of (n := x * (y % MD)) (by omega) (by omega), w64_of (n := _ + x * (y % MD)) (by omega) (by omega), tmod_nn (by omega), w64_of (n := (z : Int) + 1) (by omega) (by omega)]
  refine hX2 _ _ _ ⟨z + 1, by push_cast; rfl, by omega, ?_, rfl⟩ (by omega)
  refine Cg.eq ?_
  rw [sm, hxe, hye]
  exact (Cg.mod _).add ((Cg.refl x).mul (Cg.mod y))
 ·unfold f2_C2
  have hzU : z = rc.length := by omega
  refine rw5.ldI (by omega) (by omega) fun y hy => ⟨by decide, ?_⟩
  rw [Int.toNat_natCast, hsq _ hn12] at hy
  have hye := Option.some.inj hy
  have hE1 := hE0 n
  refine bif_ne (fun hne => absurd ?_ hne) (fun _ => ?_)
  ·rw [tmod_nn (by omega), hzU, ← hye]
   exact (Cg.eq (htell n hn1)).symm
  ·unfold f2_C1
   rw [w64_of (n := (n : Int) + 1) (by omega) (by omega)]
   exact hX _ _ ⟨n + 1, by push_cast; rfl, by omega, by omega, rfl⟩ (by omega)
set_option maxRecDepth 100000 in
theorem law_ColumnGraphs_in (h : H) (xs : List AVal) (hl : xs.length = Try.f4.params.toList.length) (ha : ∀ (i : Nat) t a, Try.f4.params.toList[i]? = some t → xs[i]? = some a → ArgIs Try.prog h t a) : callB (Sat Try.prog) 4 xs h fun b _ => b = true := by
 rw [show Try.f4.params.toList.length = 1 by kernel_rfl] at hl
 match xs, hl with
 | [e0], _ =>
  obtain ⟨k0, pd0, dd0, rfl⟩ := ha 0 22 e0 (by kernel_rfl) rfl
  obtain ⟨s0, q0, rfl, r0, hq0⟩ := arg_bytes (u := 5) (by kernel_rfl) (by kernel_rfl) (by kernel_rfl) dd0
  rw [show argV Try.prog 22 [.sl s0] = .sl s0 by kernel_rfl]
  exact law_ColumnGraphs r0 hq0
end Go.Proofs.Ytcoampecbpiecaa.Cl
